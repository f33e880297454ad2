/- What the laws say of floats, as plain numbers. -/
import Derived.Test.YtdckhheinpfbjaaFl
namespace Go.Proofs.Ytdckhheinpfbjaa
open Go.RowKit

/-! ### The room -/
theorem ts_no {y h : Int} {p : Int × Int} {f : Flt} (hs : ¬ std f y h = true) : tstep y h p f = p := if_neg hs
theorem ts_r {y h : Int} {p : Int × Int} {f : Flt} (hs : std f y h = true) (h2 : f.s = 2) : tstep y h p f = (p.1, min p.2 f.x) := (if_pos hs).trans (if_pos h2)
theorem ts_l {y h : Int} {p : Int × Int} {f : Flt} (hs : std f y h = true) (h2 : f.s ≠ 2) : tstep y h p f = (max p.1 (f.x + f.w), p.2) := (if_pos hs).trans (if_neg h2)
theorem tall_le (y h : Int) : ∀ (l : List Flt) (a b z : Int), (l.foldl (tstep y h) (a, b)).1 ≤ z ↔ a ≤ z ∧ ∀ f ∈ l, std f y h = true → f.s ≠ 2 → f.x + f.w ≤ z
  | [], a, b, z => by simp
  | f :: l, a, b, z => by
    rw [List.foldl_cons]
    have ih := fun a b => tall_le y h l a b z
    by_cases h1 : std f y h = true
    · by_cases h2 : f.s = 2
      · rw [ts_r h1 h2, ih]
        constructor
        · rintro ⟨h3, h4⟩
          exact ⟨h3, fun g hg hs hn => by
            rcases List.mem_cons.1 hg with rfl | hg
            · exact absurd h2 hn
            · exact h4 g hg hs hn⟩
        · rintro ⟨h3, h4⟩
          exact ⟨h3, fun g hg => h4 g (List.mem_cons_of_mem _ hg)⟩
      · rw [ts_l h1 h2, ih]
        constructor
        · rintro ⟨h3, h4⟩
          simp only at h3
          exact ⟨by omega, fun g hg hs hn => by
            rcases List.mem_cons.1 hg with rfl | hg
            · omega
            · exact h4 g hg hs hn⟩
        · rintro ⟨h3, h4⟩
          have := h4 f List.mem_cons_self h1 h2
          exact ⟨by simp only; omega, fun g hg => h4 g (List.mem_cons_of_mem _ hg)⟩
    · rw [ts_no h1, ih]
      constructor
      · rintro ⟨h3, h4⟩
        exact ⟨h3, fun g hg hs hn => by
          rcases List.mem_cons.1 hg with rfl | hg
          · exact absurd hs h1
          · exact h4 g hg hs hn⟩
      · rintro ⟨h3, h4⟩
        exact ⟨h3, fun g hg => h4 g (List.mem_cons_of_mem _ hg)⟩
theorem tall_ge (y h : Int) : ∀ (l : List Flt) (a b z : Int), z ≤ (l.foldl (tstep y h) (a, b)).2 ↔ z ≤ b ∧ ∀ f ∈ l, std f y h = true → f.s = 2 → z ≤ f.x
  | [], a, b, z => by simp
  | f :: l, a, b, z => by
    rw [List.foldl_cons]
    have ih := fun a b => tall_ge y h l a b z
    by_cases h1 : std f y h = true
    · by_cases h2 : f.s = 2
      · rw [ts_r h1 h2, ih]
        constructor
        · rintro ⟨h3, h4⟩
          simp only at h3
          exact ⟨by omega, fun g hg hs hn => by
            rcases List.mem_cons.1 hg with rfl | hg
            · omega
            · exact h4 g hg hs hn⟩
        · rintro ⟨h3, h4⟩
          have := h4 f List.mem_cons_self h1 h2
          exact ⟨by simp only; omega, fun g hg => h4 g (List.mem_cons_of_mem _ hg)⟩
      · rw [ts_l h1 h2, ih]
        constructor
        · rintro ⟨h3, h4⟩
          exact ⟨h3, fun g hg hs hn => by
            rcases List.mem_cons.1 hg with rfl | hg
            · exact absurd hn h2
            · exact h4 g hg hs hn⟩
        · rintro ⟨h3, h4⟩
          exact ⟨h3, fun g hg => h4 g (List.mem_cons_of_mem _ hg)⟩
    · rw [ts_no h1, ih]
      constructor
      · rintro ⟨h3, h4⟩
        exact ⟨h3, fun g hg hs hn => by
          rcases List.mem_cons.1 hg with rfl | hg
          · exact absurd hs h1
          · exact h4 g hg hs hn⟩
      · rintro ⟨h3, h4⟩
        exact ⟨h3, fun g hg => h4 g (List.mem_cons_of_mem _ hg)⟩
theorem tall_src (y h : Int) : ∀ (l : List Flt) (a b : Int), ((l.foldl (tstep y h) (a, b)).1 = a ∨ ∃ f ∈ l, (l.foldl (tstep y h) (a, b)).1 = f.x + f.w) ∧ ((l.foldl (tstep y h) (a, b)).2 = b ∨ ∃ f ∈ l, (l.foldl (tstep y h) (a, b)).2 = f.x)
  | [], a, b => ⟨.inl rfl, .inl rfl⟩
  | f :: l, a, b => by
    rw [List.foldl_cons]
    have key : ∀ p : Int × Int, (p.1 = a ∨ p.1 = f.x + f.w) → (p.2 = b ∨ p.2 = f.x) →
        ((l.foldl (tstep y h) p).1 = a ∨ ∃ g ∈ f :: l, (l.foldl (tstep y h) p).1 = g.x + g.w) ∧ ((l.foldl (tstep y h) p).2 = b ∨ ∃ g ∈ f :: l, (l.foldl (tstep y h) p).2 = g.x) := fun p h1 h2 => by
      obtain ⟨i1, i2⟩ := tall_src y h l p.1 p.2
      refine ⟨?_, ?_⟩
      · rcases i1 with e | ⟨g, hg, e⟩
        · rcases h1 with h1 | h1
          · exact .inl (e.trans h1)
          · exact .inr ⟨f, List.mem_cons_self, e.trans h1⟩
        · exact .inr ⟨g, List.mem_cons_of_mem _ hg, e⟩
      · rcases i2 with e | ⟨g, hg, e⟩
        · rcases h2 with h2 | h2
          · exact .inl (e.trans h2)
          · exact .inr ⟨f, List.mem_cons_self, e.trans h2⟩
        · exact .inr ⟨g, List.mem_cons_of_mem _ hg, e⟩
    by_cases h1 : std f y h = true
    · by_cases h2 : f.s = 2
      · rw [ts_r h1 h2]
        refine key _ (.inl rfl) ?_
        rcases Int.le_total b f.x with h | h
        · left; simp only; omega
        · right; simp only; omega
      · rw [ts_l h1 h2]
        refine key _ ?_ (.inl rfl)
        rcases Int.le_total a (f.x + f.w) with h | h
        · right; simp only; omega
        · left; simp only; omega
    · rw [ts_no h1]
      exact key _ (.inl rfl) (.inl rfl)
theorem tall_none {y h : Int} {l : List Flt} (hn : ∀ f ∈ l, std f y h = false) : ∀ (a b : Int), l.foldl (tstep y h) (a, b) = (a, b) := by
  induction l with
  | nil => intro a b; rfl
  | cons f l ih =>
    intro a b
    rw [List.foldl_cons, show tstep y h (a, b) f = (a, b) from by unfold tstep; rw [hn f List.mem_cons_self]; rfl]
    exact ih (fun g hg => hn g (List.mem_cons_of_mem _ hg)) a b
theorem someS_false {l : List Flt} {y : Int} (h : someS l y = false) : ∀ f ∈ l, std f y 1 = false := fun f hf => by
  cases hs : std f y 1
  · rfl
  · unfold someS at h; rw [List.any_eq_false] at h; exact absurd hs (h f hf)

/-! ### What is placed -/
section
variable {l : List Flt} {s w h b y : Int}
theorem place_y (hl : True) : y ≤ (place l s w h 0 b y).y ∧ ∀ f ∈ l, f.y ≤ (place l s w h 0 b y).y := by
  obtain ⟨h1, h2⟩ := top_ge l y
  obtain ⟨_, h4⟩ := plc_ok_at (l := l) (w := max w 0) (a := 0) (b := b) _ (Nat.le_refl (cntB l (top l y)))
  refine ⟨?_, fun f hf => ?_⟩
  · show y ≤ plc _ _ _ _ _; omega
  · have := h2 f hf; show f.y ≤ plc _ _ _ _ _; omega
theorem place_room (hw : 0 ≤ w) : (∃ p : Int × Int, 0 ≤ p.1 ∧ p.2 ≤ b ∧ (someS l (place l s w h 0 b y).y = true → w ≤ p.2 - p.1) ∧ (someS l (place l s w h 0 b y).y = false → p = (0, b)) ∧
    (∀ f ∈ l, std f (place l s w h 0 b y).y 1 = true → (f.s = 2 → p.2 ≤ f.x) ∧ (f.s ≠ 2 → f.x + f.w ≤ p.1)) ∧ (p.1 = 0 ∨ ∃ f ∈ l, p.1 = f.x + f.w) ∧ (p.2 = b ∨ ∃ f ∈ l, p.2 = f.x) ∧
    (place l s w h 0 b y).w = w ∧ (place l s w h 0 b y).x = if s = 2 then p.2 - w else p.1) := by
  have hm : max w 0 = w := by omega
  obtain ⟨h3, _⟩ := plc_ok_at (l := l) (w := w) (a := 0) (b := b) _ (Nat.le_refl (cntB l (top l y)))
  have e1 : (place l s w h 0 b y).y = plc l w 0 b (top l y) := by unfold place; rw [hm]
  rw [e1]
  generalize hz : plc l w 0 b (top l y) = z at *
  have e2 : tall l z 1 0 b = l.foldl (tstep z 1) (0, b) := rfl
  refine ⟨tall l z 1 0 b, ?_, ?_, fun hs => ?_, fun hs => ?_, fun f hf hs => ⟨fun h2 => ?_, fun h2 => ?_⟩, ?_, ?_, ?_, ?_⟩
  · rw [e2]; exact ((tall_le z 1 l 0 b _).1 (Int.le_refl _)).1
  · rw [e2]; exact ((tall_ge z 1 l 0 b _).1 (Int.le_refl _)).1
  · unfold okP at h3; rw [hs] at h3; simpa using h3
  · rw [e2, tall_none (someS_false hs)]
  · rw [e2]; exact ((tall_ge z 1 l 0 b _).1 (Int.le_refl _)).2 f hf hs h2
  · rw [e2]; exact ((tall_le z 1 l 0 b _).1 (Int.le_refl _)).2 f hf hs h2
  · rw [e2]; exact (tall_src z 1 l 0 b).1
  · rw [e2]; exact (tall_src z 1 l 0 b).2
  · unfold place; exact hm
  · unfold place; rw [hm]; simp only [hz]
theorem place_apart (hw : 0 ≤ w) (hs : s = 1 ∨ s = 2) {f : Flt} (hf : f ∈ l) :
    ¬ ((place l s w h 0 b y).x < f.x + f.w ∧ f.x < (place l s w h 0 b y).x + (place l s w h 0 b y).w ∧ (place l s w h 0 b y).y < f.y + f.h ∧ f.y < (place l s w h 0 b y).y + (place l s w h 0 b y).h) := by
  rintro ⟨h1, h2, h3, _⟩
  have hy := (place_y (l := l) (s := s) (w := w) (h := h) (b := b) (y := y) trivial).2 f hf
  obtain ⟨p, p1, p2, p3, p4, p5, _, _, pw, px⟩ := place_room (l := l) (s := s) (w := w) (h := h) (b := b) (y := y) hw
  have hst : std f (place l s w h 0 b y).y 1 = true := std_iff.2 ⟨by omega, h3, by omega⟩
  have hsm : someS l (place l s w h 0 b y).y = true := by unfold someS; exact List.any_eq_true.2 ⟨f, hf, hst⟩
  obtain ⟨q1, q2⟩ := p5 f hf hst
  have p3 := p3 hsm
  rw [pw] at h2
  rw [px] at h1 h2
  by_cases hf2 : f.s = 2
  · have := q1 hf2
    rcases hs with hs | hs <;> subst hs <;> simp at h1 h2 <;> omega
  · have := q2 hf2
    rcases hs with hs | hs <;> subst hs <;> simp at h1 h2 <;> omega
theorem place_in (hw : 0 ≤ w) (hwb : w ≤ b) : 0 ≤ (place l s w h 0 b y).x ∧ (place l s w h 0 b y).x + (place l s w h 0 b y).w ≤ b := by
  obtain ⟨p, p1, p2, p3, p4, p5, _, _, pw, px⟩ := place_room (l := l) (s := s) (w := w) (h := h) (b := b) (y := y) hw
  rw [pw, px]
  cases hsm : someS l (place l s w h 0 b y).y
  · have := p4 hsm
    subst this
    split <;> simp only <;> omega
  · have := p3 hsm
    split <;> omega
theorem place_edge (hw : 0 ≤ w) : (s ≠ 2 → (place l s w h 0 b y).x = 0 ∨ ∃ f ∈ l, f.x + f.w = (place l s w h 0 b y).x) ∧ (s = 2 → (place l s w h 0 b y).x + (place l s w h 0 b y).w = b ∨ ∃ f ∈ l, f.x = (place l s w h 0 b y).x + (place l s w h 0 b y).w) := by
  obtain ⟨p, p1, p2, p3, p4, p5, p6, p7, pw, px⟩ := place_room (l := l) (s := s) (w := w) (h := h) (b := b) (y := y) hw
  rw [pw, px]
  refine ⟨fun hs => ?_, fun hs => ?_⟩
  · rw [if_neg hs]
    rcases p6 with e | ⟨f, hf, e⟩
    · exact .inl e
    · exact .inr ⟨f, hf, e.symm⟩
  · rw [if_pos hs]
    rcases p7 with e | ⟨f, hf, e⟩
    · left; omega
    · right; exact ⟨f, hf, by omega⟩
end
theorem plc_le {l : List Flt} {w a b M : Int} (hM : ∀ f ∈ l, f.y + f.h ≤ M) : ∀ (n : Nat) {y : Int}, cntB l y ≤ n → y ≤ M → plc l w a b y ≤ M := by
  intro n
  induction n with
  | zero =>
    intro y hn hy
    cases ho : okP l w a b y
    · have := cnt_lt (some_nxt (okP_nxt ho)); omega
    · rw [plc_ok ho]; exact hy
  | succ n ih =>
    intro y hn hy
    cases ho : okP l w a b y
    · have h1 := some_nxt (okP_nxt ho)
      have := cnt_lt h1
      obtain ⟨f, hf, e⟩ := nxt_mem h1
      rw [plc_no ho]
      exact ih (by omega) (by have := hM f hf; omega)
    · rw [plc_ok ho]; exact hy
theorem top_le {l : List Flt} {M : Int} : ∀ {y : Int}, y ≤ M → (∀ f ∈ l, f.y ≤ M) → top l y ≤ M := by
  induction l with
  | nil => intro y h _; exact h
  | cons g l ih =>
    intro y h hl
    unfold top at *
    rw [List.foldl_cons]
    exact ih (by have := hl g List.mem_cons_self; omega) (fun f hf => hl f (List.mem_cons_of_mem _ hf))

/-- How far those that were placed may stand, when there are n of them. -/
structure Lies (n : Nat) (f : Flt) : Prop where
  side : f.s = 1 ∨ f.s = 2
  x0 : -(65536 * (n : Int)) ≤ f.x
  x1 : f.x ≤ 65536 * ((n : Int) + 1)
  xw : f.x + f.w ≤ 65536 * ((n : Int) + 1)
  w0 : 0 ≤ f.w
  w1 : f.w ≤ 65535
  y0 : 0 ≤ f.y
  yh : f.y + f.h ≤ 65536 * ((n : Int) + 1)
  h0 : 0 ≤ f.h
  h1 : f.h ≤ 65535
theorem Lies.more {n : Nat} {f : Flt} (h : Lies n f) : Lies (n + 1) f := by
  obtain ⟨a, b, c, d, e, f, g, i, j, k⟩ := h
  exact ⟨a, by omega, by omega, by omega, e, f, g, by omega, j, k⟩
theorem Lies.fit {n : Nat} {f : Flt} (h : Lies n f) (hn : n ≤ 200) : Fit f := by
  obtain ⟨a, b, c, d, e, f, g, i, j, k⟩ := h
  exact ⟨a, by omega, by omega, by omega, by omega⟩
theorem Lies.place {n : Nat} {l : List Flt} {s w h b y : Int} (hl : ∀ f ∈ l, Lies n f) (hs : s = 1 ∨ s = 2) (hw : 0 ≤ w ∧ w ≤ 65535) (hh : 0 ≤ h ∧ h ≤ 65535) (hb : 0 ≤ b ∧ b ≤ 65536) (hy : 0 ≤ y ∧ y ≤ 65535) : Lies (n + 1) (place l s w h 0 b y) := by
  obtain ⟨p, p1, p2, p3, p4, p5, p6, p7, pw, px⟩ := place_room (l := l) (s := s) (w := w) (h := h) (b := b) (y := y) hw.1
  have hq1 : p.1 ≤ 65536 * ((n : Int) + 1) := by
    rcases p6 with e | ⟨f, hf, e⟩
    · omega
    · have := (hl f hf).xw; omega
  have hq2 : -(65536 * (n : Int)) ≤ p.2 := by
    rcases p7 with e | ⟨f, hf, e⟩
    · omega
    · have := (hl f hf).x0; omega
  have hyy : (Proofs.Ytdckhheinpfbjaa.place l s w h 0 b y).y ≤ 65536 * ((n : Int) + 1) := by
    show plc _ _ _ _ _ ≤ _
    refine plc_le (fun f hf => (hl f hf).yh) _ (Nat.le_refl _) (top_le (by omega) fun f hf => ?_)
    have := (hl f hf).yh
    have := (hl f hf).h0
    omega
  have hy0 := (place_y (l := l) (s := s) (w := w) (h := h) (b := b) (y := y) trivial).1
  have ph : (Proofs.Ytdckhheinpfbjaa.place l s w h 0 b y).h = h := by unfold Proofs.Ytdckhheinpfbjaa.place; show max h 0 = h; omega
  have ps : (Proofs.Ytdckhheinpfbjaa.place l s w h 0 b y).s = s := by unfold Proofs.Ytdckhheinpfbjaa.place; show (if s = 2 then (2 : Int) else 1) = s; rcases hs with rfl | rfl <;> rfl
  refine ⟨by rw [ps]; exact hs, ?_, ?_, ?_, by omega, by omega, by omega, by omega, by omega, by omega⟩
  · rw [px]; split <;> omega
  · rw [px]; split <;> omega
  · rw [px, pw]; split <;> omega

/-! ### As high as may be -/
theorem okP_same {l : List Flt} {w a b y z : Int} (hl : ∀ f ∈ l, std f y 1 = std f z 1) : okP l w a b z = okP l w a b y := by
  have h1 : someS l z = someS l y := by
    unfold someS
    induction l with
    | nil => rfl
    | cons f l ih => rw [List.any_cons, List.any_cons, hl f List.mem_cons_self, ih fun g hg => hl g (List.mem_cons_of_mem _ hg)]
  have h2 : ∀ (p : Int × Int) (l : List Flt), (∀ f ∈ l, std f y 1 = std f z 1) → l.foldl (tstep z 1) p = l.foldl (tstep y 1) p := fun p l => by
    induction l generalizing p with
    | nil => intro _; rfl
    | cons f l ih =>
      intro hl
      rw [List.foldl_cons, List.foldl_cons, show tstep z 1 p f = tstep y 1 p f from by unfold tstep; rw [hl f List.mem_cons_self]]
      exact ih _ fun g hg => hl g (List.mem_cons_of_mem _ hg)
  unfold okP
  rw [h1]
  have : tall l z 1 a b = tall l y 1 a b := h2 (a, b) l hl
  rw [this]
theorem high {l : List Flt} {w a b : Int} : ∀ (n : Nat) {y : Int}, cntB l y ≤ n → (∀ f ∈ l, f.y ≤ y) → ∀ z, y ≤ z → z < plc l w a b y → okP l w a b z = false := by
  intro n
  induction n with
  | zero =>
    intro y hn hy z h1 h2
    cases ho : okP l w a b y
    · have := cnt_lt (some_nxt (okP_nxt ho)); omega
    · rw [plc_ok ho] at h2; omega
  | succ n ih =>
    intro y hn hy z h1 h2
    cases ho : okP l w a b y
    · have hx := some_nxt (okP_nxt ho)
      have hc := cnt_lt hx
      rw [plc_no ho] at h2
      by_cases hz : z < (nxt l y).1
      · rw [← ho]
        refine okP_same fun f hf => ?_
        rw [Bool.eq_iff_iff, std_iff, std_iff]
        have hfy := hy f hf
        constructor
        · rintro ⟨k1, k2, k3⟩
          have := (nxt_le hf k2).2
          exact ⟨k1, by omega, by omega⟩
        · rintro ⟨k1, k2, k3⟩
          exact ⟨k1, by omega, by omega⟩
      · exact ih (by omega) (fun f hf => by have := hy f hf; have := nxt_lt hx; omega) z (by omega) h2
    · rw [plc_ok ho] at h2; omega

/-! ### Of rooms -/
theorem tall_more {y h a b : Int} (l m : List Flt) : (l.foldl (tstep y h) (a, b)).1 ≤ ((l ++ m).foldl (tstep y h) (a, b)).1 ∧ ((l ++ m).foldl (tstep y h) (a, b)).2 ≤ (l.foldl (tstep y h) (a, b)).2 := by
  constructor
  · obtain ⟨h1, h2⟩ := (tall_le y h (l ++ m) a b _).1 (Int.le_refl _)
    exact (tall_le y h l a b _).2 ⟨h1, fun f hf => h2 f (List.mem_append_left _ hf)⟩
  · obtain ⟨h1, h2⟩ := (tall_ge y h (l ++ m) a b _).1 (Int.le_refl _)
    exact (tall_ge y h l a b _).2 ⟨h1, fun f hf => h2 f (List.mem_append_left _ hf)⟩
/-- The least and the most of the first k heights. -/
def sweep (l : List Flt) (y a b : Int) : Nat → Int × Int
  | 0 => (a, b)
  | k + 1 => (max (sweep l y a b k).1 (tall l (y + k) 1 a b).1, min (sweep l y a b k).2 (tall l (y + k) 1 a b).2)
theorem sweep_le (l : List Flt) (y a b z : Int) : ∀ k, (sweep l y a b k).1 ≤ z ↔ a ≤ z ∧ ∀ i : Nat, i < k → (tall l (y + i) 1 a b).1 ≤ z
  | 0 => by simp [sweep]
  | k + 1 => by
    have ih := sweep_le l y a b z k
    unfold sweep
    constructor
    · intro h
      simp only at h
      have h1 : (sweep l y a b k).1 ≤ z := by omega
      obtain ⟨h2, h3⟩ := ih.1 h1
      refine ⟨h2, fun i hi => ?_⟩
      by_cases e : i = k
      · subst e; omega
      · exact h3 i (by omega)
    · rintro ⟨h1, h2⟩
      have h3 := ih.2 ⟨h1, fun i hi => h2 i (by omega)⟩
      have h4 := h2 k (by omega)
      simp only
      omega
theorem sweep_ge (l : List Flt) (y a b z : Int) : ∀ k, z ≤ (sweep l y a b k).2 ↔ z ≤ b ∧ ∀ i : Nat, i < k → z ≤ (tall l (y + i) 1 a b).2
  | 0 => by simp [sweep]
  | k + 1 => by
    have ih := sweep_ge l y a b z k
    unfold sweep
    constructor
    · intro h
      simp only at h
      have h1 : z ≤ (sweep l y a b k).2 := by omega
      obtain ⟨h2, h3⟩ := ih.1 h1
      refine ⟨h2, fun i hi => ?_⟩
      by_cases e : i = k
      · subst e; omega
      · exact h3 i (by omega)
    · rintro ⟨h1, h2⟩
      have h3 := ih.2 ⟨h1, fun i hi => h2 i (by omega)⟩
      have h4 := h2 k (by omega)
      simp only
      omega
theorem std_sweep {f : Flt} {y : Int} {k : Nat} (hk : 1 ≤ k) : std f y k = true ↔ ∃ i : Nat, i < k ∧ std f (y + i) 1 = true := by
  rw [std_iff]
  constructor
  · rintro ⟨h1, h2, h3⟩
    by_cases h : f.y ≤ y
    · exact ⟨0, by omega, std_iff.2 ⟨h1, by simp; omega, by simp; omega⟩⟩
    · exact ⟨(f.y - y).toNat, by omega, std_iff.2 ⟨h1, by omega, by omega⟩⟩
  · rintro ⟨i, hi, h⟩
    obtain ⟨h1, h2, h3⟩ := std_iff.1 h
    exact ⟨h1, by omega, by omega⟩
theorem sweep_eq (l : List Flt) (y a b : Int) (k : Nat) (hk : 1 ≤ k) : sweep l y a b k = tall l y k a b := by
  have e : tall l y k a b = l.foldl (tstep y k) (a, b) := by unfold tall; rw [show max (k : Int) 1 = k from by omega]
  have e1 : ∀ i : Nat, tall l (y + i) 1 a b = l.foldl (tstep (y + i) 1) (a, b) := fun i => rfl
  have h1 : (sweep l y a b k).1 = (tall l y k a b).1 := by
    rw [e]
    apply Int.le_antisymm
    · rw [sweep_le]
      obtain ⟨q1, q2⟩ := (tall_le y k l a b _).1 (Int.le_refl _)
      refine ⟨q1, fun i hi => ?_⟩
      rw [e1, tall_le]
      exact ⟨q1, fun f hf hs hn => q2 f hf ((std_sweep hk).2 ⟨i, hi, hs⟩) hn⟩
    · rw [tall_le]
      obtain ⟨q1, q2⟩ := (sweep_le l y a b _ k).1 (Int.le_refl _)
      refine ⟨q1, fun f hf hs hn => ?_⟩
      obtain ⟨i, hi, hs⟩ := (std_sweep hk).1 hs
      have := q2 i hi
      rw [e1, tall_le] at this
      exact this.2 f hf hs hn
  have h2 : (sweep l y a b k).2 = (tall l y k a b).2 := by
    rw [e]
    apply Int.le_antisymm
    · rw [tall_ge]
      obtain ⟨q1, q2⟩ := (sweep_ge l y a b _ k).1 (Int.le_refl _)
      refine ⟨q1, fun f hf hs hn => ?_⟩
      obtain ⟨i, hi, hs⟩ := (std_sweep hk).1 hs
      have := q2 i hi
      rw [e1, tall_ge] at this
      exact this.2 f hf hs hn
    · rw [sweep_ge]
      obtain ⟨q1, q2⟩ := (tall_ge y k l a b _).1 (Int.le_refl _)
      refine ⟨q1, fun i hi => ?_⟩
      rw [e1, tall_ge]
      exact ⟨q1, fun f hf hs hn => q2 f hf ((std_sweep hk).2 ⟨i, hi, hs⟩) hn⟩
  exact Prod.ext h1 h2
theorem clr_ge (l : List Flt) : ∀ y, y ≤ clr l 3 y ∧ ∀ f ∈ l, f.y + f.h ≤ clr l 3 y := by
  induction l with
  | nil => intro y; exact ⟨Int.le_refl _, fun f hf => absurd hf (by simp)⟩
  | cons g l ih =>
    intro y
    unfold clr at *
    rw [List.foldl_cons, show cstep 3 y g = max y (g.y + g.h) from by unfold cstep; simp]
    obtain ⟨h1, h2⟩ := ih (max y (g.y + g.h))
    refine ⟨by omega, fun f hf => ?_⟩
    rcases List.mem_cons.1 hf with rfl | hf
    · omega
    · exact h2 f hf
theorem clr_far {l : List Flt} (hl : ∀ f ∈ l, Fit f) (s : Int) : ∀ {y : Int}, -2251799813685248 ≤ y ∧ y ≤ 2251799813685248 → -2251799813685248 ≤ clr l s y ∧ clr l s y ≤ 2251799813685248 := by
  induction l with
  | nil => intro y h; exact h
  | cons g l ih =>
    intro y h
    obtain ⟨_, hx, hy, hw, hh⟩ := hl g List.mem_cons_self
    unfold clr at *
    rw [List.foldl_cons]
    refine ih (fun f hf => hl f (List.mem_cons_of_mem _ hf)) ?_
    unfold cstep
    split <;> omega
theorem clr_below {l : List Flt} {y h a b : Int} : tall l (clr l 3 y) h a b = (a, b) ∧ (nxt l (clr l 3 y)).2 = false := by
  obtain ⟨_, h2⟩ := clr_ge l y
  refine ⟨tall_none (fun f hf => ?_) a b, ?_⟩
  · cases hs : std f (clr l 3 y) (max h 1)
    · rfl
    · have := (std_iff.1 hs).2.1; have := h2 f hf; omega
  · cases hn : (nxt l (clr l 3 y)).2
    · rfl
    · obtain ⟨f, hf, e⟩ := nxt_mem hn
      have := nxt_lt hn
      have := h2 f hf
      omega
end Go.Proofs.Ytdckhheinpfbjaa
