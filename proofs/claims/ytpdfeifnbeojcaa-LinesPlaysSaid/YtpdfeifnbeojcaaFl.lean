/- Floats as plain numbers: who stands where, the room, the next bottom, the place. -/
import Derived.Test.YtpdfeifnbeojcaaRowsS
namespace Go.Proofs.Ytpdfeifnbeojcaa
open Go.RowKit

structure Flt where
  s : Int
  x : Int
  y : Int
  w : Int
  h : Int
def fcell (f : Flt) : List Value := [.int .u8 f.s, .int .i64 f.x, .int .i64 f.y, .int .i64 f.w, .int .i64 f.h]
def std (f : Flt) (y h : Int) : Bool := decide (0 < f.h ∧ y < f.y + f.h ∧ f.y - y < h)
def room1 (p : Int × Int) (f : Flt) : Int × Int := if f.s = 2 then (p.1, min p.2 f.x) else (max p.1 (f.x + f.w), p.2)
def tstep (y h : Int) (p : Int × Int) (f : Flt) : Int × Int := if std f y h then room1 p f else p
def tall (l : List Flt) (y h a b : Int) : Int × Int := l.foldl (tstep y (max h 1)) (a, b)
def nstep (y : Int) (p : Int × Bool) (f : Flt) : Int × Bool := if y < f.y + f.h ∧ (p.2 = false ∨ f.y + f.h < p.1) then (f.y + f.h, true) else p
def nxt (l : List Flt) (y : Int) : Int × Bool := l.foldl (nstep y) (0, false)
def someS (l : List Flt) (y : Int) : Bool := l.any fun f => std f y 1
def okP (l : List Flt) (w a b y : Int) : Bool := !someS l y || decide (w ≤ (tall l y 1 a b).2 - (tall l y 1 a b).1)
def top (l : List Flt) (y : Int) : Int := l.foldl (fun y f => max y f.y) y
def cstep (s : Int) (y : Int) (f : Flt) : Int := if s = 3 ∨ (s = f.s ∧ s ≠ 0) then max y (f.y + f.h) else y
def clr (l : List Flt) (s y : Int) : Int := l.foldl (cstep s) y

theorem std_iff {f : Flt} {y h : Int} : std f y h = true ↔ 0 < f.h ∧ y < f.y + f.h ∧ f.y - y < h := by simp [std]

/-! ### The next bottom -/
theorem nxt_spec (l : List Flt) (y : Int) : ∀ p : Int × Bool, (p.2 = true → y < p.1) →
    ((l.foldl (nstep y) p).2 = true → y < (l.foldl (nstep y) p).1) ∧
    (∀ f ∈ l, y < f.y + f.h → (l.foldl (nstep y) p).2 = true ∧ (l.foldl (nstep y) p).1 ≤ f.y + f.h) ∧
    (p.2 = true → (l.foldl (nstep y) p).2 = true ∧ (l.foldl (nstep y) p).1 ≤ p.1) ∧
    ((l.foldl (nstep y) p).2 = true → (l.foldl (nstep y) p) = p ∨ ∃ f ∈ l, (l.foldl (nstep y) p).1 = f.y + f.h) := by
  induction l with
  | nil => intro p hp; exact ⟨hp, fun f hf => absurd hf (by simp), fun h => ⟨h, Int.le_refl _⟩, fun _ => .inl rfl⟩
  | cons f l ih =>
    intro p hp
    have hq : (nstep y p f).2 = true → y < (nstep y p f).1 := by
      unfold nstep; split
      · rename_i h; exact fun _ => h.1
      · exact hp
    obtain ⟨h1, h2, h3, h4⟩ := ih (nstep y p f) hq
    simp only [List.foldl_cons]
    refine ⟨h1, fun g hg hy => ?_, fun hpt => ?_, fun ht => ?_⟩
    · rcases List.mem_cons.1 hg with rfl | hg
      · by_cases hc : p.2 = false ∨ g.y + g.h < p.1
        · have e : nstep y p g = (g.y + g.h, true) := if_pos ⟨hy, hc⟩
          rw [e] at h3 ⊢
          exact h3 rfl
        · have e : nstep y p g = p := if_neg (fun h => hc h.2)
          rw [e] at h3 ⊢
          have hpt : p.2 = true := by cases hp2 : p.2 <;> simp_all
          obtain ⟨a, b⟩ := h3 hpt
          exact ⟨a, by have : ¬ g.y + g.h < p.1 := fun h => hc (.inr h); omega⟩
      · exact h2 g hg hy
    · unfold nstep at h3 ⊢
      split at h3
      · rename_i hc
        obtain ⟨a, b⟩ := h3 rfl
        rw [if_pos hc]
        refine ⟨a, ?_⟩
        rcases hc.2 with h | h
        · rw [h] at hpt; cases hpt
        · simp only at b; omega
      · rename_i hc
        rw [if_neg hc]
        exact h3 hpt
    · rcases h4 ht with h | ⟨g, hg, h⟩
      · unfold nstep at h ⊢
        split at h
        · rename_i hc
          rw [if_pos hc]
          right
          exact ⟨f, List.mem_cons_self, by rw [h]⟩
        · rename_i hc
          rw [if_neg hc]
          exact .inl h
      · exact .inr ⟨g, List.mem_cons_of_mem _ hg, h⟩
theorem nxt_lt {l : List Flt} {y : Int} (h : (nxt l y).2 = true) : y < (nxt l y).1 := (nxt_spec l y (0, false) (by simp)).1 h
theorem nxt_le {l : List Flt} {y : Int} {f : Flt} (hf : f ∈ l) (h : y < f.y + f.h) : (nxt l y).2 = true ∧ (nxt l y).1 ≤ f.y + f.h := (nxt_spec l y (0, false) (by simp)).2.1 f hf h
theorem nxt_mem {l : List Flt} {y : Int} (h : (nxt l y).2 = true) : ∃ f ∈ l, (nxt l y).1 = f.y + f.h := by
  rcases (nxt_spec l y (0, false) (by simp)).2.2.2 h with e | e
  · unfold nxt at h; rw [e] at h; cases h
  · exact e

/-! ### The place -/
def cntB (l : List Flt) (y : Int) : Nat := (l.filter fun f => decide (y < f.y + f.h)).length
theorem filter_len_le {α : Type} (p q : α → Bool) (hpq : ∀ x, p x = true → q x = true) : ∀ l : List α, (l.filter p).length ≤ (l.filter q).length
  | [] => Nat.le_refl _
  | a :: l => by
    have ih := filter_len_le p q hpq l
    rw [List.filter_cons, List.filter_cons]
    by_cases ha : p a = true
    · rw [if_pos ha, if_pos (hpq a ha)]; simpa using ih
    · rw [if_neg ha]; split
      · simp; omega
      · exact ih
theorem filter_len_lt {α : Type} (p q : α → Bool) (hpq : ∀ x, p x = true → q x = true) : ∀ {l : List α} {a : α}, a ∈ l → q a = true → p a = false → (l.filter p).length < (l.filter q).length
  | b :: l, a, hm, hq, hp => by
    rw [List.filter_cons, List.filter_cons]
    rcases List.mem_cons.1 hm with rfl | hm
    · rw [if_neg (by simp [hp]), if_pos hq]
      have := filter_len_le p q hpq l
      simp; omega
    · have ih := filter_len_lt p q hpq hm hq hp
      by_cases hb : p b = true
      · rw [if_pos hb, if_pos (hpq b hb)]; simpa using ih
      · rw [if_neg hb]; split
        · simp; omega
        · exact ih
theorem cnt_lt {l : List Flt} {y : Int} (h : (nxt l y).2 = true) : cntB l (nxt l y).1 < cntB l y := by
  have h1 := nxt_lt h
  obtain ⟨f, hf, e⟩ := nxt_mem h
  exact filter_len_lt _ _ (fun g hg => by simp at hg ⊢; omega) hf (by simp; omega) (by simp; omega)
theorem some_nxt {l : List Flt} {y : Int} (h : someS l y = true) : (nxt l y).2 = true := by
  unfold someS at h
  rw [List.any_eq_true] at h
  obtain ⟨f, hf, h⟩ := h
  exact (nxt_le hf (std_iff.1 h).2.1).1
theorem okP_nxt {l : List Flt} {w a b y : Int} (h : okP l w a b y = false) : someS l y = true := by
  unfold okP at h
  cases hs : someS l y
  · simp [hs] at h
  · rfl
def plc (l : List Flt) (w a b y : Int) : Int := if okP l w a b y = true then y else plc l w a b (nxt l y).1
termination_by cntB l y
decreasing_by
  rename_i h
  exact cnt_lt (some_nxt (okP_nxt (by simpa using h)))
theorem plc_ok {l : List Flt} {w a b y : Int} (h : okP l w a b y = true) : plc l w a b y = y := by rw [plc, if_pos h]
theorem plc_no {l : List Flt} {w a b y : Int} (h : okP l w a b y = false) : plc l w a b y = plc l w a b (nxt l y).1 := by rw [plc, if_neg (by simp [h])]
def place (l : List Flt) (s w h a b y : Int) : Flt :=
  let y' := plc l (max w 0) a b (top l y)
  let p := tall l y' 1 a b
  { s := if s = 2 then 2 else 1, x := if s = 2 then p.2 - max w 0 else p.1, y := y', w := max w 0, h := max h 0 }

/-! ### Bounds -/
def bnd : Int := 1125899906842624
structure Fit (f : Flt) : Prop where
  side : f.s = 1 ∨ f.s = 2
  xb : -1125899906842624 ≤ f.x ∧ f.x ≤ 1125899906842624
  yb : -1125899906842624 ≤ f.y ∧ f.y ≤ 1125899906842624
  wb : 0 ≤ f.w ∧ f.w ≤ 1125899906842624
  hb : 0 ≤ f.h ∧ f.h ≤ 1125899906842624
def Far (x : Int) : Prop := -4503599627370496 ≤ x ∧ x ≤ 4503599627370496
theorem tall_far {l : List Flt} (hl : ∀ f ∈ l, Fit f) {y h : Int} : ∀ {a b : Int}, Far a → Far b → Far (l.foldl (tstep y h) (a, b)).1 ∧ Far (l.foldl (tstep y h) (a, b)).2 := by
  induction l with
  | nil => intro a b ha hb; exact ⟨ha, hb⟩
  | cons f l ih =>
    intro a b ha hb
    have hf := hl f List.mem_cons_self
    rw [List.foldl_cons]
    have key : Far (tstep y h (a, b) f).1 ∧ Far (tstep y h (a, b) f).2 := by
      obtain ⟨_, hx, hy, hw, hh⟩ := hf
      unfold tstep room1 Far at *
      split
      · split
        · simp only; omega
        · simp only; omega
      · exact ⟨ha, hb⟩
    exact ih (fun g hg => hl g (List.mem_cons_of_mem _ hg)) key.1 key.2
theorem nxt_far {l : List Flt} (hl : ∀ f ∈ l, Fit f) {y : Int} (h : (nxt l y).2 = true) : -2251799813685248 ≤ (nxt l y).1 ∧ (nxt l y).1 ≤ 2251799813685248 := by
  obtain ⟨f, hf, e⟩ := nxt_mem h
  obtain ⟨_, hx, hy, hw, hh⟩ := hl f hf
  omega
theorem top_ge (l : List Flt) : ∀ y, y ≤ top l y ∧ ∀ f ∈ l, f.y ≤ top l y := by
  induction l with
  | nil => intro y; exact ⟨Int.le_refl _, fun f hf => absurd hf (by simp)⟩
  | cons g l ih =>
    intro y
    obtain ⟨h1, h2⟩ := ih (max y g.y)
    unfold top at *
    rw [List.foldl_cons]
    refine ⟨by omega, fun f hf => ?_⟩
    rcases List.mem_cons.1 hf with rfl | hf
    · omega
    · exact h2 f hf
theorem top_far {l : List Flt} (hl : ∀ f ∈ l, Fit f) : ∀ {y : Int}, -2251799813685248 ≤ y ∧ y ≤ 2251799813685248 → -2251799813685248 ≤ top l y ∧ top l y ≤ 2251799813685248 := by
  induction l with
  | nil => intro y h; exact h
  | cons g l ih =>
    intro y h
    obtain ⟨_, hx, hy, hw, hh⟩ := hl g List.mem_cons_self
    unfold top at *
    rw [List.foldl_cons]
    exact ih (fun f hf => hl f (List.mem_cons_of_mem _ hf)) (by omega)
theorem plc_far {l : List Flt} (hl : ∀ f ∈ l, Fit f) {w a b : Int} : ∀ (n : Nat) {y : Int}, cntB l y ≤ n → -2251799813685248 ≤ y ∧ y ≤ 2251799813685248 → -2251799813685248 ≤ plc l w a b y ∧ plc l w a b y ≤ 2251799813685248 := by
  intro n
  induction n with
  | zero =>
    intro y hn hy
    cases ho : okP l w a b y
    · have := cnt_lt (some_nxt (okP_nxt ho)); omega
    · rw [plc_ok ho]; exact hy
  | succ n ih =>
    intro y hn hy
    cases ho : okP l w a b y
    · have h1 := some_nxt (okP_nxt ho)
      have := cnt_lt h1
      rw [plc_no ho]
      exact ih (by omega) (nxt_far hl h1)
    · rw [plc_ok ho]; exact hy
theorem plc_ok_at {l : List Flt} {w a b : Int} : ∀ (n : Nat) {y : Int}, cntB l y ≤ n → okP l w a b (plc l w a b y) = true ∧ y ≤ plc l w a b y := by
  intro n
  induction n with
  | zero =>
    intro y hn
    cases ho : okP l w a b y
    · have := cnt_lt (some_nxt (okP_nxt ho)); omega
    · rw [plc_ok ho]; exact ⟨ho, Int.le_refl _⟩
  | succ n ih =>
    intro y hn
    cases ho : okP l w a b y
    · have h1 := some_nxt (okP_nxt ho)
      have h2 := cnt_lt h1
      have h3 := nxt_lt h1
      rw [plc_no ho]
      obtain ⟨h4, h5⟩ := ih (y := (nxt l y).1) (by omega)
      exact ⟨h4, by omega⟩
    · rw [plc_ok ho]; exact ⟨ho, Int.le_refl _⟩
end Go.Proofs.Ytpdfeifnbeojcaa
