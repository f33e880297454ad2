/- Laws of words in rows. -/
import Derived.Test.YtpdfeifnbeojcaaLn
namespace Go.Proofs.Ytpdfeifnbeojcaa
open Go.RowKit

/-! ### Growing -/
/-- What a grown row tells: each word has no ends, its gap behind the one ahead, and its room; the next one did not fit. -/
structure GrowOk (to : Int) (l : List Wd) (e : Int) (q : List Int × Int) : Prop where
  i1 : ∀ j (h : j < q.1.length) (h2 : j < l.length), l[j].n = 0 ∧ q.1[j] + l[j].w ≤ to
  i2 : ∀ (h : 0 < q.1.length) (h2 : 0 < l.length), q.1[0] = e + l[0].g
  i3 : ∀ j (h : j + 1 < q.1.length) (h2 : j + 1 < l.length), q.1[j + 1] = q.1[j] + l[j].w + l[j + 1].g
  i4 : q.1 = [] → q.2 = e
  i5 : ∀ j (h : j < q.1.length) (h2 : j < l.length), j + 1 = q.1.length → q.2 = q.1[j] + l[j].w
  i6 : ∀ (h : q.1.length < l.length), ¬ (l[q.1.length].n = 0 ∧ q.2 + l[q.1.length].g + l[q.1.length].w ≤ to)
theorem grow_spec (to : Int) : ∀ (l : List Wd) (e : Int), GrowOk to l e (grow to l e)
  | [], e => by
    rw [show grow to [] e = ([], e) from rfl]
    exact ⟨fun j h => by simp at h, fun h => by simp at h, fun j h => by simp at h, fun _ => rfl, fun j h => by simp at h, fun h => by simp at h⟩
  | w :: l, e => by
    obtain ⟨i1, i2, i3, i4, i5, i6⟩ := grow_spec to l (e + w.g + w.w)
    by_cases hc : w.n = 0 ∧ e + w.g + w.w ≤ to
    · have hg : grow to (w :: l) e = ((e + w.g) :: (grow to l (e + w.g + w.w)).1, (grow to l (e + w.g + w.w)).2) := by
        rw [grow, if_pos hc]
      rw [hg]
      generalize grow to l (e + w.g + w.w) = q at i1 i2 i3 i4 i5 i6
      refine ⟨fun j h h2 => ?_, fun h h2 => rfl, fun j h h2 => ?_, fun h => by simp at h, fun j h h2 hj => ?_, fun h => ?_⟩
      · cases j with
        | zero => exact ⟨hc.1, hc.2⟩
        | succ j => exact i1 j (by simpa using h) (by simpa using h2)
      · cases j with
        | zero =>
          have := i2 (by simpa using h) (by simpa using h2)
          simpa using this
        | succ j => exact i3 j (by simpa using h) (by simpa using h2)
      · cases j with
        | zero =>
          have : q.1 = [] := List.eq_nil_of_length_eq_zero (by simp only [List.length_cons] at hj; omega)
          rw [i4 this]; simp
        | succ j =>
          have := i5 j (by simpa using h) (by simpa using h2) (by simp only [List.length_cons] at hj; omega)
          simpa using this
      · have := i6 (by simpa using h)
        simpa using this
    · have hg : grow to (w :: l) e = ([], e) := by rw [grow, if_neg hc]
      rw [hg]
      exact ⟨fun j h => by simp at h, fun h => by simp at h, fun j h => by simp at h, fun _ => rfl, fun j h => by simp at h, fun _ => hc⟩

/-! ### What the law asks of a row (alignment at the start) -/
structure RowOk (c : Rm) (ws : List Wd) (r : Rw) : Prop where
  ft : r.f ≤ r.t
  tl : r.t ≤ ws.length
  xl : r.xs.length = r.t - r.f
  x0 : ∀ h : 0 < r.xs.length, r.xs[0] = (c.at_ r.y).1
  xj : ∀ j (h : j + 1 < r.xs.length) (h2 : r.f + (j + 1) < ws.length), ws[r.f + (j + 1)].n ≤ 0 ∧ r.xs[j + 1] = r.xs[j] + ws[r.f + j].w + ws[r.f + (j + 1)].g ∧ r.xs[j + 1] + ws[r.f + (j + 1)].w ≤ (c.at_ r.y).2
  nx : ∀ (h : 0 < r.xs.length) (h2 : r.t < ws.length), ws[r.t].n = 0 → ¬ r.xs[r.xs.length - 1] + ws[r.t - 1].w + ws[r.t].g + ws[r.t].w ≤ (c.at_ r.y).2
theorem drop_at {ws : List Wd} {k j : Nat} {w : Wd} {l : List Wd} (h : ws.drop k = w :: l) : k < ws.length ∧ (∀ h' : k < ws.length, ws[k] = w) ∧ l.length = ws.length - (k + 1) ∧ (∀ (h1 : j < l.length) (h2 : k + 1 + j < ws.length), ws[k + 1 + j] = l[j]) ∧ l = ws.drop (k + 1) := by
  have hk : k < ws.length := by
    rcases Nat.lt_or_ge k ws.length with h1 | h1
    · exact h1
    · rw [List.drop_eq_nil_of_le h1] at h; cases h
  have h2 := List.drop_eq_getElem_cons hk
  rw [h] at h2
  have h3 : w = ws[k] := by injection h2
  have h4 : l = ws.drop (k + 1) := by injection h2
  refine ⟨hk, fun _ => h3.symm, by rw [h4, List.length_drop], fun h1 h2' => ?_, h4⟩
  subst h4
  rw [List.getElem_drop]
theorem row_ok {c : Rm} {ws : List Wd} {k : Nat} {w : Wd} {l : List Wd} {y : Int} (hd : ws.drop k = w :: l) (hal : c.al = 0) : RowOk c ws (rowOf c k w l y) := by
  obtain ⟨hk, hw, hl, _, hl2⟩ := drop_at (j := 0) hd
  have hw := hw hk
  have hlj : ∀ j (h1 : j < l.length) (h2 : k + 1 + j < ws.length), ws[k + 1 + j] = l[j] := fun j h1 h2 => (drop_at (j := j) hd).2.2.2.1 h1 h2
  have hm : ∀ x, moveOf c.al x = 0 := fun x => by unfold moveOf; rw [hal]; simp
  obtain ⟨p, hp⟩ : ∃ p, p = c.at_ (dwn c w.w y) := ⟨_, rfl⟩
  have hlen := grow_len p.2 l (p.1 + w.w)
  obtain ⟨i1, i2, i3, i4, i5, i6⟩ := grow_spec p.2 l (p.1 + w.w)
  obtain ⟨q, hq⟩ : ∃ q, q = grow p.2 l (p.1 + w.w) := ⟨_, rfl⟩
  have hr : rowOf c k w l y = { y := dwn c w.w y, f := k, t := k + 1 + q.1.length, xs := p.1 :: q.1 } := by
    unfold rowOf
    simp only [hm, ← hp, ← hq, Int.add_zero, List.map_id']
  rw [← hq] at hlen i1 i2 i3 i4 i5 i6
  rw [hr]
  refine ⟨by simp; omega, by simp; omega, by simp; omega, fun _ => by simp [hp], fun j h h2 => ?_, fun h h2 hn => ?_⟩
  · simp only at h h2 ⊢
    rw [← hp]
    have hj : j < q.1.length := by simpa using h
    have hjl : j < l.length := by omega
    have e1 : ws[k + (j + 1)] = l[j] := by
      have := hlj j hjl (by omega)
      rw [← this]; congr 1; omega
    rw [e1]
    obtain ⟨a1, a2⟩ := i1 j hj hjl
    refine ⟨by omega, ?_, by simpa using a2⟩
    cases j with
    | zero =>
      have := i2 hj hjl
      simp only [List.getElem_cons_succ, List.getElem_cons_zero, Nat.add_zero]
      rw [this, hw]
    | succ j =>
      have := i3 j hj hjl
      simp only [List.getElem_cons_succ]
      rw [this]
      have e2 : ws[k + (j + 1)] = l[j] := by
        have := hlj j (by omega) (by omega)
        rw [← this]; congr 1; omega
      rw [e2]
  · simp only at h h2 hn ⊢
    rw [← hp]
    have hlt : q.1.length < l.length := by omega
    have e1 : ws[k + 1 + q.1.length] = l[q.1.length] := hlj _ hlt h2
    have h6 := i6 hlt
    rw [e1] at hn ⊢
    intro hle
    apply h6
    refine ⟨hn, ?_⟩
    have e3 : q.2 = (p.1 :: q.1)[(p.1 :: q.1).length - 1]'(by simp) + (ws[k + 1 + q.1.length - 1]'(by omega)).w := by
      by_cases h0 : q.1.length = 0
      · have hnil : q.1 = [] := List.eq_nil_of_length_eq_zero h0
        rw [i4 hnil]
        have e4 : ws[k + 1 + q.1.length - 1]'(by omega) = w := by rw [← hw]; congr 1; omega
        rw [e4]
        simp [hnil]
      · obtain ⟨m, hm2⟩ : ∃ m, q.1.length = m + 1 := ⟨q.1.length - 1, by omega⟩
        have := i5 m (by omega) (by omega) (by omega)
        rw [this]
        have e4 : ws[k + 1 + q.1.length - 1]'(by omega) = l[m]'(by omega) := by
          have := hlj m (by omega) (by omega)
          rw [← this]; congr 1; omega
        rw [e4]
        congr 1
        have e5 : (p.1 :: q.1).length - 1 = m + 1 := by simp; omega
        simp only [e5, List.getElem_cons_succ]
    rw [e3]
    exact hle
/-- Rows one behind the other. -/
def Chain (c : Rm) (ws : List Wd) : Nat → Int → List Rw → Int → Prop
  | k, y, [], e => k = ws.length ∧ e = y
  | k, y, r :: rs, e => r.f = k ∧ RowOk c ws r ∧ y ≤ r.y ∧ Chain c ws r.t (r.y + c.h) rs e
theorem empty_ok {c : Rm} {ws : List Wd} {k : Nat} {y : Int} (hk : k ≤ ws.length) : RowOk c ws ⟨y, k, k, []⟩ :=
  ⟨Nat.le_refl _, hk, by simp, fun h => by simp at h, fun j h => by simp at h, fun h => by simp at h⟩
theorem chain_empties {c : Rm} {ws : List Wd} {k : Nat} {rs : List Rw} {e : Int} (hk : k ≤ ws.length) : ∀ (n : Nat) (y : Int), Chain c ws k (y + (n : Int) * c.h) rs e → Chain c ws k y (empties c.h k n y ++ rs) e := by
  intro n
  induction n generalizing rs with
  | zero => intro y h; simpa [empties] using h
  | succ n ih =>
    intro y h
    unfold empties
    rw [List.append_assoc]
    refine ih y ?_
    refine ⟨rfl, empty_ok hk, Int.le_refl _, ?_⟩
    have e1 : y + (n : Int) * c.h + c.h = y + ((n + 1 : Nat) : Int) * c.h := by rw [Int.natCast_add, Int.add_mul]; omega
    show Chain c ws k (y + (n : Int) * c.h + c.h) rs e
    rw [e1]; exact h
theorem fill_chain {c : Rm} {ws : List Wd} (hal : c.al = 0) : ∀ (n k : Nat) (y : Int), ws.length - k ≤ n → k ≤ ws.length → Chain c ws k y (fill c k (ws.drop k) y).1 (fill c k (ws.drop k) y).2 := by
  intro n
  induction n with
  | zero =>
    intro k y h hk
    rw [List.drop_eq_nil_of_le (by omega), fill_nil]
    exact ⟨by omega, rfl⟩
  | succ n ih =>
    intro k y h hk
    cases hd : ws.drop k with
    | nil =>
      rw [fill_nil]
      have : ws.length ≤ k := by simpa using hd
      exact ⟨by omega, rfl⟩
    | cons w l =>
      obtain ⟨hk2, _, hl, _, hl2⟩ := drop_at (j := 0) hd
      rw [fill_cons]
      dsimp only
      obtain ⟨r, hr⟩ : ∃ r, r = rowOf c k w l (y + ends k w * c.h) := ⟨_, rfl⟩
      have ht := row_t c k w l (y + ends k w * c.h)
      have hrf : (rowOf c k w l (y + ends k w * c.h)).f = k := rfl
      have hry : y + ends k w * c.h ≤ (rowOf c k w l (y + ends k w * c.h)).y := dwn_ge (c := c) (w := w.w) _ (Nat.le_refl _)
      have hro := row_ok (y := y + ends k w * c.h) hd hal
      rw [← hr] at ht hrf hry hro ⊢
      have hdd : l.drop (r.t - (k + 1)) = ws.drop r.t := by rw [hl2, List.drop_drop]; congr 1; omega
      rw [hdd]
      exact chain_empties (by omega) (ends k w) _ (show Chain c ws k (y + (ends k w : Int) * c.h) (r :: _) _ from ⟨hrf, hro, hry, ih r.t _ (by omega) (by omega)⟩)
end Go.Proofs.Ytpdfeifnbeojcaa
