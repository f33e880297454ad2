/- Fairness as plain numbers. -/
import Derived.Test.YtkjmknmcadloaaaTalW
namespace Go.Proofs.Ytkjmknmcadloaaa

/-- How often worker j is meant by the picks of a list. -/
def cntW (n : Nat) (l : List Pk) (j : Nat) : Nat := l.countP fun p => p.w % (n : Int) == (j : Int)
def jw (n : Nat) (p : Pk) : Nat := (p.w % (n : Int)).toNat
theorem jw_eq {n : Nat} (hn : 1 ≤ n) (p : Pk) : p.w % (n : Int) = (jw n p : Int) := by
  have := Int.emod_nonneg p.w (show (n : Int) ≠ 0 by omega)
  unfold jw; omega
theorem jw_lt {n : Nat} (hn : 1 ≤ n) (p : Pk) : jw n p < n := by
  have := Int.emod_lt_of_pos p.w (show (0 : Int) < n by omega)
  have := Int.emod_nonneg p.w (show (n : Int) ≠ 0 by omega)
  unfold jw; omega
theorem cntW_nil (n : Nat) : cntW n [] = fun _ => 0 := by funext j; simp [cntW]
theorem cntW_snoc {n : Nat} (hn : 1 ≤ n) (l : List Pk) (p : Pk) : cntW n (l ++ [p]) = bump (cntW n l) (jw n p) := by
  funext j
  unfold cntW bump
  rw [List.countP_append, List.countP_singleton, jw_eq hn]
  by_cases h : j = jw n p
  · subst h; simp
  · rw [if_neg h, if_neg (by simp; omega)]; rfl
theorem cntW_cons {n : Nat} (hn : 1 ≤ n) (l : List Pk) (p : Pk) : cntW n (p :: l) = bump (cntW n l) (jw n p) := by
  funext j
  unfold cntW bump
  rw [List.countP_cons, jw_eq hn]
  by_cases h : j = jw n p
  · subst h; simp
  · rw [if_neg h, if_neg (by simp; omega)]; rfl
theorem drop_bump (f : Nat → Nat) (j : Nat) : drop1 (bump f j) j = f := by
  funext i; unfold drop1 bump; by_cases e : i = j <;> simp [e]
theorem cntW_le (n : Nat) (l : List Pk) (j : Nat) : cntW n l j ≤ l.length := List.countP_le_length
def win (l : List Pk) (at_ k : Nat) : List Pk := (l.drop at_).take k
theorem win_len {l : List Pk} {a k : Nat} (h : a + k ≤ l.length) : (win l a k).length = k := by unfold win; rw [List.length_take, List.length_drop]; omega
theorem win_cons {l : List Pk} {a k : Nat} (h : a < l.length) : win l a (k + 1) = l[a] :: win l (a + 1) k := by
  unfold win; rw [List.drop_eq_getElem_cons h, List.take_succ_cons]
theorem win_snoc {l : List Pk} {a k : Nat} (h : a + k < l.length) : win l a (k + 1) = win l a k ++ [l[a + k]] := by
  unfold win
  rw [List.take_succ_eq_append_getElem (by rw [List.length_drop]; omega), List.getElem_drop]
/-- The window moves on by one. -/
theorem slide {n : Nat} (hn : 1 ≤ n) {l : List Pk} {a k : Nat} (hk : 1 ≤ k) (h : a + k < l.length) :
    cntW n (win l (a + 1) k) = bump (drop1 (cntW n (win l a k)) (jw n (l[a]'(by omega)))) (jw n l[a + k]) := by
  obtain ⟨k, rfl⟩ : ∃ m, k = m + 1 := ⟨k - 1, by omega⟩
  rw [win_cons (show a < l.length by omega), cntW_cons hn, drop_bump]
  have e := win_snoc (l := l) (a := a + 1) (k := k) (by omega)
  rw [e, cntW_snoc hn]
  congr 2
  congr 1
  omega
theorem slide_pos {n : Nat} (hn : 1 ≤ n) {l : List Pk} {a k : Nat} (hk : 1 ≤ k) (h : a < l.length) : 0 < cntW n (win l a k) (jw n l[a]) := by
  obtain ⟨k, rfl⟩ : ∃ m, k = m + 1 := ⟨k - 1, by omega⟩
  rw [win_cons h, cntW_cons hn]
  unfold bump; rw [if_pos rfl]; omega

def fairAt (n : Nat) (l : List Pk) (a k : Nat) : Bool := zeros n (cntW n (win l a k)) == 0
def fair (n : Nat) (l : List Pk) (k : Nat) : Bool := (List.range (l.length + 1 - k)).all fun a => fairAt n l a k
theorem zeros_zero (n : Nat) (f : Nat → Nat) : zeros n f = 0 ↔ ∀ j, j < n → f j ≠ 0 := by
  unfold zeros
  rw [List.length_eq_zero_iff, List.filter_eq_nil_iff]
  simp
theorem cnt_ne {n : Nat} {l : List Pk} {j : Nat} : cntW n l j ≠ 0 ↔ ∃ p ∈ l, p.w % (n : Int) = (j : Int) := by
  unfold cntW
  rw [← Nat.pos_iff_ne_zero, List.countP_pos_iff]
  simp
theorem fair_iff {n : Nat} {l : List Pk} {k : Nat} : fair n l k = true ↔ ∀ a, a + k ≤ l.length → ∀ j, j < n → ∃ p ∈ win l a k, p.w % (n : Int) = (j : Int) := by
  unfold fair
  rw [List.all_eq_true]
  constructor
  · intro h a ha j hj
    have h1 := h a (List.mem_range.2 (by omega))
    unfold fairAt at h1
    have h2 := (zeros_zero _ _).1 (by simpa using h1) j hj
    exact cnt_ne.1 h2
  · intro h a ha
    have ha := List.mem_range.1 ha
    unfold fairAt
    rw [beq_iff_eq, zeros_zero]
    intro j hj
    exact cnt_ne.2 (h a (by omega) j hj)
theorem fair_take {n : Nat} {l : List Pk} {k m : Nat} (hm : m ≤ l.length + 1 - k) (h : ∀ a, a < m → fairAt n l a k = true) (h2 : m = l.length + 1 - k) : fair n l k = true := by
  unfold fair; rw [List.all_eq_true]; intro a ha; exact h a (by rw [h2]; exact List.mem_range.1 ha)
theorem fair_not {n : Nat} {l : List Pk} {k a : Nat} (ha : a + k ≤ l.length) (h : fairAt n l a k = false) : fair n l k = false := by
  rw [← Bool.not_eq_true]; intro hf
  unfold fair at hf
  rw [List.all_eq_true] at hf
  have := hf a (List.mem_range.2 (by omega))
  rw [h] at this; cases this
theorem win_sub {l : List Pk} {a k m : Nat} {p : Pk} (h : p ∈ win l a k) (hk : k ≤ m) : p ∈ win l a m := by
  unfold win at *
  exact List.take_subset_take_left _ hk h
/-- What is fair with so many is so with more. -/
theorem fair_more {n : Nat} {l : List Pk} {k m : Nat} (h : fair n l k = true) (hk : k ≤ m) : fair n l m = true := by
  rw [fair_iff] at *
  intro a ha j hj
  obtain ⟨p, hp, e⟩ := h a (by omega) j hj
  exact ⟨p, win_sub hp hk, e⟩
theorem fair_part {n : Nat} {l : List Pk} {k c : Nat} (h : fair n l k = true) : fair n (l.drop c) k = true := by
  rw [fair_iff] at *
  intro a ha j hj
  rw [List.length_drop] at ha
  by_cases hc : c ≤ l.length
  · obtain ⟨p, hp, e⟩ := h (c + a) (by omega) j hj
    refine ⟨p, ?_, e⟩
    unfold win at *
    rwa [List.drop_drop]
  · obtain ⟨p, hp, e⟩ := h (l.length - k) (by omega) j hj
    exfalso
    have : l.length = 0 ∧ k = 0 ∨ a + k ≤ 0 := by omega
    have hk : k = 0 := by omega
    subst hk
    unfold win at hp; simp at hp
theorem zeros_len : ∀ (n : Nat) (f : Nat → Nat), zeros n f = 0 → n ≤ ((List.range n).map f).sum
  | 0, _, _ => by omega
  | n + 1, f, h => by
    rw [zeros_succ] at h
    have h1 := zeros_len n f (by omega)
    rw [List.range_succ, List.map_append, List.sum_append]
    have : f n ≠ 0 := by intro e; rw [if_pos e] at h; omega
    simp; omega
theorem sum_bump (f : Nat → Nat) (j : Nat) : ∀ n, ((List.range n).map (bump f j)).sum = ((List.range n).map f).sum + if j < n then 1 else 0
  | 0 => by simp
  | n + 1 => by
    rw [List.range_succ, List.map_append, List.sum_append, List.map_append, List.sum_append, sum_bump f j n]
    simp only [List.map_cons, List.map_nil, List.sum_cons, List.sum_nil, Nat.add_zero]
    unfold bump
    by_cases h : n = j
    · subst h; simp; omega
    · rw [if_neg h]; by_cases h2 : j < n
      · rw [if_pos h2, if_pos (by omega)]; omega
      · rw [if_neg h2, if_neg (by omega)]; omega
theorem sum_cnt {n : Nat} (hn : 1 ≤ n) : ∀ l : List Pk, ((List.range n).map (cntW n l)).sum = l.length
  | [] => by
    rw [cntW_nil]
    have : ∀ m, ((List.range m).map (fun _ => 0)).sum = 0 := by
      intro m; induction m with
      | zero => rfl
      | succ m ih => rw [List.range_succ, List.map_append, List.sum_append, ih]; rfl
    exact this n
  | p :: l => by
    rw [cntW_cons hn, sum_bump, sum_cnt hn l, if_pos (jw_lt hn p)]; rfl
/-- With fewer than there are workers no script is fair that has so many. -/
theorem fair_least {n : Nat} {l : List Pk} {k : Nat} (hn : 1 ≤ n) (h : fair n l k = true) : n ≤ k ∨ l.length < k := by
  by_cases hk : l.length < k
  · exact .inr hk
  · refine .inl ?_
    unfold fair at h
    rw [List.all_eq_true] at h
    have h1 := h 0 (List.mem_range.2 (by omega))
    unfold fairAt at h1
    have h2 := zeros_len n _ (by simpa using h1)
    rw [sum_cnt hn, win_len (by omega)] at h2
    exact h2
theorem fair_short {n : Nat} {l : List Pk} {k : Nat} (h : fair n l k = false) : k ≤ l.length := by
  rcases Nat.lt_or_ge l.length k with hk | hk
  · exfalso
    have : fair n l k = true := by
      unfold fair
      rw [show l.length + 1 - k = 0 from by omega]; rfl
    rw [h] at this; cases this
  · exact hk
end Go.Proofs.Ytkjmknmcadloaaa
