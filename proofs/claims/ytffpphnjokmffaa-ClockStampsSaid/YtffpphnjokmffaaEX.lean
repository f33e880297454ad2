/- The table of who is before whom, column by column: the plain law of the reference's Table. -/
import Derived.Test.YtffpphnjokmffaaEO
namespace Go.Proofs.Ytffpphnjokmffaa
open Go.RowKit Go.Maps
section
variable (e : Nat → Ev)
/-- None of those between k and m writes j's cell. -/
def lastB (j k : Nat) : Nat → Bool
  | 0 => true
  | m + 1 => lastB j k m && !(decide (k < m) && (wrE (e m) && ((e m).c == (e j).c)))
def sameB (j k : Nat) : Bool := (e k).w == (e j).w
def condB (j k : Nat) : Bool := wrE (e k) && (rdE (e j) && ((e k).c == (e j).c))
def stepB (j k : Nat) : Bool := sameB e j k || (condB e j k && lastB e j k j)
def colB (j : Nat) : Nat → Nat → Bool
  | 0, _ => false
  | k + 1, i => colB j k i || (stepB e j k && (i == k || bef e i k))
def tabO (j : Nat) (i j' : Nat) : Bool := decide (j' < j) && bef e i j'
def tabM (j k : Nat) (i j' : Nat) : Bool := if j' = j then colB e j k i else decide (j' < j) && bef e i j'
def tabI (j k i0 : Nat) (i j' : Nat) : Bool := if j' = j then (if i < i0 ∨ i = k then colB e j (k + 1) i else colB e j k i) else decide (j' < j) && bef e i j'
end
def upd2 (T : Nat → Nat → Bool) (i j : Nat) (v : Bool) : Nat → Nat → Bool := fun i' j' => if i' = i ∧ j' = j then v else T i' j'
section
variable {e : Nat → Ev}
theorem lastB_iff (j k : Nat) : ∀ m, lastB e j k m = true ↔ ∀ i, k < i → i < m → ¬ (wrE (e i) = true ∧ (e i).c = (e j).c)
  | 0 => by simp [lastB]
  | m + 1 => by
    rw [lastB, Bool.and_eq_true, lastB_iff j k m]
    simp only [Bool.not_eq_true', Bool.and_eq_false_iff, decide_eq_false_iff_not, beq_eq_false_iff_ne]
    constructor
    · rintro ⟨h1, h2⟩ i hi him ⟨h3, h4⟩
      by_cases him2 : i = m
      · subst him2
        rcases h2 with h2 | h2 | h2
        · exact h2 hi
        · rw [h3] at h2; cases h2
        · exact h2 h4
      · exact h1 i hi (by omega) ⟨h3, h4⟩
    · intro h
      refine ⟨fun i hi him => h i hi (by omega), ?_⟩
      by_cases hk : k < m
      · have := h m hk (by omega)
        by_cases hw : wrE (e m) = true
        · exact .inr (.inr fun hc => this ⟨hw, hc⟩)
        · exact .inr (.inl (by simpa using hw))
      · exact .inl hk
theorem lastB_start (j k : Nat) : ∀ m, m ≤ k + 1 → lastB e j k m = true := fun m hm => (lastB_iff j k m).2 fun i h1 h2 => by omega
theorem lastB_next {j k m : Nat} (h : k < m) : lastB e j k (m + 1) = (lastB e j k m && !(wrE (e m) && ((e m).c == (e j).c))) := by rw [lastB]; simp [h]
theorem lastW_iff {c : Int} : ∀ {j k : Nat}, lastW e c j = some k ↔ k < j ∧ wrE (e k) = true ∧ (e k).c = c ∧ ∀ i, k < i → i < j → ¬ (wrE (e i) = true ∧ (e i).c = c)
  | 0, k => by simp [lastW]
  | j + 1, k => by
    unfold lastW
    split
    · next h =>
      simp only [Bool.and_eq_true, beq_iff_eq] at h
      constructor
      · intro h2
        cases h2
        exact ⟨by omega, h.1, h.2, fun i h3 h4 => by omega⟩
      · rintro ⟨h1, h2, h3, h4⟩
        by_cases hk : k = j
        · rw [hk]
        · exact absurd h (h4 j (by omega) (by omega))
    · next h =>
      simp only [Bool.and_eq_true, beq_iff_eq] at h
      rw [lastW_iff (j := j)]
      constructor
      · rintro ⟨h1, h2, h3, h4⟩
        refine ⟨by omega, h2, h3, fun i h5 h6 => ?_⟩
        by_cases hi : i = j
        · rw [hi]; exact h
        · exact h4 i h5 (by omega)
      · rintro ⟨h1, h2, h3, h4⟩
        have hkj : k ≠ j := fun hk => by subst hk; exact h ⟨h2, h3⟩
        exact ⟨by omega, h2, h3, fun i h5 h6 => h4 i h5 (by omega)⟩
theorem stepB_iff {j k : Nat} (h : k < j) : stepB e j k = true ↔ stepE e k j := by
  unfold stepB stepE sameB condB
  rw [lastW_iff]
  simp only [Bool.or_eq_true, Bool.and_eq_true, beq_iff_eq, lastB_iff]
  constructor
  · rintro (h1 | ⟨⟨h1, h2, h3⟩, h4⟩)
    · exact .inl h1
    · exact .inr ⟨h2, h, h1, h3, h4⟩
  · rintro (h1 | ⟨h2, _, h1, h3, h4⟩)
    · exact .inl h1
    · exact .inr ⟨⟨h1, h2, h3⟩, h4⟩
theorem colB_iff {j : Nat} : ∀ {k i : Nat}, k ≤ j → (colB e j k i = true ↔ ∃ k', k' < k ∧ stepE e k' j ∧ (i = k' ∨ Hb e i k'))
  | 0, i, _ => by simp [colB]
  | k + 1, i, h => by
    rw [colB, Bool.or_eq_true, colB_iff (k := k) (by omega), Bool.and_eq_true, stepB_iff (by omega), Bool.or_eq_true, beq_iff_eq, bef_hb]
    constructor
    · rintro (⟨k', h1, h2⟩ | h1)
      · exact ⟨k', by omega, h2⟩
      · exact ⟨k, by omega, h1⟩
    · rintro ⟨k', h1, h2⟩
      by_cases hk : k' = k
      · subst hk; exact .inr h2
      · exact .inl ⟨k', by omega, h2⟩
theorem colB_full (j i : Nat) : colB e j j i = bef e i j := by
  rw [Bool.eq_iff_iff, colB_iff (Nat.le_refl _), bef_hb]
  constructor
  · rintro ⟨k, h1, h2, rfl | h3⟩
    · exact .one h1 h2
    · exact .more h1 h2 h3
  · intro h
    cases h with
    | one h1 h2 => exact ⟨i, h1, h2, .inl rfl⟩
    | more h1 h2 h3 => exact ⟨_, h1, h2, .inr h3⟩
theorem tab_start (j : Nat) : tabM e j 0 = tabO e j := by
  funext i j'
  unfold tabM tabO
  split
  · next h => subst h; simp [colB]
  · rfl
theorem tab_full (j : Nat) : tabM e j j = tabO e (j + 1) := by
  funext i j'
  unfold tabM tabO
  split
  · next h => subst h; rw [colB_full]; simp
  · next h => congr 1; rw [decide_eq_decide]; omega
theorem tab_no {j k : Nat} (h : stepB e j k = false) : tabM e j (k + 1) = tabM e j k := by
  funext i j'
  unfold tabM
  split
  · rw [colB, h]; simp
  · rfl
theorem colB_self {j k : Nat} (h : stepB e j k = true) : colB e j (k + 1) k = true := by rw [colB, h]; simp
theorem tab_in {j k : Nat} (h : stepB e j k = true) : upd2 (tabM e j k) k j true = tabI e j k 0 := by
  funext i j'
  unfold upd2 tabM tabI
  by_cases hj : j' = j
  · subst hj
    by_cases hi : i = k
    · subst hi; simp [colB_self h]
    · simp [hi]
  · simp [hj]
theorem tab_next {j k i0 : Nat} (h : stepB e j k = true) (hi : i0 < k) (_hk : k < j) : upd2 (tabI e j k i0) i0 j (tabI e j k i0 i0 j || tabI e j k i0 i0 k) = tabI e j k (i0 + 1) := by
  funext i j'
  have hv : (tabI e j k i0 i0 j || tabI e j k i0 i0 k) = colB e j (k + 1) i0 := by
    unfold tabI
    rw [if_pos rfl, if_neg (by omega), if_neg (by omega), colB, h]
    have : (i0 == k) = false := by rw [beq_eq_false_iff_ne]; omega
    rw [this]
    simp [_hk]
  rw [hv]
  unfold upd2 tabI
  by_cases hj : j' = j
  · subst hj
    by_cases hii : i = i0
    · subst hii; simp
    · simp only [hii, false_and, if_false, if_true]
      have : (i < i0 + 1 ∨ i = k) ↔ (i < i0 ∨ i = k) := by omega
      simp only [this]
  · simp [hj]
theorem tab_out {j k : Nat} : tabI e j k k = tabM e j (k + 1) := by
  funext i j'
  unfold tabI tabM
  by_cases hj : j' = j
  · subst hj
    simp only [if_true]
    split
    · rfl
    · next h =>
      rw [colB]
      have h1 : (i == k) = false := by rw [beq_eq_false_iff_ne]; omega
      have h2 : bef e i k = false := by unfold bef; simp; omega
      rw [h1, h2]; simp
  · simp [hj]
theorem bef_of {j k i0 : Nat} (hk : k < j) : tabI e j k i0 i0 k = bef e i0 k := by unfold tabI; rw [if_neg (by omega)]; simp [hk]
end
end Go.Proofs.Ytffpphnjokmffaa
