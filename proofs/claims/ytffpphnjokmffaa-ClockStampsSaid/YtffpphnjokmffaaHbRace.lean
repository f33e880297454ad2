/- Races, whatever the order of neighbours; under other names; lone workers. -/
import Derived.Test.YtffpphnjokmffaaHbSwap
namespace Go.Proofs.Ytffpphnjokmffaa
open Go.RowKit
section
variable {e e' : Nat → Ev}
theorem hb_all (i j : Nat) : Hb e i j ↔ i ≠ j ∧ stamp e i (e i).w ≤ stamp e j (e i).w := by
  have h1 := (stamp_spec (e := e) j).2.2 i
  have h2 := (stamp_spec (e := e) i).2.1
  rw [h2, ← h1]
  constructor
  · intro h; exact ⟨by have := hb_lt h; omega, .inr h⟩
  · rintro ⟨h, h' | h'⟩
    · exact absurd h' h
    · exact h'
/-- Is there a race among the first n? -/
def Race (e : Nat → Ev) (n : Nat) : Prop := ∃ i j, j < n ∧ Racy e i j
def Unord (e : Nat → Ev) (i j : Nat) : Prop := i ≠ j ∧ meetE (e i) (e j) = true ∧ ¬ Hb e i j ∧ ¬ Hb e j i
theorem meet_symm (a b : Ev) : meetE a b = meetE b a := by
  unfold meetE
  rw [Bool.eq_iff_iff]
  simp only [Bool.and_eq_true, Bool.or_eq_true, beq_iff_eq]
  constructor
  · rintro ⟨⟨⟨h1, h2⟩, h3⟩, h4⟩; exact ⟨⟨⟨h2, h1⟩, h3.symm⟩, h4.symm⟩
  · rintro ⟨⟨⟨h1, h2⟩, h3⟩, h4⟩; exact ⟨⟨⟨h2, h1⟩, h3.symm⟩, h4.symm⟩
theorem race_iff {n : Nat} : Race e n ↔ ∃ i j, i < n ∧ j < n ∧ Unord e i j := by
  constructor
  · rintro ⟨i, j, hj, hij, hm, hn⟩
    exact ⟨i, j, by omega, hj, by omega, hm, hn, fun h => by have := hb_lt h; omega⟩
  · rintro ⟨i, j, hi, hj, hne, hm, h1, h2⟩
    rcases Nat.lt_or_gt_of_ne hne with h | h
    · exact ⟨i, j, hj, h, hm, h1⟩
    · exact ⟨j, i, hi, h, by rw [meet_symm]; exact hm, h2⟩
theorem swp_unord {p : Nat} (ha : Apart (e p) (e (p + 1))) (h : ∀ j, e' j = e (swp p j)) (i j : Nat) : Unord e' i j ↔ Unord e (swp p i) (swp p j) := by
  unfold Unord
  have hb : ∀ i j, Hb e' i j ↔ Hb e (swp p i) (swp p j) := fun i j => by
    rw [hb_all, hb_all, h i, swp_stamp ha h, swp_stamp ha h]
    constructor
    · rintro ⟨h1, h2⟩; exact ⟨fun x => h1 (by rw [← swp_swp p i, x, swp_swp]), h2⟩
    · rintro ⟨h1, h2⟩; exact ⟨fun x => h1 (by rw [x]), h2⟩
  rw [hb, hb, h i, h j]
  constructor
  · rintro ⟨h1, h2⟩; exact ⟨fun x => h1 (by rw [← swp_swp p i, x, swp_swp]), h2⟩
  · rintro ⟨h1, h2⟩; exact ⟨fun x => h1 (by rw [x]), h2⟩
theorem swp_race {p n : Nat} (hp : p + 1 < n) (ha : Apart (e p) (e (p + 1))) (h : ∀ j, e' j = e (swp p j)) : Race e' n ↔ Race e n := by
  rw [race_iff, race_iff]
  constructor
  · rintro ⟨i, j, hi, hj, hu⟩
    exact ⟨swp p i, swp p j, swp_lt hp hi, swp_lt hp hj, (swp_unord ha h i j).1 hu⟩
  · rintro ⟨i, j, hi, hj, hu⟩
    refine ⟨swp p i, swp p j, swp_lt hp hi, swp_lt hp hj, (swp_unord ha h _ _).2 ?_⟩
    rw [swp_swp, swp_swp]; exact hu
/-! ### Lone workers -/
theorem race_one {n : Nat} (h : ∀ i j, i < n → j < n → (e i).w = (e j).w) : ¬ Race e n := by
  rintro ⟨i, j, hj, hij, _, hn⟩
  exact hn (hb_same hij (h i j (by omega) hj))
theorem race_own {n : Nat} (h : ∀ i, i < n → plE (e i) = true → (e i).c = (e i).w) : ¬ Race e n := by
  rintro ⟨i, j, hj, hij, hm, hn⟩
  unfold meetE at hm
  simp only [Bool.and_eq_true, Bool.or_eq_true, beq_iff_eq] at hm
  obtain ⟨⟨⟨h1, h2⟩, h3⟩, _⟩ := hm
  refine hn (hb_same hij ?_)
  rw [← h i (by omega) h1, ← h j hj h2, h3]
theorem hb_plain {n : Nat} (h : ∀ i, i < n → rdE (e i) = false) {i j : Nat} (hb : Hb e i j) : j < n → (e i).w = (e j).w := by
  induction hb with
  | one hk hs =>
    intro hj
    rcases hs with hs | ⟨hr, _⟩
    · exact hs
    · rw [h _ hj] at hr; cases hr
  | more hk hs _ ih =>
    intro hj
    rcases hs with hs | ⟨hr, _⟩
    · rw [ih (by omega), hs]
    · rw [h _ hj] at hr; cases hr
theorem race_plain {n : Nat} (h : ∀ i, i < n → rdE (e i) = false) : Race e n ↔ ∃ i j, j < n ∧ i < j ∧ (e i).w ≠ (e j).w ∧ meetE (e i) (e j) = true := by
  constructor
  · rintro ⟨i, j, hj, hij, hm, hn⟩
    exact ⟨i, j, hj, hij, fun hw => hn (hb_same hij hw), hm⟩
  · rintro ⟨i, j, hj, hij, hw, hm⟩
    exact ⟨i, j, hj, hij, hm, fun hb => hw (hb_plain h hb hj)⟩
/-! ### Other names -/
theorem ren_racy {n : Nat} {φ ψ : Int → Int} (h : Renamed e e' n φ ψ) {i j : Nat} (hj : j < n) : Racy e' i j ↔ Racy e i j := by
  unfold Racy
  by_cases hij : i < j
  · have hi : i < n := by omega
    have hm : meetE (e' i) (e' j) = meetE (e i) (e j) := by
      unfold meetE plE
      rw [h.k i hi, h.k j hj, h.c i hi, h.c j hj]
      congr 2
      rw [Bool.eq_iff_iff]
      simp only [beq_iff_eq]
      exact ⟨h.ci i j hi hj, fun x => by rw [x]⟩
    have hs : ∀ k, k < n → stamp e' k (e' i).w = stamp e k (e i).w := fun k hk => ren_stamp h (fun q hq => by
      rw [h.w i hi, h.w q hq]
      exact ⟨h.wi q hq _ ⟨i, hi, rfl⟩, fun x => by rw [x]⟩) k hk
    rw [hb_all, hb_all, hm, hs i hi, hs j hj]
  · simp [hij]
end
end Go.Proofs.Ytffpphnjokmffaa
