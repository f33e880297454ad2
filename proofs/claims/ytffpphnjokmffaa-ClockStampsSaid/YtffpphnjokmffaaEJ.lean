/- The anchor's logs: stamps, the race. -/
import Derived.Test.YtffpphnjokmffaaEE
namespace Go.Proofs.Ytffpphnjokmffaa
open Go.RowKit Go.Maps
def la : List Ev := [⟨0, 6, 5⟩, ⟨0, 2, 1⟩, ⟨1, 1, 1⟩, ⟨1, 5, 5⟩]
def lb : List Ev := [⟨0, 6, 5⟩, ⟨0, 2, 1⟩, ⟨2, 2, 1⟩, ⟨1, 1, 1⟩, ⟨1, 5, 5⟩]
theorem a00 : stamp (gl la) 0 0 = 1 := by rw [stamp_eq]; rfl
theorem a10 : stamp (gl la) 1 0 = 2 := by rw [stamp_eq]; rw [show prevW (gl la) (gl la 1).w 1 = some 0 from rfl]; simp only [optS, a00]; rfl
theorem a11 : stamp (gl la) 1 1 = 0 := by rw [stamp_eq]; rw [show prevW (gl la) (gl la 1).w 1 = some 0 from rfl]; simp only [optS]; rw [show stamp (gl la) 0 1 = 0 from by rw [stamp_eq]; rfl]; rfl
theorem a20 : stamp (gl la) 2 0 = 2 := by rw [stamp_eq]; rw [show prevW (gl la) (gl la 2).w 2 = none from rfl, show lastW (gl la) (gl la 2).c 2 = some 1 from rfl]; simp only [optS, a10]; rfl
theorem a21 : stamp (gl la) 2 1 = 1 := by rw [stamp_eq]; rw [show prevW (gl la) (gl la 2).w 2 = none from rfl, show lastW (gl la) (gl la 2).c 2 = some 1 from rfl]; simp only [optS, a11]; rfl
theorem a30 : stamp (gl la) 3 0 = 2 := by rw [stamp_eq]; rw [show prevW (gl la) (gl la 3).w 3 = some 2 from rfl]; simp only [optS, a20]; rfl
theorem a31 : stamp (gl la) 3 1 = 2 := by rw [stamp_eq]; rw [show prevW (gl la) (gl la 3).w 3 = some 2 from rfl]; simp only [optS, a21]; rfl
theorem b00 : stamp (gl lb) 0 0 = 1 := by rw [stamp_eq]; rfl
theorem b20 : stamp (gl lb) 2 0 = 0 := by rw [stamp_eq]; rfl
theorem b30 : stamp (gl lb) 3 0 = 0 := by rw [stamp_eq]; rw [show prevW (gl lb) (gl lb 3).w 3 = none from rfl, show lastW (gl lb) (gl lb 3).c 3 = some 2 from rfl]; simp only [optS, b20]; rfl
theorem b40 : stamp (gl lb) 4 0 = 0 := by rw [stamp_eq]; rw [show prevW (gl lb) (gl lb 4).w 4 = some 3 from rfl]; simp only [optS, b30]; rfl
theorem race_a : RaceIs (gl la) la.length 0 0 false := by
  refine .inr ⟨rfl, rfl, rfl, fun j hj i h => ?_⟩
  have hij := h.1
  have hj : j < 4 := hj
  by_cases hs : i = 0 ∧ j = 3
  · obtain ⟨rfl, rfl⟩ := hs
    refine h.2.2 ((before_iff (by omega)).2 ?_)
    show stamp (gl la) 0 0 ≤ stamp (gl la) 3 0
    rw [a00, a30]; omega
  · have : ∀ j, j < 4 → ∀ i, i < j → meetE (gl la i) (gl la j) = true → i = 0 ∧ j = 3 := by decide
    exact hs (this j hj i hij h.2.1)
theorem race_b : RaceIs (gl lb) lb.length 0 4 true := by
  refine .inl ⟨rfl, by decide, ⟨by omega, by decide, fun h => ?_⟩, fun j hj i h => ?_, fun i hi => by omega⟩
  · have := (before_iff (e := gl lb) (i := 0) (j := 4) (by omega)).1 h
    have h2 : stamp (gl lb) 0 0 ≤ stamp (gl lb) 4 0 := this
    rw [b00, b40] at h2; omega
  · have : ∀ j, j < 4 → ∀ i, i < j → meetE (gl lb i) (gl lb j) = true → False := by decide
    exact this j hj i h.1 h.2.1
theorem ok_a : LogOk 2 la := ⟨⟨by decide, by decide⟩, by decide, by
  intro x hx; simp [la] at hx; rcases hx with rfl | rfl | rfl | rfl <;> exact ⟨⟨by decide, by decide⟩, by decide, ⟨by decide, by decide⟩⟩⟩
theorem ok_b : LogOk 3 lb := ⟨⟨by decide, by decide⟩, by decide, by
  intro x hx; simp [lb] at hx; rcases hx with rfl | rfl | rfl | rfl | rfl <;> exact ⟨⟨by decide, by decide⟩, by decide, ⟨by decide, by decide⟩⟩⟩
theorem far_a : ∀ x ∈ la, x.c ≤ 9223372036854775807 := by intro x hx; simp [la] at hx; rcases hx with rfl | rfl | rfl | rfl <;> decide
theorem far_b : ∀ x ∈ lb, x.c ≤ 9223372036854775807 := by intro x hx; simp [lb] at hx; rcases hx with rfl | rfl | rfl | rfl | rfl <;> decide
end Go.Proofs.Ytffpphnjokmffaa
