/- Picks as plain numbers. -/
import Derived.Test.YtkjmknmcadloaaaRowsS
import Derived.Test.YtkjmknmcadloaaaRows
import Derived.WalkMore
import Derived.Laws.Rows
namespace Go.Proofs.Ytkjmknmcadloaaa
open Go.RowKit

/-- A pick: a worker, a victim. -/
structure Pk where
  w : Int
  v : Int
def pcell (p : Pk) : List Value := [.int .i64 p.w, .int .i64 p.v]
def means (p : Pk) (n : Int) : Pk := { w := p.w % n, v := if p.w % n = p.v % n then (p.w % n + 1) % n else p.v % n }
def behind (k n : Int) : Pk := if n = 1 then ⟨0, 0⟩ else ⟨k % n, (k % n + 1 + k / n % (n - 1)) % n⟩
theorem tmod_neg {x n : Int} (hx : x < 0) (hn : 1 ≤ n) : (x.tmod n < 0 → x.tmod n + n = x % n) ∧ (¬ x.tmod n < 0 → x.tmod n = x % n) ∧ -n < x.tmod n ∧ x.tmod n ≤ 0 := by
  obtain ⟨y, rfl⟩ : ∃ y, x = -y := ⟨-x, by omega⟩
  have h1 : (-y).tmod n = -(y.tmod n) := Int.neg_tmod y n
  have h2 : y.tmod n = y % n := Int.tmod_eq_emod_of_nonneg (by omega)
  have h3 := Int.emod_nonneg y (show n ≠ 0 by omega)
  have h4 := Int.emod_lt_of_pos y (show 0 < n by omega)
  have h5 := Int.emod_nonneg (-y) (show n ≠ 0 by omega)
  have h6 := Int.emod_lt_of_pos (-y) (show 0 < n by omega)
  have h7 := Int.emod_add_mul_ediv y n
  have h8 := Int.emod_add_mul_ediv (-y) n
  rw [h1, h2]
  obtain ⟨q, hq⟩ : ∃ q, q = y / n + (-y) / n := ⟨_, rfl⟩
  have h9 : y % n + (-y) % n + n * q = 0 := by rw [hq, Int.mul_add]; omega
  have h10 : q = 0 ∨ q = -1 := by
    rcases Int.lt_trichotomy q (-1) with h | h | h
    · exfalso
      have : n * q ≤ n * (-2) := Int.mul_le_mul_of_nonneg_left (by omega) (by omega)
      omega
    · exact .inr h
    · rcases Int.lt_trichotomy q 0 with h' | h' | h'
      · omega
      · exact .inl h'
      · exfalso
        have : n * 1 ≤ n * q := Int.mul_le_mul_of_nonneg_left (by omega) (by omega)
        omega
  rcases h10 with h | h <;> subst h <;> refine ⟨fun _ => by omega, fun _ => by omega, by omega, by omega⟩

theorem round_any (x n : Int) (w : World) (hn : 1 ≤ n) (hn2 : n ≤ 1000) (hx1 : -9223372036854775808 ≤ x) (hx2 : x ≤ 9223372036854775807) : Calls Try.prog 25 #[.int .i64 x, .int .i64 n] w fun r w' => r = .returned (.int .i64 (x % n)) ∧ w = w' := by
  by_cases h : 0 ≤ x
  · have b1 := Int.emod_nonneg x (show n ≠ 0 by omega)
    go_enter Try.func25, Try.ntmps25
    go_wp2
    go_returns
    exact ⟨rfl, rfl⟩
  · obtain ⟨t1, t2, t3, t4⟩ := tmod_neg (x := x) (n := n) (by omega) hn
    have T1 := hide t1
    have T2 := hide t2
    clear t1 t2
    by_cases hneg : x.tmod n < 0
    · go_enter Try.func25, Try.ntmps25
      go_wp2
      go_returns
      exact ⟨by rw [← T1.out hneg]; rfl, rfl⟩
    · have b3 : decide (x.tmod n < 0) = false := by simp; omega
      go_enter Try.func25, Try.ntmps25
      go_wp2
      go_returns
      exact ⟨by rw [← T2.out hneg]; rfl, rfl⟩
theorem rround_any (x n : Int) (w : World) (hn : 1 ≤ n) (hn2 : n ≤ 1000) (hx1 : -9223372036854775808 ≤ x) (hx2 : x ≤ 9223372036854775807) : Calls Try.prog 21 #[.int .i64 x, .int .i64 n] w fun r w' => r = .returned (.int .i64 (x % n)) ∧ w = w' := by
  by_cases h : 0 ≤ x
  · have b1 := Int.emod_nonneg x (show n ≠ 0 by omega)
    go_enter Try.func21, Try.ntmps21
    go_wp2
    go_returns
    exact ⟨rfl, rfl⟩
  · obtain ⟨t1, t2, t3, t4⟩ := tmod_neg (x := x) (n := n) (by omega) hn
    have T1 := hide t1
    have T2 := hide t2
    clear t1 t2
    by_cases hneg : x.tmod n < 0
    · go_enter Try.func21, Try.ntmps21
      go_wp2
      go_returns
      exact ⟨by rw [← T1.out hneg]; rfl, rfl⟩
    · have b3 : decide (x.tmod n < 0) = false := by simp; omega
      go_enter Try.func21, Try.ntmps21
      go_wp2
      go_returns
      exact ⟨by rw [← T2.out hneg]; rfl, rfl⟩
end Go.Proofs.Ytkjmknmcadloaaa
