/- The walk of StrutSigns: margins of one sign come to the one that is farthest from 0, whatever two int64 are handed in. -/
import Derived.Test.YtgljpedmmmnhbaaWalks3
namespace Go.Proofs.Ytgljpedmmmnhbaa
open Go.RowKit

theorem joined_eq (a : Option Addr) (l : List Int) (cap : Nat) (w : World) (h : Row w a (ints l)) {x y : Int} (hp : l.foldl jn (0, 0) = (x, y)) :
    Calls Try.prog 8 #[.slice a l.length cap] w fun e w' => e = .returned (.agg #[.int .i64 x, .int .i64 y]) ∧ Below w.heap.size w w' :=
  (joined_any a l cap w h).mono fun e w' ⟨he, hb⟩ => ⟨by rw [he, hp], hb⟩

theorem row_new (w : World) (l : List Int) (hl : l.length ≤ 9223372036854775807) : Row (w.alloc (.cells (ints l).toArray 2)) (some ⟨w.heap.size, 0, none⟩) (ints l) := by
  simpa using (Blk.new w 2 (ints l).toArray).row (by simpa [ints] using hl)

theorem signs_plain (m n : Int) : ∃ x y : Int, [m, n].foldl jn (0, 0) = (x, y) ∧ [m, 0, n, 0].foldl jn (0, 0) = (x, y) ∧ x = max (max 0 m) n ∧ y = min (min 0 m) n := by
  refine ⟨max (max 0 m) n, min (min 0 m) n, rfl, ?_, rfl, rfl⟩
  simp only [List.foldl, jn, Prod.mk.injEq]
  constructor <;> omega

set_option maxHeartbeats 1000000 in
theorem walk_StrutSigns (w : World) (m : Int) (w0 : (Lit.int .i64 m).wf = true) (n : Int) (w1 : (Lit.int .i64 n).wf = true) :
    Calls Try.prog 3 #[.int .i64 m, .int .i64 n] w fun e w' => e = .returned (.bool true) ∧ Below w.heap.size w w' := by
  have hm : -9223372036854775808 ≤ m ∧ m ≤ 9223372036854775807 := by simpa [Lit.wf, IntKind.min, IntKind.max, IntKind.signed, IntKind.bits] using w0
  have hn : -9223372036854775808 ≤ n ∧ n ≤ 9223372036854775807 := by simpa [Lit.wf, IntKind.min, IntKind.max, IntKind.signed, IntKind.bits] using w1
  clear w0 w1
  obtain ⟨x, y, h2, h4, hx, hy⟩ := signs_plain m n
  have hb1 : 0 ≤ x := by omega
  have hb2 : x ≤ 9223372036854775807 := by omega
  have hb3 : y ≤ 0 := by omega
  have hb4 : -9223372036854775808 ≤ y := by omega
  have H2 := hide h2
  have H4 := hide h4
  have HX := hide hx
  have HY := hide hy
  clear h2 h4 hx hy
  have E1 : 0 ≤ m → 0 ≤ n → m ≤ n → (x + y == n) = true := by have := HX.out; have := HY.out; intros; simp; omega
  have E2 : 0 ≤ m → 0 ≤ n → n ≤ m → (x + y == m) = true := by have := HX.out; have := HY.out; intros; simp; omega
  have E3 : m ≤ 0 → n ≤ 0 → m ≤ n → (x + y == m) = true := by have := HX.out; have := HY.out; intros; simp; omega
  have E4 : m ≤ 0 → n ≤ 0 → n ≤ m → (x + y == n) = true := by have := HX.out; have := HY.out; intros; simp; omega
  have E5 : ¬ (0 ≤ m ∧ 0 ≤ n) → ¬ (m ≤ 0 ∧ n ≤ 0) → (x + y == m + n) = true := by have := HX.out; have := HY.out; intros; simp; omega
  by_cases c1 : 0 ≤ m <;> by_cases c2 : 0 ≤ n <;> by_cases c3 : m ≤ 0 <;> by_cases c4 : n ≤ 0 <;> by_cases c5 : m < n <;> by_cases c6 : n < m
  all_goals try (exfalso; omega)
  all_goals
    try have F1 : (x + y == n) = true := by first | exact E1 (by omega) (by omega) (by omega) | exact E4 (by omega) (by omega) (by omega)
    try have F2 : (x + y == m) = true := by first | exact E2 (by omega) (by omega) (by omega) | exact E3 (by omega) (by omega) (by omega)
    try have F3 : (x + y == m + n) = true := E5 (by omega) (by omega)
    clear E1 E2 E3 E4 E5
    go_enter Try.func3, Try.ntmps3
    go_wp2_with fail
    refine (joined_eq _ [m, n] _ _ (row_new _ _ (by simp)) H2.out).mono ?_
    rintro e w2 ⟨rfl, k2⟩
    have t2 := below_call (w := w) (by go_grown) k2
    have s2 := t2.size
    go_wp2_with fail
    refine (sum_any _ _ _ hb1 hb2 hb3 hb4).mono ?_
    rintro e w3 ⟨rfl, k3⟩
    have t3 := below_call (w := w) (by go_grown) k3
    have s3 := t3.size
    go_wp2_with fail
    refine (joined_eq _ [m, 0, n, 0] _ _ (row_new _ _ (by simp)) H4.out).mono ?_
    rintro e w4 ⟨rfl, k4⟩
    have t4 := below_call (w := w) (by go_grown) k4
    have s4 := t4.size
    go_wp2_with fail
    refine (sum_any _ _ _ hb1 hb2 hb3 hb4).mono ?_
    rintro e w5 ⟨rfl, k5⟩
    have t5 := below_call (w := w) (by go_grown) k5
    have s5 := t5.size
    go_wp2_with fail
    refine (works_any _).mono ?_
    rintro e w6 ⟨rfl, k6⟩
    have t6 := below_call (w := w) (by go_grown) k6
    go_wp2
    go_returns
    exact ⟨rfl, t6⟩
end Go.Proofs.Ytgljpedmmmnhbaa
