/- The walk of TableNil. -/
import Derived.Test.YtoannafiemnijaaWorks
namespace Go.Proofs.Ytoannafiemnijaa
open Go.RowKit

set_option maxHeartbeats 1000000 in
set_option maxRecDepth 100000 in
theorem walk_TableNil (w : World) (i : Int) (_hi : (Lit.int .i64 i).wf = true) (n : Int) (_hn : (Lit.int .i64 n).wf = true) (v : Int) (_hv : (Lit.int .i64 v).wf = true) :
    Calls Try.prog 6 #[.int .i64 i, .int .i64 n, .int .i64 v] w fun e w' => e = .returned (.bool true) ∧ Below w.heap.size w w' := by
  clear _hi _hn _hv
  by_cases h1 : n < 0
  · have b1 : decide (0 ≤ n) = false := by simp; omega
    have HB := hide (newI_bad n)
    go_enter Try.func6, Try.ntmps6
    go_wp2_with fail
    refine (nil_get _ _).mono ?_
    rintro r w1 ⟨rfl, k1⟩
    have t1 := hide k1
    clear k1
    go_wp2_with fail
    refine (nil_all _).mono ?_
    rintro r w2 ⟨rfl, k2⟩
    have t2 := hide (below_call t1.out k2)
    clear k2 t1
    go_wp2_with fail
    refine (HB.out w2 (.inl h1)).mono ?_
    rintro r w3 ⟨rfl, rfl⟩
    have t3 := t2
    go_wp2_with fail
    refine (nil_put _ _ _).mono ?_
    rintro r w4 ⟨rfl, k4⟩
    have t4 := hide (below_call t3.out k4)
    clear k4 t3
    go_wp2_with fail
    refine (nil_size _).mono ?_
    rintro r w5 ⟨rfl, k5⟩
    have t5 := hide (below_call t4.out k5)
    clear k5 t4
    go_wp2_with fail
    refine (nil_left _).mono ?_
    rintro r w6 ⟨rfl, k6⟩
    have t6 := hide (below_call t5.out k6)
    clear k6 t5
    go_wp2_with fail
    refine (works_any _).mono ?_
    rintro e w9 ⟨rfl, k9⟩
    have t9 := hide (below_call t6.out k9)
    clear k9
    go_wp2
    go_returns
    exact ⟨rfl, t9.out⟩
  by_cases h2 : 65536 < n
  · have b1 : decide (0 ≤ n) = true := by simp; omega
    have b2 : decide (n ≤ 65536) = false := by simp; omega
    have HB := hide (newI_bad n)
    go_enter Try.func6, Try.ntmps6
    go_wp2_with fail
    refine (nil_get _ _).mono ?_
    rintro r w1 ⟨rfl, k1⟩
    have t1 := hide k1
    clear k1
    go_wp2_with fail
    refine (nil_all _).mono ?_
    rintro r w2 ⟨rfl, k2⟩
    have t2 := hide (below_call t1.out k2)
    clear k2 t1
    go_wp2_with fail
    refine (HB.out w2 (.inr h2)).mono ?_
    rintro r w3 ⟨rfl, rfl⟩
    have t3 := t2
    go_wp2_with fail
    refine (nil_put _ _ _).mono ?_
    rintro r w4 ⟨rfl, k4⟩
    have t4 := hide (below_call t3.out k4)
    clear k4 t3
    go_wp2_with fail
    refine (nil_size _).mono ?_
    rintro r w5 ⟨rfl, k5⟩
    have t5 := hide (below_call t4.out k5)
    clear k5 t4
    go_wp2_with fail
    refine (nil_left _).mono ?_
    rintro r w6 ⟨rfl, k6⟩
    have t6 := hide (below_call t5.out k6)
    clear k6 t5
    go_wp2_with fail
    refine (works_any _).mono ?_
    rintro e w9 ⟨rfl, k9⟩
    have t9 := hide (below_call t6.out k9)
    clear k9
    go_wp2
    go_returns
    exact ⟨rfl, t9.out⟩
  obtain ⟨m, rfl⟩ := Int.eq_ofNat_of_zero_le (show 0 ≤ n by omega)
  have hm : m ≤ 65536 := by omega
  clear h1 h2
  go_enter Try.func6, Try.ntmps6
  go_wp2_with fail
  refine (nil_get _ _).mono ?_
  rintro r w1 ⟨rfl, k1⟩
  have t1 := hide k1
  clear k1
  go_wp2_with fail
  refine (nil_all _).mono ?_
  rintro r w2 ⟨rfl, k2⟩
  have t2 := hide (below_call t1.out k2)
  clear k2 t1
  go_wp2_with fail
  refine (newI_ok m w2 hm).mono ?_
  rintro r w3 ⟨gt, gm, gc, rfl, _, _, _, _, k3⟩
  have t3 := hide (below_call t2.out k3)
  clear k3
  go_wp2_with fail
  refine (nil_put _ _ _).mono ?_
  rintro r w4 ⟨rfl, k4⟩
  have t4 := hide (below_call t3.out k4)
  clear k4 t3
  go_wp2_with fail
  refine (nil_size _).mono ?_
  rintro r w5 ⟨rfl, k5⟩
  have t5 := hide (below_call t4.out k5)
  clear k5 t4
  go_wp2_with fail
  refine (nil_left _).mono ?_
  rintro r w6 ⟨rfl, k6⟩
  have t6 := hide (below_call t5.out k6)
  clear k6 t5
  go_wp2_with fail
  refine (works_any _).mono ?_
  rintro e w9 ⟨rfl, k9⟩
  have t9 := hide (below_call t6.out k9)
  clear k9
  go_wp2
  go_returns
  exact ⟨rfl, t9.out⟩
end Go.Proofs.Ytoannafiemnijaa
