/- The walk of CounterNil. -/
import Derived.Test.YtcgchcngiebgpaaAnchor
namespace Go.Proofs.Ytcgchcngiebgpaa
open Go.RowKit

theorem down_nil (i : Int) (w : World) : Calls Try.prog 16 #[.pointer none, .int .i64 i] w fun r w' => r = .returned (.tuple #[.int .i64 0, .int .i64 2]) ∧ w = w' := by
  go_enter Try.func16, Try.ntmps16
  go_wp2_with fail
  go_step3
  go_wp2
  rw [Exit.noGoto_ret]
  go_returns
  exact ⟨rfl, rfl⟩
theorem left_nil (i : Int) (w : World) : Calls Try.prog 18 #[.pointer none, .int .i64 i] w fun r w' => r = .returned (.tuple #[.int .i64 0, .int .i64 2]) ∧ w = w' := by
  go_enter Try.func18, Try.ntmps18
  go_wp2
  go_returns
  exact ⟨rfl, rfl⟩
theorem told_nil (w : World) : Calls Try.prog 12 #[.pointer none] w fun r w' => r = .returned (.tuple #[.int .i64 0, .int .i64 0]) ∧ w = w' := by
  go_enter Try.func12, Try.ntmps12
  go_wp2
  go_returns
  exact ⟨rfl, rfl⟩
theorem offer_nil (n e : Int) (w : World) : Calls Try.prog 10 #[.pointer none, .int .i64 n, .int .i64 e] w fun r w' => r = .returned (.int .i64 2) ∧ w = w' := by
  go_enter Try.func10, Try.ntmps10
  go_wp2_with fail
  go_step3
  go_wp2
  rw [Exit.noGoto_ret]
  go_returns
  exact ⟨rfl, rfl⟩

theorem walk_CounterNil (w : World) (i : Int) (_wi : (Lit.int .i64 i).wf = true) (n : Int) (_wn : (Lit.int .i64 n).wf = true) (e : Int) (_we : (Lit.int .i64 e).wf = true) :
    Calls Try.prog 7 #[.int .i64 i, .int .i64 n, .int .i64 e] w fun r w' => r = .returned (.bool true) ∧ Below w.heap.size w w' := by
  go_enter Try.func7, Try.ntmps7
  go_wp2_with fail
  refine (down_nil _ _).mono ?_
  rintro r w2 ⟨rfl, rfl⟩
  go_wp2_with fail
  refine (left_nil _ _).mono ?_
  rintro r w2 ⟨rfl, rfl⟩
  go_wp2_with fail
  refine (told_nil _).mono ?_
  rintro r w2 ⟨rfl, rfl⟩
  go_wp2_with fail
  refine (offer_nil _ _ _).mono ?_
  rintro r w2 ⟨rfl, rfl⟩
  go_wp2_with fail
  refine (works_any _).mono ?_
  rintro e w2 ⟨rfl, k2⟩
  go_wp2
  go_returns
  exact ⟨rfl, k2⟩
end Go.Proofs.Ytcgchcngiebgpaa
