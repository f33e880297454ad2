/- Left, Size, and the methods of no table. -/
import Derived.Test.YtoannafiemnijaaGet
namespace Go.Proofs.Ytoannafiemnijaa
open Go.RowKit

theorem leftI (gt gm gc n : Nat) (st : Nat → Option Int) (w : World) (h : Tab kI w gt gm gc n st) :
    Calls Try.prog 26 #[.pointer (some ⟨gt, 0, none⟩)] w fun r w' => r = .returned (.int .i64 (left st n)) ∧ Below w.heap.size w w' := by
  have c2 := hide (h.box.cell 2)
  go_enter Try.func26, Try.ntmps26
  go_wp2_with fail
  refine (load64_any _ _ (left st n) _ c2.out).mono ?_
  rintro r w2 ⟨rfl, rfl⟩
  go_wp2_with fail
  go_returns
  exact ⟨rfl, by go_grown⟩
theorem leftP (gt gm gc n : Nat) (st : Nat → Option (Int × ByteArray)) (w : World) (h : Tab kP w gt gm gc n st) :
    Calls Try.prog 15 #[.pointer (some ⟨gt, 0, none⟩)] w fun r w' => r = .returned (.int .i64 (left st n)) ∧ Below w.heap.size w w' := by
  have c2 := hide (h.box.cell 2)
  go_enter Try.func15, Try.ntmps15
  go_wp2_with fail
  refine (load64_any _ _ (left st n) _ c2.out).mono ?_
  rintro r w2 ⟨rfl, rfl⟩
  go_wp2_with fail
  go_returns
  exact ⟨rfl, by go_grown⟩
theorem sizeI (gt gm gc n : Nat) (st : Nat → Option Int) (w : World) (h : Tab kI w gt gm gc n st) :
    Calls Try.prog 25 #[.pointer (some ⟨gt, 0, none⟩)] w fun r w' => r = .returned (.int .i64 n) ∧ Below w.heap.size w w' := by
  have hn := h.le
  have c2 := h.box.cell 0
  go_enter Try.func25, Try.ntmps25
  go_wp2_with fail
  go_returns
  exact ⟨rfl, by go_grown⟩
theorem sizeP (gt gm gc n : Nat) (st : Nat → Option (Int × ByteArray)) (w : World) (h : Tab kP w gt gm gc n st) :
    Calls Try.prog 17 #[.pointer (some ⟨gt, 0, none⟩)] w fun r w' => r = .returned (.int .i64 n) ∧ Below w.heap.size w w' := by
  have hn := h.le
  have c2 := h.box.cell 0
  go_enter Try.func17, Try.ntmps17
  go_wp2_with fail
  go_returns
  exact ⟨rfl, by go_grown⟩

theorem nil_get (i : Int) (w : World) : Calls Try.prog 21 #[.pointer none, .int .i64 i] w fun r w' => r = .returned (.tuple #[.int .i64 0, .int .i64 2]) ∧ Below w.heap.size w w' := by
  go_enter Try.func21, Try.ntmps21
  go_wp2_with fail
  go_returns
  exact ⟨rfl, by go_grown⟩
theorem nil_all (w : World) : Calls Try.prog 22 #[.pointer none] w fun r w' => r = .returned (.tuple #[.slice none 0 0, .int .i64 2]) ∧ Below w.heap.size w w' := by
  go_enter Try.func22, Try.ntmps22
  go_wp2_with fail
  go_returns
  exact ⟨rfl, by go_grown⟩
theorem nil_put (i v : Int) (w : World) : Calls Try.prog 24 #[.pointer none, .int .i64 i, .int .i64 v] w fun r w' => r = .returned (.int .i64 2) ∧ Below w.heap.size w w' := by
  go_enter Try.func24, Try.ntmps24
  go_wp2_with fail
  go_returns
  exact ⟨rfl, by go_grown⟩
theorem nil_size (w : World) : Calls Try.prog 25 #[.pointer none] w fun r w' => r = .returned (.int .i64 0) ∧ Below w.heap.size w w' := by
  go_enter Try.func25, Try.ntmps25
  go_wp2_with fail
  go_returns
  exact ⟨rfl, by go_grown⟩
theorem nil_left (w : World) : Calls Try.prog 26 #[.pointer none] w fun r w' => r = .returned (.int .i64 0) ∧ Below w.heap.size w w' := by
  go_enter Try.func26, Try.ntmps26
  go_wp2_with fail
  go_returns
  exact ⟨rfl, by go_grown⟩
end Go.Proofs.Ytoannafiemnijaa
