/- Slices of picks, as they came in. -/
import Derived.Test.YtkjmknmcadloaaaLeaf
import Derived.Test.YtkjmknmcadloaaaOpen
import Derived.Test.YtkjmknmcadloaaaAtW
namespace Go.Proofs.Ytkjmknmcadloaaa
open Go.ChangeShapes Go.WideShapes Go.ChangeAt Go.RowKit Go.Deep

theorem i64_of {x : Int} (h : (Lit.int .i64 x).wf = true) : -9223372036854775808 ≤ x ∧ x ≤ 9223372036854775807 := by simpa [Lit.wf, IntKind.min, IntKind.max, IntKind.signed, IntKind.bits] using h
theorem u8_of {x : Int} (h : (Lit.int .u8 x).wf = true) : 0 ≤ x ∧ x ≤ 255 := by simpa [Lit.wf, IntKind.min, IntKind.max, IntKind.signed, IntKind.bits] using h
theorem open_struct_row_29 {H : Type} {enc : TypeId × Value → H} {w : World} {held : Bool} {v : Value} {d : DataW H} {p : List MemPlace} {B : Nat}
    (hv : Value.okWide Try.prog w .any B 22 v) (h : DataW.Trod enc Try.prog w 0 (fun _ => true) held 22 v d p) :
    ∃ (a : Option Addr) (l : List Pk) (c : Nat), v = .slice a l.length c ∧ PRow w a l ∧ (∀ f ∈ l, PkOk f) ∧ l.length ≤ c ∧ c ≤ maxLen := by
  refine open_rows pcell PkOk Try.underlying22 (by kernel_rfl) (by decide) (fun n cs' y ht hl => ?_) hv h
  obtain ⟨_, hok⟩ := leaves_ok 5 29 [.int .i64, .int .i64] (by kernel_rfl) ht
  match cs', hl with
  | [c0, c1], _ =>
    obtain ⟨x0, rfl, h0⟩ := hok 0 (by simp) (by simp)
    obtain ⟨x1, rfl, h1⟩ := hok 1 (by simp) (by simp)
    exact ⟨⟨x0, x1⟩, rfl, i64_of h0, i64_of h1⟩
end Go.Proofs.Ytkjmknmcadloaaa
