/- Logs as they came in. -/
import Derived.Test.YtffpphnjokmffaaLeaf
import Derived.Test.YtffpphnjokmffaaOpen
import Derived.Test.YtffpphnjokmffaaEL
namespace Go.Proofs.Ytffpphnjokmffaa
open Go.ChangeShapes Go.WideShapes Go.ChangeAt Go.RowKit Go.Deep

theorem u8_of {x : Int} (h : (Lit.int .u8 x).wf = true) : 0 ≤ x ∧ x ≤ 255 := by simpa [Lit.wf, IntKind.min, IntKind.max, IntKind.signed, IntKind.bits] using h
theorem u16_of {x : Int} (h : (Lit.int .u16 x).wf = true) : 0 ≤ x ∧ x ≤ 65535 := by simpa [Lit.wf, IntKind.min, IntKind.max, IntKind.signed, IntKind.bits] using h
theorem i64_of {x : Int} (h : (Lit.int .i64 x).wf = true) : -9223372036854775808 ≤ x ∧ x ≤ 9223372036854775807 := by simpa [Lit.wf, IntKind.min, IntKind.max, IntKind.signed, IntKind.bits] using h
structure EvIn (e : Ev) : Prop where
  w : -9223372036854775808 ≤ e.w ∧ e.w ≤ 9223372036854775807
  k : 0 ≤ e.k ∧ e.k ≤ 255
  c : -9223372036854775808 ≤ e.c ∧ e.c ≤ 9223372036854775807
theorem open_struct_row_48 {H : Type} {enc : TypeId × Value → H} {w : World} {held : Bool} {v : Value} {d : DataW H} {p : List MemPlace} {B : Nat}
    (hv : Value.okWide Try.prog w .any B 22 v) (h : DataW.Trod enc Try.prog w 0 (fun _ => true) held 22 v d p) :
    ∃ (a : Option Addr) (l : List Ev) (c : Nat), v = .slice a l.length c ∧ ERow w a l ∧ (∀ f ∈ l, EvIn f) ∧ l.length ≤ c ∧ c ≤ maxLen := by
  refine open_rows ecell EvIn Try.underlying22 (by kernel_rfl) (by decide) (fun n cs' y ht hl => ?_) hv h
  obtain ⟨_, hok⟩ := leaves_ok 6 48 [.int .i64, .int .u8, .int .i64] (by kernel_rfl) ht
  match cs', hl with
  | [c0, c1, c2], _ =>
    obtain ⟨x0, rfl, h0⟩ := hok 0 (by simp) (by simp)
    obtain ⟨x1, rfl, h1⟩ := hok 1 (by simp) (by simp)
    obtain ⟨x2, rfl, h2⟩ := hok 2 (by simp) (by simp)
    exact ⟨⟨x0, x1, x2⟩, rfl, i64_of h0, u8_of h1, i64_of h2⟩
end Go.Proofs.Ytffpphnjokmffaa
