/- A slice of failures that came in. -/
import Derived.Test.YtcgchcngiebgpaaOpen
import Derived.Test.YtcgchcngiebgpaaLeast
namespace Go.Proofs.Ytcgchcngiebgpaa
open Go.ChangeShapes Go.WideShapes Go.ChangeAt Go.RowKit Go.Deep

theorem two_of {l : List Int} (h : l.length = 2) : ∃ x y, l = [x, y] := by
  match l, h with
  | [x, y], _ => exact ⟨x, y, rfl⟩

theorem open_struct_row_34 {H : Type} {enc : TypeId × Value → H} {w : World} {held : Bool} {v : Value} {d : DataW H} {p : List MemPlace} {B : Nat}
    (hv : Value.okWide Try.prog w .any B 22 v) (h : DataW.Trod enc Try.prog w 0 (fun _ => true) held 22 v d p) :
    ∃ (a : Option Addr) (l : List (Int × Int)) (c : Nat), v = .slice a l.length c ∧ RowS w a 2 (prs l) ∧ (∀ f ∈ l, (Lit.int .i64 f.1).wf = true ∧ (Lit.int .i64 f.2).wf = true) ∧ l.length ≤ c ∧ c ≤ maxLen := by
  refine open_rows (fun f : Int × Int => [.int .i64 f.1, .int .i64 f.2]) (fun f => (Lit.int .i64 f.1).wf = true ∧ (Lit.int .i64 f.2).wf = true) Try.underlying22 (by kernel_rfl) (by decide) (fun n cs' y ht hl => ?_) hv h
  obtain ⟨xs, hxs, rfl, hw⟩ := ints_of_struct [.i64, .i64] Try.underlying34 (by kernel_rfl) (by kernel_rfl) ht hl
  obtain ⟨x, y, rfl⟩ := two_of hxs
  exact ⟨(x, y), rfl, hw 0 (by decide) (by simp), hw 1 (by decide) (by simp)⟩
end Go.Proofs.Ytcgchcngiebgpaa
