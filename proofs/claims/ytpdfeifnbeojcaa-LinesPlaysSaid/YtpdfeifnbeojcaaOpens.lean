/- A case, as it came in. -/
import Derived.Test.YtpdfeifnbeojcaaOpenS
import Derived.Test.YtpdfeifnbeojcaaWE
namespace Go.Proofs.Ytpdfeifnbeojcaa
open Go.ChangeShapes Go.WideShapes Go.ChangeAt Go.RowKit Go.Deep

theorem u8_of {x : Int} (h : (Lit.int .u8 x).wf = true) : 0 ≤ x ∧ x ≤ 255 := by simpa [Lit.wf, IntKind.min, IntKind.max, IntKind.signed, IntKind.bits] using h
section
variable {H : Type} {enc : TypeId × Value → H} {w : World} {held : Bool}
theorem open_words {cs : List Value} {fuel : Nat} {y : DataW H × List MemPlace} (hf : DataW.trod enc Try.prog w 0 (fun _ => true) held fuel 22 cs = some y) :
    ∃ (a : Option Addr) (l : List Wd) (c : Nat), cs = [.slice a l.length c] ∧ WRow w a l ∧ (∀ x ∈ l, True) ∧ l.length ≤ c ∧ c ≤ maxLen := by
  refine open_rows_c wcell (fun _ => True) Try.underlying22 (by kernel_rfl) (by decide) (fun n cs' y ht hl => ?_) hf
  obtain ⟨_, hok⟩ := leaves_ok 5 33 [.int .i64, .int .i64, .int .i64, .int .i64, .int .i64] (by kernel_rfl) ht
  match cs', hl with
  | [c0, c1, c2, c3, c4], _ =>
    obtain ⟨x0, rfl, _⟩ := hok 0 (by simp) (by simp)
    obtain ⟨x1, rfl, _⟩ := hok 1 (by simp) (by simp)
    obtain ⟨x2, rfl, _⟩ := hok 2 (by simp) (by simp)
    obtain ⟨x3, rfl, _⟩ := hok 3 (by simp) (by simp)
    obtain ⟨x4, rfl, _⟩ := hok 4 (by simp) (by simp)
    exact ⟨⟨x0, x1, x2, x3, x4⟩, rfl, trivial⟩
theorem open_floats {cs : List Value} {fuel : Nat} {y : DataW H × List MemPlace} (hf : DataW.trod enc Try.prog w 0 (fun _ => true) held fuel 23 cs = some y) :
    ∃ (a : Option Addr) (l : List Flt) (c : Nat), cs = [.slice a l.length c] ∧ FRow w a l ∧ (∀ f ∈ l, 0 ≤ f.s ∧ f.s ≤ 255) ∧ l.length ≤ c ∧ c ≤ maxLen := by
  refine open_rows_c fcell (fun f => 0 ≤ f.s ∧ f.s ≤ 255) Try.underlying23 (by kernel_rfl) (by decide) (fun n cs' y ht hl => ?_) hf
  obtain ⟨_, hok⟩ := leaves_ok 5 35 [.int .u8, .int .i64, .int .i64, .int .i64, .int .i64] (by kernel_rfl) ht
  match cs', hl with
  | [c0, c1, c2, c3, c4], _ =>
    obtain ⟨x0, rfl, h0⟩ := hok 0 (by simp) (by simp)
    obtain ⟨x1, rfl, _⟩ := hok 1 (by simp) (by simp)
    obtain ⟨x2, rfl, _⟩ := hok 2 (by simp) (by simp)
    obtain ⟨x3, rfl, _⟩ := hok 3 (by simp) (by simp)
    obtain ⟨x4, rfl, _⟩ := hok 4 (by simp) (by simp)
    exact ⟨⟨x0, x1, x2, x3, x4⟩, rfl, u8_of h0⟩
theorem open_struct_val_25 {v : Value} {d : DataW H} {p : List MemPlace} {B : Nat}
    (hv : Value.okWide Try.prog w .any B 25 v) (h : DataW.Trod enc Try.prog w 0 (fun _ => true) held 25 v d p) : ∃ k : CaseV, v = k.val ∧ CaseOk w k := by
  obtain ⟨cs, rfl, hl, hf⟩ := open_fields Try.underlying25 hv h
  have hl : cs.length = 7 := hl.trans (by kernel_rfl)
  match cs, hl with
  | [c0, c1, c2, c3, c4, c5, c6], _ =>
    obtain ⟨n0, z0, h0⟩ := hf 0 _ rfl
    obtain ⟨n1, z1, h1⟩ := hf 1 _ rfl
    obtain ⟨n2, z2, h2⟩ := hf 2 _ rfl
    obtain ⟨n3, z3, h3⟩ := hf 3 _ rfl
    obtain ⟨n4, z4, h4⟩ := hf 4 _ rfl
    obtain ⟨n5, z5, h5⟩ := hf 5 _ rfl
    obtain ⟨n6, z6, h6⟩ := hf 6 _ rfl
    simp only [List.getElem_toArray, List.getElem_cons_zero, List.getElem_cons_succ] at h0 h1 h2 h3 h4 h5 h6
    simp only [show Try.prog.cellsOf 22 = 1 from by kernel_rfl, show Try.prog.cellsOf 2 = 1 from by kernel_rfl, show Try.prog.cellsOf 5 = 1 from by kernel_rfl, show Try.prog.cellsOf 23 = 1 from by kernel_rfl,
      List.drop_zero, List.drop_succ_cons, List.take_succ_cons, List.take_zero] at h0 h1 h2 h3 h4 h5 h6
    obtain ⟨a0, l0, d0, e0, r0, _, g0, m0⟩ := open_words h0
    obtain ⟨a6, l6, d6, e6, r6, u6, g6, m6⟩ := open_floats h6
    obtain ⟨x1, e1, _, _⟩ := DataW.trod_int Try.underlying2 h1
    obtain ⟨x2, e2, _, _⟩ := DataW.trod_int Try.underlying5 h2
    obtain ⟨x3, e3, _, _⟩ := DataW.trod_int Try.underlying2 h3
    obtain ⟨x4, e4, _, _⟩ := DataW.trod_int Try.underlying2 h4
    obtain ⟨x5, e5, _, _⟩ := DataW.trod_int Try.underlying2 h5
    simp only [List.cons.injEq, and_true] at e0 e1 e2 e3 e4 e5 e6
    subst e0 e1 e2 e3 e4 e5 e6
    exact ⟨⟨a0, l0, d0, ⟨x1, x2, x3, x4, x5⟩, a6, l6, d6⟩, rfl, ⟨r0, r6, u6, ⟨g0, m0⟩, g6, m6⟩⟩
end
end Go.Proofs.Ytpdfeifnbeojcaa
