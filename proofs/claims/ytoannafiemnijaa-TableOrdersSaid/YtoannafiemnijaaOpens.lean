/- Slices of calls, and of pairs, that came in. -/
import Derived.Test.YtoannafiemnijaaLeaf
import Derived.Test.YtoannafiemnijaaWorks
namespace Go.Proofs.Ytoannafiemnijaa
open Go.ChangeShapes Go.WideShapes Go.ChangeAt Go.RowKit Go.Deep

structure POp where
  put : Bool
  i : Int
  v : Int × ByteArray
def oc (o : POp) : List Value := [.bool o.put, .int .i64 o.i, .int .i64 o.v.1, .string o.v.2]

theorem open_struct_row_35 {H : Type} {enc : TypeId × Value → H} {w : World} {held : Bool} {v : Value} {d : DataW H} {p : List MemPlace} {B : Nat}
    (hv : Value.okWide Try.prog w .any B 22 v) (h : DataW.Trod enc Try.prog w 0 (fun _ => true) held 22 v d p) :
    ∃ (a : Option Addr) (l : List POp) (c : Nat), v = .slice a l.length c ∧ RowS w a 4 (l.map oc) ∧ (∀ f ∈ l, (Lit.int .i64 f.i).wf = true) ∧ l.length ≤ c ∧ c ≤ maxLen := by
  refine open_rows oc (fun f => (Lit.int .i64 f.i).wf = true) Try.underlying22 (by kernel_rfl) (by decide) (fun n cs' y ht hl => ?_) hv h
  obtain ⟨_, hok⟩ := leaves_ok 5 35 [.bool, .int .i64, .int .i64, .str] (by kernel_rfl) ht
  match cs', hl with
  | [c0, c1, c2, c3], _ =>
    obtain ⟨b, rfl⟩ := hok 0 (by simp) (by simp)
    obtain ⟨i, rfl, hi⟩ := hok 1 (by simp) (by simp)
    obtain ⟨x, rfl, _⟩ := hok 2 (by simp) (by simp)
    obtain ⟨s, rfl, _⟩ := hok 3 (by simp) (by simp)
    exact ⟨⟨b, i, (x, s)⟩, rfl, hi⟩
theorem open_struct_row_30 {H : Type} {enc : TypeId × Value → H} {w : World} {held : Bool} {v : Value} {d : DataW H} {p : List MemPlace} {B : Nat}
    (hv : Value.okWide Try.prog w .any B 43 v) (h : DataW.Trod enc Try.prog w 0 (fun _ => true) held 43 v d p) :
    ∃ (a : Option Addr) (l : List (Int × ByteArray)) (c : Nat), v = .slice a l.length c ∧ RowS w a 2 (l.map pc) ∧ (∀ f ∈ l, (Lit.int .i64 f.1).wf = true) ∧ l.length ≤ c ∧ c ≤ maxLen := by
  refine open_rows pc (fun f => (Lit.int .i64 f.1).wf = true) Try.underlying43 (by kernel_rfl) (by decide) (fun n cs' y ht hl => ?_) hv h
  obtain ⟨_, hok⟩ := leaves_ok 5 30 [.int .i64, .str] (by kernel_rfl) ht
  match cs', hl with
  | [c2, c3], _ =>
    obtain ⟨x, rfl, hx⟩ := hok 0 (by simp) (by simp)
    obtain ⟨s, rfl, _⟩ := hok 1 (by simp) (by simp)
    exact ⟨(x, s), rfl, hx⟩
theorem oc_at {w : World} {a : Option Addr} {L : List POp} (h : RowS w a 4 (L.map oc)) (hp : 0 < L.length) : ∃ b off, a = some ⟨b, off, none⟩ ∧ b < w.heap.size ∧
    ∀ i (hi : i < L.length), w.cell? ⟨b, off + i * 4, none⟩ = some (.bool L[i].put) ∧ w.cell? ⟨b, off + i * 4 + 1, none⟩ = some (.int .i64 L[i].i) ∧ w.cell? ⟨b, off + i * 4 + 2, none⟩ = some (.int .i64 L[i].v.1) ∧ w.cell? ⟨b, off + i * 4 + 3, none⟩ = some (.string L[i].v.2) := by
  obtain ⟨b, off, ha, hb, hc⟩ := h.2 (by simpa using hp)
  refine ⟨b, off, ha, hb, fun i hi => ⟨?_, ?_, ?_, ?_⟩⟩
  · have := hc i (by simpa using hi) 0 (by simp [oc]); simpa [oc] using this
  · have := hc i (by simpa using hi) 1 (by simp [oc]); simpa [oc] using this
  · have := hc i (by simpa using hi) 2 (by simp [oc]); simpa [oc] using this
  · have := hc i (by simpa using hi) 3 (by simp [oc]); simpa [oc] using this
end Go.Proofs.Ytoannafiemnijaa
