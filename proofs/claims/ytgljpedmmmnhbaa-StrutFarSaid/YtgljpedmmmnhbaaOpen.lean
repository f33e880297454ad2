/- Arguments that came in, opened to what a walk is told of them: a slice of integers, a struct of integers by value, a slice of structs of integers. -/
import Derived.Test.YtgljpedmmmnhbaaBase
import Derived.ProofKit
import Derived.OpenShut
import Derived.ChangeOld
import Derived.Lib.SmallJoins
import Derived.Deep.Slices
import Derived.Deep.Fields
import Derived.ChangeSame
namespace Go.Proofs.Ytgljpedmmmnhbaa
open Go.ChangeShapes Go.WideShapes Go.ChangeAt Go.RowKit Go.Deep

theorem cell_lt {w : World} {a : Addr} {v : Value} (h : w.cell? a = some v) : a.block < w.heap.size := by
  unfold World.cell? at h
  rcases Nat.lt_or_ge a.block w.heap.size with hlt | hge
  · exact hlt
  · rw [Array.getElem?_eq_none hge] at h; cases h

/-- Cells from an address on, as the reader gives them, are a Row. -/
theorem row_of_cells {w : World} {x : Addr} {l : List Value} (hl : l.length ≤ 9223372036854775807) (h : ∀ i (hi : i < l.length), w.cell? (x.add i) = some l[i]) : Row w (some x) l := by
  refine ⟨hl, fun hp => ?_⟩
  obtain ⟨b, off, spot⟩ := x
  have h0 := h 0 hp
  have hspot : spot = none := by simpa [Addr.add] using World.cell?_spot h0
  subst hspot
  refine ⟨b, off, rfl, by simpa [Addr.add] using cell_lt h0, fun i hi => ?_⟩
  have := h i hi
  by_cases h0 : i = 0
  · subst h0; simpa [Addr.add] using this
  · simpa [Addr.add, h0] using this

section
variable {H : Type} {enc : TypeId × Value → H} {P : Program} {w : World} {spare : Nat → Bool} {held : Bool}
theorem open_int_row {t e : TypeId} {k : IntKind} {v : Value} {d : DataW H} {p : List MemPlace} {B : Nat} (ht : P.underlying t = some (.slice e)) (he : P.underlying e = some (.int k)) (hE : P.cellsOf e = 1)
    (hv : Value.okWide P w .any B t v) (h : DataW.Trod enc P w 0 (fun _ => true) held t v d p) :
    ∃ (a : Option Addr) (l : List Int) (c : Nat), v = .slice a l.length c ∧ Row w a (l.map (Value.int k)) ∧ (∀ n ∈ l, (Lit.int k n).wf = true) ∧ l.length ≤ c ∧ c ≤ maxLen := by
  obtain ⟨a, len, cap, rfl⟩ := okWide_slice ht hv
  obtain ⟨fuel, hf⟩ := h
  rcases open_ints ht he hE hf with ⟨hcs, _⟩ | ⟨x, l, c, zs, hcs, _, hl, hm, hz, _, hcell, hwz⟩
  · simp [Value.cells] at hcs
    obtain ⟨rfl, rfl, rfl⟩ := hcs
    exact ⟨none, [], 0, rfl, ⟨by simp, fun h => by simp at h⟩, by simp, by simp, by simp⟩
  · simp [Value.cells] at hcs
    obtain ⟨rfl, rfl, rfl⟩ := hcs
    have hz' : zs.length = cap := by simpa using hz
    have hlen : (zs.take len).length = len := by rw [List.length_take]; omega
    refine ⟨some x, zs.take len, cap, by rw [hlen], row_of_cells (by rw [List.length_map, hlen]; unfold maxLen at hm; omega) (fun i hi => ?_), fun n hn => hwz n (List.mem_of_mem_take hn), by rw [hlen]; exact hl, hm⟩
    have hi' : i < len := by rw [List.length_map, hlen] at hi; exact hi
    rw [hcell i (by omega)]
    simp [List.getElem?_eq_getElem (show i < zs.length from by omega)]
end
end Go.Proofs.Ytgljpedmmmnhbaa
