/- Structs that came in, with slices among their fields. -/
import Derived.Test.YtmngndmcidbakaaLeaf
namespace Go.Proofs.Ytmngndmcidbakaa
open Go.ChangeShapes Go.WideShapes Go.ChangeAt Go.RowKit Go.Deep
section
variable {H : Type} {enc : TypeId × Value → H} {P : Program} {w : World} {held : Bool}
/-- A slice's one cell, opened by what one element's reading gives. -/
theorem open_rows_c {α : Type} (cellsOf : α → List Value) (good : α → Prop) {t e : TypeId} {sz : Nat} {cs : List Value} {fuel : Nat} {y : DataW H × List MemPlace} (ht : P.underlying t = some (.slice e)) (hE : P.cellsOf e = sz) (hsz : 0 < sz)
    (hstep : ∀ n cs' y, DataW.trod enc P w 0 (fun _ => true) held n e cs' = some y → cs'.length = sz → ∃ x, cs' = cellsOf x ∧ good x)
    (hf : DataW.trod enc P w 0 (fun _ => true) held fuel t cs = some y) :
    ∃ (a : Option Addr) (l : List α) (c : Nat), cs = [.slice a l.length c] ∧ RowS w a sz (l.map cellsOf) ∧ (∀ x ∈ l, good x) ∧ l.length ≤ c ∧ c ≤ maxLen := by
  obtain ⟨d, p⟩ := y
  rcases open_slice ht hf with ⟨hcs, _⟩ | ⟨x, len, c, m, n, D, Pl, hcs, _, hl, hm, hmm, _, hi⟩
  · exact ⟨none, [], 0, hcs, ⟨by simp, fun h => by simp at h⟩, by simp, by simp, by simp⟩
  · have hmm' : m = c := by simpa using hmm
    subst hmm'
    obtain ⟨L, hL, hq⟩ := list_of_all (Q := fun i y => good y ∧ (cellsOf y).length = sz ∧ ∀ j (hj : j < (cellsOf y).length), w.cell? ((x.add (i * sz)).add j) = some (cellsOf y)[j]) len (fun i hil => by
      obtain ⟨cs', hc, ht'⟩ := hi i (by omega)
      rw [hE] at hc
      obtain ⟨_, hcl, hat⟩ := World.cells?_some hc
      obtain ⟨y, rfl, hg⟩ := hstep _ _ _ ht' hcl
      exact ⟨y, hg, hcl, fun j hj => by rw [hat j (by omega), List.getElem?_eq_getElem hj]⟩)
    refine ⟨some x, L, m, by rw [hL]; exact hcs, ⟨by rw [List.length_map, hL]; unfold maxLen at hm; omega, fun hp => ?_⟩, fun y hy => ?_, by omega, hm⟩
    · rw [List.length_map] at hp
      have h0 := (hq 0 hp).2.2 0 (by rw [(hq 0 hp).2.1]; exact hsz)
      obtain ⟨b, off, spot⟩ := x
      have hspot : spot = none := by simpa [Addr.add] using World.cell?_spot h0
      subst hspot
      have hadd : ∀ i j, ((⟨b, off, none⟩ : Addr).add i).add j = ⟨b, off + i + j, none⟩ := fun i j => by
        unfold Addr.add
        by_cases h1 : i = 0 <;> by_cases h2 : j = 0 <;> simp [h1, h2, Nat.add_assoc]
      refine ⟨b, off, rfl, by have := cell_lt h0; rw [hadd] at this; exact this, fun i hi j hj => ?_⟩
      rw [List.length_map] at hi
      simp only [List.getElem_map] at hj ⊢
      have := (hq i hi).2.2 j hj
      rw [hadd] at this
      exact this
    · obtain ⟨i, hi', rfl⟩ := List.getElem_of_mem hy
      exact (hq i hi').1
/-- A struct's fields, each as its own reading. -/
theorem open_fields_c {t : TypeId} {fs : Array Field} {cs : List Value} {fuel : Nat} {y : DataW H × List MemPlace} {base : Nat} {sp : Nat → Bool} (ht : P.underlying t = some (.struct fs)) (hf : DataW.trod enc P w base sp held fuel t cs = some y) :
    cs.length = P.cellsOf t ∧ ∀ (j : Nat) (f : Field), fs[j]? = some f → ∃ n y', DataW.trod enc P w base sp held n f.type ((cs.drop f.offset).take (P.cellsOf f.type)) = some y' := by
  obtain ⟨ys, m, _, _, hlen, hyl, hf⟩ := DataW.trod_struct ht hf
  refine ⟨hlen, fun j f hj => ?_⟩
  have h8 := hf j f hj
  have hj' : j < fs.size := (Array.getElem?_eq_some_iff.1 hj).1
  rw [List.getElem?_eq_getElem (show j < ys.length from by omega)] at h8
  exact ⟨_, _, h8⟩
theorem open_fields {r : Reach} {B : Nat} {t : TypeId} {fs : Array Field} {v : Value} {d : DataW H} {p : List MemPlace} {base : Nat} {sp : Nat → Bool} (ht : P.underlying t = some (.struct fs)) (hv : Value.okWide P w r B t v) (h : DataW.Trod enc P w base sp held t v d p) :
    ∃ cs : List Value, v = .agg cs.toArray ∧ cs.length = P.cellsOf t ∧ ∀ (j : Nat) (f : Field), fs[j]? = some f → ∃ n y', DataW.trod enc P w base sp held n f.type ((cs.drop f.offset).take (P.cellsOf f.type)) = some y' := by
  obtain ⟨cs, rfl, _⟩ := okWide_struct ht hv
  obtain ⟨l⟩ := cs
  obtain ⟨fuel, hf⟩ := h
  have hf' : DataW.trod enc P w base sp held fuel t l = some (d, p) := hf
  exact ⟨l, rfl, open_fields_c ht hf'⟩
end
end Go.Proofs.Ytmngndmcidbakaa
