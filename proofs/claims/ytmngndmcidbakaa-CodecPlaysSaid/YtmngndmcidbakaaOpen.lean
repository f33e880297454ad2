/- Arguments that came in, opened to what a walk is told of them: a slice of integers, a struct of integers by value, a slice of structs of integers. -/
import Derived.Test.YtmngndmcidbakaaBase
import Derived.ProofKit
import Derived.OpenShut
import Derived.ChangeOld
import Derived.Lib.SmallJoins
import Derived.Deep.Slices
import Derived.Deep.Fields
import Derived.ChangeSame
namespace Go.Proofs.Ytmngndmcidbakaa
open Go.ChangeShapes Go.WideShapes Go.ChangeAt Go.RowKit Go.Deep

theorem cell_lt {w : World} {a : Addr} {v : Value} (h : w.cell? a = some v) : a.block < w.heap.size := by
  unfold World.cell? at h
  rcases Nat.lt_or_ge a.block w.heap.size with hlt | hge
  · exact hlt
  · rw [Array.getElem?_eq_none hge] at h; cases h

/-- Cells from an address on, as the reader gives them, are a Row. -/
theorem row_of_cells {w : World} {x : Addr} {l : List Value} (hl : l.length ≤ 9223372036854775807) (h : ∀ i (hi : i < l.length), w.cell? (x.add i) = some l[i]) : Row w (some x) l := by
  refine ⟨hl, fun hp => ?_⟩
  obtain ⟨b, off, spot⟩ := x
  have h0 := h 0 hp
  have hspot : spot = none := by simpa [Addr.add] using World.cell?_spot h0
  subst hspot
  refine ⟨b, off, rfl, by simpa [Addr.add] using cell_lt h0, fun i hi => ?_⟩
  have := h i hi
  by_cases h0 : i = 0
  · subst h0; simpa [Addr.add] using this
  · simpa [Addr.add, h0] using this

section
variable {H : Type} {enc : TypeId × Value → H} {P : Program} {w : World} {spare : Nat → Bool} {held : Bool}
theorem open_int_row {t e : TypeId} {k : IntKind} {v : Value} {d : DataW H} {p : List MemPlace} {B : Nat} (ht : P.underlying t = some (.slice e)) (he : P.underlying e = some (.int k)) (hE : P.cellsOf e = 1)
    (hv : Value.okWide P w .any B t v) (h : DataW.Trod enc P w 0 (fun _ => true) held t v d p) :
    ∃ (a : Option Addr) (l : List Int) (c : Nat), v = .slice a l.length c ∧ Row w a (l.map (Value.int k)) ∧ (∀ n ∈ l, (Lit.int k n).wf = true) ∧ l.length ≤ c ∧ c ≤ maxLen := by
  obtain ⟨a, len, cap, rfl⟩ := okWide_slice ht hv
  obtain ⟨fuel, hf⟩ := h
  rcases open_ints ht he hE hf with ⟨hcs, _⟩ | ⟨x, l, c, zs, hcs, _, hl, hm, hz, _, hcell, hwz⟩
  · simp [Value.cells] at hcs
    obtain ⟨rfl, rfl, rfl⟩ := hcs
    exact ⟨none, [], 0, rfl, ⟨by simp, fun h => by simp at h⟩, by simp, by simp, by simp⟩
  · simp [Value.cells] at hcs
    obtain ⟨rfl, rfl, rfl⟩ := hcs
    have hz' : zs.length = cap := by simpa using hz
    have hlen : (zs.take len).length = len := by rw [List.length_take]; omega
    refine ⟨some x, zs.take len, cap, by rw [hlen], row_of_cells (by rw [List.length_map, hlen]; unfold maxLen at hm; omega) (fun i hi => ?_), fun n hn => hwz n (List.mem_of_mem_take hn), by rw [hlen]; exact hl, hm⟩
    have hi' : i < len := by rw [List.length_map, hlen] at hi; exact hi
    rw [hcell i (by omega)]
    simp [List.getElem?_eq_getElem (show i < zs.length from by omega)]

theorem open_int_row_d {t e : TypeId} {k : IntKind} {v : Value} {d : DataW H} {p : List MemPlace} {B : Nat} (ht : P.underlying t = some (.slice e)) (he : P.underlying e = some (.int k)) (hE : P.cellsOf e = 1)
    (hv : Value.okWide P w .any B t v) (h : DataW.Trod enc P w 0 (fun _ => true) held t v d p) :
    ∃ (a : Option Addr) (l : List Int) (c : Nat), v = .slice a l.length c ∧ Row w a (l.map (Value.int k)) ∧ (∀ n ∈ l, (Lit.int k n).wf = true) ∧ l.length ≤ c ∧ c ≤ maxLen ∧
      ((d = .nil ∧ c = 0) ∨ ∃ elems rest, d = .slice elems rest ∧ elems.length + rest.length = c) := by
  obtain ⟨a, l, c, hvv, h1, h2, h3, h4⟩ := open_int_row ht he hE hv h
  refine ⟨a, l, c, hvv, h1, h2, h3, h4, ?_⟩
  obtain ⟨fuel, hf⟩ := h
  rcases open_ints ht he hE hf with ⟨hcs, hx⟩ | ⟨x, l', c', zs, hcs, _, hl, hm, hz, hx, hcell, hwz⟩
  · rw [hvv] at hcs
    simp [Value.cells] at hcs
    simp only [Prod.mk.injEq] at hx
    exact .inl ⟨hx.1, hcs.2.2⟩
  · rw [hvv] at hcs
    simp [Value.cells] at hcs
    simp only [Prod.mk.injEq] at hx
    have hz' : zs.length = c' := by simpa using hz
    refine .inr ⟨_, _, hx.1, ?_⟩
    simp only [lits, List.length_map, List.length_take, List.length_drop]
    omega

theorem list_of_all {α : Type} {Q : Nat → α → Prop} : ∀ n, (∀ i, i < n → ∃ x, Q i x) → ∃ l : List α, l.length = n ∧ ∀ i (h : i < l.length), Q i l[i]
  | 0, _ => ⟨[], rfl, fun i h => absurd h (by simp)⟩
  | n + 1, h => by
    obtain ⟨l, hl, hq⟩ := list_of_all n (fun i hi => h i (by omega))
    obtain ⟨x, hx⟩ := h n (by omega)
    refine ⟨l ++ [x], by simp [hl], fun i hi => ?_⟩
    by_cases e : i < l.length
    · rw [List.getElem_append_left e]; exact hq i e
    · have e' : i = n := by simp at hi; omega
      subst e'
      rw [List.getElem_append_right (by omega)]
      simpa using hx

/-- A slice of elements of 'sz' cells each, opened by what one element's reading gives. -/
theorem open_rows {α : Type} (cellsOf : α → List Value) (good : α → Prop) {t e : TypeId} {sz : Nat} {v : Value} {d : DataW H} {p : List MemPlace} {B : Nat} (ht : P.underlying t = some (.slice e)) (hE : P.cellsOf e = sz) (hsz : 0 < sz)
    (hstep : ∀ n cs' y, DataW.trod enc P w 0 (fun _ => true) held n e cs' = some y → cs'.length = sz → ∃ x, cs' = cellsOf x ∧ good x)
    (hv : Value.okWide P w .any B t v) (h : DataW.Trod enc P w 0 (fun _ => true) held t v d p) :
    ∃ (a : Option Addr) (l : List α) (c : Nat), v = .slice a l.length c ∧ RowS w a sz (l.map cellsOf) ∧ (∀ x ∈ l, good x) ∧ l.length ≤ c ∧ c ≤ maxLen := by
  obtain ⟨a, len, cap, rfl⟩ := okWide_slice ht hv
  obtain ⟨fuel, hf⟩ := h
  rcases open_slice ht hf with ⟨hcs, _⟩ | ⟨x, l, c, m, n, D, Pl, hcs, _, hl, hm, hmm, _, hi⟩
  · simp [Value.cells] at hcs
    obtain ⟨rfl, rfl, rfl⟩ := hcs
    exact ⟨none, [], 0, rfl, ⟨by simp, fun h => by simp at h⟩, by simp, by simp, by simp⟩
  · simp [Value.cells] at hcs
    obtain ⟨rfl, rfl, rfl⟩ := hcs
    have hmm' : m = cap := by simpa using hmm
    subst hmm'
    obtain ⟨L, hL, hq⟩ := list_of_all (Q := fun i y => good y ∧ (cellsOf y).length = sz ∧ ∀ j (hj : j < (cellsOf y).length), w.cell? ((x.add (i * sz)).add j) = some (cellsOf y)[j]) len (fun i hil => by
      obtain ⟨cs', hc, ht'⟩ := hi i (by omega)
      rw [hE] at hc
      obtain ⟨_, hcl, hat⟩ := World.cells?_some hc
      obtain ⟨y, rfl, hg⟩ := hstep _ _ _ ht' hcl
      exact ⟨y, hg, hcl, fun j hj => by rw [hat j (by omega), List.getElem?_eq_getElem hj]⟩)
    refine ⟨some x, L, m, by rw [hL], ⟨by rw [List.length_map, hL]; unfold maxLen at hm; omega, fun hp => ?_⟩, fun y hy => ?_, by omega, hm⟩
    · rw [List.length_map] at hp
      have h0 := (hq 0 hp).2.2 0 (by rw [(hq 0 hp).2.1]; exact hsz)
      obtain ⟨b, off, spot⟩ := x
      have hspot : spot = none := by simpa [Addr.add] using World.cell?_spot h0
      subst hspot
      have hadd : ∀ i j, ((⟨b, off, none⟩ : Addr).add i).add j = ⟨b, off + i + j, none⟩ := fun i j => by
        unfold Addr.add
        by_cases h1 : i = 0 <;> by_cases h2 : j = 0 <;> simp [h1, h2, Nat.add_assoc]
      refine ⟨b, off, rfl, by have := cell_lt h0; rw [hadd] at this; exact this, fun i hi j hj => ?_⟩
      rw [List.length_map] at hi
      simp only [List.getElem_map] at hj ⊢
      have := (hq i hi).2.2 j hj
      rw [hadd] at this
      exact this
    · obtain ⟨i, hi', rfl⟩ := List.getElem_of_mem hy
      exact (hq i hi').1
/-- One element whose fields are integers, one cell each: its reading. -/
theorem ints_of_struct {e : TypeId} {fs : Array Field} (ks : List IntKind) (he : P.underlying e = some (.struct fs)) (hone : oneCellFields P fs = true) (hks : (fs.toList.map fun f => P.underlying f.type) = ks.map fun k => some (.int k))
    {base : Nat} {sp : Nat → Bool} {n : Nat} {cs : List Value} {y : DataW H × List MemPlace} (h : DataW.trod enc P w base sp held n e cs = some y) (hl : cs.length = ks.length) :
    ∃ xs : List Int, xs.length = ks.length ∧ cs = List.zipWith Value.int ks xs ∧ ∀ j (hj : j < ks.length) (hx : j < xs.length), (Lit.int ks[j] xs[j]).wf = true := by
  obtain ⟨ys, n', _, hy, hlen, hyl, hf⟩ := DataW.trod_struct he h
  have hfs : fs.size = ks.length := by have := congrArg List.length hks; simpa using this
  obtain ⟨xs, hxs, hq⟩ := list_of_all (Q := fun j x => ∀ hj : j < ks.length, cs[j]? = some (Value.int ks[j] x) ∧ (Lit.int ks[j] x).wf = true) ks.length (fun j hj => by
    have hjf : fs[j]? = some (fs[j]'(by omega)) := Array.getElem?_eq_getElem (by omega)
    obtain ⟨ho, hk⟩ := hone_of hone j _ hjf
    have h1 := hf j _ hjf
    rw [ho, hk] at h1
    have hu : P.underlying (fs[j]'(by omega)).type = some (.int ks[j]) := by
      have := congrArg (fun l => l[j]?) hks
      simpa [hjf, List.getElem?_eq_getElem hj, show j < fs.size from by omega] using this
    have hc1 : (cs.drop j).take 1 = [cs[j]'(by omega)] := by
      rw [List.drop_eq_getElem_cons (by omega)]; rfl
    rw [hc1] at h1
    have hys : ys[j]? = some (ys[j]'(by omega)) := List.getElem?_eq_getElem (by omega)
    rw [hys] at h1
    obtain ⟨x, hx, _, hwf⟩ := DataW.trod_int hu h1
    simp only [List.cons.injEq, and_true] at hx
    exact ⟨x, fun _ => ⟨by rw [List.getElem?_eq_getElem (by omega), hx], hwf⟩⟩)
  refine ⟨xs, hxs, List.ext_getElem? fun j => ?_, fun j hj hx => (hq j hx hj).2⟩
  by_cases hj : j < ks.length
  · rw [(hq j (by omega) hj).1]
    simp [List.getElem?_zipWith, List.getElem?_eq_getElem hj, List.getElem?_eq_getElem (show j < xs.length from by omega)]
  · rw [List.getElem?_eq_none (by omega), List.getElem?_eq_none (by simp; omega)]
end
end Go.Proofs.Ytmngndmcidbakaa
