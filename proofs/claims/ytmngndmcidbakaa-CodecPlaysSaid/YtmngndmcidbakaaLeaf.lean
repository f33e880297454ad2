/- Values whose cells are integers, flags and strings, structs within structs or not: what came in, opened cell by cell. -/
import Derived.Test.YtmngndmcidbakaaOpen
namespace Go.Proofs.Ytmngndmcidbakaa
open Go.ChangeShapes Go.WideShapes Go.ChangeAt Go.RowKit Go.Deep

inductive Leaf where
  | int (k : IntKind)
  | bool
  | str
def Leaf.ok : Leaf → Value → Prop
  | .int k, c => ∃ x : Int, c = .int k x ∧ (Lit.int k x).wf = true
  | .bool, c => ∃ b : Bool, c = .bool b
  | .str, c => ∃ s : ByteArray, c = .string s ∧ s.size ≤ maxLen
def hasLeaves (P : Program) : Nat → TypeId → List Leaf → Bool
  | 0, _, _ => false
  | n + 1, t, ls => match P.underlying t with
    | some (.int k) => match ls with | [.int k'] => decide (k' = k) | _ => false
    | some .bool => match ls with | [.bool] => true | _ => false
    | some .string => match ls with | [.str] => true | _ => false
    | some (.struct fs) => decide (P.cellsOf t = ls.length) && (List.range ls.length).all fun i => fs.toList.any fun f => decide (f.offset ≤ i) && decide (i < f.offset + P.cellsOf f.type) && hasLeaves P n f.type ((ls.drop f.offset).take (P.cellsOf f.type))
    | _ => false
section
variable {H : Type} {enc : TypeId × Value → H} {P : Program} {w : World} {base : Nat} {spare : Nat → Bool} {held : Bool}
theorem leaves_ok : ∀ (n : Nat) (t : TypeId) (ls : List Leaf) {fuel : Nat} {cs : List Value} {x : DataW H × List MemPlace}, hasLeaves P n t ls = true → DataW.trod enc P w base spare held fuel t cs = some x →
    cs.length = ls.length ∧ ∀ i (h : i < ls.length) (h' : i < cs.length), ls[i].ok cs[i]
  | 0, _, _, _, _, _, h, _ => by simp [hasLeaves] at h
  | n + 1, t, ls, fuel, cs, x, h, ht => by
    unfold hasLeaves at h
    split at h
    · rename_i k hu
      split at h
      · rename_i k'
        have hk : k' = k := of_decide_eq_true h
        subst hk
        obtain ⟨v, rfl, _, hw⟩ := DataW.trod_int hu ht
        refine ⟨rfl, fun i h1 h2 => ?_⟩
        obtain rfl : i = 0 := by simp at h1; omega
        exact ⟨v, rfl, hw⟩
      · cases h
    · rename_i hu
      split at h
      · obtain ⟨v, rfl, _⟩ := DataW.trod_bool hu ht
        refine ⟨rfl, fun i h1 h2 => ?_⟩
        obtain rfl : i = 0 := by simp at h1; omega
        exact ⟨v, rfl⟩
      · cases h
    · rename_i hu
      split at h
      · obtain ⟨v, rfl, _, hs⟩ := DataW.trod_string hu ht
        refine ⟨rfl, fun i h1 h2 => ?_⟩
        obtain rfl : i = 0 := by simp at h1; omega
        exact ⟨v, rfl, hs⟩
      · cases h
    · rename_i fs hu
      rw [Bool.and_eq_true, List.all_eq_true] at h
      obtain ⟨hc, hall⟩ := h
      have hc : P.cellsOf t = ls.length := of_decide_eq_true hc
      obtain ⟨ys, m, _, _, hlen, hyl, hf⟩ := DataW.trod_struct hu ht
      refine ⟨by rw [hlen, hc], fun i h1 h2 => ?_⟩
      have h3 := hall i (List.mem_range.2 h1)
      rw [List.any_eq_true] at h3
      obtain ⟨f, hfm, h4⟩ := h3
      rw [Bool.and_eq_true, Bool.and_eq_true] at h4
      obtain ⟨⟨h5, h6⟩, h7⟩ := h4
      have h5 : f.offset ≤ i := of_decide_eq_true h5
      have h6 : i < f.offset + P.cellsOf f.type := of_decide_eq_true h6
      obtain ⟨j, hj, hje⟩ := List.getElem_of_mem hfm
      have hj' : j < fs.size := by simpa using hj
      have hfj : fs[j]? = some f := by
        rw [Array.getElem?_eq_getElem hj']; congr 1
      have h8 := hf j f hfj
      rw [List.getElem?_eq_getElem (show j < ys.length from by omega)] at h8
      obtain ⟨h9, h10⟩ := leaves_ok n f.type _ h7 h8
      have h11 : i - f.offset < ((ls.drop f.offset).take (P.cellsOf f.type)).length := by rw [List.length_take, List.length_drop]; omega
      have := h10 (i - f.offset) h11 (by omega)
      simp only [List.getElem_take, List.getElem_drop, show f.offset + (i - f.offset) = i from by omega] at this
      exact this
    · cases h
theorem open_val {r : Reach} {B : Nat} {t : TypeId} {fs : Array Field} {v : Value} {d : DataW H} {p : List MemPlace} (n : Nat) (ls : List Leaf) (ht : P.underlying t = some (.struct fs)) (hleaf : hasLeaves P n t ls = true)
    (hv : Value.okWide P w r B t v) (h : DataW.Trod enc P w base spare held t v d p) : ∃ cs : List Value, v = .agg cs.toArray ∧ cs.length = ls.length ∧ ∀ i (h : i < ls.length) (h' : i < cs.length), ls[i].ok cs[i] := by
  obtain ⟨cs, rfl, _⟩ := okWide_struct ht hv
  obtain ⟨l⟩ := cs
  obtain ⟨fuel, hf⟩ := h
  have hf' : DataW.trod enc P w base spare held fuel t l = some (d, p) := hf
  obtain ⟨h1, h2⟩ := leaves_ok n t ls hleaf hf'
  exact ⟨l, rfl, h1, h2⟩
end
end Go.Proofs.Ytmngndmcidbakaa
