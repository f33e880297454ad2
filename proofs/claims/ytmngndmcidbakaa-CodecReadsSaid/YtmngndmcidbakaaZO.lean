/- A node as a slice literal. -/
import Derived.Test.YtmngndmcidbakaaZN
import Derived.Great.BuildSlice
namespace Go.Proofs.Ytmngndmcidbakaa
open Go.RowKit
theorem info51 : (Try.prog.info? 51).map (fun i => (i.zero, i.size, i.bytes)) = some (some (.agg (ncell (0, KD.map zv) (.slice none 0 0)).toArray), 44, 328) := by kernel_rfl
theorem fold_put : ∀ (cs : List Value) (k : Nat) (z : Array Value), k + cs.length ≤ z.size → ∀ i, ((cs.zipIdx k).foldl (fun a x => a.setIfInBounds (0 * 44 + x.2) x.1) z)[i]? = if k ≤ i ∧ i < k + cs.length then cs[i - k]? else z[i]?
  | [], k, z, _, i => by
    rw [if_neg (by simp only [List.length_nil]; omega)]; rfl
  | v :: cs, k, z, h, i => by
    rw [List.length_cons] at h
    rw [List.zipIdx_cons, List.foldl_cons, fold_put cs (k + 1) _ (by rw [Array.size_setIfInBounds]; omega) i, List.length_cons]
    by_cases h1 : k + 1 ≤ i ∧ i < k + 1 + cs.length
    · rw [if_pos h1, if_pos (by omega), show i - k = (i - (k + 1)) + 1 from by omega, List.getElem?_cons_succ]
    · rw [if_neg h1, Array.getElem?_setIfInBounds]
      by_cases h2 : 0 * 44 + k = i
      · rw [if_pos h2, if_pos (by omega), if_pos (by omega), show i - k = 0 from by omega]; rfl
      · rw [if_neg h2, if_neg (by omega)]
theorem fill_list (c : List Value) (hcl : c.length = 44) (z : Array Value) (hz : z.size = 44) : Instr.fill (fun i => some (i * 44, 44)) z [(0, .agg c.toArray)] = some c.toArray := by
  simp only [Instr.fill]
  have hc : (Value.agg c.toArray).cells = c.toArray := rfl
  have hs : c.toArray.size = 44 := hcl
  rw [hc, if_neg (by rw [hs, hz]; decide)]
  refine congrArg some ?_
  rw [show c.toArray.zipIdx = (c.zipIdx).toArray from by simp, List.foldl_toArray]
  apply Array.ext_getElem?
  intro i
  rw [fold_put _ 0 z (by omega) i]
  by_cases h : i < 44
  · rw [if_pos (by omega)]; simp
  · rw [if_neg (by omega), Array.getElem?_eq_none (by omega), Array.getElem?_eq_none (by omega)]
theorem fill51 (n : Nd) (uv : Value) (z : Array Value) (hz : z.size = 44) : Instr.fill (fun i => some (i * 44, 44)) z [(0, .agg (ncell n uv).toArray)] = some (ncell n uv).toArray := fill_list _ (ncell_len n uv) z hz
theorem wpList_node {ops : Array Oper} {rest : List Oper} {o : Oper} {a : Act} {w : World} {Q : Exit → Act → World → Prop} (hg : o.guard = none) (x : Operand) (ho : o.op = .buildSlice 32 1 #[(0, x)]) (n : Nd) (uv : Value) (hx : a.eval x = .agg (ncell n uv).toArray)
    (h : wpList Try.prog ops Q rest (a.put o.dst (.slice (some ⟨w.heap.size, 0, none⟩) 1 1)) (w.alloc (.cells (ncell n uv).toArray 51))) : wpList Try.prog ops Q (o :: rest) a w := by
  obtain ⟨i0, hi, hz0, hz1, hz2⟩ := info_parts info51
  refine wpList_buildSlice hg 32 51 1 _ ho (ncell n uv).toArray i0 _ Try.underlying32 hi hz0 (by rw [hz1]; decide) (by rw [hz1]; decide) ?_ h
  rw [hz1]
  have := fill51 n uv ((Array.range (1 * 44)).map fun x => (Value.agg (ncell (0, KD.map zv) (.slice none 0 0)).toArray).cells[x % (Value.agg (ncell (0, KD.map zv) (.slice none 0 0)).toArray).cells.size]!) (by simp)
  simpa [hx] using this
end Go.Proofs.Ytmngndmcidbakaa
