/- walks of the layer strut, second part: fold, Both, Sum, the references. -/
import Derived.Test.YtgljpedmmmnhbaaWalks
namespace Go.Proofs.Ytgljpedmmmnhbaa
open Go.RowKit

theorem fold_any (a0 b0 : Int) (a : Option Addr) (l : List Int) (cap : Nat) (w : World) (h : Row w a (ints l)) :
    Calls Try.prog 15 #[.agg #[.int .i64 a0, .int .i64 b0], .func (.func 14) #[] #[], .slice a l.length cap] w fun e w' => e = .returned (S (l.foldl jn (a0, b0))) ∧ Below w.heap.size w w' := by
  have hl : l.length ≤ 9223372036854775807 := by have := h.1; rwa [ints_len] at this
  go_enter Try.func15, Try.ntmps15
  go_wp2
  go_loopw [11] (fun i wr => ∃ (k : Nat) (x y : Int), k ≤ l.length ∧ i = .int .i64 k ∧ (x, y) = (l.take k).foldl jn (a0, b0) ∧ Blk wr (w.heap.size + 1) 24 #[.int .i64 0, .int .i64 0] ∧ Blk wr w.heap.size 24 #[.int .i64 x, .int .i64 y] ∧ Below w.heap.size w wr)
    (fun i _ => l.length - (intOf i).toNat)
  case atStart => exact ⟨0, a0, b0, Nat.zero_le _, rfl, rfl, by simpa using Blk.new (w.alloc _) 24 #[.int .i64 0, .int .i64 0], (Blk.new w _ _).alloc _, by go_grown⟩
  case round =>
    obtain ⟨k, x, y, hk, rfl, hp, hb0, hb1, hbel⟩ := hrel
    have hp' := hide hp; clear hp
    have c0 : wr.cell? ⟨w.heap.size, 0, none⟩ = some (.int .i64 x) := hb1.cell 0
    have c1 : wr.cell? ⟨w.heap.size, 1, none⟩ = some (.int .i64 y) := hb1.cell 1
    have f0 := hb1.frozen 0
    have f1 := hb1.frozen 1
    have d0 : wr.cell? ⟨w.heap.size + 1, 0, none⟩ = some (.int .i64 0) := hb0.cell 0
    have d1 : wr.cell? ⟨w.heap.size + 1, 1, none⟩ = some (.int .i64 0) := hb0.cell 1
    have g0 := hb0.frozen 0
    have g1 := hb0.frozen 1
    have hs1 := hb1.lt
    have hs0 := hb0.lt
    by_cases hlt : k < l.length
    · obtain ⟨b, off, rfl, hbw, hcell⟩ := (h.below hbel).2 (by rw [ints_len]; omega)
      have hc := (hcell k (by rw [ints_len]; exact hlt)).trans (by rw [ints_get])
      clear hcell
      have C0 := keepc (p := ⟨w.heap.size, 0, none⟩) hs1 c0
      have C1 := keepc (p := ⟨w.heap.size, 1, none⟩) hs1 c1
      have F0 := keepf (p := ⟨w.heap.size, 0, none⟩) hs1 f0
      have F1 := keepf (p := ⟨w.heap.size, 1, none⟩) hs1 f1
      go_wp2_with fail
      refine (join_any _ _ _ _).mono ?_
      rintro e w2 ⟨rfl, hS⟩
      have b0 := (hb0.below hS hs0)
      have b1 := (hb1.below hS hs1)
      have hbel2 := hbel.trans (hS.mono hbel.size)
      go_wp2
      go_roundw
      case rel =>
        refine ⟨k + 1, (jn (x, y) l[k]).1, (jn (x, y) l[k]).2, hlt, by go_num, ?_, ?_, (b1.set_ 0 _).set_ 1 _, ?_⟩
        · rw [List.take_succ_eq_append_getElem hlt, List.foldl_append, ← hp'.out]; rfl
        · exact ((Below.heap_setCell _ _ _ _ (by simp)).trans ((Below.heap_setCell _ _ _ _ (by simp)).trans b0))
        · exact (hbel2.setCell (by simp) _).setCell (by simp) _
      case measure => simp [intOf]; omega
    · have : k = l.length := by omega
      subst this
      have R0 : ((wr.setCell ⟨w.heap.size + 1, 0, none⟩ (.int .i64 x)).setCell ⟨w.heap.size + 1, 1, none⟩ (.int .i64 y)).cell? ⟨w.heap.size + 1, 0, none⟩ = some (.int .i64 x) := ((hb0.set_ 0 _).set_ 1 _).cell 0
      have R1 : ((wr.setCell ⟨w.heap.size + 1, 0, none⟩ (.int .i64 x)).setCell ⟨w.heap.size + 1, 1, none⟩ (.int .i64 y)).cell? ⟨w.heap.size + 1, 1, none⟩ = some (.int .i64 y) := ((hb0.set_ 0 _).set_ 1 _).cell 1
      go_wp2
      refine bodyPost_ret (v := .agg #[.int .i64 x, .int .i64 y]) (by simp [results, Try.results15, go_sem, R0, R1]) rfl ⟨?_, ?_⟩
      · have := hp'.out
        rw [List.take_length] at this
        rw [← this]
      · exact (hbel.setCell (by simp) _).setCell (by simp) _

set_option maxHeartbeats 800000 in
theorem ref_of_any (a : Option Addr) (l : List Int) (cap : Nat) (w : World) (h : Row w a (ints l)) :
    Calls Try.prog 10 #[.slice a l.length cap] w fun e w' => e = .returned (S (l.foldl jn (0, 0))) ∧ Below w.heap.size w w' := by
  have hl : l.length ≤ 9223372036854775807 := by have := h.1; rwa [ints_len] at this
  go_enter Try.func10, Try.ntmps10
  go_wp2
  go_loopw [4] (fun i wr => ∃ (k : Nat) (x y : Int), k ≤ l.length ∧ i = .int .i64 k ∧ (x, y) = (l.take k).foldl jn (0, 0) ∧ Blk wr w.heap.size 24 #[.int .i64 0, .int .i64 0] ∧ Blk wr (w.heap.size + 1) 24 #[.int .i64 x, .int .i64 y] ∧ Below w.heap.size w wr)
    (fun i _ => l.length - (intOf i).toNat)
  case atStart => exact ⟨0, 0, 0, Nat.zero_le _, rfl, rfl, (Blk.new w _ _).alloc _, by simpa using Blk.new (w.alloc _) 24 #[.int .i64 0, .int .i64 0], by go_grown⟩
  case round =>
    obtain ⟨k, x, y, hk, rfl, hp, hb0, hb1, hbel⟩ := hrel
    have hp' := hide hp; clear hp
    have c0 : wr.cell? ⟨w.heap.size + 1, 0, none⟩ = some (.int .i64 x) := hb1.cell 0
    have c1 : wr.cell? ⟨w.heap.size + 1, 1, none⟩ = some (.int .i64 y) := hb1.cell 1
    have f0 := hb1.frozen 0
    have f1 := hb1.frozen 1
    have d0 : wr.cell? ⟨w.heap.size, 0, none⟩ = some (.int .i64 0) := hb0.cell 0
    have d1 : wr.cell? ⟨w.heap.size, 1, none⟩ = some (.int .i64 0) := hb0.cell 1
    have g0 := hb0.frozen 0
    have g1 := hb0.frozen 1
    by_cases hlt : k < l.length
    · obtain ⟨b, off, rfl, hbw, hcell⟩ := h.2 (by rw [ints_len]; omega)
      have hc := ((hbel.cell (p := ⟨b, off + k, none⟩) hbw).trans (hcell k (by rw [ints_len]; exact hlt))).trans (by rw [ints_get])
      have hne : ¬ b = w.heap.size + 1 := by omega
      clear hcell
      go_wp2_with fail
      refine Reg.region (by kernel_rfl) 7 [] (fun _ w' => w' = wr.drew) (by kernel_rfl) (by kernel_rfl) rfl ?_
      iterate 7
        refine Reg.WT.yield (v := ?_) rfl rfl ?_ ?_
        rotate_left
        · intro w' _ hS; go_simp; (try go_bits); (first | rfl | rw [if_pos (by omega)])
        simp only [Act.put, List.setIfInBounds_toArray, List.set_cons_zero, List.set_cons_succ]
      intro w2 hS; subst hS
      by_cases h1 : x < l[k]
      · by_cases h2 : l[k] < y
        · go_wp2_with fail
          refine Reg.region (by kernel_rfl) 7 [] (fun _ w' => w' = _) (by kernel_rfl) (by kernel_rfl) rfl ?_
          iterate 7
            refine Reg.WT.yield (v := ?_) rfl rfl ?_ ?_
            rotate_left
            · intro w' _ hS; go_simp; (try go_bits); (first | rfl | rw [if_pos (by omega)])
            simp only [Act.put, List.setIfInBounds_toArray, List.set_cons_zero, List.set_cons_succ]
          intro w2 hS; subst hS
          go_wp2
          go_roundw
          case measure => simp [intOf]; omega
          case rel =>
            refine ⟨k + 1, (jn (x, y) l[k]).1, (jn (x, y) l[k]).2, hlt, by go_num, ?_, ((hb0.far (p := ⟨w.heap.size + 1, 0, none⟩) (by simp) (.int .i64 l[k])).far (p := ⟨w.heap.size + 1, 1, none⟩) (by simp) (.int .i64 l[k])), ?_, ((hbel.drew.setCell (p := ⟨w.heap.size + 1, 0, none⟩) (by simp) (.int .i64 l[k])).drew.setCell (p := ⟨w.heap.size + 1, 1, none⟩) (by simp) (.int .i64 l[k]))⟩
            · rw [List.take_succ_eq_append_getElem hlt, List.foldl_append, ← hp'.out]; rfl
            · rw [show (jn (x, y) l[k]).1 = l[k] from by simp only [jn]; omega, show (jn (x, y) l[k]).2 = l[k] from by simp only [jn]; omega]
              exact ((hb1.set_ 0 (.int .i64 l[k])).set_ 1 (.int .i64 l[k]))
        · go_wp2_with fail
          refine Reg.region (by kernel_rfl) 7 [] (fun _ w' => w' = _) (by kernel_rfl) (by kernel_rfl) rfl ?_
          iterate 7
            refine Reg.WT.yield (v := ?_) rfl rfl ?_ ?_
            rotate_left
            · intro w' _ hS; go_simp; (try go_bits); (first | rfl | rw [if_pos (by omega)])
            simp only [Act.put, List.setIfInBounds_toArray, List.set_cons_zero, List.set_cons_succ]
          intro w2 hS; subst hS
          go_wp2
          go_roundw
          case measure => simp [intOf]; omega
          case rel =>
            refine ⟨k + 1, (jn (x, y) l[k]).1, (jn (x, y) l[k]).2, hlt, by go_num, ?_, (hb0.far (p := ⟨w.heap.size + 1, 0, none⟩) (by simp) (.int .i64 l[k])), ?_, (hbel.drew.setCell (p := ⟨w.heap.size + 1, 0, none⟩) (by simp) (.int .i64 l[k])).drew⟩
            · rw [List.take_succ_eq_append_getElem hlt, List.foldl_append, ← hp'.out]; rfl
            · rw [show (jn (x, y) l[k]).1 = l[k] from by simp only [jn]; omega, show (jn (x, y) l[k]).2 = y from by simp only [jn]; omega]
              exact (hb1.set_ 0 (.int .i64 l[k]))
      · by_cases h2 : l[k] < y
        · go_wp2_with fail
          refine Reg.region (by kernel_rfl) 7 [] (fun _ w' => w' = _) (by kernel_rfl) (by kernel_rfl) rfl ?_
          iterate 7
            refine Reg.WT.yield (v := ?_) rfl rfl ?_ ?_
            rotate_left
            · intro w' _ hS; go_simp; (try go_bits); (first | rfl | rw [if_pos (by omega)])
            simp only [Act.put, List.setIfInBounds_toArray, List.set_cons_zero, List.set_cons_succ]
          intro w2 hS; subst hS
          go_wp2
          go_roundw
          case measure => simp [intOf]; omega
          case rel =>
            refine ⟨k + 1, (jn (x, y) l[k]).1, (jn (x, y) l[k]).2, hlt, by go_num, ?_, (hb0.far (p := ⟨w.heap.size + 1, 1, none⟩) (by simp) (.int .i64 l[k])), ?_, (hbel.drew.drew.setCell (p := ⟨w.heap.size + 1, 1, none⟩) (by simp) (.int .i64 l[k]))⟩
            · rw [List.take_succ_eq_append_getElem hlt, List.foldl_append, ← hp'.out]; rfl
            · rw [show (jn (x, y) l[k]).1 = x from by simp only [jn]; omega, show (jn (x, y) l[k]).2 = l[k] from by simp only [jn]; omega]
              exact (hb1.set_ 1 (.int .i64 l[k]))
        · go_wp2_with fail
          refine Reg.region (by kernel_rfl) 7 [] (fun _ w' => w' = _) (by kernel_rfl) (by kernel_rfl) rfl ?_
          iterate 7
            refine Reg.WT.yield (v := ?_) rfl rfl ?_ ?_
            rotate_left
            · intro w' _ hS; go_simp; (try go_bits); (first | rfl | rw [if_pos (by omega)])
            simp only [Act.put, List.setIfInBounds_toArray, List.set_cons_zero, List.set_cons_succ]
          intro w2 hS; subst hS
          go_wp2
          go_roundw
          case measure => simp [intOf]; omega
          case rel =>
            refine ⟨k + 1, (jn (x, y) l[k]).1, (jn (x, y) l[k]).2, hlt, by go_num, ?_, hb0, ?_, hbel.drew.drew⟩
            · rw [List.take_succ_eq_append_getElem hlt, List.foldl_append, ← hp'.out]; rfl
            · rw [show (jn (x, y) l[k]).1 = x from by simp only [jn]; omega, show (jn (x, y) l[k]).2 = y from by simp only [jn]; omega]
              exact hb1
    · have : k = l.length := by omega
      subst this
      have R0 : ((wr.setCell ⟨w.heap.size, 0, none⟩ (.int .i64 x)).setCell ⟨w.heap.size, 1, none⟩ (.int .i64 y)).cell? ⟨w.heap.size, 0, none⟩ = some (.int .i64 x) := ((hb0.set_ 0 _).set_ 1 _).cell 0
      have R1 : ((wr.setCell ⟨w.heap.size, 0, none⟩ (.int .i64 x)).setCell ⟨w.heap.size, 1, none⟩ (.int .i64 y)).cell? ⟨w.heap.size, 1, none⟩ = some (.int .i64 y) := ((hb0.set_ 0 _).set_ 1 _).cell 1
      go_wp2
      refine bodyPost_ret (v := .agg #[.int .i64 x, .int .i64 y]) (by simp [results, Try.results10, go_sem, R0, R1]) rfl ⟨?_, ?_⟩
      · have := hp'.out
        rw [List.take_length] at this
        rw [← this]
      · exact (hbel.setCell (by simp) _).setCell (by simp) _

theorem sum_any (x y : Int) (w : World) (hx : 0 ≤ x) (hx' : x ≤ 9223372036854775807) (hy : y ≤ 0) (hy' : -9223372036854775808 ≤ y) :
    Calls Try.prog 7 #[.agg #[.int .i64 x, .int .i64 y]] w fun e w' => e = .returned (.int .i64 (x + y)) ∧ Below w.heap.size w w' := by
  go_enter Try.func7, Try.ntmps7
  go_wp2
  go_returns
  exact ⟨rfl, by go_grown⟩

theorem ref_sum_any (x y : Int) (w : World) (hx : 0 ≤ x) (hx' : x ≤ 9223372036854775807) (hy : y ≤ 0) (hy' : -9223372036854775808 ≤ y) :
    Calls Try.prog 12 #[.agg #[.int .i64 x, .int .i64 y]] w fun e w' => e = .returned (.int .i64 (x + y)) ∧ Below w.heap.size w w' := by
  go_enter Try.func12, Try.ntmps12
  go_wp2
  go_returns
  exact ⟨rfl, by go_grown⟩
end Go.Proofs.Ytgljpedmmmnhbaa
