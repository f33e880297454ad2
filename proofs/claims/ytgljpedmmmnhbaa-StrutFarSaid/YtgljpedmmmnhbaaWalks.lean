/- walks of the layer strut (margins that join). -/
import Derived.Test.YtgljpedmmmnhbaaRows
import Derived.Handy
import Derived.Deep.RegionHeld3
import Derived.Deep.DeepCutAuto
import Derived.Test.YtgljpedmmmnhbaaBase
namespace Go.Proofs.Ytgljpedmmmnhbaa
open Go.RowKit

abbrev S (p : Int × Int) : Value := .agg #[.int .i64 p.1, .int .i64 p.2]

def jn (p : Int × Int) (m : Int) : Int × Int := (max p.1 m, min p.2 m)

def ints (l : List Int) : List Value := l.map (Value.int .i64)
theorem ints_len (l : List Int) : (ints l).length = l.length := by simp [ints]
theorem ints_get (l : List Int) (k : Nat) (h : k < (ints l).length) : (ints l)[k] = .int .i64 (l[k]'(by simpa [ints] using h)) := by simp [ints]

theorem ret_S {x y x' y' : Int} (h1 : x = x') (h2 : y = y') : Ending.returned (.agg #[.int .i64 x, .int .i64 y]) = .returned (.agg #[.int .i64 x', .int .i64 y']) := by rw [h1, h2]

theorem join_any (a b : Int) (m : Int) (w : World) :
    Calls Try.prog 14 #[.agg #[.int .i64 a, .int .i64 b], .int .i64 m] w fun e w' => e = .returned (.agg #[.int .i64 (jn (a, b) m).1, .int .i64 (jn (a, b) m).2]) ∧ Below w.heap.size w w' := by
  go_enter Try.func14, Try.ntmps14
  go_wp2
  all_goals
    go_returns
    exact ⟨ret_S (by simp [jn]; omega) (by simp [jn]; omega), by go_grown⟩

theorem joined_any (a : Option Addr) (l : List Int) (cap : Nat) (w : World) (h : Row w a (ints l)) :
    Calls Try.prog 8 #[.slice a l.length cap] w fun e w' => e = .returned (S (l.foldl jn (0, 0))) ∧ Below w.heap.size w w' := by
  have hl : l.length ≤ 9223372036854775807 := by have := h.1; rwa [ints_len] at this
  go_enter Try.func8, Try.ntmps8
  go_wp2
  go_loopw [4] (fun i wr => ∃ (k : Nat) (x y : Int), k ≤ l.length ∧ i = .int .i64 k ∧ (x, y) = (l.take k).foldl jn (0, 0) ∧ Blk wr w.heap.size 24 #[.int .i64 0, .int .i64 0] ∧ Blk wr (w.heap.size + 1) 24 #[.int .i64 x, .int .i64 y] ∧ Below w.heap.size w wr)
    (fun i _ => l.length - (intOf i).toNat)
  case atStart => exact ⟨0, 0, 0, Nat.zero_le _, rfl, rfl, (Blk.new w _ _).alloc _, by simpa using Blk.new (w.alloc _) 24 #[.int .i64 0, .int .i64 0], by go_grown⟩
  case round =>
    obtain ⟨k, x, y, hk, rfl, hp, hb0, hb1, hbel⟩ := hrel
    have hp' := hide hp; clear hp
    have c0 : wr.cell? ⟨w.heap.size + 1, 0, none⟩ = some (.int .i64 x) := hb1.cell 0
    have c1 : wr.cell? ⟨w.heap.size + 1, 1, none⟩ = some (.int .i64 y) := hb1.cell 1
    have f0 := hb1.frozen 0
    have f1 := hb1.frozen 1
    have d0 : wr.cell? ⟨w.heap.size, 0, none⟩ = some (.int .i64 0) := hb0.cell 0
    have d1 : wr.cell? ⟨w.heap.size, 1, none⟩ = some (.int .i64 0) := hb0.cell 1
    have g0 := hb0.frozen 0
    have g1 := hb0.frozen 1
    have hs1 := hb1.lt
    by_cases hlt : k < l.length
    · obtain ⟨b, off, rfl, hbw, hcell⟩ := (h.below hbel).2 (by rw [ints_len]; omega)
      have hc := (hcell k (by rw [ints_len]; exact hlt)).trans (by rw [ints_get])
      clear hcell
      have C0 := keepc (p := ⟨w.heap.size + 1, 0, none⟩) hs1 c0
      have C1 := keepc (p := ⟨w.heap.size + 1, 1, none⟩) hs1 c1
      have C2 := keepc (p := ⟨b, off + k, none⟩) hbw hc
      have F0 := keepf (p := ⟨w.heap.size + 1, 0, none⟩) hs1 f0
      have F1 := keepf (p := ⟨w.heap.size + 1, 1, none⟩) hs1 f1
      go_wp2_with fail
      refine Reg.region (by kernel_rfl) 6 [5] (fun _ w' => Below wr.heap.size wr w') (by kernel_rfl) (by kernel_rfl) (Below.refl _ _).drew ?_
      iterate 5
        refine Reg.WT.yield (v := ?_) rfl rfl ?_ ?_
        rotate_left
        · intro w' _ hS; go_simp; (try go_bits); (first | rfl | rw [if_pos (by omega)])
        simp only [Act.put, List.setIfInBounds_toArray, List.set_cons_zero, List.set_cons_succ]
      refine Reg.WT.call (v := ?_) (f := ?_) (args := ?_) rfl rfl ?_ ?_ ?_
      rotate_left 3
      · intro w2; go_simp; exact ⟨by rfl, by rfl⟩
      · intro w2 hS; refine (join_any _ _ _ w2).mono ?_; rintro e w3 ⟨rfl, hb⟩; exact ⟨by rfl, hS.trans (hb.mono hS.size)⟩
      simp only [Act.put, List.setIfInBounds_toArray, List.set_cons_zero, List.set_cons_succ]
      intro w2 hS
      have b0 := (hb0.below hS (Nat.lt_trans (Nat.lt_succ_self _) hs1))
      have b1 := (hb1.below hS hs1)
      have hbel2 := hbel.trans (hS.mono hbel.size)
      go_wp2
      go_roundw
      case rel =>
        refine ⟨k + 1, (jn (x, y) l[k]).1, (jn (x, y) l[k]).2, hlt, by go_num, ?_, ?_, (b1.set_ 0 _).set_ 1 _, ?_⟩
        · rw [List.take_succ_eq_append_getElem hlt, List.foldl_append, ← hp'.out]; rfl
        · exact ((Below.heap_setCell _ _ _ _ (by simp)).trans ((Below.heap_setCell _ _ _ _ (by simp)).trans b0))
        · exact (hbel2.setCell (by simp) _).setCell (by simp) _
      case measure => simp [intOf]; omega
    · have : k = l.length := by omega
      subst this
      have R0 : ((wr.setCell ⟨w.heap.size, 0, none⟩ (.int .i64 x)).setCell ⟨w.heap.size, 1, none⟩ (.int .i64 y)).cell? ⟨w.heap.size, 0, none⟩ = some (.int .i64 x) := ((hb0.set_ 0 _).set_ 1 _).cell 0
      have R1 : ((wr.setCell ⟨w.heap.size, 0, none⟩ (.int .i64 x)).setCell ⟨w.heap.size, 1, none⟩ (.int .i64 y)).cell? ⟨w.heap.size, 1, none⟩ = some (.int .i64 y) := ((hb0.set_ 0 _).set_ 1 _).cell 1
      go_wp2
      refine bodyPost_ret (v := .agg #[.int .i64 x, .int .i64 y]) (by simp [results, Try.results8, go_sem, R0, R1]) rfl ⟨?_, ?_⟩
      · have := hp'.out
        rw [List.take_length] at this
        rw [← this]
      · exact (hbel.setCell (by simp) _).setCell (by simp) _
end Go.Proofs.Ytgljpedmmmnhbaa
