/- Walks: behind; the reference's means and at. -/
import Derived.Test.YtkjmknmcadloaaaMeans
namespace Go.Proofs.Ytkjmknmcadloaaa
open Go.RowKit

theorem behind_any (k n : Int) (w : World) (hn : 1 ≤ n) (hn2 : n ≤ 64) (hk : 0 ≤ k) (hk2 : k ≤ 4611686018427387904) : Calls Try.prog 19 #[.int .i64 n, .int .i64 k] w (KPost (behind k n) w) := by
  have B0 := Blk.new w 29 #[.int .i64 0, .int .i64 0]
  obtain ⟨W, hW⟩ : ∃ W, W = w.alloc (.cells #[.int .i64 0, .int .i64 0] 29) := ⟨_, rfl⟩
  have C0 : Hid (Blk W w.heap.size 29 #[.int .i64 0, .int .i64 0]) := hide (hW ▸ B0)
  have tW : Hid (Below w.heap.size w W) := hide (by rw [hW]; go_grown)
  have HW := hide hW
  have b1 := Int.emod_nonneg k (show n ≠ 0 by omega)
  have b2 := Int.emod_lt_of_pos k (show 0 < n by omega)
  have R1 := hide (fun W => round_any k n W hn (by omega) (by omega) (by omega))
  clear hW B0
  by_cases h1 : n = 1
  · subst h1
    have hb : Hid (behind k 1 = ⟨0, 0⟩) := hide rfl
    have hz : k % 1 = 0 := by omega
    rw [hz] at R1 b1 b2
    clear hz
    go_enter Try.func19, Try.ntmps19
    go_wp2_with fail
    rw [← HW.out]
    refine (R1.out W).mono ?_
    rintro r w2 ⟨rfl, rfl⟩
    have c0 := C0.out.cell 0
    have c1 := C0.out.cell 1
    have f0 := C0.out.frozen 0
    have f1 := C0.out.frozen 1
    have B4 : Hid (Blk ((W.setCell ⟨w.heap.size, 0, none⟩ (.int .i64 0)).setCell ⟨w.heap.size, 1, none⟩ (.int .i64 0)) w.heap.size 29 #[.int .i64 0, .int .i64 0]) := hide (by
      simpa using (C0.out.set_ 0 (.int .i64 0)).set_ 1 (.int .i64 0))
    have t4 := hide ((tW.out.setCell (p := ⟨w.heap.size, 0, none⟩) (by simp) (.int .i64 0)).setCell (p := ⟨w.heap.size, 1, none⟩) (by simp) (.int .i64 0))
    go_wp2
    refine bodyPost_ret (results_cell_row Try.results19 _ _ w.heap.size 29 _ (0, 0) _ rfl B4.out Try.underlying29 rfl (by kernel_rfl)) rfl ?_
    exact kpost (p := ⟨0, 0⟩) hb.out.symm t4.out
  · have hn1 : (n == 1) = false := by simpa using h1
    have hn3 : 1 ≤ n - 1 := by omega
    have d1 : 0 ≤ k / n := Int.ediv_nonneg hk (by omega)
    have d2 : k / n ≤ k := Int.ediv_le_self n hk
    obtain ⟨q, hq⟩ : ∃ q, q = k / n := ⟨_, rfl⟩
    have b3 := Int.emod_nonneg q (show n - 1 ≠ 0 by omega)
    have b4 := Int.emod_lt_of_pos q (show 0 < n - 1 by omega)
    have hb : Hid (behind k n = ⟨k % n, (k % n + 1 + q % (n - 1)) % n⟩) := hide (by unfold behind; rw [if_neg h1, hq])
    rw [← hq] at d1 d2
    have HQ := hide hq
    have R2 := hide (fun W => round_any q (n - 1) W hn3 (by omega) (by omega) (by omega))
    have R3 := hide (fun W => round_any (k % n + 1 + q % (n - 1)) n W hn (by omega) (by omega) (by omega))
    clear h1 hq
    generalize hr : k % n = r at *
    generalize hs : q % (n - 1) = s at *
    clear hr hs
    go_enter Try.func19, Try.ntmps19
    go_wp2_with fail
    rw [← HW.out]
    refine (R1.out W).mono ?_
    rintro rr w2 ⟨rfl, rfl⟩
    go_wp2_with fail
    rw [← HQ.out]
    refine (R2.out W).mono ?_
    rintro rr w2 ⟨rfl, rfl⟩
    go_wp2_with fail
    refine (R3.out W).mono ?_
    rintro rr w2 ⟨rfl, rfl⟩
    generalize (r + 1 + s) % n = z at hb
    have c0 := C0.out.cell 0
    have c1 := C0.out.cell 1
    have f0 := C0.out.frozen 0
    have f1 := C0.out.frozen 1
    have B4 : Hid (Blk ((W.setCell ⟨w.heap.size, 0, none⟩ (.int .i64 r)).setCell ⟨w.heap.size, 1, none⟩ (.int .i64 z)) w.heap.size 29 #[.int .i64 r, .int .i64 z]) := hide (by
      simpa using (C0.out.set_ 0 (.int .i64 r)).set_ 1 (.int .i64 z))
    have t4 := hide ((tW.out.setCell (p := ⟨w.heap.size, 0, none⟩) (by simp) (.int .i64 r)).setCell (p := ⟨w.heap.size, 1, none⟩) (by simp) (.int .i64 z))
    go_wp2
    refine bodyPost_ret (results_cell_row Try.results19 _ _ w.heap.size 29 _ (0, 0) _ rfl B4.out Try.underlying29 rfl (by kernel_rfl)) rfl ?_
    exact kpost (p := ⟨r, z⟩) hb.out.symm t4.out
end Go.Proofs.Ytkjmknmcadloaaa
