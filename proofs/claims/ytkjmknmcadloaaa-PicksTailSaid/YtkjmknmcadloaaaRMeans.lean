/- Walks: the reference's means and at. -/
import Derived.Test.YtkjmknmcadloaaaMeans2
import Derived.Test.YtkjmknmcadloaaaHoldQ
namespace Go.Proofs.Ytkjmknmcadloaaa
open Go.RowKit

set_option maxHeartbeats 8000000 in
theorem rmeans_any (p : Pk) (n : Int) (w : World) (hp : PkOk p) (hn : 1 ≤ n) (hn2 : n ≤ 64) : Calls Try.prog 20 #[.agg #[.int .i64 p.w, .int .i64 p.v], .int .i64 n] w (KPost (means p n) w) := by
  obtain ⟨⟨w1, w2⟩, ⟨v1, v2⟩⟩ := hp
  obtain ⟨pw, pv⟩ := p
  simp only at w1 w2 v1 v2 ⊢
  have B0 := Blk.new w 29 #[.int .i64 pw, .int .i64 pv]
  have B1 := Blk.new (w.alloc (.cells #[.int .i64 pw, .int .i64 pv] 29)) 29 #[.int .i64 0, .int .i64 0]
  rw [World.size_alloc] at B1
  obtain ⟨W, hW⟩ : ∃ W, W = (w.alloc (.cells #[.int .i64 pw, .int .i64 pv] 29)).alloc (.cells #[.int .i64 0, .int .i64 0] 29) := ⟨_, rfl⟩
  have C0 : Hid (Blk W w.heap.size 29 #[.int .i64 pw, .int .i64 pv]) := hide (hW ▸ B0.alloc _)
  have C1 : Hid (Blk W (w.heap.size + 1) 29 #[.int .i64 0, .int .i64 0]) := hide (hW ▸ B1)
  have tW : Hid (Below w.heap.size w W) := hide (by rw [hW]; go_grown)
  have HW := hide hW
  have hWs : Hid (W.heap.size = w.heap.size + 1 + 1) := hide (by rw [hW]; simp)
  have b1 := Int.emod_nonneg pw (show n ≠ 0 by omega)
  have b2 := Int.emod_lt_of_pos pw (show 0 < n by omega)
  have b3 := Int.emod_nonneg pv (show n ≠ 0 by omega)
  have b4 := Int.emod_lt_of_pos pv (show 0 < n by omega)
  clear hW B0 B1
  have HM : Hid (means ⟨pw, pv⟩ n = ⟨pw % n, if pw % n = pv % n then (pw % n + 1) % n else pv % n⟩) := hide rfl
  have R1 := hide (fun W => rround_any pw n W hn (by omega) w1 w2)
  have R2 := hide (fun W => rround_any pv n W hn (by omega) v1 v2)
  obtain ⟨q, hq⟩ : ∃ q, q = pw % n := ⟨_, rfl⟩
  obtain ⟨r, hr⟩ : ∃ r, r = pv % n := ⟨_, rfl⟩
  rw [← hq] at b1 b2 HM R1
  rw [← hr] at b3 b4 HM R2
  clear hq hr
  go_enter Try.func20, Try.ntmps20
  go_wp2
  rw [← HW.out]
  have z0 := keepc (p := ⟨w.heap.size, 0, none⟩) C0.out.lt (C0.out.cell 0)
  have z1 := keepc (p := ⟨w.heap.size, 1, none⟩) C0.out.lt (C0.out.cell 1)
  refine Hold.begin_ 11 (by kernel_rfl) rfl (fun w' => Below W.heap.size W w') ?_ (Below.refl _ _).drew
  intro hS
  refine Hold.take (i := 0) (v := ?_) rfl (by kernel_rfl) (fun _ _ _ h => h) rfl ?_ hS ?_
  rotate_left
  · intro w' hS; go_simp; (try go_bits); (first | rfl | rw [if_pos (by omega)])
  simp only [Act.put, List.setIfInBounds_toArray, List.set_cons_zero, List.set_cons_succ]
  refine Hold.take (i := 1) (v := ?_) rfl (by kernel_rfl) (fun _ _ _ h => h) rfl ?_ hS ?_
  rotate_left
  · intro w' hS; go_simp; (try go_bits); (first | rfl | rw [if_pos (by omega)])
  simp only [Act.put, List.setIfInBounds_toArray, List.set_cons_zero, List.set_cons_succ]
  refine Hold.take (i := 2) (v := ?_) rfl (by kernel_rfl) (fun _ _ _ h => h) rfl ?_ hS ?_
  rotate_left
  · intro w' hS; go_simp; (try go_bits); (first | rfl | rw [if_pos (by omega)])
  simp only [Act.put, List.setIfInBounds_toArray, List.set_cons_zero, List.set_cons_succ]
  refine Hold.quiet (i := 3) (v := ?_) (f := ?_) (args := ?_) rfl (by kernel_rfl) (fun _ _ _ h => h) rfl ?_ ?_ hS ?_
  rotate_left 3
  · intro w2 hS; go_simp; exact ⟨by rfl, by rfl⟩
  · intro w2 hS; refine (R1.out w2).mono ?_; rintro e w3 ⟨rfl, rfl⟩; exact ⟨by rfl, rfl⟩
  simp only [Act.put, List.setIfInBounds_toArray, List.set_cons_zero, List.set_cons_succ]
  refine Hold.take (i := 4) (v := ?_) rfl (by kernel_rfl) (fun _ _ _ h => h) rfl ?_ hS ?_
  rotate_left
  · intro w' hS; go_simp; (try go_bits); (first | rfl | rw [if_pos (by omega)])
  simp only [Act.put, List.setIfInBounds_toArray, List.set_cons_zero, List.set_cons_succ]
  refine Hold.take (i := 5) (v := ?_) rfl (by kernel_rfl) (fun _ _ _ h => h) rfl ?_ hS ?_
  rotate_left
  · intro w' hS; go_simp; (try go_bits); (first | rfl | rw [if_pos (by omega)])
  simp only [Act.put, List.setIfInBounds_toArray, List.set_cons_zero, List.set_cons_succ]
  refine Hold.take (i := 6) (v := ?_) rfl (by kernel_rfl) (fun _ _ _ h => h) rfl ?_ hS ?_
  rotate_left
  · intro w' hS; go_simp; (try go_bits); (first | rfl | rw [if_pos (by omega)])
  simp only [Act.put, List.setIfInBounds_toArray, List.set_cons_zero, List.set_cons_succ]
  refine Hold.quiet (i := 7) (v := ?_) (f := ?_) (args := ?_) rfl (by kernel_rfl) (fun _ _ _ h => h) rfl ?_ ?_ hS ?_
  rotate_left 3
  · intro w2 hS; go_simp; exact ⟨by rfl, by rfl⟩
  · intro w2 hS; refine (R2.out w2).mono ?_; rintro e w3 ⟨rfl, rfl⟩; exact ⟨by rfl, rfl⟩
  simp only [Act.put, List.setIfInBounds_toArray, List.set_cons_zero, List.set_cons_succ]
  refine Hold.take (i := 8) (v := ?_) rfl (by kernel_rfl) (fun _ _ _ h => h) rfl ?_ hS ?_
  rotate_left
  · intro w' hS; go_simp; (try go_bits); (first | rfl | rw [if_pos (by omega)])
  simp only [Act.put, List.setIfInBounds_toArray, List.set_cons_zero, List.set_cons_succ]
  refine Hold.one (i := 9) (by kernel_rfl) ?_
  have hS0 := hS
  clear hS
  refine Hold.run rfl rfl (by go_simp; exact ⟨rfl, rfl⟩) ?_
  have hS := hS0.alloc (Nat.le_refl _) (.cells #[.int .i64 0, .int .i64 0] 29)
  refine ⟨hS, ?_⟩
  simp only [Act.put, List.setIfInBounds_toArray, List.set_cons_zero, List.set_cons_succ]
  refine Hold.one (i := 10) (by kernel_rfl) ?_
  have hS0 := hS
  clear hS
  refine Hold.skip rfl rfl (by go_simp; first | rfl | exact ⟨rfl, rfl⟩) ?_
  refine ⟨((Below.refl W.heap.size W).alloc (Nat.le_refl _) _).drew, ?_⟩
  simp only [Act.put, List.setIfInBounds_toArray, List.set_cons_zero, List.set_cons_succ]
  refine Hold.done (by kernel_rfl) ?_
  have R3 := hide (fun W => rround_any (r + 1) n W hn (by omega) (by omega) (by omega))
  clear z0 z1
  have hWs' := hWs.out
  have C2 := hide ((C1.out.alloc (.cells #[.int .i64 q, .int .i64 r] 29)).drew)
  have D2 := hide ((Blk.new W 29 #[.int .i64 q, .int .i64 r]).drew)
  have t2 := hide ((tW.out.alloc tW.out.size (.cells #[.int .i64 q, .int .i64 r] 29)).drew)
  obtain ⟨g, hg⟩ : ∃ g, g = W.heap.size := ⟨_, rfl⟩
  have hgw : w.heap.size + 1 < g := by omega
  obtain ⟨W2, hW2⟩ : ∃ W2, W2 = (W.alloc (.cells #[.int .i64 q, .int .i64 r] 29)).drew := ⟨_, rfl⟩
  rw [← hW2] at C2 D2 t2 ⊢
  rw [← hg] at D2 ⊢
  clear hW2 hg hWs'
  have c0 := C2.out.cell 0
  have c1 := C2.out.cell 1
  have f0 := C2.out.frozen 0
  have f1 := C2.out.frozen 1
  have d0 := D2.out.cell 0
  have d1 := D2.out.cell 1
  have e0 := D2.out.frozen 0
  have e1 := D2.out.frozen 1
  by_cases he : q = r
  · subst he
    rw [if_pos rfl] at HM
    have be : (q == q) = true := by simp
    go_wp2_with fail
    refine (R3.out _).mono ?_
    rintro e w3 ⟨rfl, rfl⟩
    generalize (q + 1) % n = z at HM
    have D3 := hide (D2.out.set_ 1 (.int .i64 z))
    have C3 := hide (C2.out.far (p := ⟨g, 1, none⟩) (by show w.heap.size + 1 ≠ g; omega) (.int .i64 z))
    have m0 := D3.out.cell 0
    have m1 := D3.out.cell 1
    simp at m0 m1
    have k0 := C3.out.cell 0
    have k1 := C3.out.cell 1
    have l0 := C3.out.frozen 0
    have l1 := C3.out.frozen 1
    have t3 := hide (t2.out.setCell (p := ⟨g, 1, none⟩) (by simp; omega) (.int .i64 z))
    have B4 : Hid (Blk (((W2.setCell ⟨g, 1, none⟩ (.int .i64 z)).setCell ⟨w.heap.size + 1, 0, none⟩ (.int .i64 q)).setCell ⟨w.heap.size + 1, 1, none⟩ (.int .i64 z)) (w.heap.size + 1) 29 #[.int .i64 q, .int .i64 z]) := hide (by
      simpa using (C3.out.set_ 0 (.int .i64 q)).set_ 1 (.int .i64 z))
    have t4 := hide ((t3.out.setCell (p := ⟨w.heap.size + 1, 0, none⟩) (by simp) (.int .i64 q)).setCell (p := ⟨w.heap.size + 1, 1, none⟩) (by simp) (.int .i64 z))
    have R0 := hide (B4.out.cell 0)
    go_wp2
    refine bodyPost_ret (results_cell_row Try.results20 _ _ (w.heap.size + 1) 29 _ (0, 0) _ rfl B4.out Try.underlying29 rfl (by kernel_rfl)) rfl ?_
    exact kpost (p := ⟨q, z⟩) HM.out.symm t4.out
  · have be : (q == r) = false := by simpa using he
    rw [if_neg he] at HM
    clear he
    have B4 : Hid (Blk ((W2.setCell ⟨w.heap.size + 1, 0, none⟩ (.int .i64 q)).setCell ⟨w.heap.size + 1, 1, none⟩ (.int .i64 r)) (w.heap.size + 1) 29 #[.int .i64 q, .int .i64 r]) := hide (by
      simpa using (C2.out.set_ 0 (.int .i64 q)).set_ 1 (.int .i64 r))
    have t4 := hide ((t2.out.setCell (p := ⟨w.heap.size + 1, 0, none⟩) (by simp) (.int .i64 q)).setCell (p := ⟨w.heap.size + 1, 1, none⟩) (by simp) (.int .i64 r))
    have R0 := hide (B4.out.cell 0)
    go_wp2
    refine bodyPost_ret (results_cell_row Try.results20 _ _ (w.heap.size + 1) 29 _ (0, 0) _ rfl B4.out Try.underlying29 rfl (by kernel_rfl)) rfl ?_
    exact kpost (p := ⟨q, r⟩) HM.out.symm t4.out
end Go.Proofs.Ytkjmknmcadloaaa
