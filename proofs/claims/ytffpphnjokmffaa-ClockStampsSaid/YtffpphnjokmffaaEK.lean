/- The anchor. -/
import Derived.Test.YtffpphnjokmffaaEH
import Derived.Test.YtffpphnjokmffaaEI
import Derived.Test.YtffpphnjokmffaaEJ
namespace Go.Proofs.Ytffpphnjokmffaa
open Go.RowKit Go.Maps
set_option maxRecDepth 100000 in
set_option maxHeartbeats 4000000 in
theorem works_any (w : World) : Calls Try.prog 10 #[] w (BPost true w) := by
  have P1 := hide (fun W a c hr => race_yes a la c 2 W hr ok_a far_a)
  have P2 := hide (fun W a c hr => race_yes a lb c 3 W hr ok_b far_b)
  have P3 := hide (fun W a c hr => stamps_yes a la c 2 W hr ok_a far_a)
  go_enter Try.func10, Try.ntmps10
  go_wp2_with fail
  refine (ev_any 0 6 5 _).mono ?_
  rintro r w1 ⟨rfl, k1⟩
  have t1 := hide k1
  clear k1
  simp only [eagg]
  go_wp2_with fail
  refine (ev_any 0 2 1 _).mono ?_
  rintro r w2 ⟨rfl, k2⟩
  have t2 := hide (below_call (w := w) t1.out k2)
  clear k2 t1
  simp only [eagg]
  go_wp2_with fail
  refine (ev_any 1 1 1 _).mono ?_
  rintro r w3 ⟨rfl, k3⟩
  have t3 := hide (below_call (w := w) t2.out k3)
  clear k3 t2
  simp only [eagg]
  go_wp2_with fail
  refine (ev_any 1 5 5 _).mono ?_
  rintro r w4 ⟨rfl, k4⟩
  have t4 := hide (below_call (w := w) t3.out k4)
  clear k4 t3
  simp only [eagg]
  go_wp2_with fail
  obtain ⟨g, hg⟩ : ∃ g, g = w4.heap.size := ⟨_, rfl⟩
  obtain ⟨w5, hw5⟩ : ∃ w5, w5 = w4.alloc (.cells #[.int .i64 0, .int .u8 6, .int .i64 5, .int .i64 0, .int .u8 2, .int .i64 1, .int .i64 1, .int .u8 1, .int .i64 1, .int .i64 1, .int .u8 5, .int .i64 5] 48) := ⟨_, rfl⟩
  have E5 : Hid (Blk w5 g 48 #[.int .i64 0, .int .u8 6, .int .i64 5, .int .i64 0, .int .u8 2, .int .i64 1, .int .i64 1, .int .u8 1, .int .i64 1, .int .i64 1, .int .u8 5, .int .i64 5]) := hide (hg ▸ hw5 ▸ Blk.new w4 _ _)
  have t5 : Hid (Below w.heap.size w w5) := hide (hw5 ▸ t4.out.alloc t4.out.size _)
  rw [← hw5, ← hg]
  clear hw5 hg t4
  refine (P1.out w5 (some ⟨g, 0, none⟩) 4 (erow_blk (l := la) E5.out (by decide))).mono ?_
  rintro r w6 ⟨i, j, is, rfl, hR, k6⟩
  obtain ⟨rfl, rfl, rfl⟩ := hR.uniq race_a
  have t6 := hide (below_call (w := w) t5.out k6)
  have E6 := hide (E5.out.below k6 E5.out.lt)
  clear k6 hR t5 E5
  have hgl := E6.out.lt
  go_wp2_with fail
  have hb6 : g < w6.heap.size := hgl
  have z0 : ∀ w', Below w6.heap.size w6 w' → w'.cell? ⟨g, 0, none⟩ = some (.int .i64 0) := fun w' h => (h.cell (p := ⟨g, 0, none⟩) hb6).trans (E6.out.cell 0)
  have z1 : ∀ w', Below w6.heap.size w6 w' → w'.cell? ⟨g, 1, none⟩ = some (.int .u8 6) := fun w' h => (h.cell (p := ⟨g, 1, none⟩) hb6).trans (E6.out.cell 1)
  have z2 : ∀ w', Below w6.heap.size w6 w' → w'.cell? ⟨g, 2, none⟩ = some (.int .i64 5) := fun w' h => (h.cell (p := ⟨g, 2, none⟩) hb6).trans (E6.out.cell 2)
  have z3 : ∀ w', Below w6.heap.size w6 w' → w'.cell? ⟨g, 3, none⟩ = some (.int .i64 0) := fun w' h => (h.cell (p := ⟨g, 3, none⟩) hb6).trans (E6.out.cell 3)
  have z4 : ∀ w', Below w6.heap.size w6 w' → w'.cell? ⟨g, 4, none⟩ = some (.int .u8 2) := fun w' h => (h.cell (p := ⟨g, 4, none⟩) hb6).trans (E6.out.cell 4)
  have z5 : ∀ w', Below w6.heap.size w6 w' → w'.cell? ⟨g, 5, none⟩ = some (.int .i64 1) := fun w' h => (h.cell (p := ⟨g, 5, none⟩) hb6).trans (E6.out.cell 5)
  have z6 : ∀ w', Below w6.heap.size w6 w' → w'.cell? ⟨g, 6, none⟩ = some (.int .i64 1) := fun w' h => (h.cell (p := ⟨g, 6, none⟩) hb6).trans (E6.out.cell 6)
  have z7 : ∀ w', Below w6.heap.size w6 w' → w'.cell? ⟨g, 7, none⟩ = some (.int .u8 1) := fun w' h => (h.cell (p := ⟨g, 7, none⟩) hb6).trans (E6.out.cell 7)
  have z8 : ∀ w', Below w6.heap.size w6 w' → w'.cell? ⟨g, 8, none⟩ = some (.int .i64 1) := fun w' h => (h.cell (p := ⟨g, 8, none⟩) hb6).trans (E6.out.cell 8)
  have z9 : ∀ w', Below w6.heap.size w6 w' → w'.cell? ⟨g, 9, none⟩ = some (.int .i64 1) := fun w' h => (h.cell (p := ⟨g, 9, none⟩) hb6).trans (E6.out.cell 9)
  have z10 : ∀ w', Below w6.heap.size w6 w' → w'.cell? ⟨g, 10, none⟩ = some (.int .u8 5) := fun w' h => (h.cell (p := ⟨g, 10, none⟩) hb6).trans (E6.out.cell 10)
  have z11 : ∀ w', Below w6.heap.size w6 w' → w'.cell? ⟨g, 11, none⟩ = some (.int .i64 5) := fun w' h => (h.cell (p := ⟨g, 11, none⟩) hb6).trans (E6.out.cell 11)
  refine Hold.begin_ 24 (by kernel_rfl) rfl (fun w' => Below w6.heap.size w6 w') ?_ (Below.refl _ _).drew
  intro hS
  refine Hold.take (i := 0) (v := ?_) rfl (by kernel_rfl) (fun _ _ _ h => h) rfl ?_ hS ?_
  rotate_left
  · intro w' hS; have z0_ := z0 _ hS; have z1_ := z1 _ hS; have z2_ := z2 _ hS; have z3_ := z3 _ hS; have z4_ := z4 _ hS; have z5_ := z5 _ hS; have z6_ := z6 _ hS; have z7_ := z7 _ hS; have z8_ := z8 _ hS; have z9_ := z9 _ hS; have z10_ := z10 _ hS; have z11_ := z11 _ hS; go_simp; (try go_bits); (first | rfl | rw [if_pos (by omega)])
  simp only [Act.put, List.getElem_toArray, List.getElem_cons_zero, List.getElem_cons_succ, List.setIfInBounds_toArray, List.set_cons_zero, List.set_cons_succ]
  refine Hold.take (i := 1) (v := ?_) rfl (by kernel_rfl) (fun _ _ _ h => h) rfl ?_ hS ?_
  rotate_left
  · intro w' hS; have z0_ := z0 _ hS; have z1_ := z1 _ hS; have z2_ := z2 _ hS; have z3_ := z3 _ hS; have z4_ := z4 _ hS; have z5_ := z5 _ hS; have z6_ := z6 _ hS; have z7_ := z7 _ hS; have z8_ := z8 _ hS; have z9_ := z9 _ hS; have z10_ := z10 _ hS; have z11_ := z11 _ hS; go_simp; (try go_bits); (first | rfl | rw [if_pos (by omega)])
  simp only [Act.put, List.getElem_toArray, List.getElem_cons_zero, List.getElem_cons_succ, List.setIfInBounds_toArray, List.set_cons_zero, List.set_cons_succ]
  refine Hold.take (i := 2) (v := ?_) rfl (by kernel_rfl) (fun _ _ _ h => h) rfl ?_ hS ?_
  rotate_left
  · intro w' hS; have z0_ := z0 _ hS; have z1_ := z1 _ hS; have z2_ := z2 _ hS; have z3_ := z3 _ hS; have z4_ := z4 _ hS; have z5_ := z5 _ hS; have z6_ := z6 _ hS; have z7_ := z7 _ hS; have z8_ := z8 _ hS; have z9_ := z9 _ hS; have z10_ := z10 _ hS; have z11_ := z11 _ hS; go_simp; (try go_bits); (first | rfl | rw [if_pos (by omega)])
  simp only [Act.put, List.getElem_toArray, List.getElem_cons_zero, List.getElem_cons_succ, List.setIfInBounds_toArray, List.set_cons_zero, List.set_cons_succ]
  refine Hold.take (i := 3) (v := ?_) rfl (by kernel_rfl) (fun _ _ _ h => h) rfl ?_ hS ?_
  rotate_left
  · intro w' hS; have z0_ := z0 _ hS; have z1_ := z1 _ hS; have z2_ := z2 _ hS; have z3_ := z3 _ hS; have z4_ := z4 _ hS; have z5_ := z5 _ hS; have z6_ := z6 _ hS; have z7_ := z7 _ hS; have z8_ := z8 _ hS; have z9_ := z9 _ hS; have z10_ := z10 _ hS; have z11_ := z11 _ hS; go_simp; (try go_bits); (first | rfl | rw [if_pos (by omega)])
  simp only [Act.put, List.getElem_toArray, List.getElem_cons_zero, List.getElem_cons_succ, List.setIfInBounds_toArray, List.set_cons_zero, List.set_cons_succ]
  refine Hold.take (i := 4) (v := ?_) rfl (by kernel_rfl) (fun _ _ _ h => h) rfl ?_ hS ?_
  rotate_left
  · intro w' hS; have z0_ := z0 _ hS; have z1_ := z1 _ hS; have z2_ := z2 _ hS; have z3_ := z3 _ hS; have z4_ := z4 _ hS; have z5_ := z5 _ hS; have z6_ := z6 _ hS; have z7_ := z7 _ hS; have z8_ := z8 _ hS; have z9_ := z9 _ hS; have z10_ := z10 _ hS; have z11_ := z11 _ hS; go_simp; (try go_bits); (first | rfl | rw [if_pos (by omega)])
  simp only [Act.put, List.getElem_toArray, List.getElem_cons_zero, List.getElem_cons_succ, List.setIfInBounds_toArray, List.set_cons_zero, List.set_cons_succ]
  refine Hold.take (i := 5) (v := ?_) rfl (by kernel_rfl) (fun _ _ _ h => h) rfl ?_ hS ?_
  rotate_left
  · intro w' hS; have z0_ := z0 _ hS; have z1_ := z1 _ hS; have z2_ := z2 _ hS; have z3_ := z3 _ hS; have z4_ := z4 _ hS; have z5_ := z5 _ hS; have z6_ := z6 _ hS; have z7_ := z7 _ hS; have z8_ := z8 _ hS; have z9_ := z9 _ hS; have z10_ := z10 _ hS; have z11_ := z11 _ hS; go_simp; (try go_bits); (first | rfl | rw [if_pos (by omega)])
  simp only [Act.put, List.getElem_toArray, List.getElem_cons_zero, List.getElem_cons_succ, List.setIfInBounds_toArray, List.set_cons_zero, List.set_cons_succ]
  refine Hold.take (i := 7) (v := ?_) rfl (by kernel_rfl) (fun _ _ _ h => h) rfl ?_ hS ?_
  rotate_left
  · intro w' hS; have z0_ := z0 _ hS; have z1_ := z1 _ hS; have z2_ := z2 _ hS; have z3_ := z3 _ hS; have z4_ := z4 _ hS; have z5_ := z5 _ hS; have z6_ := z6 _ hS; have z7_ := z7 _ hS; have z8_ := z8 _ hS; have z9_ := z9 _ hS; have z10_ := z10 _ hS; have z11_ := z11 _ hS; go_simp; (try go_bits); (first | rfl | rw [if_pos (by omega)])
  simp only [Act.put, List.getElem_toArray, List.getElem_cons_zero, List.getElem_cons_succ, List.setIfInBounds_toArray, List.set_cons_zero, List.set_cons_succ]
  refine Hold.take (i := 8) (v := ?_) rfl (by kernel_rfl) (fun _ _ _ h => h) rfl ?_ hS ?_
  rotate_left
  · intro w' hS; have z0_ := z0 _ hS; have z1_ := z1 _ hS; have z2_ := z2 _ hS; have z3_ := z3 _ hS; have z4_ := z4 _ hS; have z5_ := z5 _ hS; have z6_ := z6 _ hS; have z7_ := z7 _ hS; have z8_ := z8 _ hS; have z9_ := z9 _ hS; have z10_ := z10 _ hS; have z11_ := z11 _ hS; go_simp; (try go_bits); (first | rfl | rw [if_pos (by omega)])
  simp only [Act.put, List.getElem_toArray, List.getElem_cons_zero, List.getElem_cons_succ, List.setIfInBounds_toArray, List.set_cons_zero, List.set_cons_succ]
  refine Hold.take (i := 9) (v := ?_) rfl (by kernel_rfl) (fun _ _ _ h => h) rfl ?_ hS ?_
  rotate_left
  · intro w' hS; have z0_ := z0 _ hS; have z1_ := z1 _ hS; have z2_ := z2 _ hS; have z3_ := z3 _ hS; have z4_ := z4 _ hS; have z5_ := z5 _ hS; have z6_ := z6 _ hS; have z7_ := z7 _ hS; have z8_ := z8 _ hS; have z9_ := z9 _ hS; have z10_ := z10 _ hS; have z11_ := z11 _ hS; go_simp; (try go_bits); (first | rfl | rw [if_pos (by omega)])
  simp only [Act.put, List.getElem_toArray, List.getElem_cons_zero, List.getElem_cons_succ, List.setIfInBounds_toArray, List.set_cons_zero, List.set_cons_succ]
  refine Hold.take (i := 10) (v := ?_) rfl (by kernel_rfl) (fun _ _ _ h => h) rfl ?_ hS ?_
  rotate_left
  · intro w' hS; have z0_ := z0 _ hS; have z1_ := z1 _ hS; have z2_ := z2 _ hS; have z3_ := z3 _ hS; have z4_ := z4 _ hS; have z5_ := z5 _ hS; have z6_ := z6 _ hS; have z7_ := z7 _ hS; have z8_ := z8 _ hS; have z9_ := z9 _ hS; have z10_ := z10 _ hS; have z11_ := z11 _ hS; go_simp; (try go_bits); (first | rfl | rw [if_pos (by omega)])
  simp only [Act.put, List.getElem_toArray, List.getElem_cons_zero, List.getElem_cons_succ, List.setIfInBounds_toArray, List.set_cons_zero, List.set_cons_succ]
  refine Hold.take (i := 11) (v := ?_) rfl (by kernel_rfl) (fun _ _ _ h => h) rfl ?_ hS ?_
  rotate_left
  · intro w' hS; have z0_ := z0 _ hS; have z1_ := z1 _ hS; have z2_ := z2 _ hS; have z3_ := z3 _ hS; have z4_ := z4 _ hS; have z5_ := z5 _ hS; have z6_ := z6 _ hS; have z7_ := z7 _ hS; have z8_ := z8 _ hS; have z9_ := z9 _ hS; have z10_ := z10 _ hS; have z11_ := z11 _ hS; go_simp; (try go_bits); (first | rfl | rw [if_pos (by omega)])
  simp only [Act.put, List.getElem_toArray, List.getElem_cons_zero, List.getElem_cons_succ, List.setIfInBounds_toArray, List.set_cons_zero, List.set_cons_succ]
  refine Hold.take (i := 12) (v := ?_) rfl (by kernel_rfl) (fun _ _ _ h => h) rfl ?_ hS ?_
  rotate_left
  · intro w' hS; have z0_ := z0 _ hS; have z1_ := z1 _ hS; have z2_ := z2 _ hS; have z3_ := z3 _ hS; have z4_ := z4 _ hS; have z5_ := z5 _ hS; have z6_ := z6 _ hS; have z7_ := z7 _ hS; have z8_ := z8 _ hS; have z9_ := z9 _ hS; have z10_ := z10 _ hS; have z11_ := z11 _ hS; go_simp; (try go_bits); (first | rfl | rw [if_pos (by omega)])
  simp only [Act.put, List.getElem_toArray, List.getElem_cons_zero, List.getElem_cons_succ, List.setIfInBounds_toArray, List.set_cons_zero, List.set_cons_succ]
  refine Hold.one (i := 6) (by kernel_rfl) ?_
  refine Hold.call rfl rfl (by go_simp; exact ⟨rfl, rfl⟩) ?_
  refine (ev_any 2 2 1 _).mono ?_
  rintro r w7 ⟨rfl, k7⟩
  simp only [eagg]
  have hS7 := (Below.refl w6.heap.size w6).drew.trans k7
  refine ⟨_, rfl, hS7, ?_⟩
  simp only [Act.put, List.getElem_toArray, List.getElem_cons_zero, List.getElem_cons_succ, List.setIfInBounds_toArray, List.set_cons_zero, List.set_cons_succ]
  refine Hold.one (i := 13) (by kernel_rfl) ?_
  obtain ⟨g2, hg2⟩ : ∃ g2, g2 = w7.heap.size := ⟨_, rfl⟩
  obtain ⟨w8, hw8⟩ : ∃ w8, w8 = w7.alloc (.cells #[.int .i64 0, .int .u8 6, .int .i64 5, .int .i64 0, .int .u8 2, .int .i64 1, .int .i64 2, .int .u8 2, .int .i64 1, .int .i64 1, .int .u8 1, .int .i64 1, .int .i64 1, .int .u8 5, .int .i64 5] 48) := ⟨_, rfl⟩
  have E8 : Hid (Blk w8 g2 48 #[.int .i64 0, .int .u8 6, .int .i64 5, .int .i64 0, .int .u8 2, .int .i64 1, .int .i64 2, .int .u8 2, .int .i64 1, .int .i64 1, .int .u8 1, .int .i64 1, .int .i64 1, .int .u8 5, .int .i64 5]) := hide (hg2 ▸ hw8 ▸ Blk.new w7 _ _)
  have hS8 : Below w6.heap.size w6 w8 := hw8 ▸ hS7.alloc hS7.size _
  refine Hold.run (w' := w8) (v := .slice (some ⟨g2, 0, none⟩) 5 5) rfl rfl (by rw [hw8, hg2]; go_simp) ?_
  clear hw8 hg2
  refine ⟨hS8, ?_⟩
  simp only [Act.put, List.getElem_toArray, List.getElem_cons_zero, List.getElem_cons_succ, List.setIfInBounds_toArray, List.set_cons_zero, List.set_cons_succ]
  refine Hold.one (i := 14) (by kernel_rfl) ?_
  refine Hold.call rfl rfl (by go_simp; exact ⟨rfl, rfl⟩) ?_
  refine (P2.out w8 (some ⟨g2, 0, none⟩) 5 (erow_blk (l := lb) E8.out (by decide))).mono ?_
  rintro r w9 ⟨i, j, is, rfl, hR, k9⟩
  obtain ⟨rfl, rfl, rfl⟩ := hR.uniq race_b
  have hS9 := hS8.trans (k9.mono hS8.size)
  refine ⟨_, rfl, hS9, ?_⟩
  simp only [Act.put, List.getElem_toArray, List.getElem_cons_zero, List.getElem_cons_succ, List.setIfInBounds_toArray, List.set_cons_zero, List.set_cons_succ]
  clear hR k7 k9 hS7
  clear hS
  have hS : Below w6.heap.size w6 w9 := hS9
  refine Hold.take (i := 15) (v := ?_) rfl (by kernel_rfl) (fun _ _ _ h => h) rfl ?_ hS ?_
  rotate_left
  · intro w' hS; have z0_ := z0 _ hS; have z1_ := z1 _ hS; have z2_ := z2 _ hS; have z3_ := z3 _ hS; have z4_ := z4 _ hS; have z5_ := z5 _ hS; have z6_ := z6 _ hS; have z7_ := z7 _ hS; have z8_ := z8 _ hS; have z9_ := z9 _ hS; have z10_ := z10 _ hS; have z11_ := z11 _ hS; go_simp; (try go_bits); (first | rfl | rw [if_pos (by omega)])
  simp only [Act.put, List.getElem_toArray, List.getElem_cons_zero, List.getElem_cons_succ, List.setIfInBounds_toArray, List.set_cons_zero, List.set_cons_succ]
  refine Hold.take (i := 16) (v := ?_) rfl (by kernel_rfl) (fun _ _ _ h => h) rfl ?_ hS ?_
  rotate_left
  · intro w' hS; have z0_ := z0 _ hS; have z1_ := z1 _ hS; have z2_ := z2 _ hS; have z3_ := z3 _ hS; have z4_ := z4 _ hS; have z5_ := z5 _ hS; have z6_ := z6 _ hS; have z7_ := z7 _ hS; have z8_ := z8 _ hS; have z9_ := z9 _ hS; have z10_ := z10 _ hS; have z11_ := z11 _ hS; go_simp; (try go_bits); (first | rfl | rw [if_pos (by omega)])
  simp only [Act.put, List.getElem_toArray, List.getElem_cons_zero, List.getElem_cons_succ, List.setIfInBounds_toArray, List.set_cons_zero, List.set_cons_succ]
  refine Hold.take (i := 17) (v := ?_) rfl (by kernel_rfl) (fun _ _ _ h => h) rfl ?_ hS ?_
  rotate_left
  · intro w' hS; have z0_ := z0 _ hS; have z1_ := z1 _ hS; have z2_ := z2 _ hS; have z3_ := z3 _ hS; have z4_ := z4 _ hS; have z5_ := z5 _ hS; have z6_ := z6 _ hS; have z7_ := z7 _ hS; have z8_ := z8 _ hS; have z9_ := z9 _ hS; have z10_ := z10 _ hS; have z11_ := z11 _ hS; go_simp; (try go_bits); (first | rfl | rw [if_pos (by omega)])
  simp only [Act.put, List.getElem_toArray, List.getElem_cons_zero, List.getElem_cons_succ, List.setIfInBounds_toArray, List.set_cons_zero, List.set_cons_succ]
  refine Hold.take (i := 18) (v := ?_) rfl (by kernel_rfl) (fun _ _ _ h => h) rfl ?_ hS ?_
  rotate_left
  · intro w' hS; have z0_ := z0 _ hS; have z1_ := z1 _ hS; have z2_ := z2 _ hS; have z3_ := z3 _ hS; have z4_ := z4 _ hS; have z5_ := z5 _ hS; have z6_ := z6 _ hS; have z7_ := z7 _ hS; have z8_ := z8 _ hS; have z9_ := z9 _ hS; have z10_ := z10 _ hS; have z11_ := z11 _ hS; go_simp; (try go_bits); (first | rfl | rw [if_pos (by omega)])
  simp only [Act.put, List.getElem_toArray, List.getElem_cons_zero, List.getElem_cons_succ, List.setIfInBounds_toArray, List.set_cons_zero, List.set_cons_succ]
  refine Hold.take (i := 19) (v := ?_) rfl (by kernel_rfl) (fun _ _ _ h => h) rfl ?_ hS ?_
  rotate_left
  · intro w' hS; have z0_ := z0 _ hS; have z1_ := z1 _ hS; have z2_ := z2 _ hS; have z3_ := z3 _ hS; have z4_ := z4 _ hS; have z5_ := z5 _ hS; have z6_ := z6 _ hS; have z7_ := z7 _ hS; have z8_ := z8 _ hS; have z9_ := z9 _ hS; have z10_ := z10 _ hS; have z11_ := z11 _ hS; go_simp; (try go_bits); (first | rfl | rw [if_pos (by omega)])
  simp only [Act.put, List.getElem_toArray, List.getElem_cons_zero, List.getElem_cons_succ, List.setIfInBounds_toArray, List.set_cons_zero, List.set_cons_succ]
  refine Hold.take (i := 20) (v := ?_) rfl (by kernel_rfl) (fun _ _ _ h => h) rfl ?_ hS ?_
  rotate_left
  · intro w' hS; have z0_ := z0 _ hS; have z1_ := z1 _ hS; have z2_ := z2 _ hS; have z3_ := z3 _ hS; have z4_ := z4 _ hS; have z5_ := z5 _ hS; have z6_ := z6 _ hS; have z7_ := z7 _ hS; have z8_ := z8 _ hS; have z9_ := z9 _ hS; have z10_ := z10 _ hS; have z11_ := z11 _ hS; go_simp; (try go_bits); (first | rfl | rw [if_pos (by omega)])
  simp only [Act.put, List.getElem_toArray, List.getElem_cons_zero, List.getElem_cons_succ, List.setIfInBounds_toArray, List.set_cons_zero, List.set_cons_succ]
  refine Hold.take (i := 21) (v := ?_) rfl (by kernel_rfl) (fun _ _ _ h => h) rfl ?_ hS ?_
  rotate_left
  · intro w' hS; have z0_ := z0 _ hS; have z1_ := z1 _ hS; have z2_ := z2 _ hS; have z3_ := z3 _ hS; have z4_ := z4 _ hS; have z5_ := z5 _ hS; have z6_ := z6 _ hS; have z7_ := z7 _ hS; have z8_ := z8 _ hS; have z9_ := z9 _ hS; have z10_ := z10 _ hS; have z11_ := z11 _ hS; go_simp; (try go_bits); (first | rfl | rw [if_pos (by omega)])
  simp only [Act.put, List.getElem_toArray, List.getElem_cons_zero, List.getElem_cons_succ, List.setIfInBounds_toArray, List.set_cons_zero, List.set_cons_succ]
  refine Hold.take (i := 22) (v := ?_) rfl (by kernel_rfl) (fun _ _ _ h => h) rfl ?_ hS ?_
  rotate_left
  · intro w' hS; have z0_ := z0 _ hS; have z1_ := z1 _ hS; have z2_ := z2 _ hS; have z3_ := z3 _ hS; have z4_ := z4 _ hS; have z5_ := z5 _ hS; have z6_ := z6 _ hS; have z7_ := z7 _ hS; have z8_ := z8 _ hS; have z9_ := z9 _ hS; have z10_ := z10 _ hS; have z11_ := z11 _ hS; go_simp; (try go_bits); (first | rfl | rw [if_pos (by omega)])
  simp only [Act.put, List.getElem_toArray, List.getElem_cons_zero, List.getElem_cons_succ, List.setIfInBounds_toArray, List.set_cons_zero, List.set_cons_succ]
  refine Hold.take (i := 23) (v := ?_) rfl (by kernel_rfl) (fun _ _ _ h => h) rfl ?_ hS ?_
  rotate_left
  · intro w' hS; have z0_ := z0 _ hS; have z1_ := z1 _ hS; have z2_ := z2 _ hS; have z3_ := z3 _ hS; have z4_ := z4 _ hS; have z5_ := z5 _ hS; have z6_ := z6 _ hS; have z7_ := z7 _ hS; have z8_ := z8 _ hS; have z9_ := z9 _ hS; have z10_ := z10 _ hS; have z11_ := z11 _ hS; go_simp; (try go_bits); (first | rfl | rw [if_pos (by omega)])
  simp only [Act.put, List.getElem_toArray, List.getElem_cons_zero, List.getElem_cons_succ, List.setIfInBounds_toArray, List.set_cons_zero, List.set_cons_succ]
  refine Hold.done (by kernel_rfl) ?_
  have t9 := hide (below_call (w := w) t6.out hS9)
  have E9 := hide (E6.out.below hS9 E6.out.lt)
  clear z0 z1 z2 z3 z4 z5 z6 z7 z8 z9 z10 z11 hS8 hS9 hS hb6 hgl E8 E6 t6
  go_wp2_with fail
  refine (P3.out _ (some ⟨g, 0, none⟩) 4 (erow_blk (l := la) E9.out (by decide))).mono ?_
  rintro r w10 ⟨gs, cap, rfl, hT, k10⟩
  have t10 := hide (below_call (w := w) t9.out k10)
  have E10 := hide (E9.out.below k10 E9.out.lt)
  have T10 := hide hT
  obtain ⟨bs, os, hS0, hbs, hcs⟩ := t_at hT (by decide)
  simp only [Option.some.injEq, Addr.mk.injEq, and_true] at hS0
  obtain ⟨e1, e2⟩ := hS0
  subst e1 e2
  obtain ⟨g3, c3, x3, m3, m3b, _, s3⟩ := hcs 3 (by decide)
  obtain ⟨g4, c4, x4, m4, m4b, _, s4⟩ := hcs 2 (by decide)
  simp only [Nat.zero_add] at x3 x4
  have v30 : w10.cell? ⟨g3, 0, none⟩ = some (.int .i64 2) := by have h := s3 0 (by decide); rw [show ((0 : Nat) : Int) = 0 from rfl, a30] at h; exact h
  have v31 : w10.cell? ⟨g3, 1, none⟩ = some (.int .i64 2) := by have h := s3 1 (by decide); rw [show ((1 : Nat) : Int) = 1 from rfl, a31] at h; exact h
  have v41 : w10.cell? ⟨g4, 1, none⟩ = some (.int .i64 1) := by have h := s4 1 (by decide); rw [show ((1 : Nat) : Int) = 1 from rfl, a21] at h; exact h
  unfold maxLen at m3b m4b
  clear hcs s3 s4 k10 t9 E9 hT P1 P2 P3
  have hlen : Hid (la.length = 4) := hide rfl
  go_wp2_with fail
  refine (before_in (some ⟨g, 0, none⟩) la 4 (some ⟨gs, 0, none⟩) cap 2 0 3 _ (erow_blk (l := la) E10.out (by decide)) ok_a.ev T10.out (by decide) (by decide) (by decide) (by decide)).mono ?_
  rintro r w11 ⟨rfl, k11⟩
  have hd : decide (stamp (gl la) 0 (gl la 0).w ≤ stamp (gl la) 3 (gl la 0).w) = true := by
    rw [decide_eq_true_eq]
    show stamp (gl la) 0 0 ≤ stamp (gl la) 3 0
    rw [a00, a30]; omega
  rw [hd]
  have t11 := hide (below_call (w := w) t10.out k11)
  clear hd k11 v30 v31 v41 x3 x4
  go_wp2_with fail
  refine (before_out (some ⟨g, 0, none⟩) 4 4 (some ⟨gs, 0, none⟩) cap 3 0 _ (by omega) (by decide)).mono ?_
  rintro r w12 ⟨rfl, k12⟩
  have t12 := hide (below_call (w := w) t11.out k12)
  clear k12
  go_wp2_with fail
  go_returns
  exact ⟨rfl, t12.out⟩
end Go.Proofs.Ytffpphnjokmffaa
