/- Walk: CodecOne. -/
import Derived.Test.YtmngndmcidbakaaZK
namespace Go.Proofs.Ytmngndmcidbakaa
open Go.RowKit
set_option maxRecDepth 100000 in
set_option maxHeartbeats 4000000 in
theorem codecOne_any (w : World) (v1 v2 : Value) (T U : Tr) (hT : TrV w v1 T) (hU : TrV w v2 U) (z1 : T.nodes.length ≤ 1000000000000000) (z2 : T.adv.length ≤ 1000000000000000000) (z3 : U.nodes.length ≤ 1000000000000000) (z4 : U.adv.length ≤ 1000000000000000000) :
    Calls Try.prog 7 #[v1, v2] w fun e w' => e = .returned (.bool true) ∧ Below w.heap.size w w' := by
  obtain ⟨na, nc, aa, ac, e1⟩ := hT.form
  obtain ⟨nb, nd, ab, ad, e2⟩ := hU.form
  subst e1 e2
  have OT := hide hT
  have OU := hide hU
  have okT1 : Hid (okT T) := hide (by obtain ⟨_, _, _, _, _, _, _, h, _⟩ := hT; exact h)
  have okU1 : Hid (okT U) := hide (by obtain ⟨_, _, _, _, _, _, _, h, _⟩ := hU; exact h)
  obtain ⟨W2, hW2⟩ : ∃ W2, W2 = (w.alloc (.cells #[.slice na T.nodes.length nc, .slice aa T.adv.length ac, .int .i64 T.view] 35)).alloc (.cells #[.slice nb U.nodes.length nd, .slice ab U.adv.length ad, .int .i64 U.view] 35) := ⟨_, rfl⟩
  have k2 : Below w.heap.size w W2 := by rw [hW2]; exact ((Below.refl _ _).alloc (Nat.le_refl _) _).alloc (by simp) _
  obtain ⟨ga, hga⟩ : ∃ ga, ga = w.heap.size := ⟨_, rfl⟩
  have BA : Blk W2 ga 35 #[.slice na T.nodes.length nc, .slice aa T.adv.length ac, .int .i64 T.view] := by rw [hW2, hga]; exact (Blk.new w _ _).alloc _
  have BB : Blk W2 (ga + 1) 35 #[.slice nb U.nodes.length nd, .slice ab U.adv.length ad, .int .i64 U.view] := by
    rw [hW2, hga]
    have := Blk.new (w.alloc (.cells #[.slice na T.nodes.length nc, .slice aa T.adv.length ac, .int .i64 T.view] 35)) 35 #[.slice nb U.nodes.length nd, .slice ab U.adv.length ad, .int .i64 U.view]
    simpa using this
  have T2 := hide (hT.below k2)
  have U2 := hide (hU.below k2)
  have K2 : Hid (Below ga w W2) := hide (hga ▸ k2)
  have HGS : Hid (ga ≤ W2.heap.size) := hide (by rw [hga]; exact k2.size)
  have HW2 := hide hW2
  have HGA := hide hga
  have BA := hide BA
  have BB := hide BB
  clear hT hU hW2 k2 hga OT OU
  rw [← HGA.out]
  go_enter Try.func7, Try.ntmps7
  go_upto_region 1 with fail
  rw [← HW2.out, ← HGA.out]
  have c0 : W2.cell? ⟨ga, 0, none⟩ = some (.slice na T.nodes.length nc) := BA.out.cell 0
  have c1 : W2.cell? ⟨ga, 1, none⟩ = some (.slice aa T.adv.length ac) := BA.out.cell 1
  have c2 : W2.cell? ⟨ga, 2, none⟩ = some (.int .i64 T.view) := BA.out.cell 2
  go_wp2_with fail
  refine (vast_any _ T W2 T2.out z1 z2).mono ?_
  rintro r w3 ⟨x, rfl, k3, hx⟩
  have HX := hide hx
  have K3 := hide k3
  clear hx k3 c0 c1 c2
  cases x with
  | true =>
    go_wp2_with fail
    refine (works_any w3).mono ?_
    rintro r' w4 ⟨rfl, k4⟩
    have K4 := hide (K2.out.trans ((below_call K3.out k4).mono HGS.out))
    clear k4
    go_wp2_with fail
    go_returns
    exact ⟨rfl, K4.out⟩
  | false =>
    have BB3 := hide (BB.out.below K3.out BB.out.lt)
    have BA3 := hide (BA.out.below K3.out BA.out.lt)
    have d0 : w3.cell? ⟨ga + 1, 0, none⟩ = some (.slice nb U.nodes.length nd) := BB3.out.cell 0
    have d1 : w3.cell? ⟨ga + 1, 1, none⟩ = some (.slice ab U.adv.length ad) := BB3.out.cell 1
    have d2 : w3.cell? ⟨ga + 1, 2, none⟩ = some (.int .i64 U.view) := BB3.out.cell 2
    have T3 := hide (T2.out.below K3.out)
    have U3 := hide (U2.out.below K3.out)
    have wT := HX.out rfl
    go_wp2_with fail
    refine (vast_any _ U w3 U3.out z3 z4).mono ?_
    rintro r w4 ⟨y, rfl, k4, hy⟩
    have HY := hide hy
    have K4 := hide (K2.out.trans ((below_call K3.out k4).mono HGS.out))
    have T4 := hide (T3.out.below k4)
    have U4 := hide (U3.out.below k4)
    have BB4 := hide (BB3.out.below k4 BB3.out.lt)
    have BA4 := hide (BA3.out.below k4 BA3.out.lt)
    have HGS4 : ga ≤ w4.heap.size := Nat.le_of_lt BA4.out.lt
    clear hy k4 d0 d1 d2
    cases y with
    | true =>
      go_wp2_with fail
      refine (works_any w4).mono ?_
      rintro r' w5 ⟨rfl, k5⟩
      have K5 := hide (K4.out.trans (k5.mono HGS4))
      clear k5
      go_wp2_with fail
      go_returns
      exact ⟨rfl, K5.out⟩
    | false =>
      have wU := HY.out rfl
      have sT := hide (SzT.of_wr okT1.out wT)
      have sU := hide (SzT.of_wr okU1.out wU)
      go_upto_region 3 with fail
      have C0 := keepc (p := ⟨ga, 0, none⟩) BA4.out.lt (BA4.out.cell 0)
      have C1 := keepc (p := ⟨ga, 1, none⟩) BA4.out.lt (BA4.out.cell 1)
      have C2 := keepc (p := ⟨ga, 2, none⟩) BA4.out.lt (BA4.out.cell 2)
      have D0 := keepc (p := ⟨ga + 1, 0, none⟩) BB4.out.lt (BB4.out.cell 0)
      have D1 := keepc (p := ⟨ga + 1, 1, none⟩) BB4.out.lt (BB4.out.cell 1)
      have D2 := keepc (p := ⟨ga + 1, 2, none⟩) BB4.out.lt (BB4.out.cell 2)
      obtain ⟨bb, hbb⟩ : ∃ bb, bb = decide (T = U) := ⟨_, rfl⟩
      have hbb2 : decide (wrT T = wrT U) = bb := by
        rw [hbb]
        apply decide_eq_decide.2
        exact ⟨fun h => wrT_inj okT1.out okU1.out h, fun h => by rw [h]⟩
      have HBB := hide hbb
      have HBB2 := hide hbb2
      clear hbb hbb2
      refine Hold.begin_ 13 (by kernel_rfl) rfl (fun w' => Below w4.heap.size w4 w') ?_ (Below.refl _ _).drew
      intro hS
      refine Hold.take (i := 0) (v := ?_) rfl (by kernel_rfl) (fun _ _ _ h => h) rfl ?_ hS ?_
      rotate_left
      · intro w' hS; have z0_ := C0 _ hS; have z1_ := C1 _ hS; have z2_ := C2 _ hS; have z3_ := D0 _ hS; have z4_ := D1 _ hS; have z5_ := D2 _ hS; go_simp; (try go_bits); (first | rfl | rw [if_pos (by omega)])
      simp only [Act.put, List.getElem_toArray, List.getElem_cons_zero, List.getElem_cons_succ, List.setIfInBounds_toArray, List.set_cons_zero, List.set_cons_succ]
      refine Hold.take (i := 2) (v := ?_) rfl (by kernel_rfl) (fun _ _ _ h => h) rfl ?_ hS ?_
      rotate_left
      · intro w' hS; have z0_ := C0 _ hS; have z1_ := C1 _ hS; have z2_ := C2 _ hS; have z3_ := D0 _ hS; have z4_ := D1 _ hS; have z5_ := D2 _ hS; go_simp; (try go_bits); (first | rfl | rw [if_pos (by omega)])
      simp only [Act.put, List.getElem_toArray, List.getElem_cons_zero, List.getElem_cons_succ, List.setIfInBounds_toArray, List.set_cons_zero, List.set_cons_succ]
      refine Hold.take (i := 5) (v := ?_) rfl (by kernel_rfl) (fun _ _ _ h => h) rfl ?_ hS ?_
      rotate_left
      · intro w' hS; have z0_ := C0 _ hS; have z1_ := C1 _ hS; have z2_ := C2 _ hS; have z3_ := D0 _ hS; have z4_ := D1 _ hS; have z5_ := D2 _ hS; go_simp; (try go_bits); (first | rfl | rw [if_pos (by omega)])
      simp only [Act.put, List.getElem_toArray, List.getElem_cons_zero, List.getElem_cons_succ, List.setIfInBounds_toArray, List.set_cons_zero, List.set_cons_succ]
      refine Hold.take (i := 6) (v := ?_) rfl (by kernel_rfl) (fun _ _ _ h => h) rfl ?_ hS ?_
      rotate_left
      · intro w' hS; have z0_ := C0 _ hS; have z1_ := C1 _ hS; have z2_ := C2 _ hS; have z3_ := D0 _ hS; have z4_ := D1 _ hS; have z5_ := D2 _ hS; go_simp; (try go_bits); (first | rfl | rw [if_pos (by omega)])
      simp only [Act.put, List.getElem_toArray, List.getElem_cons_zero, List.getElem_cons_succ, List.setIfInBounds_toArray, List.set_cons_zero, List.set_cons_succ]
      refine Hold.one (i := 1) (by kernel_rfl) ?_
      refine Hold.call rfl rfl (by go_simp; exact ⟨rfl, rfl⟩) ?_
      refine (write_any _ T w4.drew (T4.out.below (Below.refl _ _).drew) wT).mono ?_
      rintro r w5 ⟨v5, rfl, O5, k5⟩
      have t5 : Below w4.heap.size w4 w5 := below_call (Below.refl _ _).drew k5
      obtain ⟨a5, c5, rfl, _, _, R5⟩ := O5.row
      refine ⟨_, rfl, t5, ?_⟩
      simp only [Act.put, List.getElem_toArray, List.getElem_cons_zero, List.getElem_cons_succ, List.setIfInBounds_toArray, List.set_cons_zero, List.set_cons_succ]
      refine Hold.one (i := 3) (by kernel_rfl) ?_
      refine Hold.call rfl rfl (by go_simp; exact ⟨rfl, rfl⟩) ?_
      refine (write_any _ U w5 (U4.out.below t5) wU).mono ?_
      rintro r w6 ⟨v6, rfl, O6, k6⟩
      have t6 : Below w4.heap.size w4 w6 := below_call t5 k6
      obtain ⟨a6, c6, rfl, _, _, R6⟩ := O6.row
      refine ⟨_, rfl, t6, ?_⟩
      simp only [Act.put, List.getElem_toArray, List.getElem_cons_zero, List.getElem_cons_succ, List.setIfInBounds_toArray, List.set_cons_zero, List.set_cons_succ]
      refine Hold.one (i := 4) (by kernel_rfl) ?_
      refine Hold.call rfl rfl (by go_simp; exact ⟨rfl, rfl⟩) ?_
      refine (bsame_any a5 a6 (wrT T) (wrT U) c5 c6 w6 (R5.below k6) R6 (by omega) (by omega)).mono ?_
      rintro r w7 ⟨rfl, k7⟩
      have t7 : Below w4.heap.size w4 w7 := below_call t6 k7
      refine ⟨_, rfl, t7, ?_⟩
      rw [HBB2.out]
      simp only [Act.put, List.getElem_toArray, List.getElem_cons_zero, List.getElem_cons_succ, List.setIfInBounds_toArray, List.set_cons_zero, List.set_cons_succ]
      refine Hold.one (i := 7) (by kernel_rfl) ?_
      refine Hold.call rfl rfl (by go_simp; exact ⟨rfl, rfl⟩) ?_
      refine (tsame_any _ _ T U w7 (T4.out.below t7) (U4.out.below t7) sT.out sU.out).mono ?_
      rintro r w8 ⟨rfl, k8⟩
      have t8 : Below w4.heap.size w4 w8 := below_call t7 k8
      refine ⟨_, rfl, t8, ?_⟩
      rw [← HBB.out]
      simp only [Act.put, List.getElem_toArray, List.getElem_cons_zero, List.getElem_cons_succ, List.setIfInBounds_toArray, List.set_cons_zero, List.set_cons_succ]
      clear hS
      have hS := t8
      refine Hold.take (i := 8) (v := .bool true) rfl (by kernel_rfl) (fun _ _ _ h => h) rfl (by intro w' hS; go_simp) hS ?_
      simp only [Act.put, List.getElem_toArray, List.getElem_cons_zero, List.getElem_cons_succ, List.setIfInBounds_toArray, List.set_cons_zero, List.set_cons_succ]
      refine Hold.take (i := 9) (v := ?_) rfl (by kernel_rfl) (fun _ _ _ h => h) rfl ?_ hS ?_
      rotate_left
      · intro w' hS; have z0_ := C0 _ hS; have z1_ := C1 _ hS; have z2_ := C2 _ hS; have z3_ := D0 _ hS; have z4_ := D1 _ hS; have z5_ := D2 _ hS; go_simp; (try go_bits); (first | rfl | rw [if_pos (by omega)])
      simp only [Act.put, List.getElem_toArray, List.getElem_cons_zero, List.getElem_cons_succ, List.setIfInBounds_toArray, List.set_cons_zero, List.set_cons_succ]
      refine Hold.one (i := 10) (by kernel_rfl) ?_
      refine Hold.call rfl rfl (by go_simp; exact ⟨rfl, rfl⟩) ?_
      refine (works_any w8).mono ?_
      rintro r w9 ⟨rfl, k9⟩
      have t9 : Below w4.heap.size w4 w9 := below_call t8 k9
      refine ⟨_, rfl, t9, ?_⟩
      simp only [Act.put, List.getElem_toArray, List.getElem_cons_zero, List.getElem_cons_succ, List.setIfInBounds_toArray, List.set_cons_zero, List.set_cons_succ]
      clear hS
      have hS := t9
      refine Hold.take (i := 11) (v := ?_) rfl (by kernel_rfl) (fun _ _ _ h => h) rfl ?_ hS ?_
      rotate_left
      · intro w' hS; have z0_ := C0 _ hS; have z1_ := C1 _ hS; have z2_ := C2 _ hS; have z3_ := D0 _ hS; have z4_ := D1 _ hS; have z5_ := D2 _ hS; go_simp; (try go_bits); (first | rfl | rw [if_pos (by omega)])
      simp only [Act.put, List.getElem_toArray, List.getElem_cons_zero, List.getElem_cons_succ, List.setIfInBounds_toArray, List.set_cons_zero, List.set_cons_succ]
      refine Hold.one (i := 12) (by kernel_rfl) ?_
      refine Hold.run rfl rfl (by go_simp; first | rfl | exact ⟨rfl, rfl⟩) ?_
      refine ⟨t9, ?_⟩
      simp only [Act.put, List.getElem_toArray, List.getElem_cons_zero, List.getElem_cons_succ, List.setIfInBounds_toArray, List.set_cons_zero, List.set_cons_succ]
      refine Hold.done (by kernel_rfl) ?_
      have K9 := hide (K4.out.trans (t9.mono HGS4))
      clear hS t5 t6 t7 t8 t9 k5 k6 k7 k8 k9 C0 C1 C2 D0 D1 D2 O5 O6 R5 R6
      go_wp2_with fail
      go_returns
      exact ⟨rfl, K9.out⟩
theorem walk_CodecOne (w : World) (v1 : Value) (h1 : ∃ T : Tr, TrV w v1 T ∧ T.nodes.length ≤ 1000000000000000 ∧ T.adv.length ≤ 1000000000000000000) (v2 : Value) (h2 : ∃ T : Tr, TrV w v2 T ∧ T.nodes.length ≤ 1000000000000000 ∧ T.adv.length ≤ 1000000000000000000) :
    Calls Try.prog 7 #[v1, v2] w fun e w' => e = .returned (.bool true) ∧ Below w.heap.size w w' := by
  obtain ⟨T, hT, z1, z2⟩ := h1
  obtain ⟨U, hU, z3, z4⟩ := h2
  refine (codecOne_any w v1 v2 T U hT hU z1 z2 z3 z4).mono ?_
  exact fun _ _ h => h
end Go.Proofs.Ytmngndmcidbakaa
