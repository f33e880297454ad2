/- Walk: the reference's Same of styles. -/
import Derived.Test.YtmngndmcidbakaaZG
namespace Go.Proofs.Ytmngndmcidbakaa
open Go.RowKit
theorem lists_eq {L M : List (List Int)} (hL : okS KD L) (hM : okS KD M) (h : ∀ k, k < 32 → L.getD k [] = M.getD k []) : L = M := by
  have l1 := okS_len hL
  have l2 := okS_len hM
  have l3 : KD.length = 32 := rfl
  apply List.ext_getElem (by omega)
  intro i h1 h2
  have := h i (by omega)
  rwa [List.getD_eq_getElem?_getD, List.getD_eq_getElem?_getD, List.getElem?_eq_getElem h1, List.getElem?_eq_getElem h2] at this
theorem field_eq {κ : Nat} {v u : List Int} (hv : okF κ v) (hu : okF κ u) (h5 : κ ≠ 5) (h0 : κ = 0 → ((v.getD 0 0 != 0) = (u.getD 0 0 != 0))) (h1 : κ ≠ 0 → v.getD 0 0 = u.getD 0 0) (h4 : κ = 4 → v.getD 1 0 = u.getD 1 0) : v = u := by
  rcases kcase κ with h | h | h | h | ⟨k0, k1, k4, k5⟩
  · subst h
    have h := h0 rfl
    rcases hv with rfl | rfl <;> rcases hu with rfl | rfl <;> first | rfl | (simp at h)
  · subst h
    obtain ⟨x, rfl, _⟩ := hv
    obtain ⟨y, rfl, _⟩ := hu
    have := h1 (by decide)
    simpa using this
  · subst h
    obtain ⟨x, n, rfl, _⟩ := hv
    obtain ⟨y, m, rfl, _⟩ := hu
    have e1 := h1 (by decide)
    have e2 := h4 rfl
    simp at e1 e2
    rw [e1, e2]
  · exact absurd h h5
  · rw [okF_o k0 k1 k4 k5] at hv hu
    obtain ⟨x, rfl, _⟩ := hv
    obtain ⟨y, rfl, _⟩ := hu
    have := h1 k0
    simpa using this
/-- Cell o of two styles is the same. -/
def ceq (L M : List (List Int)) (o : Nat) : Prop := if kd (OF.getD o (0, 0)).1 = 0 then ((gof L (OF.getD o (0, 0)).1 0 != 0) = (gof M (OF.getD o (0, 0)).1 0 != 0)) else gof L (OF.getD o (0, 0)).1 (OF.getD o (0, 0)).2 = gof M (OF.getD o (0, 0)).1 (OF.getD o (0, 0)).2
theorem kd_off : ∀ k, k < 31 → off k < 42 ∧ OF.getD (off k) (0, 0) = (k, 0) ∧ kd k ≠ 5 ∧ (kd k = 4 → off k + 1 < 42 ∧ OF.getD (off k + 1) (0, 0) = (k, 1)) := by decide
theorem same_of_cells {L M : List (List Int)} (hL : okS KD L) (hM : okS KD M) (hu : L.getD 31 [] = M.getD 31 []) (h : ∀ o, o < 42 → ceq L M o) : L = M := by
  refine lists_eq hL hM fun k hk => ?_
  by_cases h31 : k = 31
  · subst h31; exact hu
  obtain ⟨c1, c2, c3, c4⟩ := kd_off k (by omega)
  have hv := okS_at hL k hk
  have hw := okS_at hM k hk
  have h0 := h (off k) c1
  unfold ceq at h0
  rw [c2] at h0
  dsimp only at h0
  refine field_eq hv hw c3 (fun e => ?_) (fun e => ?_) (fun e => ?_)
  · split at h0
    · exact h0
    · rename_i hn; exact absurd e hn
  · split at h0
    · rename_i hn; exact absurd hn e
    · exact h0
  · have h1 := h (off k + 1) (c4 e).1
    unfold ceq at h1
    rw [(c4 e).2] at h1
    dsimp only at h1
    split at h1
    · rename_i hn; rw [show kd k = 4 from e] at hn; exact absurd hn (by decide)
    · exact h1
theorem same_bool {L M : List (List Int)} (hL : okS KD L) (hM : okS KD M) (hu : L.getD 31 [] = M.getD 31 []) : ((((((((((((((((gof L 2 0 == gof M 2 0) && ((gof L 0 0 != 0) == (gof M 0 0 != 0))) && (gof L 3 0 == gof M 3 0)) && (gof L 4 0 == gof M 4 0)) && (gof L 5 0 == gof M 5 0)) && (gof L 8 0 == gof M 8 0)) && ((gof L 1 0 != 0) == (gof M 1 0 != 0))) && (gof L 6 0 == gof M 6 0)) && (gof L 7 0 == gof M 7 0)) && (gof L 9 0 == gof M 9 0)) && (gof L 10 0 == gof M 10 0)) && (gof L 11 0 == gof M 11 0)) && ((((((((gof L 12 0 == gof M 12 0) && (gof L 12 1 == gof M 12 1)) && ((gof L 13 0 == gof M 13 0) && (gof L 13 1 == gof M 13 1))) && ((gof L 14 0 == gof M 14 0) && (gof L 14 1 == gof M 14 1))) && ((gof L 15 0 == gof M 15 0) && (gof L 15 1 == gof M 15 1))) && ((gof L 16 0 == gof M 16 0) && (gof L 16 1 == gof M 16 1))) && ((gof L 17 0 == gof M 17 0) && (gof L 17 1 == gof M 17 1))) && ((gof L 18 0 == gof M 18 0) && (gof L 18 1 == gof M 18 1)))) && (((gof L 19 0 == gof M 19 0) && (gof L 19 1 == gof M 19 1)) && (((gof L 20 0 == gof M 20 0) && (gof L 20 1 == gof M 20 1)) && (((gof L 21 0 == gof M 21 0) && (gof L 21 1 == gof M 21 1)) && ((gof L 22 0 == gof M 22 0) && (gof L 22 1 == gof M 22 1)))))) && ((gof L 23 0 == gof M 23 0) && ((gof L 24 0 == gof M 24 0) && ((gof L 25 0 == gof M 25 0) && (gof L 26 0 == gof M 26 0))))) && ((gof L 27 0 == gof M 27 0) && ((gof L 28 0 == gof M 28 0) && ((gof L 29 0 == gof M 29 0) && (gof L 30 0 == gof M 30 0))))) = decide (L = M) := by
  rw [Bool.eq_iff_iff, decide_eq_true_eq]
  constructor
  · intro h
    simp only [Bool.and_eq_true, beq_iff_eq] at h
    obtain ⟨⟨⟨⟨⟨⟨⟨⟨⟨⟨⟨⟨⟨⟨⟨h0, h1⟩, h2⟩, h3⟩, h32⟩, h33⟩, h34⟩, h35⟩, h36⟩, h37⟩, h38⟩, h39⟩, ⟨⟨⟨⟨⟨⟨⟨h4, h5⟩, ⟨h6, h7⟩⟩, ⟨h8, h9⟩⟩, ⟨h10, h11⟩⟩, ⟨h12, h13⟩⟩, ⟨h14, h15⟩⟩, ⟨h40, h41⟩⟩⟩, ⟨⟨h16, h17⟩, ⟨h18, h19⟩, ⟨h20, h21⟩, ⟨h22, h23⟩⟩⟩, ⟨h24, h25, h26, h27⟩⟩, ⟨h28, h29, h30, h31⟩⟩ := h
    refine same_of_cells hL hM hu fun o ho => ?_
    match o, ho with
    | 0, _ => exact h0
    | 1, _ => exact h1
    | 2, _ => exact h2
    | 3, _ => exact h3
    | 4, _ => exact h4
    | 5, _ => exact h5
    | 6, _ => exact h6
    | 7, _ => exact h7
    | 8, _ => exact h8
    | 9, _ => exact h9
    | 10, _ => exact h10
    | 11, _ => exact h11
    | 12, _ => exact h12
    | 13, _ => exact h13
    | 14, _ => exact h14
    | 15, _ => exact h15
    | 16, _ => exact h16
    | 17, _ => exact h17
    | 18, _ => exact h18
    | 19, _ => exact h19
    | 20, _ => exact h20
    | 21, _ => exact h21
    | 22, _ => exact h22
    | 23, _ => exact h23
    | 24, _ => exact h24
    | 25, _ => exact h25
    | 26, _ => exact h26
    | 27, _ => exact h27
    | 28, _ => exact h28
    | 29, _ => exact h29
    | 30, _ => exact h30
    | 31, _ => exact h31
    | 32, _ => exact h32
    | 33, _ => exact h33
    | 34, _ => exact h34
    | 35, _ => exact h35
    | 36, _ => exact h36
    | 37, _ => exact h37
    | 38, _ => exact h38
    | 39, _ => exact h39
    | 40, _ => exact h40
    | 41, _ => exact h41
    | n + 42, h => exact absurd h (by omega)
  · rintro rfl
    simp
set_option maxRecDepth 100000 in
set_option maxHeartbeats 4000000 in
theorem ssame_any (L M : List (List Int)) (u1 u2 : Value) (w : World) (hL : okS KD L) (hM : okS KD M) (h1 : UR w u1 (L.getD 31 [])) (h2 : UR w u2 (M.getD 31 [])) (hl1 : (L.getD 31 []).length ≤ 10000000) (hl2 : (M.getD 31 []).length ≤ 10000000) :
    Calls Try.prog 31 #[.agg (SC (gof L) u1).toArray, .agg (SC (gof M) u2).toArray] w fun r w' => r = .returned (.bool (decide (L = M))) ∧ Below w.heap.size w w' := by
  obtain ⟨a1, c1, rfl, hr1, hc1, hm1⟩ := h1
  obtain ⟨a2, c2, rfl, hr2, hc2, hm2⟩ := h2
  obtain ⟨us, hus⟩ : ∃ us, us = L.getD 31 [] := ⟨_, rfl⟩
  obtain ⟨vs, hvs⟩ : ∃ vs, vs = M.getD 31 [] := ⟨_, rfl⟩
  rw [← hus] at hl1 hr1 hc1 ⊢
  rw [← hvs] at hl2 hr2 hc2 ⊢
  have HUS := hide hus
  have HVS := hide hvs
  have HL := hide hL
  have HM := hide hM
  obtain ⟨W2, hW2⟩ : ∃ W2, W2 = (w.alloc (.cells (SC (gof L) (.slice a1 us.length c1)).toArray 49)).alloc (.cells (SC (gof M) (.slice a2 vs.length c2)).toArray 49) := ⟨_, rfl⟩
  have k2 : Below w.heap.size w W2 := by rw [hW2]; exact ((Below.refl _ _).alloc (Nat.le_refl _) _).alloc (by simp) _
  obtain ⟨ga, hga⟩ : ∃ ga, ga = w.heap.size := ⟨_, rfl⟩
  have BA : Blk W2 ga 49 (SC (gof L) (.slice a1 us.length c1)).toArray := by rw [hW2, hga]; exact (Blk.new w _ _).alloc _
  have BB : Blk W2 (ga + 1) 49 (SC (gof M) (.slice a2 vs.length c2)).toArray := by
    rw [hW2, hga]
    have := Blk.new (w.alloc (.cells (SC (gof L) (.slice a1 us.length c1)).toArray 49)) 49 (SC (gof M) (.slice a2 vs.length c2)).toArray
    simpa using this
  have R1 := hide (hr1.below k2)
  have R2 := hide (hr2.below k2)
  have K2 : Hid (Below ga w W2) := hide (hga ▸ k2)
  have HW2 := hide hW2
  have HGA := hide hga
  have BA := hide BA
  have BB := hide BB
  clear hus hvs hL hM hr1 hr2 hW2 k2 hga
  rw [← HGA.out]
  go_enter Try.func31, Try.ntmps31
  go_upto_region 1 with fail
  rw [← HW2.out, ← HGA.out]
  have x0 : W2.cell? ⟨ga, 42, none⟩ = some (.slice a1 us.length c1) := BA.out.cell 42
  have y0 : W2.cell? ⟨ga + 1, 42, none⟩ = some (.slice a2 vs.length c2) := BB.out.cell 42
  by_cases hlen : us.length = vs.length
  · have d0 : ((us.length : Int) != (vs.length : Int)) = false := by simp [hlen]
    go_wp2_with fail
    go_loopw [5] (fun s5 wr => ∃ i : Nat, i ≤ us.length ∧ s5 = .int .i64 i ∧ Hid (us.take i = vs.take i) ∧ ∃ q, wr = W2.drewN q) (fun s5 _ => us.length - (intOf s5).toNat)
    case atStart => exact ⟨0, Nat.zero_le _, rfl, hide rfl, 0, rfl⟩
    case round =>
      clear d0
      obtain ⟨i, hi, rfl, htk, q, rfl⟩ := hrel
      have x0 : (W2.drewN q).cell? ⟨ga, 42, none⟩ = some (.slice a1 us.length c1) := x0
      have y0 : (W2.drewN q).cell? ⟨ga + 1, 42, none⟩ = some (.slice a2 vs.length c2) := y0
      by_cases hlt : i < us.length
      · obtain ⟨b1, o1, e1, hb1, hc1'⟩ := R1.out.2 (by rw [List.length_map]; omega)
        obtain ⟨b2, o2, e2, hb2, hc2'⟩ := R2.out.2 (by rw [List.length_map]; omega)
        subst e1 e2
        have z1 := hc1' i (by rw [List.length_map]; exact hlt)
        have z2 := hc2' i (by rw [List.length_map]; omega)
        rw [List.getElem_map] at z1 z2
        have hlt2 : i < vs.length := by omega
        have HT1 := hide (List.take_succ_eq_append_getElem hlt)
        have HT2 := hide (List.take_succ_eq_append_getElem hlt2)
        clear hc1' hc2'
        have HG : Hid (us[i] ≠ vs[i] → decide (L = M) = false) := hide (fun hne => by
          rw [decide_eq_false_iff_not]
          rintro rfl
          apply hne
          have : us = vs := by rw [HUS.out, HVS.out]
          subst this
          rfl)
        generalize us[i] = u at z1 HT1 HG
        generalize vs[i] = v at z2 HT2 HG
        have z1 : (W2.drewN q).cell? ⟨b1, o1 + i, none⟩ = some (.int .u16 u) := z1
        have z2 : (W2.drewN q).cell? ⟨b2, o2 + i, none⟩ = some (.int .u16 v) := z2
        have hd : decide ((i : Int) < (us.length : Int)) = true := by rw [decide_eq_true_eq]; omega
        go_upto_region 6 with fail
        have C0 := keepd x0
        have C1 := keepd y0
        have C2 := keepd z1
        have C3 := keepd z2
        refine Reg.region (by kernel_rfl) 11 [] (fun _ w' => w' = (W2.drewN q).drew) (by kernel_rfl) (by kernel_rfl) rfl ?_
        iterate 11
          first
            | refine Reg.WT.idle rfl rfl ?_
            | (refine Reg.WT.yield (v := ?_) rfl rfl ?_ ?_
               rotate_left
               · intro w' _ hS; go_simp; (try go_bits); (first | rfl | rw [if_pos (by omega)]))
          simp only [Act.put, List.setIfInBounds_toArray, List.set_cons_zero, List.set_cons_succ]
        intro w4 hS
        subst hS
        clear C0 C1 C2 C3
        by_cases hne : u = v
        · have d1 : (u != v) = false := by simp [hne]
          have HTT : Hid (us.take (i + 1) = vs.take (i + 1)) := hide (by rw [HT1.out, HT2.out, htk.out, hne])
          clear HT1 HT2 HG htk
          go_wp2_with fail
          go_roundw
          case rel => exact ⟨i + 1, hlt, by go_num, HTT, q + 1, rfl⟩
          case measure => simp [intOf]; omega
        · have d1 : (u != v) = true := by simp [hne]
          have HD := hide (HG.out hne)
          go_wp2_with fail
          go_returns
          rw [HD.out]
          exact ⟨rfl, (below_drewN K2.out _).drew⟩
      · obtain rfl : i = us.length := by omega
        have HE : Hid (us = vs) := hide (by have := htk.out; rw [List.take_length, hlen, List.take_length] at this; exact this)
        clear htk
        obtain ⟨w5, hw5⟩ : ∃ w5, w5 = W2.drewN q := ⟨_, rfl⟩
        have BA5 := hide (hw5 ▸ BA.out.drewN q)
        have BB5 := hide (hw5 ▸ BB.out.drewN q)
        have K5 := hide (hw5 ▸ below_drewN K2.out q)
        have x0 : w5.cell? ⟨ga, 42, none⟩ = some (.slice a1 us.length c1) := BA5.out.cell 42
        have y0 : w5.cell? ⟨ga + 1, 42, none⟩ = some (.slice a2 vs.length c2) := BB5.out.cell 42
        rw [← hw5]
        clear hw5
        have C0 : Hid (Cmp w5 ga (ga + 1) 0 5 (gof L 2 0 == gof M 2 0)) := hide (cmp0 (BA5.out.cell 0) (BB5.out.cell 0))
        have C1 : Hid (Cmp w5 ga (ga + 1) 1 4 ((gof L 0 0 != 0) == (gof M 0 0 != 0))) := hide (cmp1 (BA5.out.cell 1) (BB5.out.cell 1))
        have C2 : Hid (Cmp w5 ga (ga + 1) 2 5 (gof L 3 0 == gof M 3 0)) := hide (cmp2 (BA5.out.cell 2) (BB5.out.cell 2))
        have C3 : Hid (Cmp w5 ga (ga + 1) 3 5 (gof L 4 0 == gof M 4 0)) := hide (cmp3 (BA5.out.cell 3) (BB5.out.cell 3))
        have C13 : Hid (Cmp w5 ga (ga + 1) 13 5 (gof L 5 0 == gof M 5 0)) := hide (cmp13 (BA5.out.cell 32) (BB5.out.cell 32))
        have C14 : Hid (Cmp w5 ga (ga + 1) 14 2 (gof L 8 0 == gof M 8 0)) := hide (cmp14 (BA5.out.cell 33) (BB5.out.cell 33))
        have C15 : Hid (Cmp w5 ga (ga + 1) 15 4 ((gof L 1 0 != 0) == (gof M 1 0 != 0))) := hide (cmp15 (BA5.out.cell 34) (BB5.out.cell 34))
        have C16 : Hid (Cmp w5 ga (ga + 1) 16 5 (gof L 6 0 == gof M 6 0)) := hide (cmp16 (BA5.out.cell 35) (BB5.out.cell 35))
        have C17 : Hid (Cmp w5 ga (ga + 1) 17 5 (gof L 7 0 == gof M 7 0)) := hide (cmp17 (BA5.out.cell 36) (BB5.out.cell 36))
        have C18 : Hid (Cmp w5 ga (ga + 1) 18 3 (gof L 9 0 == gof M 9 0)) := hide (cmp18 (BA5.out.cell 37) (BB5.out.cell 37))
        have C19 : Hid (Cmp w5 ga (ga + 1) 19 2 (gof L 10 0 == gof M 10 0)) := hide (cmp19 (BA5.out.cell 38) (BB5.out.cell 38))
        have C20 : Hid (Cmp w5 ga (ga + 1) 20 2 (gof L 11 0 == gof M 11 0)) := hide (cmp20 (BA5.out.cell 39) (BB5.out.cell 39))
        have C4 : Hid (Cmp w5 ga (ga + 1) 4 44 ((gof L 12 0 == gof M 12 0) && (gof L 12 1 == gof M 12 1))) := hide (cmp4 (BA5.out.cell 4) (BB5.out.cell 4) (BA5.out.cell 5) (BB5.out.cell 5))
        have C5 : Hid (Cmp w5 ga (ga + 1) 5 44 ((gof L 13 0 == gof M 13 0) && (gof L 13 1 == gof M 13 1))) := hide (cmp5 (BA5.out.cell 6) (BB5.out.cell 6) (BA5.out.cell 7) (BB5.out.cell 7))
        have C6 : Hid (Cmp w5 ga (ga + 1) 6 44 ((gof L 14 0 == gof M 14 0) && (gof L 14 1 == gof M 14 1))) := hide (cmp6 (BA5.out.cell 8) (BB5.out.cell 8) (BA5.out.cell 9) (BB5.out.cell 9))
        have C7 : Hid (Cmp w5 ga (ga + 1) 7 44 ((gof L 15 0 == gof M 15 0) && (gof L 15 1 == gof M 15 1))) := hide (cmp7 (BA5.out.cell 10) (BB5.out.cell 10) (BA5.out.cell 11) (BB5.out.cell 11))
        have C8 : Hid (Cmp w5 ga (ga + 1) 8 44 ((gof L 16 0 == gof M 16 0) && (gof L 16 1 == gof M 16 1))) := hide (cmp8 (BA5.out.cell 12) (BB5.out.cell 12) (BA5.out.cell 13) (BB5.out.cell 13))
        have C9 : Hid (Cmp w5 ga (ga + 1) 9 44 ((gof L 17 0 == gof M 17 0) && (gof L 17 1 == gof M 17 1))) := hide (cmp9 (BA5.out.cell 14) (BB5.out.cell 14) (BA5.out.cell 15) (BB5.out.cell 15))
        have C21 : Hid (Cmp w5 ga (ga + 1) 21 44 ((gof L 18 0 == gof M 18 0) && (gof L 18 1 == gof M 18 1))) := hide (cmp21 (BA5.out.cell 40) (BB5.out.cell 40) (BA5.out.cell 41) (BB5.out.cell 41))
        have C10 : Hid (Cmp w5 ga (ga + 1) 10 45 (((gof L 19 0 == gof M 19 0) && (gof L 19 1 == gof M 19 1)) && (((gof L 20 0 == gof M 20 0) && (gof L 20 1 == gof M 20 1)) && (((gof L 21 0 == gof M 21 0) && (gof L 21 1 == gof M 21 1)) && ((gof L 22 0 == gof M 22 0) && (gof L 22 1 == gof M 22 1)))))) := hide (cmp10 (BA5.out.cell 16) (BB5.out.cell 16) (BA5.out.cell 17) (BB5.out.cell 17) (BA5.out.cell 18) (BB5.out.cell 18) (BA5.out.cell 19) (BB5.out.cell 19) (BA5.out.cell 20) (BB5.out.cell 20) (BA5.out.cell 21) (BB5.out.cell 21) (BA5.out.cell 22) (BB5.out.cell 22) (BA5.out.cell 23) (BB5.out.cell 23))
        have C11 : Hid (Cmp w5 ga (ga + 1) 11 46 ((gof L 23 0 == gof M 23 0) && ((gof L 24 0 == gof M 24 0) && ((gof L 25 0 == gof M 25 0) && (gof L 26 0 == gof M 26 0))))) := hide (cmp11 (BA5.out.cell 24) (BB5.out.cell 24) (BA5.out.cell 25) (BB5.out.cell 25) (BA5.out.cell 26) (BB5.out.cell 26) (BA5.out.cell 27) (BB5.out.cell 27))
        have C12 : Hid (Cmp w5 ga (ga + 1) 12 46 ((gof L 27 0 == gof M 27 0) && ((gof L 28 0 == gof M 28 0) && ((gof L 29 0 == gof M 29 0) && (gof L 30 0 == gof M 30 0))))) := hide (cmp12 (BA5.out.cell 28) (BB5.out.cell 28) (BA5.out.cell 29) (BB5.out.cell 29) (BA5.out.cell 30) (BB5.out.cell 30) (BA5.out.cell 31) (BB5.out.cell 31))
        go_upto_region 8 with fail
        apply wp_region_lit
        refine chain0 (d := 33) C0.out (⟨rfl, rfl, rfl, rfl⟩ : Iv ga (ga + 1) _) (by decide) (by decide) rfl rfl rfl rfl rfl rfl rfl rfl rfl rfl rfl rfl rfl rfl rfl rfl rfl rfl (fun a hI st hv => ?_)
        clear st
        refine chain7 (d := 39) (p := 38) (gi := 5) C1.out hI hv rfl (by decide) (by decide) (by decide) rfl rfl rfl rfl rfl rfl rfl rfl rfl rfl rfl rfl rfl rfl rfl rfl rfl rfl rfl rfl rfl (fun a hI st hv => ?_)
        clear st
        refine chain7 (d := 46) (p := 45) (gi := 12) C2.out hI hv rfl (by decide) (by decide) (by decide) rfl rfl rfl rfl rfl rfl rfl rfl rfl rfl rfl rfl rfl rfl rfl rfl rfl rfl rfl rfl rfl (fun a hI st hv => ?_)
        clear st
        refine chain7 (d := 53) (p := 52) (gi := 19) C3.out hI hv rfl (by decide) (by decide) (by decide) rfl rfl rfl rfl rfl rfl rfl rfl rfl rfl rfl rfl rfl rfl rfl rfl rfl rfl rfl rfl rfl (fun a hI st hv => ?_)
        clear st
        refine chain7 (d := 60) (p := 59) (gi := 26) C13.out hI hv rfl (by decide) (by decide) (by decide) rfl rfl rfl rfl rfl rfl rfl rfl rfl rfl rfl rfl rfl rfl rfl rfl rfl rfl rfl rfl rfl (fun a hI st hv => ?_)
        clear st
        refine chain7 (d := 67) (p := 66) (gi := 33) C14.out hI hv rfl (by decide) (by decide) (by decide) rfl rfl rfl rfl rfl rfl rfl rfl rfl rfl rfl rfl rfl rfl rfl rfl rfl rfl rfl rfl rfl (fun a hI st hv => ?_)
        clear st
        refine chain7 (d := 74) (p := 73) (gi := 40) C15.out hI hv rfl (by decide) (by decide) (by decide) rfl rfl rfl rfl rfl rfl rfl rfl rfl rfl rfl rfl rfl rfl rfl rfl rfl rfl rfl rfl rfl (fun a hI st hv => ?_)
        clear st
        refine chain7 (d := 81) (p := 80) (gi := 47) C16.out hI hv rfl (by decide) (by decide) (by decide) rfl rfl rfl rfl rfl rfl rfl rfl rfl rfl rfl rfl rfl rfl rfl rfl rfl rfl rfl rfl rfl (fun a hI st hv => ?_)
        clear st
        refine chain7 (d := 88) (p := 87) (gi := 54) C17.out hI hv rfl (by decide) (by decide) (by decide) rfl rfl rfl rfl rfl rfl rfl rfl rfl rfl rfl rfl rfl rfl rfl rfl rfl rfl rfl rfl rfl (fun a hI st hv => ?_)
        clear st
        refine chain7 (d := 95) (p := 94) (gi := 61) C18.out hI hv rfl (by decide) (by decide) (by decide) rfl rfl rfl rfl rfl rfl rfl rfl rfl rfl rfl rfl rfl rfl rfl rfl rfl rfl rfl rfl rfl (fun a hI st hv => ?_)
        clear st
        refine chain7 (d := 102) (p := 101) (gi := 68) C19.out hI hv rfl (by decide) (by decide) (by decide) rfl rfl rfl rfl rfl rfl rfl rfl rfl rfl rfl rfl rfl rfl rfl rfl rfl rfl rfl rfl rfl (fun a hI st hv => ?_)
        clear st
        refine chain6 (d := 109) (p := 108) (gi := 75) C20.out hI hv rfl (by decide) (by decide) (by decide) rfl rfl rfl rfl rfl rfl rfl rfl rfl rfl rfl rfl rfl rfl rfl rfl rfl rfl (fun a hI st hv => ?_)
        clear st
        generalize he8 : ((((((((((((gof L 2 0 == gof M 2 0) && ((gof L 0 0 != 0) == (gof M 0 0 != 0))) && (gof L 3 0 == gof M 3 0)) && (gof L 4 0 == gof M 4 0)) && (gof L 5 0 == gof M 5 0)) && (gof L 8 0 == gof M 8 0)) && ((gof L 1 0 != 0) == (gof M 1 0 != 0))) && (gof L 6 0 == gof M 6 0)) && (gof L 7 0 == gof M 7 0)) && (gof L 9 0 == gof M 9 0)) && (gof L 10 0 == gof M 10 0)) && (gof L 11 0 == gof M 11 0)) = e8 at hv
        have He8 := hide he8
        clear he8
        refine wpList_yes (wanted_none rfl) (run_assign rfl (ev_tmp hv)) ?_
        have v6 : (a.put (some 6) (.bool e8)).tmps[6]? = some (.bool e8) := by rw [put_get, if_pos rfl, if_pos (by rw [hI.sz]; decide)]
        have hI := hI.put (d := 6) (by decide) (.bool e8)
        clear hv
        generalize a.put (some 6) (.bool e8) = a at hI v6 ⊢
        go_upto_region 9 with fail
        apply wp_region_lit
        refine chain0 (d := 115) C4.out hI (by decide) (by decide) rfl rfl rfl rfl rfl rfl rfl rfl rfl rfl rfl rfl rfl rfl rfl rfl rfl rfl (fun a hI st hv => ?_)
        have v6 := (st 6 (by decide)).trans v6
        clear st
        refine chain7 (d := 121) (p := 120) (gi := 5) C5.out hI hv rfl (by decide) (by decide) (by decide) rfl rfl rfl rfl rfl rfl rfl rfl rfl rfl rfl rfl rfl rfl rfl rfl rfl rfl rfl rfl rfl (fun a hI st hv => ?_)
        have v6 := (st 6 (by decide)).trans v6
        clear st
        refine chain7 (d := 128) (p := 127) (gi := 12) C6.out hI hv rfl (by decide) (by decide) (by decide) rfl rfl rfl rfl rfl rfl rfl rfl rfl rfl rfl rfl rfl rfl rfl rfl rfl rfl rfl rfl rfl (fun a hI st hv => ?_)
        have v6 := (st 6 (by decide)).trans v6
        clear st
        refine chain7 (d := 135) (p := 134) (gi := 19) C7.out hI hv rfl (by decide) (by decide) (by decide) rfl rfl rfl rfl rfl rfl rfl rfl rfl rfl rfl rfl rfl rfl rfl rfl rfl rfl rfl rfl rfl (fun a hI st hv => ?_)
        have v6 := (st 6 (by decide)).trans v6
        clear st
        refine chain7 (d := 142) (p := 141) (gi := 26) C8.out hI hv rfl (by decide) (by decide) (by decide) rfl rfl rfl rfl rfl rfl rfl rfl rfl rfl rfl rfl rfl rfl rfl rfl rfl rfl rfl rfl rfl (fun a hI st hv => ?_)
        have v6 := (st 6 (by decide)).trans v6
        clear st
        refine chain7 (d := 149) (p := 148) (gi := 33) C9.out hI hv rfl (by decide) (by decide) (by decide) rfl rfl rfl rfl rfl rfl rfl rfl rfl rfl rfl rfl rfl rfl rfl rfl rfl rfl rfl rfl rfl (fun a hI st hv => ?_)
        have v6 := (st 6 (by decide)).trans v6
        clear st
        refine chain6 (d := 156) (p := 155) (gi := 40) C21.out hI hv rfl (by decide) (by decide) (by decide) rfl rfl rfl rfl rfl rfl rfl rfl rfl rfl rfl rfl rfl rfl rfl rfl rfl rfl (fun a hI st hv => ?_)
        have v6 := (st 6 (by decide)).trans v6
        clear st
        generalize he9 : ((((((((gof L 12 0 == gof M 12 0) && (gof L 12 1 == gof M 12 1)) && ((gof L 13 0 == gof M 13 0) && (gof L 13 1 == gof M 13 1))) && ((gof L 14 0 == gof M 14 0) && (gof L 14 1 == gof M 14 1))) && ((gof L 15 0 == gof M 15 0) && (gof L 15 1 == gof M 15 1))) && ((gof L 16 0 == gof M 16 0) && (gof L 16 1 == gof M 16 1))) && ((gof L 17 0 == gof M 17 0) && (gof L 17 1 == gof M 17 1))) && ((gof L 18 0 == gof M 18 0) && (gof L 18 1 == gof M 18 1))) = e9 at hv
        have He9 := hide he9
        clear he9
        refine wpList_yes (wanted_none rfl) (run_assign rfl (ev_tmp hv)) ?_
        have v7 : (a.put (some 7) (.bool e9)).tmps[7]? = some (.bool e9) := by rw [put_get, if_pos rfl, if_pos (by rw [hI.sz]; decide)]
        have v6 : (a.put (some 7) (.bool e9)).tmps[6]? = _ := (put_get.trans (if_neg (by decide))).trans v6
        have hI := hI.put (d := 7) (by decide) (.bool e9)
        clear hv
        generalize a.put (some 7) (.bool e9) = a at hI v7 v6 ⊢
        go_upto_region 10 with fail
        apply wp_region_lit
        refine chain2 hI v6 v7 rfl rfl rfl rfl rfl rfl rfl rfl rfl rfl rfl rfl rfl rfl rfl rfl (fun a hI hv => ?_)
        refine chain7 (d := 167) (p := 166) (gi := 4) C10.out hI hv rfl (by decide) (by decide) (by decide) rfl rfl rfl rfl rfl rfl rfl rfl rfl rfl rfl rfl rfl rfl rfl rfl rfl rfl rfl rfl rfl (fun a hI st hv => ?_)
        clear st
        refine chain7 (d := 174) (p := 173) (gi := 11) C11.out hI hv rfl (by decide) (by decide) (by decide) rfl rfl rfl rfl rfl rfl rfl rfl rfl rfl rfl rfl rfl rfl rfl rfl rfl rfl rfl rfl rfl (fun a hI st hv => ?_)
        clear st
        refine chain6 (d := 181) (p := 180) (gi := 18) C12.out hI hv rfl (by decide) (by decide) (by decide) rfl rfl rfl rfl rfl rfl rfl rfl rfl rfl rfl rfl rfl rfl rfl rfl rfl rfl (fun a hI st hv => ?_)
        clear st
        generalize he4 : ((((e8 && e9) && (((gof L 19 0 == gof M 19 0) && (gof L 19 1 == gof M 19 1)) && (((gof L 20 0 == gof M 20 0) && (gof L 20 1 == gof M 20 1)) && (((gof L 21 0 == gof M 21 0) && (gof L 21 1 == gof M 21 1)) && ((gof L 22 0 == gof M 22 0) && (gof L 22 1 == gof M 22 1)))))) && ((gof L 23 0 == gof M 23 0) && ((gof L 24 0 == gof M 24 0) && ((gof L 25 0 == gof M 25 0) && (gof L 26 0 == gof M 26 0))))) && ((gof L 27 0 == gof M 27 0) && ((gof L 28 0 == gof M 28 0) && ((gof L 29 0 == gof M 29 0) && (gof L 30 0 == gof M 30 0))))) = e4 at hv
        have He4 := hide he4
        clear he4
        refine wpList_yes (wanted_none rfl) (run_assign rfl (ev_tmp hv)) ?_
        have v4 : (a.put (some 4) (.bool e4)).tmps[4]? = some (.bool e4) := by rw [put_get, if_pos rfl, if_pos (by rw [hI.sz]; decide)]
        have hI := hI.put (d := 4) (by decide) (.bool e4)
        clear hv
        generalize a.put (some 4) (.bool e4) = a at hI v4 ⊢
        go_wp2_with fail
        refine bodyPost_ret (results_tmp rfl _ _ _) hI.ds ?_
        have hv4 : a.tmps.getD 4 undef = .bool e4 := ev_tmp v4
        have hb : e4 = decide (L = M) := by rw [← He4.out, ← He8.out, ← He9.out]; exact same_bool HL.out HM.out (by rw [← HUS.out, ← HVS.out]; exact HE.out)
        exact ⟨by rw [hv4, hb], K5.out⟩
  · have d0 : ((us.length : Int) != (vs.length : Int)) = true := by simp; omega
    have HD : Hid (decide (L = M) = false) := hide (by
      rw [decide_eq_false_iff_not]
      rintro rfl
      exact hlen (by rw [HUS.out, HVS.out]))
    go_wp2_with fail
    go_returns
    rw [HD.out]
    exact ⟨rfl, K2.out⟩
end Go.Proofs.Ytmngndmcidbakaa
