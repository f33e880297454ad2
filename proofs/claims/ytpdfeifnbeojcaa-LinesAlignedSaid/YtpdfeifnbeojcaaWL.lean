/- The walk of LinesAligned. -/
import Derived.Test.YtpdfeifnbeojcaaWH
import Derived.Test.YtpdfeifnbeojcaaOpen
namespace Go.Proofs.Ytpdfeifnbeojcaa
open Go.RowKit

theorem chain_mem {c : Rm} {ws : List Wd} : ∀ {rs : List Rw} {k : Nat} {y e : Int}, Chain c ws k y rs e → ∀ r ∈ rs, RowOk c ws r
  | [], _, _, _, _, r, hr => absurd hr (by simp)
  | q :: rs, k, y, e, h, r, hr => by
    obtain ⟨_, h1, _, h2⟩ := h
    rcases List.mem_cons.1 hr with rfl | hr
    · exact h1
    · exact chain_mem h2 r hr
set_option maxRecDepth 100000 in
set_option maxHeartbeats 8000000 in
theorem walk_LinesAligned (w : World) (x : CaseV) (hx : CaseOk w x) : Calls Try.prog 6 #[x.val] w fun e w' => e = .returned (.bool true) ∧ Below w.heap.size w w' := by
  obtain ⟨wa, ws, wq, k, fa, fl, fc⟩ := x
  obtain ⟨hr, hf, hu, ⟨hwc1, hwc2⟩, hfc1, hfc2⟩ := hx
  dsimp only at hr hf hu hwc1 hwc2 hfc1 hfc2
  unfold maxLen at hwc2 hfc2
  unfold CaseV.val
  dsimp only
  obtain ⟨w1, hw1⟩ : ∃ w1, w1 = w.alloc (.cells (case_ wa ws.length wq k fa fl.length fc) 25) := ⟨_, rfl⟩
  have B1 := hide (hw1 ▸ Blk.new w 25 (case_ wa ws.length wq k fa fl.length fc))
  have t1 : Hid (Below w.heap.size w w1) := hide (hw1 ▸ (Below.refl _ _).alloc (Nat.le_refl _) _)
  have MY := hide (mayc_any wa ws wq k fa fl fc w1 (hr.below t1.out) (hf.below t1.out) hu)
  unfold case_ at hw1
  have HW1 := hide hw1
  clear hw1 hu
  unfold case_
  go_enter Try.func6, Try.ntmps6
  go_upto_region 1 with fail
  rw [← HW1.out]
  have y0 : w1.cell? ⟨w.heap.size, 0, none⟩ = some (.slice wa ws.length wq) := B1.out.cell 0
  have y1 : w1.cell? ⟨w.heap.size, 1, none⟩ = some (.int .i64 k.h) := B1.out.cell 1
  have y2 : w1.cell? ⟨w.heap.size, 2, none⟩ = some (.int .u8 k.al) := B1.out.cell 2
  have y3 : w1.cell? ⟨w.heap.size, 3, none⟩ = some (.int .i64 k.a) := B1.out.cell 3
  have y4 : w1.cell? ⟨w.heap.size, 4, none⟩ = some (.int .i64 k.b) := B1.out.cell 4
  have y5 : w1.cell? ⟨w.heap.size, 5, none⟩ = some (.int .i64 k.y) := B1.out.cell 5
  have y6 : w1.cell? ⟨w.heap.size, 6, none⟩ = some (.slice fa fl.length fc) := B1.out.cell 6
  by_cases hM : MayC ws k fl
  · have HM := hide hM
    have hn := hM.n
    clear hM
    go_wp2_with fail
    refine (MY.out.1 HM.out).mono ?_
    rintro r w2 ⟨rfl, k2⟩
    have t2 := hide (below_call (w := w) t1.out k2)
    have B2 := hide (B1.out.below k2 B1.out.lt)
    clear k2
    clear y0 y1 y2 y3 y4 y5 y6
    have y0 : w2.cell? ⟨w.heap.size, 0, none⟩ = some (.slice wa ws.length wq) := B2.out.cell 0
    have y1 : w2.cell? ⟨w.heap.size, 1, none⟩ = some (.int .i64 k.h) := B2.out.cell 1
    have y2 : w2.cell? ⟨w.heap.size, 2, none⟩ = some (.int .u8 k.al) := B2.out.cell 2
    have y3 : w2.cell? ⟨w.heap.size, 3, none⟩ = some (.int .i64 k.a) := B2.out.cell 3
    have y4 : w2.cell? ⟨w.heap.size, 4, none⟩ = some (.int .i64 k.b) := B2.out.cell 4
    have y5 : w2.cell? ⟨w.heap.size, 5, none⟩ = some (.int .i64 k.y) := B2.out.cell 5
    have y6 : w2.cell? ⟨w.heap.size, 6, none⟩ = some (.slice fa fl.length fc) := B2.out.cell 6
    obtain ⟨c, hcd⟩ : ∃ c : Rm, c = ⟨max k.h 0, 0, k.a, k.b, fl⟩ := ⟨_, rfl⟩
    have HC : Hid (RmOk c) := hide (by rw [hcd]; exact rmok_of HM.out.h HM.out.a HM.out.b HM.out.f.2)
    have hal : c.al = 0 := by rw [hcd]
    have hat : Hid (∀ y, c.at_ y = tall fl y k.h k.a k.b) := hide (fun y => by
      rw [hcd]
      show tall fl y (max k.h 0) k.a k.b = _
      unfold tall
      rw [show max (max k.h 0) 1 = max k.h 1 from by omega])
    have e1 : Hid (fill ⟨max k.h 0, 1, k.a, k.b, fl⟩ 0 ws k.y = ((fill c 0 ws k.y).1.map (shiftR c ws 1), (fill c 0 ws k.y).2)) := hide (by
      have := fill_shift (c := c) (ws := ws) 1 ws.length 0 k.y (by omega)
      rw [List.drop_zero] at this
      rw [hcd] at this ⊢
      exact this)
    have e2 : Hid (fill ⟨max k.h 0, 2, k.a, k.b, fl⟩ 0 ws k.y = ((fill c 0 ws k.y).1.map (shiftR c ws 2), (fill c 0 ws k.y).2)) := hide (by
      have := fill_shift (c := c) (ws := ws) 2 ws.length 0 k.y (by omega)
      rw [List.drop_zero] at this
      rw [hcd] at this ⊢
      exact this)
    have HCD := hide hcd
    have hcn := fill_chain (c := c) (ws := ws) hal ws.length 0 k.y (by omega) (by omega)
    rw [List.drop_zero] at hcn
    have hcm_ := chain_mem hcn
    have hyb := fill_yb HC.out ws.length 0 0 ws k.y (Nat.le_refl _) (near_yb HM.out.y)
    have hLn := fill_len (c := c) ws.length 0 ws k.y (Nat.le_refl _)
    have hSE := sumE_le HM.out.w 0
    have hhh := HM.out.h
    unfold near at hhh
    have FL := fun al W (hb : Below w.heap.size w W) => fill_any wa ws wq fa fl fc k.h al k.a k.b k.y W (hr.below hb) HM.out.w hn (hf.below hb) (rmok_of HM.out.h HM.out.a HM.out.b HM.out.f.2) (near_yb HM.out.y) (by omega)
    have FL := hide FL
    have FL0 := hide (FL.out 0)
    have FL1 := hide (FL.out 1)
    have FL2 := hide (FL.out 2)
    unfold FillPost at FL0 FL1 FL2
    rw [← HCD.out] at FL0
    rw [e1.out] at FL1
    rw [e2.out] at FL2
    dsimp only at FL1 FL2
    generalize fill c 0 ws k.y = q at FL0 FL1 FL2 hcm_ hyb hLn
    obtain ⟨rows, e⟩ := q
    dsimp only at FL0 FL1 FL2 hcm_ hyb hLn
    have HCM := hide hcm_
    have HYB := hide hyb
    have hlen4 : rows.length ≤ 4200 := by omega
    obtain ⟨hy3, hy4⟩ := HM.out.y
    clear e1 e2 hcn hcm_ hyb FL hcd hal
    go_wp2_with fail
    refine (FL0.out w2 t2.out).mono ?_
    rintro r w3 ⟨A, capA, rfl, LA, hcA, hmA, k3⟩
    have t3 := hide (below_call (w := w) t2.out k3)
    have B3 := hide (B2.out.below k3 B2.out.lt)
    have LA := hide LA
    clear k3 t2 B2
    clear y0 y1 y2 y3 y4 y5 y6
    have y0 : w3.cell? ⟨w.heap.size, 0, none⟩ = some (.slice wa ws.length wq) := B3.out.cell 0
    have y1 : w3.cell? ⟨w.heap.size, 1, none⟩ = some (.int .i64 k.h) := B3.out.cell 1
    have y2 : w3.cell? ⟨w.heap.size, 2, none⟩ = some (.int .u8 k.al) := B3.out.cell 2
    have y3 : w3.cell? ⟨w.heap.size, 3, none⟩ = some (.int .i64 k.a) := B3.out.cell 3
    have y4 : w3.cell? ⟨w.heap.size, 4, none⟩ = some (.int .i64 k.b) := B3.out.cell 4
    have y5 : w3.cell? ⟨w.heap.size, 5, none⟩ = some (.int .i64 k.y) := B3.out.cell 5
    have y6 : w3.cell? ⟨w.heap.size, 6, none⟩ = some (.slice fa fl.length fc) := B3.out.cell 6
    go_wp2_with fail
    refine (FL1.out w3 t3.out).mono ?_
    rintro r w4 ⟨A1, capB, rfl, LB, hcB, hmB, k4⟩
    have t4 := hide (below_call (w := w) t3.out k4)
    have B4 := hide (B3.out.below k4 B3.out.lt)
    have LA := hide (LA.out.below k4)
    have LB := hide LB
    clear k4 t3 B3
    clear y0 y1 y2 y3 y4 y5 y6
    have y0 : w4.cell? ⟨w.heap.size, 0, none⟩ = some (.slice wa ws.length wq) := B4.out.cell 0
    have y1 : w4.cell? ⟨w.heap.size, 1, none⟩ = some (.int .i64 k.h) := B4.out.cell 1
    have y2 : w4.cell? ⟨w.heap.size, 2, none⟩ = some (.int .u8 k.al) := B4.out.cell 2
    have y3 : w4.cell? ⟨w.heap.size, 3, none⟩ = some (.int .i64 k.a) := B4.out.cell 3
    have y4 : w4.cell? ⟨w.heap.size, 4, none⟩ = some (.int .i64 k.b) := B4.out.cell 4
    have y5 : w4.cell? ⟨w.heap.size, 5, none⟩ = some (.int .i64 k.y) := B4.out.cell 5
    have y6 : w4.cell? ⟨w.heap.size, 6, none⟩ = some (.slice fa fl.length fc) := B4.out.cell 6
    go_wp2_with fail
    refine (FL2.out w4 t4.out).mono ?_
    rintro r w5 ⟨A2, capC, rfl, LC, hcC, hmC, k5⟩
    have t5 := hide (below_call (w := w) t4.out k5)
    have B5 := hide (B4.out.below k5 B4.out.lt)
    have LA := hide (LA.out.below k5)
    have LB := hide (LB.out.below k5)
    have LC := hide LC
    clear k5 t4 B4 FL0 FL1 FL2
    clear y0 y1 y2 y3 y4 y5 y6
    simp only [List.length_map]
    rw [List.length_map] at hcB hcC
    go_wp2_with fail
    go_loopw [9] (fun iv wr => ∃ i : Nat, i ≤ rows.length ∧ iv = .int .i64 i ∧ Blk wr w.heap.size 25 (case_ wa ws.length wq k fa fl.length fc) ∧ Below w.heap.size w wr ∧ LRow wr A rows ∧ LRow wr A1 (rows.map (shiftR c ws 1)) ∧ LRow wr A2 (rows.map (shiftR c ws 2))) (fun iv _ => rows.length - (intOf iv).toNat)
    case atStart => exact ⟨0, Nat.zero_le _, rfl, B5.out, t5.out, LA.out, LB.out, LC.out⟩
    case round =>
      clear t5 B5 LA LB LC
      obtain ⟨i, hi, rfl, hB, hbel, hLA, hLB, hLC⟩ := hrel
      have t := hide hbel
      have B := hide hB
      have LA := hide hLA
      have LB := hide hLB
      have LC := hide hLC
      clear hB hbel
      by_cases hlt : i < rows.length
      · obtain ⟨b1, o1, rfl, hb1, hca⟩ := lrow_at hLA (by omega)
        obtain ⟨b2, o2, rfl, hb2, hcb⟩ := lrow_at hLB (by rw [List.length_map]; omega)
        obtain ⟨b3, o3, rfl, hb3, hcc⟩ := lrow_at hLC (by rw [List.length_map]; omega)
        obtain ⟨ax, cx, x0, x1, x2, x3, hRa, hxa1, hxa2⟩ := hca i hlt
        obtain ⟨ax1, cx1, v0, v1, v2, v3, hRb, hxb1, hxb2⟩ := hcb i (by rw [List.length_map]; omega)
        obtain ⟨ax2, cx2, g0, g1, g2, g3, hRc, hxc1, hxc2⟩ := hcc i (by rw [List.length_map]; omega)
        have hro := HCM.out _ (List.getElem_mem hlt)
        have HFR := hide (row_far HC.out HM.out.w hro)
        have HYr := hide (HYB.out _ (List.getElem_mem hlt))
        rw [List.getElem_map] at v0 v1 v2 v3 hRb hxb1 g0 g1 g2 g3 hRc hxc1
        clear hca hcb hcc hLA hLB hLC
        generalize rows[i] = r at x0 x1 x2 x3 hRa hxa1 v0 v1 v2 v3 hRb hxb1 g0 g1 g2 g3 hRc hxc1 hro HFR HYr
        obtain ⟨ry, rf, rt, rxs⟩ := r
        unfold shiftR at v0 v1 v2 v3 hRb hxb1 g0 g1 g2 g3 hRc hxc1
        dsimp only at x0 x1 x2 x3 hRa hxa1 v0 v1 v2 v3 hRb hxb1 g0 g1 g2 g3 hRc hxc1 HFR HYr
        rw [List.length_map] at v3 g3 hxb1 hxc1
        have r1 : rf ≤ rt := hro.ft
        have r2 : rt ≤ ws.length := hro.tl
        have r3a : rxs.length + rf ≤ rt := by have h : rxs.length = rt - rf := hro.xl; omega
        have r3b : rt ≤ rxs.length + rf := by have h : rxs.length = rt - rf := hro.xl; omega
        unfold maxLen at hxa2
        have HRa := hide hRa
        have HRb := hide hRb
        have HRc := hide hRc
        have hYY := HYr.out
        unfold Yb at hYY
        clear hro hRa hRb hRc hxb2 hxc2
        have bx : ((rxs.length : Int) != (rt : Int) - (rf : Int)) = false := by simp; omega
        have bf : decide ((rf : Int) < 0) = false := by simp
        have bt : decide ((ws.length : Int) < (rt : Int)) = false := by simp; omega
        have bt2 : decide (ws.length < rt) = false := by simp; omega
        have y0 : wr.cell? ⟨w.heap.size, 0, none⟩ = some (.slice wa ws.length wq) := B.out.cell 0
        have y1 : wr.cell? ⟨w.heap.size, 1, none⟩ = some (.int .i64 k.h) := B.out.cell 1
        have y3 : wr.cell? ⟨w.heap.size, 3, none⟩ = some (.int .i64 k.a) := B.out.cell 3
        have y4 : wr.cell? ⟨w.heap.size, 4, none⟩ = some (.int .i64 k.b) := B.out.cell 4
        have y5 : wr.cell? ⟨w.heap.size, 5, none⟩ = some (.int .i64 k.y) := B.out.cell 5
        have y2 : wr.cell? ⟨w.heap.size, 2, none⟩ = some (.int .u8 k.al) := B.out.cell 2
        have y6 : wr.cell? ⟨w.heap.size, 6, none⟩ = some (.slice fa fl.length fc) := B.out.cell 6
        go_upto_region 11 with fail
        have z0 := keepd x0
        have z1 := keepd x1
        have z2 := keepd x2
        have z3 := keepd x3
        have r0 := keepd v0
        have r1_ := keepd v1
        have r2_ := keepd v2
        have r3_ := keepd v3
        have s0 := keepd g0
        have s1 := keepd g1
        have s2 := keepd g2
        have s3 := keepd g3
        have zy := keepd y0
        refine Reg.region (by kernel_rfl) 145 [] (fun _ w' => w' = wr.drew) (by kernel_rfl) (by kernel_rfl) rfl ?_
        iterate 70
          first
            | refine Reg.WT.idle rfl rfl ?_
            | (refine Reg.WT.yield (v := ?_) rfl rfl ?_ ?_
               rotate_left
               · intro w' _ hS; go_simp; (try go_bits); (first | rfl | rw [if_pos (by omega)]))
          simp only [Act.put, List.setIfInBounds_toArray, List.set_cons_zero, List.set_cons_succ]
        as_aux_lemma =>
          iterate 75
            first
              | refine Reg.WT.idle rfl rfl ?_
              | (refine Reg.WT.yield (v := ?_) rfl rfl ?_ ?_
                 rotate_left
                 · intro w' _ hS; go_simp; (try go_bits); (first | rfl | rw [if_pos (by omega)]))
            simp only [Act.put, List.setIfInBounds_toArray, List.set_cons_zero, List.set_cons_succ]
          intro w8' hS
          subst hS
          clear bx bf bt bt2 z0 z1 z2 z3 r0 r1_ r2_ r3_ s0 s1 s2 s3 zy
          obtain ⟨w8, hw8⟩ : ∃ w8, w8 = wr.drew := ⟨_, rfl⟩
          have t := hide (hw8 ▸ t.out.drew : Below w.heap.size w w8)
          have B := hide (hw8 ▸ B.out.drew : Blk w8 w.heap.size 25 (case_ wa ws.length wq k fa fl.length fc))
          have LA := hide (hw8 ▸ LA.out.below (Below.refl _ _).drew : LRow w8 _ _)
          have LB := hide (hw8 ▸ LB.out.below (Below.refl _ _).drew : LRow w8 _ _)
          have LC := hide (hw8 ▸ LC.out.below (Below.refl _ _).drew : LRow w8 _ _)
          have HRa := hide (hw8 ▸ HRa.out.below (Below.refl _ _).drew : Row w8 _ _)
          have HRb := hide (hw8 ▸ HRb.out.below (Below.refl _ _).drew : Row w8 _ _)
          have HRc := hide (hw8 ▸ HRc.out.below (Below.refl _ _).drew : Row w8 _ _)
          have x0 : w8.cell? ⟨b1, o1 + i * 4, none⟩ = some (.int .i64 ry) := by rw [hw8]; exact x0
          have x2 : w8.cell? ⟨b1, o1 + i * 4 + 2, none⟩ = some (.int .i64 rt) := by rw [hw8]; exact x2
          have x3 : w8.cell? ⟨b1, o1 + i * 4 + 3, none⟩ = some (.slice ax rxs.length cx) := by rw [hw8]; exact x3
          have v3 : w8.cell? ⟨b2, o2 + i * 4 + 3, none⟩ = some (.slice ax1 rxs.length cx1) := by rw [hw8]; exact v3
          have g3 : w8.cell? ⟨b3, o3 + i * 4 + 3, none⟩ = some (.slice ax2 rxs.length cx2) := by rw [hw8]; exact g3
          have hb1 : b1 < w8.heap.size := by rw [hw8]; exact hb1
          have hb2 : b2 < w8.heap.size := by rw [hw8]; exact hb2
          have hb3 : b3 < w8.heap.size := by rw [hw8]; exact hb3
          have y0 : w8.cell? ⟨w.heap.size, 0, none⟩ = some (.slice wa ws.length wq) := B.out.cell 0
          have y1 : w8.cell? ⟨w.heap.size, 1, none⟩ = some (.int .i64 k.h) := B.out.cell 1
          have y3 : w8.cell? ⟨w.heap.size, 3, none⟩ = some (.int .i64 k.a) := B.out.cell 3
          have y4 : w8.cell? ⟨w.heap.size, 4, none⟩ = some (.int .i64 k.b) := B.out.cell 4
          have y5 : w8.cell? ⟨w.heap.size, 5, none⟩ = some (.int .i64 k.y) := B.out.cell 5
          have y2 : w8.cell? ⟨w.heap.size, 2, none⟩ = some (.int .u8 k.al) := B.out.cell 2
          have y6 : w8.cell? ⟨w.heap.size, 6, none⟩ = some (.slice fa fl.length fc) := B.out.cell 6
          rw [← hw8]
          clear hw8
          as_aux_lemma =>
            by_cases hn0 : rxs.length = 0
            · have bn0 : ((rxs.length : Int) == 0) = true := by rw [beq_iff_eq]; omega
              go_wp2_with fail
              go_roundw
              case rel => exact ⟨i + 1, hlt, by go_num, B.out, t.out, LA.out, LB.out, LC.out⟩
              case measure => simp [intOf]; omega
            · have bn0 : ((rxs.length : Int) == 0) = false := by rw [beq_eq_false_iff_ne]; omega
              as_aux_lemma =>
                -- a row of words: its room, what is free, each place
                obtain ⟨bw, ow, hwa, hbw, hcw⟩ := w_at (hr.below t.out) (by omega)
                obtain ⟨bx, ox, hxa, hbx, hcx⟩ := row_int HRa.out (by omega)
                obtain ⟨bx1, ox1, hxb, hbx1, hcx1⟩ := row_int HRb.out (by rw [List.length_map]; omega)
                obtain ⟨bx2, ox2, hxc, hbx2, hcx2⟩ := row_int HRc.out (by rw [List.length_map]; omega)
                subst hwa hxa hxb hxc
                obtain ⟨p, hp⟩ : ∃ p, p = rt - 1 := ⟨_, rfl⟩
                obtain ⟨m, hm⟩ : ∃ m, m = rxs.length - 1 := ⟨_, rfl⟩
                have hml : m < rxs.length := by omega
                have hpl : p < ws.length := by omega
                have hx := hcx m hml
                have hfm := HFR.out m hml
                unfold Far at hfm
                obtain ⟨_, _, u2, _, _⟩ := hcw p hpl
                obtain ⟨pw1, pw2⟩ := (HM.out.w _ (List.getElem_mem hpl)).w
                have em1 : (rt : Int) - 1 = (p : Int) := by omega
                have em2 : (rxs.length : Int) - 1 = (m : Int) := by omega
                have hlw : Hid (lastW ws ⟨ry, rf, rt, rxs⟩ = rxs[m] + ws[p].w) := hide (by
                  unfold lastW
                  dsimp only
                  rw [← hp, List.getElem?_eq_getElem hpl, List.getLastD_eq_getLast?, List.getLast?_eq_getElem?, ← hm, List.getElem?_eq_getElem hml]
                  rfl)
                have HTL := hide (fun W (hb : Below w.heap.size w W) => rtall_any fa fl fl.length fc ry k.h k.a k.b W (hf.below hb) rfl HM.out.f.2 (by unfold Fay; omega) (near_far' HM.out.h) (near_far' HM.out.a) (near_far' HM.out.b) (by have := HM.out.f.1; omega))
                clear hcw
                generalize ws[p].w = lw at u2 pw1 pw2 hlw
                generalize rxs[m] = xm at hx hfm hlw
                clear hp hm
                obtain ⟨⟨f1, f2⟩, f3, f4⟩ := HC.out.at_far ry
                have hP : Hid (tall fl ry k.h k.a k.b = ((c.at_ ry).1, (c.at_ ry).2)) := hide (by rw [← hat.out])
                have hFE : Hid (freeOf c ws ⟨ry, rf, rt, rxs⟩ = max ((c.at_ ry).2 - xm - lw) 0) := hide (by
                  unfold freeOf
                  rw [hlw.out]
                  congr 1
                  show (c.at_ ry).2 - (xm + lw) = _
                  omega)
                generalize (c.at_ ry).1 = pf at hP f1 f2
                generalize (c.at_ ry).2 = pt at hP hFE f3 f4
                obtain ⟨FR, hFR⟩ : ∃ FR, FR = max (pt - xm - lw) 0 := ⟨_, rfl⟩
                have hFR0 : 0 ≤ FR ∧ FR ≤ 9007199254740992 := by omega
                rw [← hFR] at hFE
                have hS1 : Hid (∀ j (h : j < rxs.length), w8.cell? ⟨bx1, ox1 + j, none⟩ = some (.int .i64 (rxs[j] + FR))) := hide (fun j h => by
                  have := hcx1 j (by rw [List.length_map]; exact h)
                  rw [List.getElem_map] at this
                  rw [this]
                  simp only [moveOf, hFE.out]
                  rfl)
                have hS2 : Hid (∀ j (h : j < rxs.length), w8.cell? ⟨bx2, ox2 + j, none⟩ = some (.int .i64 (rxs[j] + FR / 2))) := hide (fun j h => by
                  have := hcx2 j (by rw [List.length_map]; exact h)
                  rw [List.getElem_map] at this
                  rw [this]
                  simp only [moveOf, hFE.out]
                  rfl)
                have hS0 := hide hcx
                clear hcx hcx1 hcx2 hlw hFE
                rw [hP.out] at HTL
                have HFRE := hide hFR
                clear hFR
                go_upto_region 15 with fail
                have hbl := B.out.lt
                have z1 := keepc (p := ⟨w.heap.size, 1, none⟩) hbl y1
                have z3 := keepc (p := ⟨w.heap.size, 3, none⟩) hbl y3
                have z4 := keepc (p := ⟨w.heap.size, 4, none⟩) hbl y4
                have z6 := keepc (p := ⟨w.heap.size, 6, none⟩) hbl y6
                have z7 := keepc (p := ⟨b1, o1 + i * 4, none⟩) hb1 x0
                refine Reg.region (by kernel_rfl) 19 [13] (fun _ w' => Below w8.heap.size w8 w') (by kernel_rfl) (by kernel_rfl) (Below.refl _ _).drew ?_
                iterate 13
                  refine Reg.WT.yield (v := ?_) rfl rfl ?_ ?_
                  rotate_left
                  · intro w' _ hS; go_simp; (try go_bits); (first | rfl | rw [if_pos (by omega)])
                  simp only [Act.put, List.setIfInBounds_toArray, List.set_cons_zero, List.set_cons_succ]
                refine Reg.WT.call (v := ?_) (f := ?_) (args := ?_) rfl rfl ?_ ?_ ?_
                rotate_left 3
                · intro w2; go_simp; exact ⟨by rfl, by rfl⟩
                · intro w2 hS; refine (HTL.out w2 (below_call (w := w) t.out hS)).mono ?_; rintro e w3 ⟨rfl, hb⟩; exact ⟨by rfl, hS.trans (hb.mono hS.size)⟩
                simp only [Act.put, List.setIfInBounds_toArray, List.set_cons_zero, List.set_cons_succ]
                iterate 5
                  refine Reg.WT.yield (v := ?_) rfl rfl ?_ ?_
                  rotate_left
                  · intro w' _ hS; go_simp; (try go_bits); (first | rfl | rw [if_pos (by omega)])
                  simp only [Act.put, List.setIfInBounds_toArray, List.set_cons_zero, List.set_cons_succ]
                intro w5 hS
                have t5 := hide (below_call (w := w) t.out hS)
                have B5 := hide (B.out.below hS B.out.lt)
                have LA5 := hide (LA.out.below hS)
                have LB5 := hide (LB.out.below hS)
                have LC5 := hide (LC.out.below hS)
                have q0 : w5.cell? ⟨w.heap.size, 0, none⟩ = some (.slice (some ⟨bw, ow, none⟩) ws.length wq) := B5.out.cell 0
                have q2 := (hS.cell (p := ⟨b1, o1 + i * 4 + 2, none⟩) hb1).trans x2
                have q3 := (hS.cell (p := ⟨b1, o1 + i * 4 + 3, none⟩) hb1).trans x3
                have q4 := (hS.cell (p := ⟨b2, o2 + i * 4 + 3, none⟩) hb2).trans v3
                have q5 := (hS.cell (p := ⟨b3, o3 + i * 4 + 3, none⟩) hb3).trans g3
                have qx := (hS.cell (p := ⟨bx, ox + m, none⟩) hbx).trans hx
                have qw := (hS.cell (p := ⟨bw, ow + p * 5 + 2, none⟩) hbw).trans u2
                have Q0 : Hid (∀ j (h : j < rxs.length), w5.cell? ⟨bx, ox + j, none⟩ = some (.int .i64 rxs[j])) := hide (fun j h => (hS.cell (p := ⟨bx, ox + j, none⟩) hbx).trans (hS0.out j h))
                have Q1 : Hid (∀ j (h : j < rxs.length), w5.cell? ⟨bx1, ox1 + j, none⟩ = some (.int .i64 (rxs[j] + FR))) := hide (fun j h => (hS.cell (p := ⟨bx1, ox1 + j, none⟩) hbx1).trans (hS1.out j h))
                have Q2 : Hid (∀ j (h : j < rxs.length), w5.cell? ⟨bx2, ox2 + j, none⟩ = some (.int .i64 (rxs[j] + FR / 2))) := hide (fun j h => (hS.cell (p := ⟨bx2, ox2 + j, none⟩) hbx2).trans (hS2.out j h))
                have P3 := hide q3
                have P4 := hide q4
                have P5 := hide q5
                clear z1 z3 z4 z6 z7 hS hS0 hS1 hS2 HTL hx u2 x0 x1 x2 x3 v0 v1 v2 v3 g0 g1 g2 g3 y0 y1 y2 y3 y4 y5 y6 hbx hbx1 hbx2 hbw t B LA LB LC HRa HRb HRc
                go_upto_region 16 with fail
                have z0 := keepd q0
                have z2 := keepd q2
                have z3 := keepd q3
                have z5 := keepd qx
                have z6 := keepd qw
                clear q0 q2 q3 q4 q5 qx qw
                have em4 : max (pt - xm - lw) 0 = FR := HFRE.out.symm
                refine Reg.region (by kernel_rfl) 25 [] (fun _ w' => w' = w5.drew) (by kernel_rfl) (by kernel_rfl) rfl ?_
                iterate 25
                  refine Reg.WT.yield (v := ?_) rfl rfl ?_ ?_
                  rotate_left
                  · intro w' _ hS; go_simp; (try go_bits); (first | rfl | rw [if_pos (by omega)])
                  simp only [Act.put, List.setIfInBounds_toArray, List.set_cons_zero, List.set_cons_succ]
                intro w6 hS
                subst hS
                clear z0 z2 z3 z5 z6 em4 em1 em2
                go_wp2_with fail
                go_loopw [14] (fun jv wr => ∃ (j : Nat), j ≤ rxs.length ∧ jv = .int .i64 j ∧ Below w5.heap.size w5 wr) (fun jv _ => rxs.length - (intOf jv).toNat)
                case atStart => exact ⟨0, Nat.zero_le _, rfl, (Below.refl _ _).drew⟩
                case round =>
                  obtain ⟨j, hj, rfl, hb5⟩ := hrel
                  have hb5 := hide hb5
                  by_cases hjl : j < rxs.length
                  · have k0 := Q0.out j hjl
                    have k1 := Q1.out j hjl
                    have k2 := Q2.out j hjl
                    have hfj := HFR.out j hjl
                    unfold Far at hfj
                    generalize rxs[j] = xj at k0 k1 k2 hfj
                    have l3 := (hb5.out.cell (p := ⟨b1, o1 + i * 4 + 3, none⟩) (cell_lt P3.out)).trans P3.out
                    have l4 := (hb5.out.cell (p := ⟨b2, o2 + i * 4 + 3, none⟩) (cell_lt P4.out)).trans P4.out
                    have l5 := (hb5.out.cell (p := ⟨b3, o3 + i * 4 + 3, none⟩) (cell_lt P5.out)).trans P5.out
                    have m0 := (hb5.out.cell (p := ⟨bx, ox + j, none⟩) (cell_lt k0)).trans k0
                    have m1 := (hb5.out.cell (p := ⟨bx1, ox1 + j, none⟩) (cell_lt k1)).trans k1
                    have m2 := (hb5.out.cell (p := ⟨bx2, ox2 + j, none⟩) (cell_lt k2)).trans k2
                    clear k0 k1 k2
                    go_upto_region 20 with fail
                    have z3 := keepd l3
                    have z4 := keepd l4
                    have z5 := keepd l5
                    have z6 := keepd m0
                    have z7 := keepd m1
                    have z8 := keepd m2
                    clear l3 l4 l5 m0 m1 m2
                    refine Reg.region (by kernel_rfl) 41 [] (fun _ w' => w' = wr.drew) (by kernel_rfl) (by kernel_rfl) rfl ?_
                    iterate 41
                      first
                        | refine Reg.WT.idle rfl rfl ?_
                        | (refine Reg.WT.yield (v := ?_) rfl rfl ?_ ?_
                           rotate_left
                           · intro w' _ hS; go_simp; (try go_bits); (first | rfl | rw [if_pos (by omega)]))
                      simp only [Act.put, List.setIfInBounds_toArray, List.set_cons_zero, List.set_cons_succ]
                    intro w7 hS
                    subst hS
                    clear z3 z4 z5 z6 z7 z8
                    go_wp2_with fail
                    go_roundw
                    case rel => exact ⟨j + 1, hjl, by go_num, hb5.out.drew⟩
                    case measure => simp [intOf]; omega
                  · obtain rfl : j = rxs.length := by omega
                    go_wp2_with fail
                    go_roundw
                    case rel => exact ⟨i + 1, hlt, by go_num, B5.out.below hb5.out B5.out.lt, below_call (w := w) t5.out hb5.out, LA5.out.below hb5.out, LB5.out.below hb5.out, LC5.out.below hb5.out⟩
                    case measure => simp [intOf]; omega
      · obtain rfl : i = rows.length := by omega
        clear hLA hLB hLC
        go_wp2_with fail
        refine (works_any _).mono ?_
        rintro r w9 ⟨rfl, k9⟩
        have t9 := hide (below_call (w := w) t.out k9)
        clear k9
        go_wp2_with fail
        go_returns
        exact ⟨rfl, t9.out⟩
  · have HM := hide hM
    clear hM
    go_wp2_with fail
    refine (MY.out.2 HM.out).mono ?_
    rintro r w2 ⟨rfl, k2⟩
    have t2 := hide (below_call (w := w) t1.out k2)
    clear k2
    go_wp2_with fail
    refine (works_any _).mono ?_
    rintro r w9 ⟨rfl, k9⟩
    have t9 := hide (below_call (w := w) t2.out k9)
    clear k9
    go_wp2_with fail
    go_returns
    exact ⟨rfl, t9.out⟩
end Go.Proofs.Ytpdfeifnbeojcaa
