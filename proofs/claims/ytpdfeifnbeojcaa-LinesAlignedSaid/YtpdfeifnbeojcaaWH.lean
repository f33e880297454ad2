/- The walk of LinesHold. -/
import Derived.Test.YtpdfeifnbeojcaaWE
namespace Go.Proofs.Ytpdfeifnbeojcaa
open Go.RowKit

theorem empties_yb {h : Int} (h0 : 0 ≤ h) (h1 : h ≤ 1125899906842624) {k m : Nat} : ∀ (n : Nat) (y : Int), Yb m y → (∀ r ∈ empties h k n y, Yb (m + n) r.y) ∧ Yb (m + n) (y + n * h)
  | 0, y, hy => ⟨fun r hr => by simp [empties] at hr, by simpa using hy⟩
  | n + 1, y, hy => by
    obtain ⟨a1, a2⟩ := empties_yb h0 h1 n y hy
    refine ⟨fun r hr => ?_, ?_⟩
    · rw [empties_succ, List.mem_append] at hr
      rcases hr with hr | hr
      · exact (a1 r hr).mono (by omega)
      · simp at hr; subst hr; exact a2.mono (by omega)
    · have := a2.step h0 h1
      have e : y + ((n + 1 : Nat) : Int) * h = y + (n : Int) * h + h := by rw [Int.natCast_add, Int.add_mul]; omega
      rw [e]; exact this
theorem fill_yb {c : Rm} (hc : RmOk c) : ∀ (n k m : Nat) (l : List Wd) (y : Int), l.length ≤ n → Yb m y → ∀ r ∈ (fill c k l y).1, Yb (m + sumE k l + l.length) r.y := by
  intro n
  induction n with
  | zero =>
    intro k m l y h hy
    obtain rfl : l = [] := List.eq_nil_of_length_eq_zero (by omega)
    rw [fill_nil]; intro r hr; simp at hr
  | succ n ih =>
    intro k m l y h hy
    cases l with
    | nil => rw [fill_nil]; intro r hr; simp at hr
    | cons w l =>
      rw [fill_cons]
      dsimp only
      obtain ⟨u3, u4⟩ := hc.h
      obtain ⟨a1, a2⟩ := empties_yb u3 u4 (k := k) (ends k w) y hy
      have hry := dwn_yb hc (w := w.w) _ (Nat.le_refl _) a2
      have hry2 : (rowOf c k w l (y + ends k w * c.h)).y = dwn c w.w (y + ends k w * c.h) := rfl
      have ht := row_t c k w l (y + ends k w * c.h)
      rw [← hry2] at hry
      generalize rowOf c k w l (y + ends k w * c.h) = r at ht hry
      have h2 := sumE_le_drop (r.t - (k + 1)) (k + 1) l (by omega)
      rw [show k + 1 + (r.t - (k + 1)) = r.t from by omega] at h2
      have h3 := ih r.t (m + ends k w + 1) (l.drop (r.t - (k + 1))) (r.y + c.h) (by simp at h ⊢; omega) (hry.step u3 u4)
      have h4 : (l.drop (r.t - (k + 1))).length ≤ l.length := by rw [List.length_drop]; omega
      intro q hq
      have e : sumE k (w :: l) = ends k w + sumE (k + 1) l := rfl
      rw [List.mem_append, List.mem_cons] at hq
      rcases hq with hq | rfl | hq
      · exact (a1 q hq).mono (by rw [e]; omega)
      · exact hry.mono (by rw [e]; omega)
      · exact (h3 q hq).mono (by rw [e, List.length_cons]; omega)
theorem row_far {c : Rm} (hc : RmOk c) {ws : List Wd} (hok : ∀ x ∈ ws, WdOk x) {r : Rw} (h : RowOk c ws r) : ∀ j (hj : j < r.xs.length), Far r.xs[j]
  | 0, hj => by rw [h.x0 hj]; exact (hc.at_far r.y).1
  | j + 1, hj => by
    have h0 := row_far hc hok h j (by omega)
    have hx := h.xl
    have ht := h.tl
    have hf := h.ft
    have hlt : r.f + (j + 1) < ws.length := by omega
    have hlt0 : r.f + j < ws.length := by omega
    obtain ⟨_, e, hle⟩ := h.xj j hj hlt
    have o1 := hok _ (List.getElem_mem hlt)
    have o0 := hok _ (List.getElem_mem hlt0)
    have ha := (hc.at_far r.y).2
    have := o1.w; have := o1.g; have := o0.w
    unfold Far at *
    omega
set_option maxRecDepth 100000 in
set_option maxHeartbeats 8000000 in
theorem walk_LinesHold (w : World) (x : CaseV) (hx : CaseOk w x) : Calls Try.prog 4 #[x.val] w fun e w' => e = .returned (.bool true) ∧ Below w.heap.size w w' := by
  obtain ⟨wa, ws, wq, k, fa, fl, fc⟩ := x
  obtain ⟨hr, hf, hu, ⟨hwc1, hwc2⟩, hfc1, hfc2⟩ := hx
  dsimp only at hr hf hu hwc1 hwc2 hfc1 hfc2
  unfold maxLen at hwc2 hfc2
  unfold CaseV.val
  dsimp only
  obtain ⟨w1, hw1⟩ : ∃ w1, w1 = w.alloc (.cells (case_ wa ws.length wq k fa fl.length fc) 25) := ⟨_, rfl⟩
  have B1 := hide (hw1 ▸ Blk.new w 25 (case_ wa ws.length wq k fa fl.length fc))
  have t1 : Hid (Below w.heap.size w w1) := hide (hw1 ▸ (Below.refl _ _).alloc (Nat.le_refl _) _)
  have MY := hide (mayc_any wa ws wq k fa fl fc w1 (hr.below t1.out) (hf.below t1.out) hu)
  unfold case_ at hw1
  have HW1 := hide hw1
  clear hw1 hu
  by_cases hM : MayC ws k fl
  · have HM := hide hM
    have hn := hM.n
    clear hM
    unfold case_
    go_enter Try.func4, Try.ntmps4
    go_upto_region 1 with fail
    rw [← HW1.out]
    have y0 : w1.cell? ⟨w.heap.size, 0, none⟩ = some (.slice wa ws.length wq) := B1.out.cell 0
    have y1 : w1.cell? ⟨w.heap.size, 1, none⟩ = some (.int .i64 k.h) := B1.out.cell 1
    have y2 : w1.cell? ⟨w.heap.size, 2, none⟩ = some (.int .u8 k.al) := B1.out.cell 2
    have y3 : w1.cell? ⟨w.heap.size, 3, none⟩ = some (.int .i64 k.a) := B1.out.cell 3
    have y4 : w1.cell? ⟨w.heap.size, 4, none⟩ = some (.int .i64 k.b) := B1.out.cell 4
    have y5 : w1.cell? ⟨w.heap.size, 5, none⟩ = some (.int .i64 k.y) := B1.out.cell 5
    have y6 : w1.cell? ⟨w.heap.size, 6, none⟩ = some (.slice fa fl.length fc) := B1.out.cell 6
    go_wp2_with fail
    refine (MY.out.1 HM.out).mono ?_
    rintro r w2 ⟨rfl, k2⟩
    have t2 := hide (below_call (w := w) t1.out k2)
    have B2 := hide (B1.out.below k2 B1.out.lt)
    clear k2 y0 y1 y2 y3 y4 y5 y6
    have y0 : w2.cell? ⟨w.heap.size, 0, none⟩ = some (.slice wa ws.length wq) := B2.out.cell 0
    have y1 : w2.cell? ⟨w.heap.size, 1, none⟩ = some (.int .i64 k.h) := B2.out.cell 1
    have y2 : w2.cell? ⟨w.heap.size, 2, none⟩ = some (.int .u8 k.al) := B2.out.cell 2
    have y3 : w2.cell? ⟨w.heap.size, 3, none⟩ = some (.int .i64 k.a) := B2.out.cell 3
    have y4 : w2.cell? ⟨w.heap.size, 4, none⟩ = some (.int .i64 k.b) := B2.out.cell 4
    have y5 : w2.cell? ⟨w.heap.size, 5, none⟩ = some (.int .i64 k.y) := B2.out.cell 5
    have y6 : w2.cell? ⟨w.heap.size, 6, none⟩ = some (.slice fa fl.length fc) := B2.out.cell 6
    by_cases hh1 : k.h < 1
    · go_wp2_with fail
      refine (works_any _).mono ?_
      rintro r w9 ⟨rfl, k9⟩
      have t9 := hide (below_call (w := w) t2.out k9)
      clear k9
      go_wp2_with fail
      go_returns
      exact ⟨rfl, t9.out⟩
    · have dh : decide (k.h < 1) = false := by simpa using hh1
      obtain ⟨c, hcd⟩ : ∃ c : Rm, c = ⟨max k.h 0, 0, k.a, k.b, fl⟩ := ⟨_, rfl⟩
      have HC : Hid (RmOk c) := hide (by rw [hcd]; exact rmok_of HM.out.h HM.out.a HM.out.b HM.out.f.2)
      have hal : c.al = 0 := by rw [hcd]
      have hch : c.h = k.h := by rw [hcd]; show max k.h 0 = k.h; omega
      have hat : Hid (∀ y, c.at_ y = tall fl y k.h k.a k.b) := hide (fun y => by unfold Rm.at_; rw [hch, hcd])
      have HCD := hide hcd
      have HCH := hide hch
      have hcn := fill_chain (c := c) (ws := ws) hal ws.length 0 k.y (by omega) (by omega)
      rw [List.drop_zero] at hcn
      have hyb := fill_yb HC.out ws.length 0 0 ws k.y (Nat.le_refl _) (near_yb HM.out.y)
      have hLn := fill_len (c := c) ws.length 0 ws k.y (Nat.le_refl _)
      have hSE := sumE_le HM.out.w 0
      go_wp2_with fail
      refine (fill_any wa ws wq fa fl fc k.h 0 k.a k.b k.y w2 (hr.below t2.out) HM.out.w hn (hf.below t2.out) (rmok_of HM.out.h HM.out.a HM.out.b HM.out.f.2) (near_yb HM.out.y) (by have := HM.out.h; unfold near at this; omega)).mono ?_
      rintro r w3 ⟨A, cap, rfl, L, hcap, hcm, k3⟩
      rw [← HCD.out] at L hcap ⊢
      generalize fill c 0 ws k.y = q at L hcap hcn hyb hLn ⊢
      obtain ⟨rows, e⟩ := q
      dsimp only at L hcap hcn hyb hLn ⊢
      have t3 := hide (below_call (w := w) t2.out k3)
      have B3 := hide (B2.out.below k3 B2.out.lt)
      have HLR := hide L
      have HCN := hide hcn
      have HYB := hide hyb
      have hlen4 : rows.length ≤ 4200 := by omega
      obtain ⟨hh3, hh4⟩ := HM.out.h
      obtain ⟨hy3, hy4⟩ := HM.out.y
      clear k3 t2 B2 y0 y1 y2 y3 y4 y5 y6 L hcn hyb hcd hch hal dh
      have y0 : w3.cell? ⟨w.heap.size, 0, none⟩ = some (.slice wa ws.length wq) := B3.out.cell 0
      have y1 : w3.cell? ⟨w.heap.size, 1, none⟩ = some (.int .i64 k.h) := B3.out.cell 1
      have y2 : w3.cell? ⟨w.heap.size, 2, none⟩ = some (.int .u8 k.al) := B3.out.cell 2
      have y3 : w3.cell? ⟨w.heap.size, 3, none⟩ = some (.int .i64 k.a) := B3.out.cell 3
      have y4 : w3.cell? ⟨w.heap.size, 4, none⟩ = some (.int .i64 k.b) := B3.out.cell 4
      have y5 : w3.cell? ⟨w.heap.size, 5, none⟩ = some (.int .i64 k.y) := B3.out.cell 5
      have y6 : w3.cell? ⟨w.heap.size, 6, none⟩ = some (.slice fa fl.length fc) := B3.out.cell 6
      go_wp2_with fail
      clear y0 y1 y2 y3 y4 y5 y6
      go_loopw [5, 6, 7] (fun kv yv iv wr => ∃ (i q : Nat) (y : Int), i ≤ rows.length ∧ iv = .int .i64 i ∧ kv = .int .i64 q ∧ yv = .int .i64 y ∧ Hid (Chain c ws q y (rows.drop i) e) ∧ Blk wr w.heap.size 25 (case_ wa ws.length wq k fa fl.length fc) ∧ Below w.heap.size w wr ∧ LRow wr A rows) (fun _ _ iv _ => rows.length - (intOf iv).toNat)
      case atStart => exact ⟨0, 0, k.y, Nat.zero_le _, rfl, rfl, rfl, HCN, B3.out, t3.out, HLR.out⟩
      case round =>
        obtain ⟨i, q, y, hi, rfl, rfl, rfl, hch, hB, hbel, hLR⟩ := hrel
        have t := hide hbel
        have B := hide hB
        have HL := hide hLR
        clear hB t3 B3 HLR
        by_cases hlt : i < rows.length
        · obtain ⟨b1, o1, rfl, hb1, hc⟩ := lrow_at hLR (by omega)
          obtain ⟨ax, cx, x0, x1, x2, x3, hR, hx1, hx2⟩ := hc i hlt
          have hch2 := hch.out
          rw [List.drop_eq_getElem_cons hlt] at hch2
          obtain ⟨hrf, hro, hry, hch3⟩ := hch2
          have HYr := hide (HYB.out _ (List.getElem_mem hlt))
          have HFR := hide (row_far HC.out HM.out.w hro)
          have HR := hide hR
          have HRO := hide hro
          have HCH3 := hide hch3
          clear hc hLR hbel hch hro hch3 hR
          generalize rows[i] = r at x0 x1 x2 x3 hrf hx1 HR HRO HCH3 HYr HFR hry
          obtain ⟨ry, rf, rt, rxs⟩ := r
          dsimp only at x0 x1 x2 x3 hrf hx1 HR HCH3 HYr HFR hry
          subst hrf
          have r1 : rf ≤ rt := HRO.out.ft
          have r2 : rt ≤ ws.length := HRO.out.tl
          have r3a : rxs.length + rf ≤ rt := by have := HRO.out.xl; have h : rxs.length = rt - rf := this; omega
          have r3b : rt ≤ rxs.length + rf := by have := HRO.out.xl; have h : rxs.length = rt - rf := this; omega
          unfold maxLen at hx2
          have bx : ((rxs.length : Int) != (rt : Int) - (rf : Int)) = false := by simp; omega
          have by_ : decide (ry < y) = false := by simpa using hry
          have br : decide ((rt : Int) < (rf : Int)) = false := by simp; omega
          have bt : decide ((ws.length : Int) < (rt : Int)) = false := by simp; omega
          have hYY := HYr.out
          unfold Yb at hYY
          clear hry
          have y0 : wr.cell? ⟨w.heap.size, 0, none⟩ = some (.slice wa ws.length wq) := B.out.cell 0
          have hwz := B.out.lt
          go_upto_if 87 with fail
          obtain ⟨w4, hw4⟩ : ∃ w4, w4 = wr.alloc (.cells #[.int .i64 ry, .int .i64 rf, .int .i64 rt, .slice ax rxs.length cx] 38) := ⟨_, rfl⟩
          have a4 : Below wr.heap.size wr w4 := hw4 ▸ (Below.refl _ _).alloc (Nat.le_refl _) _
          have B8 := hide (hw4 ▸ Blk.new wr _ _ : Blk w4 wr.heap.size 38 #[.int .i64 ry, .int .i64 rf, .int .i64 rt, .slice ax rxs.length cx])
          have B4 := hide (B.out.below a4 B.out.lt)
          have t4 := hide (below_call (w := w) t.out a4)
          have L4 := hide (HL.out.below a4)
          have R4 := hide (HR.out.below a4)
          obtain ⟨b8, hb8⟩ : ∃ b8, b8 = wr.heap.size := ⟨_, rfl⟩
          rw [← hw4]
          rw [← hb8] at B8 ⊢
          clear hw4 a4 B t HL HR x0 x1 x2 x3 y0 hb8 hwz
          have y0 : w4.cell? ⟨w.heap.size, 0, none⟩ = some (.slice wa ws.length wq) := B4.out.cell 0
          have y1 : w4.cell? ⟨w.heap.size, 1, none⟩ = some (.int .i64 k.h) := B4.out.cell 1
          have y2 : w4.cell? ⟨w.heap.size, 2, none⟩ = some (.int .u8 k.al) := B4.out.cell 2
          have y3 : w4.cell? ⟨w.heap.size, 3, none⟩ = some (.int .i64 k.a) := B4.out.cell 3
          have y4 : w4.cell? ⟨w.heap.size, 4, none⟩ = some (.int .i64 k.b) := B4.out.cell 4
          have y5 : w4.cell? ⟨w.heap.size, 5, none⟩ = some (.int .i64 k.y) := B4.out.cell 5
          have y6 : w4.cell? ⟨w.heap.size, 6, none⟩ = some (.slice fa fl.length fc) := B4.out.cell 6
          have z0 : w4.cell? ⟨b8, 0, none⟩ = some (.int .i64 ry) := B8.out.cell 0
          have HTL := hide (rtall_any fa fl fl.length fc ry k.h k.a k.b w4 (hf.below t4.out) rfl HM.out.f.2 (by unfold Fay; omega) (near_far' HM.out.h) (near_far' HM.out.a) (near_far' HM.out.b) (by have := HM.out.f.1; omega))
          rw [← hat.out] at HTL
          go_wp2_with fail
          refine HTL.out.mono ?_
          rintro r w5 ⟨rfl, k5⟩
          obtain ⟨⟨f1, f2⟩, f3, f4⟩ := HC.out.at_far ry
          have hP : Hid (c.at_ ry = ((c.at_ ry).1, (c.at_ ry).2)) := hide rfl
          clear HTL y0 y1 y2 y3 y4 y5 y6 z0 bx by_ br bt
          have X0 : Hid (∀ h : 0 < rxs.length, rxs[0] = (c.at_ ry).1) := hide HRO.out.x0
          have XJ : Hid (∀ j (h : j + 1 < rxs.length) (h2 : rf + (j + 1) < ws.length), ws[rf + (j + 1)].n ≤ 0 ∧ rxs[j + 1] = rxs[j] + ws[rf + j].w + ws[rf + (j + 1)].g ∧ rxs[j + 1] + ws[rf + (j + 1)].w ≤ (c.at_ ry).2) := hide HRO.out.xj
          have NX : Hid (∀ (h : 0 < rxs.length) (h2 : rt < ws.length), ws[rt].n = 0 → ¬ rxs[rxs.length - 1] + ws[rt - 1].w + ws[rt].g + ws[rt].w ≤ (c.at_ ry).2) := hide HRO.out.nx
          generalize (c.at_ ry).1 = pf at hP f1 f2 X0 ⊢
          generalize (c.at_ ry).2 = pt at hP f3 f4 XJ NX ⊢
          have t5 := hide (below_call (w := w) t4.out k5)
          have B5 := hide (B4.out.below k5 B4.out.lt)
          have C5 := hide (B8.out.below k5 B8.out.lt)
          have L5 := hide (L4.out.below k5)
          have R5 := hide (R4.out.below k5)
          clear k5 B4 B8 L4 R4 t4
          go_wp2_with fail
          go_loopw [11] (fun jv wr => ∃ j : Nat, j ≤ rxs.length ∧ jv = .int .i64 j ∧ Blk wr w.heap.size 25 (case_ wa ws.length wq k fa fl.length fc) ∧ Below w.heap.size w wr ∧ LRow wr (some ⟨b1, o1, none⟩) rows ∧
            Blk wr b8 38 #[.int .i64 ry, .int .i64 rf, .int .i64 rt, .slice ax rxs.length cx] ∧ Row wr ax (ints rxs)) (fun jv _ => rxs.length - (intOf jv).toNat)
          case atStart => exact ⟨0, Nat.zero_le _, rfl, B5.out, t5.out, L5.out, C5.out, R5.out⟩
          case round =>
            obtain ⟨j, hj, rfl, hB, hbel, hLR, hC, hR⟩ := hrel
            have t := hide hbel
            have B := hide hB
            have L := hide hLR
            have C := hide hC
            have R := hide hR
            clear hB hbel hLR hC hR t5 B5 L5 C5 R5
            by_cases hjl : j < rxs.length
            · have hql : rf + j < ws.length := by omega
              obtain ⟨bw, ow, hwa, hbw, hcw⟩ := w_at (hr.below t.out) (by omega)
              subst hwa
              obtain ⟨bx, ox, hxa, hbx, hcx⟩ := row_int R.out (by omega)
              subst hxa
              have y0 : wr.cell? ⟨w.heap.size, 0, none⟩ = some (.slice (some ⟨bw, ow, none⟩) ws.length wq) := B.out.cell 0
              have c1_ : wr.cell? ⟨b8, 1, none⟩ = some (.int .i64 rf) := C.out.cell 1
              have c3_ : wr.cell? ⟨b8, 3, none⟩ = some (.slice (some ⟨bx, ox, none⟩) rxs.length cx) := C.out.cell 3
              by_cases hj0 : j = 0
              · subst hj0
                have hrw : rf < ws.length := by omega
                have hx : wr.cell? ⟨bx, ox, none⟩ = some (.int .i64 pf) := by
                  have := hcx 0 hjl
                  rw [X0.out hjl] at this
                  exact this
                obtain ⟨v0, v1, v2, v3, v4⟩ := hcw rf hrw
                clear hcw hcx hql
                generalize ws[rf] = nw at v0 v1 v2 v3 v4
                go_upto_region 17 with fail
                obtain ⟨w6, hw6⟩ : ∃ w6, w6 = wr.alloc (.cells #[.int .i64 nw.f, .int .i64 nw.t, .int .i64 nw.w, .int .i64 nw.g, .int .i64 nw.n] 33) := ⟨_, rfl⟩
                have a6 : Below wr.heap.size wr w6 := hw6 ▸ (Below.refl _ _).alloc (Nat.le_refl _) _
                have C6 := hide (C.out.below a6 C.out.lt)
                have B6 := hide (B.out.below a6 B.out.lt)
                have t6 := hide (below_call (w := w) t.out a6)
                have L6 := hide (L.out.below a6)
                have R6 := hide (R.out.below a6)
                have x6 : w6.cell? ⟨bx, ox, none⟩ = some (.int .i64 pf) := (a6.cell (p := ⟨bx, ox, none⟩) hbx).trans hx
                rw [← hw6]
                clear hw6 a6 v0 v1 v2 v3 v4 hx y0 c1_ c3_ t B L C R
                have u3 : w6.cell? ⟨b8, 3, none⟩ = some (.slice (some ⟨bx, ox, none⟩) rxs.length cx) := C6.out.cell 3
                have z3 := keepd u3
                have z4 := keepd x6
                clear u3 x6
                refine Reg.region (by kernel_rfl) 59 [] (fun _ w' => w' = w6.drew) (by kernel_rfl) (by kernel_rfl) rfl ?_
                iterate 59
                  first
                    | refine Reg.WT.idle rfl rfl ?_
                    | (refine Reg.WT.yield (v := ?_) rfl rfl ?_ ?_
                       rotate_left
                       · intro w' _ hS; go_simp; (try go_bits); (first | rfl | rw [if_pos (by omega)]))
                  simp only [Act.put, List.setIfInBounds_toArray, List.set_cons_zero, List.set_cons_succ]
                intro w7 hS
                subst hS
                clear z3 z4
                go_wp2_with fail
                go_roundw
                case rel => exact ⟨0 + 1, hjl, by go_num, B6.out.drew, t6.out.drew, L6.out.below (Below.refl _ _).drew, C6.out.drew, R6.out.below (Below.refl _ _).drew⟩
                case measure => simp [intOf]; omega
              · obtain ⟨p, hp⟩ : ∃ p, p = j - 1 := ⟨_, rfl⟩
                have hjp : p + 1 = j := by omega
                obtain ⟨q, hq⟩ : ∃ q, q = rf + j := ⟨_, rfl⟩
                obtain ⟨q', hq'⟩ : ∃ q', q' = rf + p := ⟨_, rfl⟩
                have hqw : q < ws.length := by omega
                have hqw' : q' < ws.length := by omega
                have hpl : p < rxs.length := by omega
                have hx := hcx j hjl
                have hxp := hcx p hpl
                obtain ⟨v0, v1, v2, v3, v4⟩ := hcw q hqw
                obtain ⟨-, -, u2, -, -⟩ := hcw q' hqw'
                obtain ⟨⟨nw1, nw2⟩, ⟨ng1, ng2⟩, nn1, nn2⟩ := HM.out.w _ (List.getElem_mem hqw)
                obtain ⟨pw1, pw2⟩ := (HM.out.w _ (List.getElem_mem hqw')).w
                have hfj := HFR.out j hjl
                unfold Far at hfj
                have hfp := HFR.out p hpl
                unfold Far at hfp
                have hXJ := XJ.out p (by omega) (by omega)
                have em1 : (rf : Int) + (j : Int) = (q : Int) := by omega
                have em2 : (q : Int) - 1 = (q' : Int) := by omega
                have em3 : (j : Int) - 1 = (p : Int) := by omega
                simp only [hjp, ← hq, ← hq'] at hXJ
                obtain ⟨e1, e2, e3⟩ := hXJ
                clear hcw hcx
                generalize ws[q] = nw at v0 v1 v2 v3 v4 nw1 nw2 ng1 ng2 nn1 nn2 e1 e2 e3
                generalize ws[q'].w = pw at u2 pw1 pw2 e2
                generalize rxs[j] = xj at hx hfj e2 e3
                generalize rxs[p] = xp at hxp hfp e2
                clear hq hq' hp hjp hql
                have bj : ((j : Int) == 0) = false := by simp; omega
                have bj2 : decide (0 < (j : Int)) = true := by simp; omega
                have bj3 : decide (0 < j) = true := by simp; omega
                have hj1 : 0 < j := by omega
                have bn : decide (0 < nw.n) = false := by simp; omega
                have be : (xj != xp + pw + nw.g) = false := by simp; omega
                have bt : decide (pt < xj + nw.w) = false := by simp; omega
                clear e1 e2 e3
                go_upto_region 17 with fail
                obtain ⟨w6, hw6⟩ : ∃ w6, w6 = wr.alloc (.cells #[.int .i64 nw.f, .int .i64 nw.t, .int .i64 nw.w, .int .i64 nw.g, .int .i64 nw.n] 33) := ⟨_, rfl⟩
                have a6 : Below wr.heap.size wr w6 := hw6 ▸ (Below.refl _ _).alloc (Nat.le_refl _) _
                have N6 := hide (hw6 ▸ Blk.new wr _ _ : Blk w6 wr.heap.size 33 #[.int .i64 nw.f, .int .i64 nw.t, .int .i64 nw.w, .int .i64 nw.g, .int .i64 nw.n])
                have C6 := hide (C.out.below a6 C.out.lt)
                have B6 := hide (B.out.below a6 B.out.lt)
                have t6 := hide (below_call (w := w) t.out a6)
                have L6 := hide (L.out.below a6)
                have R6 := hide (R.out.below a6)
                have x6 := (a6.cell (p := ⟨bx, ox + j, none⟩) hbx).trans hx
                have x7 := (a6.cell (p := ⟨bx, ox + p, none⟩) hbx).trans hxp
                have x8 := (a6.cell (p := ⟨bw, ow + q' * 5 + 2, none⟩) hbw).trans u2
                rw [← hw6]
                clear hw6 a6 v0 v1 v2 v3 v4 hx hxp u2 y0 c1_ c3_ t B L C R
                have u0 : w6.cell? ⟨w.heap.size, 0, none⟩ = some (.slice (some ⟨bw, ow, none⟩) ws.length wq) := B6.out.cell 0
                have u1 : w6.cell? ⟨b8, 1, none⟩ = some (.int .i64 rf) := C6.out.cell 1
                have u3 : w6.cell? ⟨b8, 3, none⟩ = some (.slice (some ⟨bx, ox, none⟩) rxs.length cx) := C6.out.cell 3
                have u4 : w6.cell? ⟨wr.heap.size, 2, none⟩ = some (.int .i64 nw.w) := N6.out.cell 2
                have u5 : w6.cell? ⟨wr.heap.size, 3, none⟩ = some (.int .i64 nw.g) := N6.out.cell 3
                have u6 : w6.cell? ⟨wr.heap.size, 4, none⟩ = some (.int .i64 nw.n) := N6.out.cell 4
                have z0 := keepd u0
                have z1 := keepd u1
                have z3 := keepd u3
                have z4 := keepd u4
                have z5 := keepd u5
                have z6 := keepd u6
                have z7 := keepd x6
                have z8 := keepd x7
                have z9 := keepd x8
                clear u0 u1 u3 u4 u5 u6 x6 x7 x8
                refine Reg.region (by kernel_rfl) 59 [] (fun _ w' => w' = w6.drew) (by kernel_rfl) (by kernel_rfl) rfl ?_
                iterate 59
                  first
                    | refine Reg.WT.idle rfl rfl ?_
                    | (refine Reg.WT.yield (v := ?_) rfl rfl ?_ ?_
                       rotate_left
                       · intro w' _ hS; go_simp; (try go_bits); (first | rfl | rw [if_pos (by omega)]))
                  simp only [Act.put, List.setIfInBounds_toArray, List.set_cons_zero, List.set_cons_succ]
                intro w7 hS
                subst hS
                clear z0 z1 z3 z4 z5 z6 z7 z8 z9
                go_wp2_with fail
                go_roundw
                case rel => exact ⟨j + 1, hjl, by go_num, B6.out.drew, t6.out.drew, L6.out.below (Below.refl _ _).drew, C6.out.drew, R6.out.below (Below.refl _ _).drew⟩
                case measure => simp [intOf]; omega
            · obtain rfl : j = rxs.length := by omega
              have hwz := B.out.lt
              have hb8 := C.out.lt
              have y0 : wr.cell? ⟨w.heap.size, 0, none⟩ = some (.slice wa ws.length wq) := B.out.cell 0
              have y1 : wr.cell? ⟨w.heap.size, 1, none⟩ = some (.int .i64 k.h) := B.out.cell 1
              have c0_ : wr.cell? ⟨b8, 0, none⟩ = some (.int .i64 ry) := C.out.cell 0
              have c2_ : wr.cell? ⟨b8, 2, none⟩ = some (.int .i64 rt) := C.out.cell 2
              have c3_ : wr.cell? ⟨b8, 3, none⟩ = some (.slice ax rxs.length cx) := C.out.cell 3
              by_cases hn0 : rxs.length = 0
              · have bn0 : decide (0 < (rxs.length : Int)) = false := decide_eq_false (by omega)
                go_wp2_with fail
                go_roundw
                case rel => exact ⟨i + 1, rt, ry + k.h, hlt, by go_num, rfl, rfl, hide (by rw [← HCH.out]; exact HCH3.out), B.out, t.out, L.out⟩
                case measure => simp [intOf]; omega
              · have bn0 : decide (0 < (rxs.length : Int)) = true := decide_eq_true (by omega)
                by_cases hrl : rt < ws.length
                · obtain ⟨bw, ow, hwa, hbw, hcw⟩ := w_at (hr.below t.out) (by omega)
                  subst hwa
                  obtain ⟨bx, ox, hxa, hbx, hcx⟩ := row_int R.out (by omega)
                  subst hxa
                  obtain ⟨p, hp⟩ : ∃ p, p = rt - 1 := ⟨_, rfl⟩
                  obtain ⟨m, hm⟩ : ∃ m, m = rxs.length - 1 := ⟨_, rfl⟩
                  have hml : m < rxs.length := by omega
                  have hpl : p < ws.length := by omega
                  have hx := hcx m hml
                  have hfm := HFR.out m hml
                  unfold Far at hfm
                  obtain ⟨v0, v1, v2, v3, v4⟩ := hcw rt hrl
                  obtain ⟨u0, u1, u2, u3, u4⟩ := hcw p hpl
                  obtain ⟨⟨nw1, nw2⟩, ⟨ng1, ng2⟩, nn1, nn2⟩ := HM.out.w _ (List.getElem_mem hrl)
                  obtain ⟨pw1, pw2⟩ := (HM.out.w _ (List.getElem_mem hpl)).w
                  have em1 : (rt : Int) - 1 = (p : Int) := by omega
                  have em2 : (rxs.length : Int) - 1 = (m : Int) := by omega
                  have hNX := NX.out (by omega) hrl
                  simp only [← hp, ← hm] at hNX
                  clear hcw hcx
                  generalize ws[rt] = nw at v0 v1 v2 v3 v4 nw1 nw2 ng1 ng2 nn1 nn2 hNX
                  generalize ws[p] = lw at u0 u1 u2 u3 u4 pw1 pw2 hNX
                  generalize rxs[m] = xm at hx hfm hNX
                  clear hp hm
                  have HNX := hide hNX
                  clear hNX
                  go_upto_region 22 with fail
                  obtain ⟨w6, hw6⟩ : ∃ w6, w6 = wr.alloc (.cells #[.int .i64 lw.f, .int .i64 lw.t, .int .i64 lw.w, .int .i64 lw.g, .int .i64 lw.n] 33) := ⟨_, rfl⟩
                  obtain ⟨w7, hw7⟩ : ∃ w7, w7 = w6.alloc (.cells #[.int .i64 nw.f, .int .i64 nw.t, .int .i64 nw.w, .int .i64 nw.g, .int .i64 nw.n] 33) := ⟨_, rfl⟩
                  have s6 : w6.heap.size = wr.heap.size + 1 := by rw [hw6]; simp
                  have N6 : Blk w6 wr.heap.size 33 #[.int .i64 lw.f, .int .i64 lw.t, .int .i64 lw.w, .int .i64 lw.g, .int .i64 lw.n] := hw6 ▸ Blk.new wr _ _
                  have N7 : Blk w7 wr.heap.size 33 #[.int .i64 lw.f, .int .i64 lw.t, .int .i64 lw.w, .int .i64 lw.g, .int .i64 lw.n] := hw7 ▸ N6.alloc _
                  have M7 : Blk w7 (wr.heap.size + 1) 33 #[.int .i64 nw.f, .int .i64 nw.t, .int .i64 nw.w, .int .i64 nw.g, .int .i64 nw.n] := by rw [hw7, ← s6]; exact Blk.new w6 _ _
                  have a7 : Below wr.heap.size wr w7 := by rw [hw7, hw6]; exact ((Below.refl _ _).alloc (Nat.le_refl _) _).alloc (by simp) _
                  have C7 := hide (C.out.below a7 C.out.lt)
                  have B7 := hide (B.out.below a7 B.out.lt)
                  have t7 := hide (below_call (w := w) t.out a7)
                  have L7 := hide (L.out.below a7)
                  have x7 := (a7.cell (p := ⟨bx, ox + m, none⟩) hbx).trans hx
                  rw [← hw6, ← hw7]
                  have q4 : w7.cell? ⟨wr.heap.size, 2, none⟩ = some (.int .i64 lw.w) := N7.cell 2
                  have q5 : w7.cell? ⟨wr.heap.size + 1, 2, none⟩ = some (.int .i64 nw.w) := M7.cell 2
                  have q6 : w7.cell? ⟨wr.heap.size + 1, 3, none⟩ = some (.int .i64 nw.g) := M7.cell 3
                  have q7 : w7.cell? ⟨wr.heap.size + 1, 4, none⟩ = some (.int .i64 nw.n) := M7.cell 4
                  have q3 : w7.cell? ⟨b8, 3, none⟩ = some (.slice (some ⟨bx, ox, none⟩) rxs.length cx) := C7.out.cell 3
                  clear hw6 hw7 s6 N6 N7 M7 a7 v0 v1 v2 v3 v4 u0 u1 u2 u3 u4 hx y0 y1 c0_ c2_ c3_ t B L C R em1
                  have z3 := keepd q3
                  have z4 := keepd q4
                  have z5 := keepd q5
                  have z6 := keepd q6
                  have z7 := keepd q7
                  have z8 := keepd x7
                  clear q3 q4 q5 q6 q7 x7
                  by_cases hz : nw.n = 0
                  · have bz : (nw.n == 0) = true := by simpa using hz
                    have bl : decide (xm + lw.w + nw.g + nw.w ≤ pt) = false := by simpa using HNX.out hz
                    clear hz
                    refine Reg.region (by kernel_rfl) 24 [] (fun _ w' => w' = w7.drew) (by kernel_rfl) (by kernel_rfl) rfl ?_
                    iterate 24
                      first
                        | refine Reg.WT.idle rfl rfl ?_
                        | (refine Reg.WT.yield (v := ?_) rfl rfl ?_ ?_
                           rotate_left
                           · intro w' _ hS; go_simp; (try go_bits); (first | rfl | rw [if_pos (by omega)]))
                      simp only [Act.put, List.setIfInBounds_toArray, List.set_cons_zero, List.set_cons_succ]
                    intro w8 hS
                    subst hS
                    clear z3 z4 z5 z6 z7 z8
                    have y1 : w7.drew.cell? ⟨w.heap.size, 1, none⟩ = some (.int .i64 k.h) := B7.out.cell 1
                    have c0_ : w7.drew.cell? ⟨b8, 0, none⟩ = some (.int .i64 ry) := C7.out.cell 0
                    have c2_ : w7.drew.cell? ⟨b8, 2, none⟩ = some (.int .i64 rt) := C7.out.cell 2
                    go_wp2_with fail
                    go_roundw
                    case rel => exact ⟨i + 1, rt, ry + k.h, hlt, by go_num, rfl, rfl, hide (by rw [← HCH.out]; exact HCH3.out), B7.out.drew, t7.out.drew, L7.out.below (Below.refl _ _).drew⟩
                    case measure => simp [intOf]; omega
                  · have bz : (nw.n == 0) = false := by simpa using hz
                    clear hz
                    refine Reg.region (by kernel_rfl) 24 [] (fun _ w' => w' = w7.drew) (by kernel_rfl) (by kernel_rfl) rfl ?_
                    iterate 24
                      first
                        | refine Reg.WT.idle rfl rfl ?_
                        | (refine Reg.WT.yield (v := ?_) rfl rfl ?_ ?_
                           rotate_left
                           · intro w' _ hS; go_simp; (try go_bits); (first | rfl | rw [if_pos (by omega)]))
                      simp only [Act.put, List.setIfInBounds_toArray, List.set_cons_zero, List.set_cons_succ]
                    intro w8 hS
                    subst hS
                    clear z3 z4 z5 z6 z7 z8
                    have y1 : w7.drew.cell? ⟨w.heap.size, 1, none⟩ = some (.int .i64 k.h) := B7.out.cell 1
                    have c0_ : w7.drew.cell? ⟨b8, 0, none⟩ = some (.int .i64 ry) := C7.out.cell 0
                    have c2_ : w7.drew.cell? ⟨b8, 2, none⟩ = some (.int .i64 rt) := C7.out.cell 2
                    go_wp2_with fail
                    go_roundw
                    case rel => exact ⟨i + 1, rt, ry + k.h, hlt, by go_num, rfl, rfl, hide (by rw [← HCH.out]; exact HCH3.out), B7.out.drew, t7.out.drew, L7.out.below (Below.refl _ _).drew⟩
                    case measure => simp [intOf]; omega
                · have brl : decide ((rt : Int) < (ws.length : Int)) = false := by simp; omega
                  go_wp2_with fail
                  go_roundw
                  case rel => exact ⟨i + 1, rt, ry + k.h, hlt, by go_num, rfl, rfl, hide (by rw [← HCH.out]; exact HCH3.out), B.out, t.out, L.out⟩
                  case measure => simp [intOf]; omega
        · obtain rfl : i = rows.length := by omega
          have hch2 := hch.out
          rw [List.drop_length] at hch2
          obtain ⟨rfl, rfl⟩ := hch2
          have y0 : wr.cell? ⟨w.heap.size, 0, none⟩ = some (.slice wa ws.length wq) := B.out.cell 0
          clear hch hbel hLR
          go_wp2_with fail
          refine (works_any _).mono ?_
          rintro r w9 ⟨rfl, k9⟩
          have t9 := hide (below_call (w := w) t.out k9)
          clear k9
          go_wp2_with fail
          go_returns
          exact ⟨rfl, t9.out⟩
  · have HM := hide hM
    clear hM
    unfold case_
    go_enter Try.func4, Try.ntmps4
    go_upto_region 1 with fail
    rw [← HW1.out]
    have y0 : w1.cell? ⟨w.heap.size, 0, none⟩ = some (.slice wa ws.length wq) := B1.out.cell 0
    have y1 : w1.cell? ⟨w.heap.size, 1, none⟩ = some (.int .i64 k.h) := B1.out.cell 1
    have y2 : w1.cell? ⟨w.heap.size, 2, none⟩ = some (.int .u8 k.al) := B1.out.cell 2
    have y3 : w1.cell? ⟨w.heap.size, 3, none⟩ = some (.int .i64 k.a) := B1.out.cell 3
    have y4 : w1.cell? ⟨w.heap.size, 4, none⟩ = some (.int .i64 k.b) := B1.out.cell 4
    have y5 : w1.cell? ⟨w.heap.size, 5, none⟩ = some (.int .i64 k.y) := B1.out.cell 5
    have y6 : w1.cell? ⟨w.heap.size, 6, none⟩ = some (.slice fa fl.length fc) := B1.out.cell 6
    go_wp2_with fail
    refine (MY.out.2 HM.out).mono ?_
    rintro r w2 ⟨rfl, k2⟩
    have t2 := hide (below_call (w := w) t1.out k2)
    clear k2
    go_wp2_with fail
    refine (works_any _).mono ?_
    rintro r w9 ⟨rfl, k9⟩
    have t9 := hide (below_call (w := w) t2.out k9)
    clear k9
    go_wp2_with fail
    go_returns
    exact ⟨rfl, t9.out⟩
end Go.Proofs.Ytpdfeifnbeojcaa
