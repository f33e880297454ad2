/- The walk of LinesPlays. -/
import Derived.Test.YtpdfeifnbeojcaaXF
import Derived.Test.YtpdfeifnbeojcaaXG
import Derived.Test.YtpdfeifnbeojcaaWE
namespace Go.Proofs.Ytpdfeifnbeojcaa
open Go.RowKit

theorem infoW : (Try.prog.info? 33).map (fun i => (i.zero, i.size, i.bytes)) = some (some (.agg #[.int .i64 0, .int .i64 0, .int .i64 0, .int .i64 0, .int .i64 0]), 5, 40) := by kernel_rfl
theorem infoF : (Try.prog.info? 35).map (fun i => (i.zero, i.size, i.bytes)) = some (some (.agg #[.int .u8 0, .int .i64 0, .int .i64 0, .int .i64 0, .int .i64 0]), 5, 40) := by kernel_rfl
theorem wcell_one (l : List Wd) : ∀ u ∈ l.map wcell, ∀ z ∈ u, z.oneCell' = true := by
  intro x hx; rw [List.mem_map] at hx; obtain ⟨y, _, rfl⟩ := hx; intro z hz; simp [wcell] at hz; rcases hz with rfl | rfl | rfl | rfl | rfl <;> rfl
theorem fcell_one (l : List Flt) : ∀ u ∈ l.map fcell, ∀ z ∈ u, z.oneCell' = true := by
  intro x hx; rw [List.mem_map] at hx; obtain ⟨y, _, rfl⟩ := hx; intro z hz; simp [fcell] at hz; rcases hz with rfl | rfl | rfl | rfl | rfl <;> rfl
/-- A row has no more words than there are words. -/
theorem fill_xs {c : Rm} : ∀ (n k : Nat) (l : List Wd) (y : Int), l.length ≤ n → ∀ r ∈ (fill c k l y).1, r.xs.length ≤ n := by
  intro n
  induction n with
  | zero =>
    intro k l y h r hr
    obtain rfl : l = [] := List.eq_nil_of_length_eq_zero (by omega)
    rw [fill_nil] at hr; simp at hr
  | succ n ih =>
    intro k l y h r hr
    cases l with
    | nil => rw [fill_nil] at hr; simp at hr
    | cons w l =>
      rw [fill_cons] at hr
      dsimp only at hr
      rcases List.mem_append.1 hr with hr | hr
      · have he : ∀ (n : Nat) (y : Int), ∀ r ∈ empties c.h k n y, r.xs = [] := by
          intro n
          induction n with
          | zero => intro y r hr; simp [empties] at hr
          | succ n ih =>
            intro y r hr
            unfold empties at hr
            rcases List.mem_append.1 hr with hr | hr
            · exact ih y r hr
            · simp at hr; subst hr; rfl
        rw [he _ _ r hr]; simp
      · rcases List.mem_cons.1 hr with rfl | hr
        · unfold rowOf
          simp only [List.length_map, List.length_cons]
          have := grow_len (c.at_ (dwn c w.w (y + ends k w * c.h))).2 l ((c.at_ (dwn c w.w (y + ends k w * c.h))).1 + w.w)
          simp at h; omega
        · have := ih _ _ _ (by simp at h ⊢; omega) r hr
          omega
set_option maxRecDepth 100000 in
set_option maxHeartbeats 4000000 in
theorem walk_LinesPlays (w : World) (x : CaseV) (hx : CaseOk w x) : Calls Try.prog 3 #[x.val] w fun e w' => e = .returned (.bool true) ∧ Below w.heap.size w w' := by
  obtain ⟨iw, wi, wz0, wz1, wz2⟩ := info_parts infoW
  obtain ⟨jf, fi, fz0, fz1, fz2⟩ := info_parts infoF
  obtain ⟨wa, ws, wc, k, fa, fl, fc⟩ := x
  obtain ⟨hr, hf, hu, ⟨hwc1, hwc2⟩, hfc1, hfc2⟩ := hx
  dsimp only at hr hf hu hwc1 hwc2 hfc1 hfc2
  unfold maxLen at hwc2 hfc2
  unfold CaseV.val
  dsimp only
  obtain ⟨w1, hw1⟩ : ∃ w1, w1 = w.alloc (.cells (case_ wa ws.length wc k fa fl.length fc) 25) := ⟨_, rfl⟩
  have B1 := hide (hw1 ▸ Blk.new w 25 (case_ wa ws.length wc k fa fl.length fc))
  have t1 : Hid (Below w.heap.size w w1) := hide (hw1 ▸ (Below.refl _ _).alloc (Nat.le_refl _) _)
  have MY := hide (mayc_any wa ws wc k fa fl fc w1 (hr.below t1.out) (hf.below t1.out) hu)
  have HRw := hide hr
  have HFw := hide hf
  unfold case_ at hw1
  have HW1 := hide hw1
  clear hw1 hu hr hf
  by_cases hM : MayC ws k fl
  · have HM := hide hM
    have hn := hM.n
    have hfn := hM.f.1
    clear hM
    unfold case_
    go_enter Try.func3, Try.ntmps3
    go_upto_region 1 with fail
    rw [← HW1.out]
    have y0 : w1.cell? ⟨w.heap.size, 0, none⟩ = some (.slice wa ws.length wc) := B1.out.cell 0
    have y1 : w1.cell? ⟨w.heap.size, 1, none⟩ = some (.int .i64 k.h) := B1.out.cell 1
    have y2 : w1.cell? ⟨w.heap.size, 2, none⟩ = some (.int .u8 k.al) := B1.out.cell 2
    have y3 : w1.cell? ⟨w.heap.size, 3, none⟩ = some (.int .i64 k.a) := B1.out.cell 3
    have y4 : w1.cell? ⟨w.heap.size, 4, none⟩ = some (.int .i64 k.b) := B1.out.cell 4
    have y5 : w1.cell? ⟨w.heap.size, 5, none⟩ = some (.int .i64 k.y) := B1.out.cell 5
    have y6 : w1.cell? ⟨w.heap.size, 6, none⟩ = some (.slice fa fl.length fc) := B1.out.cell 6
    go_wp2_with fail
    refine (MY.out.1 HM.out).mono ?_
    rintro r w2 ⟨rfl, k2⟩
    have t2 := hide (below_call (w := w) t1.out k2)
    have B2 := hide (B1.out.below k2 B1.out.lt)
    clear k2
    clear y0 y1 y2 y3 y4 y5 y6
    have y0 : w2.cell? ⟨w.heap.size, 0, none⟩ = some (.slice wa ws.length wc) := B2.out.cell 0
    -- the words, in new memory
    obtain ⟨w3, hw3⟩ : ∃ w3, w3 = w2.alloc (.cells #[] 33) := ⟨_, rfl⟩
    have HO := hide (hw3 ▸ World.ownsRow_made (base := w2.heap.size) (e := 33) (size := 5) w2 #[] 0 (Nat.le_refl _) (Nat.zero_le _) rfl : w3.ownsRow w2.heap.size 33 5 (.slice (some ⟨w2.heap.size, 0, none⟩) 0 0) 0 [])
    have a3 : Below w2.heap.size w2 w3 := hw3 ▸ (Below.refl _ _).alloc (Nat.le_refl _) _
    have A3 := hide a3
    have t3 := hide (below_call (w := w) t2.out a3)
    have B3 := hide (B2.out.below a3 B2.out.lt)
    have y3 : w3.cell? ⟨w.heap.size, 0, none⟩ = some (.slice wa ws.length wc) := B3.out.cell 0
    have HW3 := hide hw3
    have hlt2 : w.heap.size < w2.heap.size := B2.out.lt
    clear hw3 a3
    go_wp2_with (at_builtin; (try rw [← HW3.out]); refine wpList_append_rows rfl _ _ 22 rfl w2.heap.size 33 iw (.agg #[.int .i64 0, .int .i64 0, .int .i64 0, .int .i64 0, .int .i64 0]) 5 40 Try.underlying22 wi wz0 wz1 wz2 rfl (by decide) _ _ _ rfl HO.out wa ws.length wc _ rfl (HRw.out.below t3.out) (by rw [List.length_map]) (wcell_len _) (wcell_one _) ?c1 ?c2 A3.out.size ?_)
    case c1 => unfold maxLen; omega
    case c2 => omega
    intro v1 w4 hown1 hgrow1 _
    (try simp only [List.nil_append, Nat.zero_add] at hown1)
    have b4 := hide (below_grown (a := w2) A3.out hgrow1 (fun k h => by simp [Value.ownBlock] at h; omega))
    obtain ⟨a1, c1, rfl, hc1a, hc1b, _, hr1, _⟩ := own_rowS (wcell_len ws) (by decide) hown1
    have R1 : Hid (WRow w4 a1 ws) := hide hr1
    have t4 := hide (below_call (w := w) t2.out b4.out)
    have B4 := hide (B2.out.below b4.out B2.out.lt)
    clear hown1 hgrow1 y0 y3 hlt2 HO A3 t3 B3 HW3 hr1 b4 t2
    have y6 : w4.cell? ⟨w.heap.size, 6, none⟩ = some (.slice fa fl.length fc) := B4.out.cell 6
    obtain ⟨w5, hw5⟩ : ∃ w5, w5 = w4.alloc (.cells #[] 35) := ⟨_, rfl⟩
    have HO := hide (hw5 ▸ World.ownsRow_made (base := w4.heap.size) (e := 35) (size := 5) w4 #[] 0 (Nat.le_refl _) (Nat.zero_le _) rfl : w5.ownsRow w4.heap.size 35 5 (.slice (some ⟨w4.heap.size, 0, none⟩) 0 0) 0 [])
    have a5 : Below w4.heap.size w4 w5 := hw5 ▸ (Below.refl _ _).alloc (Nat.le_refl _) _
    have A5 := hide a5
    have t5 := hide (below_call (w := w) t4.out a5)
    have B5 := hide (B4.out.below a5 B4.out.lt)
    have y3 : w5.cell? ⟨w.heap.size, 6, none⟩ = some (.slice fa fl.length fc) := B5.out.cell 6
    have HW5 := hide hw5
    have hlt4 : w.heap.size < w4.heap.size := B4.out.lt
    clear hw5 a5
    go_wp2_with (at_builtin; (try rw [← HW5.out]); refine wpList_append_rows rfl _ _ 23 rfl w4.heap.size 35 jf (.agg #[.int .u8 0, .int .i64 0, .int .i64 0, .int .i64 0, .int .i64 0]) 5 40 Try.underlying23 fi fz0 fz1 fz2 rfl (by decide) _ _ _ rfl HO.out fa fl.length fc _ rfl (HFw.out.below t5.out) (by rw [List.length_map]) (fcell_len _) (fcell_one _) ?c1 ?c2 A5.out.size ?_)
    case c1 => unfold maxLen; omega
    case c2 => omega
    intro v2 w6 hown2 hgrow2 _
    (try simp only [List.nil_append, Nat.zero_add] at hown2)
    have b6 := hide (below_grown (a := w4) A5.out hgrow2 (fun k h => by simp [Value.ownBlock] at h; omega))
    obtain ⟨a2, c2, rfl, hc2a, hc2b, _, hr2, _⟩ := own_rowS (fcell_len fl) (by decide) hown2
    have R2 : Hid (FRow w6 a2 fl) := hide hr2
    have R1 := hide (R1.out.below b6.out)
    have t6 := hide (below_call (w := w) t4.out b6.out)
    have B6 := hide (B4.out.below b6.out B4.out.lt)
    clear hown2 hgrow2 y3 y6 hlt4 HO A5 t5 B5 HW5 hr2 b6 t4
    unfold maxLen at hc1b hc2b
    have y0 : w6.cell? ⟨w.heap.size, 0, none⟩ = some (.slice wa ws.length wc) := B6.out.cell 0
    have y1 : w6.cell? ⟨w.heap.size, 1, none⟩ = some (.int .i64 k.h) := B6.out.cell 1
    have y2 : w6.cell? ⟨w.heap.size, 2, none⟩ = some (.int .u8 k.al) := B6.out.cell 2
    have y3 : w6.cell? ⟨w.heap.size, 3, none⟩ = some (.int .i64 k.a) := B6.out.cell 3
    have y4 : w6.cell? ⟨w.heap.size, 4, none⟩ = some (.int .i64 k.b) := B6.out.cell 4
    have y5 : w6.cell? ⟨w.heap.size, 5, none⟩ = some (.int .i64 k.y) := B6.out.cell 5
    have y6 : w6.cell? ⟨w.heap.size, 6, none⟩ = some (.slice fa fl.length fc) := B6.out.cell 6
    have HH := HM.out.h
    unfold near at HH
    go_wp2_with fail
    refine (fill_any a1 ws c1 a2 fl c2 k.h k.al k.a k.b k.y w6 R1.out HM.out.w hn R2.out (rmok_of HM.out.h HM.out.a HM.out.b HM.out.f.2) (near_yb HM.out.y) (by omega)).mono ?_
    rintro r w7 ⟨A, cap, rfl, L, _, _, k7⟩
    have L7 := hide L
    have t7 := hide (below_call (w := w) t6.out k7)
    have B7 := hide (B6.out.below k7 B6.out.lt)
    have R1 := hide (R1.out.below k7)
    have R2 := hide (R2.out.below k7)
    clear k7 L
    clear y0 y1 y2 y3 y4 y5 y6
    have y0 : w7.cell? ⟨w.heap.size, 0, none⟩ = some (.slice wa ws.length wc) := B7.out.cell 0
    have y1 : w7.cell? ⟨w.heap.size, 1, none⟩ = some (.int .i64 k.h) := B7.out.cell 1
    have y2 : w7.cell? ⟨w.heap.size, 2, none⟩ = some (.int .u8 k.al) := B7.out.cell 2
    have y3 : w7.cell? ⟨w.heap.size, 3, none⟩ = some (.int .i64 k.a) := B7.out.cell 3
    have y4 : w7.cell? ⟨w.heap.size, 4, none⟩ = some (.int .i64 k.b) := B7.out.cell 4
    have y5 : w7.cell? ⟨w.heap.size, 5, none⟩ = some (.int .i64 k.y) := B7.out.cell 5
    have y6 : w7.cell? ⟨w.heap.size, 6, none⟩ = some (.slice fa fl.length fc) := B7.out.cell 6
    go_wp2_with fail
    refine (rfill_any wa ws wc fa fl fc k.h k.al k.a k.b k.y w7 (HRw.out.below t7.out) HM.out.w hn (HFw.out.below t7.out) (by omega) (rmok_of HM.out.h HM.out.a HM.out.b HM.out.f.2) (near_yb HM.out.y) (by omega)).mono ?_
    rintro r w8 ⟨A', cap', rfl, L', k8⟩
    have hL := fill_len (c := ⟨max k.h 0, k.al, k.a, k.b, fl⟩) ws.length 0 ws k.y (Nat.le_refl _)
    have hX := fill_xs (c := ⟨max k.h 0, k.al, k.a, k.b, fl⟩) ws.length 0 ws k.y (Nat.le_refl _)
    have hSE := sumE_le HM.out.w 0
    generalize fill ⟨max k.h 0, k.al, k.a, k.b, fl⟩ 0 ws k.y = q at L7 L' hL hX ⊢
    obtain ⟨rows, e⟩ := q
    dsimp only at L7 L' hL hX ⊢
    have L8 := hide (L7.out.below k8)
    have M8 := hide L'
    have t8 := hide (below_call (w := w) t7.out k8)
    have B8 := hide (B7.out.below k8 B7.out.lt)
    have R1 := hide (R1.out.below k8)
    have R2 := hide (R2.out.below k8)
    clear k8 L' L7
    clear y0 y1 y2 y3 y4 y5 y6
    have HSM := hide (fun (W : World) h1 h2 => same_any A A' rows cap cap' W h1 h2 (by omega) (fun x hx => by have := hX x hx; omega))
    clear hX hL hSE
    go_wp2_with fail
    refine (HSM.out _ L8.out M8.out).mono ?_
    rintro r w9 ⟨rfl, k9⟩
    have t9 := hide (below_call (w := w) t8.out k9)
    have B9 := hide (B8.out.below k9 B8.out.lt)
    have R1 := hide (R1.out.below k9)
    have R2 := hide (R2.out.below k9)
    clear k9 L8 M8 HSM
    go_wp2_with fail
    go_loopw [9] (fun iv wr => ∃ i : Nat, i ≤ ws.length ∧ iv = .int .i64 i ∧ Below w9.heap.size w9 wr) (fun iv _ => ws.length - (intOf iv).toNat)
    case atStart => exact ⟨0, Nat.zero_le _, rfl, Below.refl _ _⟩
    case round =>
      obtain ⟨i, hi, rfl, hb⟩ := hrel
      have b4 := hide hb
      clear hb
      by_cases hlt : i < ws.length
      · obtain ⟨p1, o1, rfl, hp1, hcc1⟩ := w_at (R1.out.below b4.out) (by omega)
        obtain ⟨p2, o2, rfl, hp2, hcc2⟩ := w_at (HRw.out.below (below_call (w := w) t9.out b4.out)) (by omega)
        obtain ⟨x0, x1, x2, x3, x4⟩ := hcc1 i hlt
        obtain ⟨z0, z1, z2, z3, z4⟩ := hcc2 i hlt
        have y0 : wr.cell? ⟨w.heap.size, 0, none⟩ = some (.slice (some ⟨p2, o2, none⟩) ws.length wc) := (B9.out.below b4.out B9.out.lt).cell 0
        clear hcc1 hcc2
        generalize ws[i] = zz at x0 x1 x2 x3 x4 z0 z1 z2 z3 z4
        go_upto_region 12 with fail
        have r0 := keepd x0
        have r1 := keepd x1
        have r2 := keepd x2
        have r3 := keepd x3
        have r4 := keepd x4
        have s0 := keepd z0
        have s1 := keepd z1
        have s2 := keepd z2
        have s3 := keepd z3
        have s4 := keepd z4
        have s5 := keepd y0
        clear x0 x1 x2 x3 x4 z0 z1 z2 z3 z4 y0
        refine Reg.region (by kernel_rfl) 10 [] (fun _ w' => w' = wr.drew) (by kernel_rfl) (by kernel_rfl) rfl ?_
        iterate 10
          refine Reg.WT.yield (v := ?_) rfl rfl ?_ ?_
          rotate_left
          · intro w' _ hS; go_simp; (try go_bits); (first | rfl | rw [if_pos (by omega)])
          simp only [Act.put, List.setIfInBounds_toArray, List.set_cons_zero, List.set_cons_succ]
        intro w10 hS
        subst hS
        clear r0 r1 r2 r3 r4 s0 s1 s2 s3 s4 s5
        go_wp2_with fail
        go_roundw
        case rel => exact ⟨i + 1, hlt, by go_num, b4.out.drew⟩
        case measure => simp [intOf]; omega
      · have b5 := hide b4.out
        clear b4
        go_wp2_with fail
        go_loopw [10] (fun iv wr => ∃ i : Nat, i ≤ fl.length ∧ iv = .int .i64 i ∧ Below w9.heap.size w9 wr) (fun iv _ => fl.length - (intOf iv).toNat)
        case atStart => exact ⟨0, Nat.zero_le _, rfl, b5.out⟩
        case round =>
          obtain ⟨j, hj, rfl, hb⟩ := hrel
          have b4 := hide hb
          clear hb
          by_cases hlt2 : j < fl.length
          · obtain ⟨p1, o1, rfl, hp1, hcc1⟩ := f_at (R2.out.below b4.out) (by omega)
            obtain ⟨p2, o2, rfl, hp2, hcc2⟩ := f_at (HFw.out.below (below_call (w := w) t9.out b4.out)) (by omega)
            obtain ⟨x0, x1, x2, x3, x4⟩ := hcc1 j hlt2
            obtain ⟨z0, z1, z2, z3, z4⟩ := hcc2 j hlt2
            have y0 : wr.cell? ⟨w.heap.size, 6, none⟩ = some (.slice (some ⟨p2, o2, none⟩) fl.length fc) := (B9.out.below b4.out B9.out.lt).cell 6
            clear hcc1 hcc2
            generalize fl[j] = zz at x0 x1 x2 x3 x4 z0 z1 z2 z3 z4
            go_upto_region 17 with fail
            have r0 := keepd x0
            have r1 := keepd x1
            have r2 := keepd x2
            have r3 := keepd x3
            have r4 := keepd x4
            have s0 := keepd z0
            have s1 := keepd z1
            have s2 := keepd z2
            have s3 := keepd z3
            have s4 := keepd z4
            have s5 := keepd y0
            clear x0 x1 x2 x3 x4 z0 z1 z2 z3 z4 y0
            refine Reg.region (by kernel_rfl) 10 [] (fun _ w' => w' = wr.drew) (by kernel_rfl) (by kernel_rfl) rfl ?_
            iterate 10
              refine Reg.WT.yield (v := ?_) rfl rfl ?_ ?_
              rotate_left
              · intro w' _ hS; go_simp; (try go_bits); (first | rfl | rw [if_pos (by omega)])
              simp only [Act.put, List.setIfInBounds_toArray, List.set_cons_zero, List.set_cons_succ]
            intro w10 hS
            subst hS
            clear r0 r1 r2 r3 r4 s0 s1 s2 s3 s4 s5
            go_wp2_with fail
            go_roundw
            case rel => exact ⟨j + 1, hlt2, by go_num, b4.out.drew⟩
            case measure => simp [intOf]; omega
          · have t10 := hide (below_call (w := w) t9.out b4.out)
            go_wp2_with fail
            refine (works_any _).mono ?_
            rintro r w9 ⟨rfl, k9⟩
            have t9 := hide (below_call (w := w) t10.out k9)
            clear k9
            go_wp2_with fail
            go_returns
            exact ⟨rfl, t9.out⟩
  · have HM := hide hM
    clear hM
    unfold case_
    go_enter Try.func3, Try.ntmps3
    go_upto_region 1 with fail
    rw [← HW1.out]
    have y0 : w1.cell? ⟨w.heap.size, 0, none⟩ = some (.slice wa ws.length wc) := B1.out.cell 0
    have y1 : w1.cell? ⟨w.heap.size, 1, none⟩ = some (.int .i64 k.h) := B1.out.cell 1
    have y2 : w1.cell? ⟨w.heap.size, 2, none⟩ = some (.int .u8 k.al) := B1.out.cell 2
    have y3 : w1.cell? ⟨w.heap.size, 3, none⟩ = some (.int .i64 k.a) := B1.out.cell 3
    have y4 : w1.cell? ⟨w.heap.size, 4, none⟩ = some (.int .i64 k.b) := B1.out.cell 4
    have y5 : w1.cell? ⟨w.heap.size, 5, none⟩ = some (.int .i64 k.y) := B1.out.cell 5
    have y6 : w1.cell? ⟨w.heap.size, 6, none⟩ = some (.slice fa fl.length fc) := B1.out.cell 6
    go_wp2_with fail
    refine (MY.out.2 HM.out).mono ?_
    rintro r w2 ⟨rfl, k2⟩
    have t2 := hide (below_call (w := w) t1.out k2)
    clear k2
    go_wp2_with fail
    refine (works_any _).mono ?_
    rintro r w9 ⟨rfl, k9⟩
    have t9 := hide (below_call (w := w) t2.out k9)
    clear k9
    go_wp2_with fail
    go_returns
    exact ⟨rfl, t9.out⟩
end Go.Proofs.Ytpdfeifnbeojcaa
