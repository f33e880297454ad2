/- The walk of ClockStamps. -/
import Derived.Test.YtffpphnjokmffaaEK
import Derived.Test.YtffpphnjokmffaaEO
import Derived.Test.YtffpphnjokmffaaFS
import Derived.Test.YtffpphnjokmffaaOpens
namespace Go.Proofs.Ytffpphnjokmffaa
open Go.RowKit Go.Maps
set_option maxRecDepth 100000 in
set_option maxHeartbeats 4000000 in
theorem walk_ClockStamps (w : World) (x : Int) (_hx : (Lit.int .i64 x).wf = true) (a : Option Addr) (l : List Ev) (c : Nat) (hr : ERow w a l) (hl : ∀ e ∈ l, EvIn e) (hc1 : l.length ≤ c) (hc2 : c ≤ maxLen) (p : Int) (hp : (Lit.int .i64 p).wf = true) (q : Int) (hq : (Lit.int .i64 q).wf = true) :
    Calls Try.prog 3 #[.int .i64 x, .slice a l.length c, .int .i64 p, .int .i64 q] w (fun e w' => e = .returned (.bool true) ∧ Below w.heap.size w w') := by
  have hlen := hr.len
  obtain ⟨hp1, hp2⟩ := i64_of hp
  obtain ⟨hq1, hq2⟩ := i64_of hq
  have HL := hide hl
  have HR := hide hr
  clear hl hr hp hq
  go_enter Try.func3, Try.ntmps3
  by_cases hlong : 120 < l.length
  · have b1 : decide (120 < (l.length : Int)) = true := by simp; omega
    go_wp2_with fail
    refine (works_any _).mono ?_
    rintro r w9 ⟨rfl, k9⟩
    have t9 := hide (below_call (w := w) (Below.refl _ _) k9)
    clear k9
    go_wp2_with fail
    go_returns
    exact ⟨rfl, t9.out⟩
  have b1 : decide (120 < (l.length : Int)) = false := by simp; omega
  go_wp2_with fail
  refine (copied_any a l c w HR.out (by omega)).mono ?_
  rintro r w1 ⟨v1, rfl, ho1, k1⟩
  obtain ⟨a1, c1, rfl, hr1, _⟩ := ho1.row
  have R1 := hide hr1
  have t1 := hide k1
  clear ho1 hr1 k1
  by_cases hM : LogOk x l
  · have HM := hide hM
    have HCC : Hid (∀ y ∈ l, y.c ≤ 9223372036854775807) := hide (fun y hy => (HL.out y hy).c.2)
    have hn1 := hM.nb
    obtain ⟨n, rfl⟩ : ∃ n : Nat, x = (n : Int) := ⟨x.toNat, by omega⟩
    clear hM HL
    go_wp2_with fail
    refine (stamps_yes a1 l c1 n _ R1.out HM.out HCC.out).mono ?_
    rintro r w2 ⟨g1, e1, rfl, hT1, k2⟩
    have T1 := hide hT1
    have t2 := hide (below_call (w := w) t1.out k2)
    have R1 := hide (R1.out.below k2)
    clear hT1 k2 t1
    go_wp2_with fail
    refine (may_yes a l c n _ (HR.out.below t2.out) HM.out).mono ?_
    rintro r w3 ⟨rfl, k3⟩
    have t3 := hide (below_call (w := w) t2.out k3)
    have R1 := hide (R1.out.below k3)
    have T1 := hide (T1.out.below k3)
    clear k3 t2
    go_wp2_with fail
    refine (rstamps_any a l c n _ (HR.out.below t3.out) HM.out (by omega)).mono ?_
    rintro r w4 ⟨g2, rfl, hT2, k4⟩
    have T2 := hide hT2
    have t4 := hide (below_call (w := w) t3.out k4)
    have R1 := hide (R1.out.below k4)
    have T1 := hide (T1.out.below k4)
    clear k4 t3 hT2
    go_wp2_with fail
    refine (table_any a l c _ (HR.out.below t4.out) (by omega)).mono ?_
    rintro r w5 ⟨N0, rfl, hTB, _, k5⟩
    have TB5 := hide hTB
    have t5 := hide (below_call (w := w) t4.out k5)
    have R1 := hide (R1.out.below k5)
    have T1 := hide (T1.out.below k5)
    have T2 := hide (T2.out.below k5)
    clear k5 t4 hTB
    go_wp2_with fail
    refine (sames_any a1 a l c1 c _ R1.out (HR.out.below t5.out)).mono ?_
    rintro r w6 ⟨rfl, k6⟩
    have t6 := hide (below_call (w := w) t5.out k6)
    have T1 := hide (T1.out.below k6)
    have T2 := hide (T2.out.below k6)
    have TB6 := hide (TB5.out.below k6)
    clear k6 t5 TB5 R1
    have BB : Hid (∀ W i j, ERow W a l → TRow W (some ⟨g1, 0, none⟩) (gl l) n l.length → j < l.length → Calls Try.prog 17 #[.slice a l.length c, .slice (some ⟨g1, 0, none⟩) l.length e1, .int .i64 (i : Nat), .int .i64 (j : Nat)] W (BPost (bef (gl l) i j) W)) := hide (fun W i j h1 h2 h3 => before_nat a l c (some ⟨g1, 0, none⟩) e1 n i j W h1 HM.out.ev h2 h3 (by omega) (by omega))
    go_wp2_with fail
    go_loopw [14] (fun kv wr => ∃ k : Nat, k ≤ l.length ∧ kv = .int .i64 k ∧ Below w6.heap.size w6 wr) (fun kv _ => l.length - (intOf kv).toNat)
    case atStart => exact ⟨0, Nat.zero_le _, rfl, Below.refl _ _⟩
    case round =>
      obtain ⟨i, hi, rfl, hb⟩ := hrel
      have b4 := hide hb
      clear hb
      by_cases hlt : i < l.length
      · obtain ⟨p1, o1, hS1, hp1, hcc1⟩ := t_at (T1.out.below b4.out) (by omega)
        obtain ⟨p2, o2, hS2, hp2, hcc2⟩ := t_at (T2.out.below b4.out) (by omega)
        simp only [Option.some.injEq, Addr.mk.injEq, and_true] at hS1 hS2
        obtain ⟨e11, e12⟩ := hS1
        obtain ⟨e21, e22⟩ := hS2
        subst e11 e12 e21 e22
        obtain ⟨q1, d1, x1, m1, n1, f1, s1⟩ := hcc1 i hlt
        obtain ⟨q2, d2, x2, m2, n2, f2, s2⟩ := hcc2 i hlt
        simp only [Nat.zero_add] at x1 x2
        unfold maxLen at n1 n2
        clear hcc1 hcc2
        have f1 := f1 (by omega)
        have f2 := f2 (by omega)
        have S1 := hide s1
        have S2 := hide s2
        have X1 := hide x1
        have X2 := hide x2
        clear s1 s2
        go_upto_region 14 with fail
        have r1 := keepd x1
        have r2 := keepd x2
        refine Reg.region (by kernel_rfl) 11 [] (fun _ w' => w' = wr.drew) (by kernel_rfl) (by kernel_rfl) rfl ?_
        iterate 11
          refine Reg.WT.yield (v := ?_) rfl rfl ?_ ?_
          rotate_left
          · intro w' _ hS; go_simp; (try go_bits); (first | rfl | rw [if_pos (by omega)])
          simp only [Act.put, List.setIfInBounds_toArray, List.set_cons_zero, List.set_cons_succ]
        intro w7 hS
        subst hS
        clear r1 r2
        go_wp2_with fail
        clear x1 x2
        go_loopw [15] (fun vv wq => ∃ v : Nat, v ≤ n ∧ vv = .int .i64 v ∧ Below wr.heap.size wr wq) (fun vv _ => n - (intOf vv).toNat)
        case atStart => exact ⟨0, Nat.zero_le _, rfl, (Below.refl _ _).drew⟩
        case round =>
          obtain ⟨v, hv, rfl, hbq⟩ := hrel
          have c4 := hide hbq
          clear hbq
          have y1 := (c4.out.cell (p := ⟨g1, i, none⟩) hp1).trans X1.out
          have y2 := (c4.out.cell (p := ⟨g2, i, none⟩) hp2).trans X2.out
          by_cases hvn : v < n
          · have z1 := (c4.out.cell (p := ⟨q1, v, none⟩) f1).trans (S1.out v hvn)
            have z2 := (c4.out.cell (p := ⟨q2, v, none⟩) f2).trans (S2.out v hvn)
            have hle := stamp_le (e := gl l) i (v : Int)
            generalize stamp (gl l) i (v : Int) = st at z1 z2 hle
            go_upto_region 19 with fail
            have r1 := keepd y1
            have r2 := keepd y2
            have u1 := keepd z1
            have u2 := keepd z2
            refine Reg.region (by kernel_rfl) 15 [] (fun _ w' => w' = wr.drew) (by kernel_rfl) (by kernel_rfl) rfl ?_
            iterate 15
              refine Reg.WT.yield (v := ?_) rfl rfl ?_ ?_
              rotate_left
              · intro w' _ hS; go_simp; (try go_bits); (first | rfl | rw [if_pos (by omega)])
              simp only [Act.put, List.setIfInBounds_toArray, List.set_cons_zero, List.set_cons_succ]
            intro w7 hS
            subst hS
            clear r1 r2 u1 u2 z1 z2
            go_wp2_with fail
            go_roundw
            case rel => exact ⟨v + 1, hvn, by go_num, c4.out.drew⟩
            case measure => simp [intOf]; omega
          · have b5 := hide (b4.out.trans (c4.out.mono b4.out.size))
            go_wp2_with fail
            clear y1 y2
            go_loopw [16] (fun mv wq => ∃ m : Nat, m ≤ l.length ∧ mv = .int .i64 m ∧ Below w6.heap.size w6 wq) (fun mv _ => l.length - (intOf mv).toNat)
            case atStart => exact ⟨0, Nat.zero_le _, rfl, b5.out⟩
            case round =>
              obtain ⟨m, hm, rfl, hbq⟩ := hrel
              have c5 := hide hbq
              clear hbq
              by_cases hmt : m < l.length
              · have z1 := (TB6.out.below c5.out).row hmt
                have z2 := (TB6.out.below c5.out).at_ hmt hlt
                have hn1 := (TB6.out.below c5.out).nb.lt
                have hn2 := ((TB6.out.below c5.out).nr m hmt).lt
                have u1 := keepc hn1 z1
                have u2 := keepc hn2 z2
                clear z1 z2
                have RR := hide (HR.out.below (t6.out.trans (c5.out.mono t6.out.size)))
                have TT := hide (T1.out.below c5.out)
                go_upto_region 24 with fail
                refine Reg.region (by kernel_rfl) 13 [4] (fun _ w' => Below wr.heap.size wr w') (by kernel_rfl) (by kernel_rfl) (Below.refl _ _).drew ?_
                iterate 4
                  refine Reg.WT.yield (v := ?_) rfl rfl ?_ ?_
                  rotate_left
                  · intro w' _ hS; go_simp; (try go_bits); (first | rfl | rw [if_pos (by omega)])
                  simp only [Act.put, List.setIfInBounds_toArray, List.set_cons_zero, List.set_cons_succ]
                refine Reg.WT.call (v := ?_) (f := ?_) (args := ?_) rfl rfl ?_ ?_ ?_
                rotate_left 3
                · intro w2; go_simp; exact ⟨by rfl, by rfl⟩
                · intro w2 hS; refine (BB.out w2 m i (RR.out.below hS) (TT.out.below hS) hlt).mono ?_; rintro e w3 ⟨rfl, hb⟩; exact ⟨by rfl, hS.trans (hb.mono hS.size)⟩
                simp only [Act.put, List.setIfInBounds_toArray, List.set_cons_zero, List.set_cons_succ]
                iterate 8
                  refine Reg.WT.yield (v := ?_) rfl rfl ?_ ?_
                  rotate_left
                  · intro w' _ hS; go_simp; (try go_bits); (first | rfl | rw [if_pos (by omega)])
                  simp only [Act.put, List.setIfInBounds_toArray, List.set_cons_zero, List.set_cons_succ]
                intro w7 hS
                have c6 := hide (c5.out.trans (hS.mono c5.out.size))
                clear u1 u2 hn1 hn2 hS RR TT
                go_wp2_with fail
                go_roundw
                case rel => exact ⟨m + 1, hmt, by go_num, c6.out⟩
                case measure => simp [intOf]; omega
              · go_wp2_with fail
                go_roundw
                case rel => exact ⟨i + 1, hlt, by go_num, c5.out⟩
                case measure => simp [intOf]; omega
      · have t7 := hide (below_call (w := w) t6.out b4.out)
        have T1 := hide (T1.out.below b4.out)
        have TB7 := hide (TB6.out.below b4.out)
        clear T2 TB6 t6 b4
        by_cases hpq : (0 ≤ p ∧ p < l.length) ∧ 0 ≤ q ∧ q < l.length
        · obtain ⟨⟨h1, h2⟩, h3, h4⟩ := hpq
          obtain ⟨P, rfl⟩ := Int.eq_ofNat_of_zero_le h1
          obtain ⟨Q, rfl⟩ := Int.eq_ofNat_of_zero_le h3
          have hP : P < l.length := by omega
          have hQ : Q < l.length := by omega
          have d1 : decide ((P : Int) < (l.length : Int)) = true := by rw [decide_eq_true_eq]; omega
          have d2 : decide ((Q : Int) < (l.length : Int)) = true := by rw [decide_eq_true_eq]; omega
          have d3 : decide (P < l.length) = true := by rw [decide_eq_true_eq]; omega
          have d4 : decide (Q < l.length) = true := by rw [decide_eq_true_eq]; omega
          have e1 : min (max (P : Int) 0) (max 0 ((l.length : Int) - 1)) = (P : Int) := by omega
          have e2 : min (max (Q : Int) 0) (max 0 ((l.length : Int) - 1)) = (Q : Int) := by omega
          have e3 : max (P : Int) 0 = (P : Int) := by omega
          have e4 : max (Q : Int) 0 = (Q : Int) := by omega
          have e5 : max 0 ((l.length : Int) - 1) = (l.length : Int) - 1 := by omega
          have e6 : min (P : Int) ((l.length : Int) - 1) = (P : Int) := by omega
          have e7 : min (Q : Int) ((l.length : Int) - 1) = (Q : Int) := by omega
          have RR := hide (HR.out.below t7.out)
          go_wp2_with fail
          refine (BB.out _ P Q RR.out T1.out hQ).mono ?_
          rintro r w8 ⟨rfl, k8⟩
          have z1 := (TB7.out.below k8).row hP
          have z2 := (TB7.out.below k8).at_ hP hQ
          have hn1 := (TB7.out.below k8).nb.lt
          have hn2 := ((TB7.out.below k8).nr P hP).lt
          have t8 := hide (below_call (w := w) t7.out k8)
          clear k8 BB
          generalize bef (gl l) P Q = B at z2 ⊢
          go_wp2_with fail
          refine (works_any _).mono ?_
          rintro r w9 ⟨rfl, k9⟩
          have t9 := hide (below_call (w := w) t8.out k9)
          clear k9
          go_wp2_with fail
          go_returns
          exact ⟨rfl, t9.out⟩
        · by_cases h1 : 0 ≤ p
          · have d1 : decide (0 ≤ p) = true := by simpa using h1
            by_cases h2 : p < l.length
            · have d2 : decide (p < (l.length : Int)) = true := by simpa using h2
              by_cases h3 : 0 ≤ q
              · have d3 : decide (0 ≤ q) = true := by simpa using h3
                have d4 : decide (q < (l.length : Int)) = false := by rw [decide_eq_false_iff_not]; omega
                have HO := hide (before_out a l.length c (some ⟨g1, 0, none⟩) e1 p q)
                go_wp2_with fail
                refine (HO.out _ (by omega) (by omega)).mono ?_
                rintro r w8 ⟨rfl, k8⟩
                have t8 := hide (below_call (w := w) t7.out k8)
                clear k8
                go_wp2_with fail
                refine (works_any _).mono ?_
                rintro r w9 ⟨rfl, k9⟩
                have t9 := hide (below_call (w := w) t8.out k9)
                clear k9
                go_wp2_with fail
                go_returns
                exact ⟨rfl, t9.out⟩
              · have d3 : decide (0 ≤ q) = false := by simpa using h3
                have HO := hide (before_out a l.length c (some ⟨g1, 0, none⟩) e1 p q)
                go_wp2_with fail
                refine (HO.out _ (by omega) (by omega)).mono ?_
                rintro r w8 ⟨rfl, k8⟩
                have t8 := hide (below_call (w := w) t7.out k8)
                clear k8
                go_wp2_with fail
                refine (works_any _).mono ?_
                rintro r w9 ⟨rfl, k9⟩
                have t9 := hide (below_call (w := w) t8.out k9)
                clear k9
                go_wp2_with fail
                go_returns
                exact ⟨rfl, t9.out⟩
            · have d2 : decide (p < (l.length : Int)) = false := by simpa using h2
              have HO := hide (before_out a l.length c (some ⟨g1, 0, none⟩) e1 p q)
              go_wp2_with fail
              refine (HO.out _ (by omega) (by omega)).mono ?_
              rintro r w8 ⟨rfl, k8⟩
              have t8 := hide (below_call (w := w) t7.out k8)
              clear k8
              go_wp2_with fail
              refine (works_any _).mono ?_
              rintro r w9 ⟨rfl, k9⟩
              have t9 := hide (below_call (w := w) t8.out k9)
              clear k9
              go_wp2_with fail
              go_returns
              exact ⟨rfl, t9.out⟩
          · have d1 : decide (0 ≤ p) = false := by simpa using h1
            have HO := hide (before_out a l.length c (some ⟨g1, 0, none⟩) e1 p q)
            go_wp2_with fail
            refine (HO.out _ (by omega) (by omega)).mono ?_
            rintro r w8 ⟨rfl, k8⟩
            have t8 := hide (below_call (w := w) t7.out k8)
            clear k8
            go_wp2_with fail
            refine (works_any _).mono ?_
            rintro r w9 ⟨rfl, k9⟩
            have t9 := hide (below_call (w := w) t8.out k9)
            clear k9
            go_wp2_with fail
            go_returns
            exact ⟨rfl, t9.out⟩
  · have HM := hide hM
    have HK : Hid (∀ y ∈ l, 0 ≤ y.k ∧ y.k ≤ 255) := hide (fun y hy => (HL.out y hy).k)
    clear hM HL
    go_wp2_with fail
    refine (stamps_no a1 l c1 x _ R1.out HK.out HM.out).mono ?_
    rintro r w2 ⟨rfl, k2⟩
    have t2 := hide (below_call (w := w) t1.out k2)
    clear k2 t1 R1
    go_wp2_with fail
    refine (may_no a l c x _ (HR.out.below t2.out) HK.out HM.out).mono ?_
    rintro r w3 ⟨rfl, k3⟩
    have t3 := hide (below_call (w := w) t2.out k3)
    clear k3 t2
    go_wp2_with fail
    refine (works_any _).mono ?_
    rintro r w9 ⟨rfl, k9⟩
    have t9 := hide (below_call (w := w) t3.out k9)
    clear k9
    go_wp2_with fail
    go_returns
    exact ⟨rfl, t9.out⟩
end Go.Proofs.Ytffpphnjokmffaa
