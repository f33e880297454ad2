/- The walk of ClockPrefix.  -/
import Derived.Test.YtffpphnjokmffaaEK
import Derived.Test.YtffpphnjokmffaaEM
import Derived.Test.YtffpphnjokmffaaOpens
namespace Go.Proofs.Ytffpphnjokmffaa
open Go.RowKit Go.Maps
set_option maxRecDepth 100000 in
set_option maxHeartbeats 4000000 in
theorem walkP_ClockPrefix (x q : Int) (a : Option Addr) (l : List Ev) (c : Nat) (w : World) (hx : 0 ≤ x ∧ x ≤ 255) (hq : 0 ≤ q ∧ q ≤ 65535) (hr : ERow w a l) (hl : ∀ e ∈ l, EvIn e) (hc1 : l.length ≤ c) (hc2 : c ≤ maxLen) :
    Calls Try.prog 8 #[.int .u8 x, .slice a l.length c, .int .u16 q] w (BPost true w) := by
  have hlen := hr.len
  have HL := hide hl
  have HR := hide hr
  clear hl hr
  go_enter Try.func8, Try.ntmps8
  by_cases hlong : 120 < l.length
  · have b1 : decide (120 < (l.length : Int)) = true := by simp; omega
    go_wp2_with fail
    refine (works_any _).mono ?_
    rintro r w9 ⟨rfl, k9⟩
    have t9 := hide (below_call (w := w) (Below.refl _ _) k9)
    clear k9
    go_wp2_with fail
    go_returns
    exact ⟨rfl, t9.out⟩
  have b1 : decide (120 < (l.length : Int)) = false := by simp; omega
  obtain ⟨n, hn⟩ : ∃ n : Nat, x % 64 + 1 = (n : Int) := ⟨(x % 64 + 1).toNat, by omega⟩
  obtain ⟨k, hk⟩ : ∃ k : Nat, Int.tmod q (l.length + 1) = (k : Int) := ⟨(Int.tmod q (l.length + 1)).toNat, by rw [Int.tmod_eq_emod_of_nonneg hq.1]; have := Int.emod_nonneg q (b := (l.length : Int) + 1) (by omega); omega⟩
  have hn1 : 1 ≤ n ∧ n ≤ 64 := by omega
  have hkl : k ≤ l.length := by rw [Int.tmod_eq_emod_of_nonneg hq.1] at hk; have := Int.emod_lt_of_pos q (b := (l.length : Int) + 1) (by omega); omega
  unfold maxLen at hc2
  obtain ⟨m, hm⟩ : ∃ m, m = l.take k := ⟨_, rfl⟩
  have hml : m.length = k := by rw [hm, List.length_take]; omega
  have HRm : Hid (ERow w a m) := hide (hm ▸ HR.out.take)
  have HCm : Hid (∀ y ∈ m, y.c ≤ 9223372036854775807) := hide (fun y hy => (HL.out y (List.mem_of_mem_take (hm ▸ hy))).c.2)
  have HOm : Hid (LogOk n l → LogOk n m) := hide (fun h => hm ▸ h.take)
  have HSt : Hid (∀ j, j < k → ∀ v : Int, stamp (gl m) j v = stamp (gl l) j v) := hide (fun j hj v => hm ▸ stamp_take hj v)
  have HPr : Hid (∀ a b c d is so, RaceIs (gl l) l.length a b is → RaceIs (gl m) k c d so → (so = true → is = true ∧ a = c ∧ b = d) ∧ (is = true → b < k → so = true)) := hide (fun a b c d is so h1 h2 => pre_race hkl h1 (hm ▸ h2))
  clear hm
  subst hml
  go_wp2_with fail
  refine (copied_any a l c w HR.out (by omega)).mono ?_
  rintro r w1 ⟨v1, rfl, ho1, k1⟩
  obtain ⟨a1, c1, rfl, hr1, _⟩ := ho1.row
  have R1 := hide hr1
  have t1 := hide k1
  clear ho1 hr1 k1 b1
  have HCC : Hid (∀ y ∈ l, y.c ≤ 9223372036854775807) := hide (fun y hy => (HL.out y hy).c.2)
  by_cases hM : LogOk n l
  · have HM := hide hM
    clear hM
    go_wp2_with fail
    refine (stamps_yes a1 l c1 n _ R1.out HM.out HCC.out).mono ?_
    rintro r w2 ⟨g1, e1, rfl, hT1, k2⟩
    have T1 := hide hT1
    have t2 := hide (below_call (w := w) t1.out k2)
    clear hT1 k2 R1
    go_wp2_with fail
    refine (copied_any a m c _ (HRm.out.below t2.out) (by omega)).mono ?_
    rintro r w3 ⟨v3, rfl, ho3, k3⟩
    obtain ⟨a3, c3, rfl, hr3, _⟩ := ho3.row
    have R3 := hide hr3
    have T1b := hide (T1.out.below k3)
    have t3 := hide (below_call (w := w) t2.out k3)
    clear ho3 hr3 k3 T1 t2
    go_wp2_with fail
    refine (stamps_yes a3 m c3 n _ R3.out (HOm.out HM.out) HCm.out).mono ?_
    rintro r w4 ⟨g2, e2, rfl, hT2, k4⟩
    have T2 := hide hT2
    have T1 := hide (T1b.out.below k4)
    have t4 := hide (below_call (w := w) t3.out k4)
    clear hT2 k4 R3 t3 T1b
    go_wp2_with fail
    go_loopw [13, 14] (fun iv _ wr => ∃ j : Nat, j ≤ m.length ∧ iv = .int .i64 j ∧ Below w4.heap.size w4 wr) (fun iv _ _ => m.length - (intOf iv).toNat)
    case atStart => exact ⟨0, Nat.zero_le _, rfl, Below.refl _ _⟩
    case round =>
      obtain ⟨j, hj, rfl, hb⟩ := hrel
      have b4 := hide hb
      clear hb
      by_cases hlt : j < m.length
      · have hjl : j < l.length := by omega
        obtain ⟨p1, o1, hS1, hp1, hc1⟩ := t_at (T1.out.below b4.out) (by omega)
        obtain ⟨p2, o2, hS2, hp2, hc2⟩ := t_at (T2.out.below b4.out) (by omega)
        simp only [Option.some.injEq, Addr.mk.injEq, and_true] at hS1 hS2
        obtain ⟨e11, e12⟩ := hS1
        obtain ⟨e21, e22⟩ := hS2
        subst e11 e12 e21 e22
        obtain ⟨q1, d1, x1, m1, n1, f1, s1⟩ := hc1 j hjl
        obtain ⟨q2, d2, x2, m2, n2, f2, s2⟩ := hc2 j hlt
        simp only [Nat.zero_add] at x1 x2
        unfold maxLen at n1 n2
        clear hc1 hc2
        have f1 := f1 (by omega)
        have f2 := f2 (by omega)
        have S1 := hide s1
        have S2 := hide s2
        have X1 := hide x1
        have X2 := hide x2
        go_wp2_with fail
        clear x1 x2 s1 s2
        go_loopw [14] (fun vv wq => ∃ v : Nat, v ≤ n ∧ vv = .int .i64 v ∧ Below wr.heap.size wr wq) (fun vv _ => n - (intOf vv).toNat)
        case atStart => exact ⟨0, Nat.zero_le _, rfl, Below.refl _ _⟩
        case round =>
          obtain ⟨v, hv, rfl, hbq⟩ := hrel
          have c4 := hide hbq
          clear hbq
          by_cases hvn : v < n
          · have y1 := (c4.out.cell (p := ⟨g1, j, none⟩) hp1).trans X1.out
            have y2 := (c4.out.cell (p := ⟨g2, j, none⟩) hp2).trans X2.out
            have z1 := (c4.out.cell (p := ⟨q1, v, none⟩) f1).trans (S1.out v hvn)
            have z2 := (c4.out.cell (p := ⟨q2, v, none⟩) f2).trans (S2.out v hvn)
            rw [HSt.out j hlt] at z2
            have hle := stamp_le (e := gl l) j (v : Int)
            generalize stamp (gl l) j (v : Int) = st at z1 z2 hle
            go_upto_region 19 with fail
            have r1 := keepd y1
            have r2 := keepd y2
            have u1 := keepd z1
            have u2 := keepd z2
            have bz : decide ((j : Int) + 1 < (st : Int)) = false := by simp; omega
            have bz2 : decide (j + 1 < st) = false := by simp; omega
            refine Reg.region (by kernel_rfl) 37 [] (fun _ w' => w' = wr.drew) (by kernel_rfl) (by kernel_rfl) rfl ?_
            iterate 37
              first
                | refine Reg.WT.idle rfl rfl ?_
                | (refine Reg.WT.yield (v := ?_) rfl rfl ?_ ?_
                   rotate_left
                   · intro w' _ hS; go_simp; (try go_bits); (first | rfl | rw [if_pos (by omega)]))
              simp only [Act.put, List.setIfInBounds_toArray, List.set_cons_zero, List.set_cons_succ]
            intro w6 hS
            subst hS
            clear r1 r2 u1 u2 bz bz2 y1 y2 z1 z2
            go_wp2_with fail
            go_roundw
            case rel => exact ⟨v + 1, hvn, by go_num, c4.out.drew⟩
            case measure => simp [intOf]; omega
          · go_wp2_with fail
            go_roundw
            case rel => exact ⟨j + 1, hlt, by go_num, b4.out.trans (c4.out.mono b4.out.size)⟩
            case measure => simp [intOf]; omega
      · have t5 := hide (below_call (w := w) t4.out b4.out)
        go_wp2_with fail
        refine (race_yes a l c n _ (HR.out.below t5.out) HM.out HCC.out).mono ?_
        rintro r w5 ⟨ia, ib, is1, rfl, hR1, k5⟩
        have HR1 := hide hR1
        have t6 := hide (below_call (w := w) t5.out k5)
        clear hR1 k5
        go_wp2_with fail
        refine (race_yes a m c n _ (HRm.out.below t6.out) (HOm.out HM.out) HCm.out).mono ?_
        rintro r w6 ⟨ic, ie, is2, rfl, hR2, k6⟩
        obtain ⟨P1, P2⟩ := HPr.out _ _ _ _ _ _ HR1.out hR2
        have t7 := hide (below_call (w := w) t6.out k6)
        clear k6 hR2
        cases is2 with
        | true =>
          obtain ⟨rfl, rfl, rfl⟩ := P1 rfl
          clear P1 P2
          by_cases hbb : True ∨ True
          · go_wp2_with fail
            all_goals
              refine (works_any _).mono ?_
              rintro r w9 ⟨rfl, k9⟩
              have t9 := hide (below_call (w := w) t7.out k9)
              clear k9
              go_wp2_with fail
              go_returns
              exact ⟨rfl, t9.out⟩
          · exact absurd (Or.inl trivial) hbb
        | false =>
          cases is1 with
          | true =>
            have hbb : ¬ ib < m.length := fun h => by have := P2 rfl h; cases this
            have bd : decide ((ib : Int) < (m.length : Int)) = false := by simp; omega
            have bd2 : decide (ib < m.length) = false := by simp; omega
            clear P1 P2
            go_wp2_with fail
            refine (works_any _).mono ?_
            rintro r w9 ⟨rfl, k9⟩
            have t9 := hide (below_call (w := w) t7.out k9)
            clear k9
            go_wp2_with fail
            go_returns
            exact ⟨rfl, t9.out⟩
          | false =>
            clear P1 P2
            go_wp2_with fail
            refine (works_any _).mono ?_
            rintro r w9 ⟨rfl, k9⟩
            have t9 := hide (below_call (w := w) t7.out k9)
            clear k9
            go_wp2_with fail
            go_returns
            exact ⟨rfl, t9.out⟩
  · have HM := hide hM
    clear hM
    go_wp2_with fail
    refine (stamps_no a1 l c1 n _ R1.out (fun y hy => (HL.out y hy).k) HM.out).mono ?_
    rintro r w2 ⟨rfl, k2⟩
    have t2 := hide (below_call (w := w) t1.out k2)
    clear k2
    go_wp2_with fail
    refine (works_any _).mono ?_
    rintro r w9 ⟨rfl, k9⟩
    have t9 := hide (below_call (w := w) t2.out k9)
    clear k9
    go_wp2_with fail
    go_returns
    exact ⟨rfl, t9.out⟩
theorem walk_ClockPrefix (w : World) (x : Int) (hx : (Lit.int .u8 x).wf = true) (a : Option Addr) (l : List Ev) (c : Nat) (hr : ERow w a l) (hl : ∀ e ∈ l, EvIn e) (hc1 : l.length ≤ c) (hc2 : c ≤ maxLen) (q : Int) (hq : (Lit.int .u16 q).wf = true) :
    Calls Try.prog 8 #[.int .u8 x, .slice a l.length c, .int .u16 q] w (fun e w' => e = .returned (.bool true) ∧ Below w.heap.size w w') :=
  walkP_ClockPrefix x q a l c w (u8_of hx) (u16_of hq) hr hl hc1 hc2
end Go.Proofs.Ytffpphnjokmffaa
