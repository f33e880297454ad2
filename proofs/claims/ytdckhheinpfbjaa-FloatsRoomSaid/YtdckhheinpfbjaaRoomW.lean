/- The walk of FloatsRoom. -/
import Derived.Test.YtdckhheinpfbjaaFlLaw
import Derived.Test.YtdckhheinpfbjaaOpens
namespace Go.Proofs.Ytdckhheinpfbjaa
open Go.RowKit

theorem FRow.take {w : World} {a : Option Addr} {l : List Flt} (h : FRow w a l) (k : Nat) : FRow w a (l.take k) := by
  have := RowS.take h k
  unfold FRow
  rw [← List.map_take] at this
  exact this

set_option maxHeartbeats 4000000 in
set_option maxRecDepth 100000 in
theorem walk_FloatsRoom (w : World) (a0 : Option Addr) (l : List Flt) (cap : Nat) (hr : FRow w a0 l) (hu : ∀ f ∈ l, 0 ≤ f.s ∧ f.s ≤ 255) (hcap : l.length ≤ cap) (hm : cap ≤ maxLen) (k : AskD) (_hk : 0 ≤ k.s ∧ k.s ≤ 255)
    (kk : Int) (hkk : (Lit.int .u8 kk).wf = true) :
    Calls Try.prog 6 #[.slice a0 l.length cap, .agg #[.int .u8 k.s, .int .i64 k.y, .int .i64 k.w, .int .i64 k.h, .int .i64 k.a, .int .i64 k.b], .int .u8 kk] w fun e w' => e = .returned (.bool true) ∧ Below w.heap.size w w' := by
  unfold maxLen at hm
  obtain ⟨hkk0, hkk1⟩ := u8_of hkk
  obtain ⟨kn, rfl⟩ := Int.eq_ofNat_of_zero_le hkk0
  have HU := hide hu
  clear hu hkk
  obtain ⟨w1, hw1⟩ : ∃ w1, w1 = w.alloc (.cells #[.int .u8 k.s, .int .i64 k.y, .int .i64 k.w, .int .i64 k.h, .int .i64 k.a, .int .i64 k.b] 24) := ⟨_, rfl⟩
  have B1 : Hid (Blk w1 w.heap.size 24 #[.int .u8 k.s, .int .i64 k.y, .int .i64 k.w, .int .i64 k.h, .int .i64 k.a, .int .i64 k.b]) := hide (hw1 ▸ Blk.new w 24 _)
  have t1 : Hid (Below w.heap.size w w1) := hide (by rw [hw1]; go_grown)
  have HW1 := hide hw1
  clear hw1
  by_cases hM : Mays l
  · have HM := hide hM
    have hlen := hM.1
    clear hM
    go_enter Try.func6, Try.ntmps6
    go_wp2_with fail
    rw [← HW1.out]
    refine ((may_any a0 l l.length cap w1 (hr.below t1.out) rfl HU.out).1 HM.out).mono ?_
    rintro r w2 ⟨rfl, k2⟩
    have t2 := hide (below_call (w := w) t1.out k2)
    have B2 := hide (B1.out.below k2 B1.out.lt)
    have y0 := B2.out.cell 0
    have y1 := B2.out.cell 1
    have y2 := B2.out.cell 2
    have y3 := B2.out.cell 3
    have y4 := B2.out.cell 4
    have y5 := B2.out.cell 5
    clear k2 t1 B1
    go_wp2_with fail
    obtain ⟨w3, hw3⟩ : ∃ w3, w3 = w2.alloc (.cells #[.int .i64 k.y, .int .i64 k.a, .int .i64 k.b] 2) := ⟨_, rfl⟩
    have t3 : Hid (Below w.heap.size w w3) := hide (hw3 ▸ t2.out.alloc t2.out.size _)
    have B3 : Hid (Blk w3 w.heap.size 24 #[.int .u8 k.s, .int .i64 k.y, .int .i64 k.w, .int .i64 k.h, .int .i64 k.a, .int .i64 k.b]) := hide (hw3 ▸ B2.out.alloc _)
    have R3 : Hid (Row w3 (some ⟨w2.heap.size, 0, none⟩) (ints [k.y, k.a, k.b])) := hide (hw3 ▸ (Blk.new w2 2 #[.int .i64 k.y, .int .i64 k.a, .int .i64 k.b]).row (by simp))
    rw [← hw3]
    clear hw3 y0 y1 y2 y3 y4 y5 t2 B2
    by_cases hin : ∀ x ∈ [k.y, k.a, k.b], near x
    · have HI := hide hin
      have n1 : Hid (near k.y) := hide (hin _ (by simp))
      have n4 : Hid (near k.a) := hide (hin _ (by simp))
      have n5 : Hid (near k.b) := hide (hin _ (by simp))
      clear hin
      refine (in_yes _ _ 3 3 w3 R3.out rfl HI.out).mono ?_
      rintro r w4 ⟨rfl, rfl⟩
      clear HI
      have HF := hide HM.out.2
      have R4 : Hid (FRow w3 a0 l) := hide (hr.below t3.out)
      have t4 := t3
      have B4 := B3
      clear R3 t3 B3
      have FY := hide (near_far n1.out)
      have FA := hide (near_far n4.out)
      have FB := hide (near_far n5.out)
      obtain ⟨hy1, hy2⟩ := n1.out
      obtain ⟨m, hmm⟩ : ∃ m, m = l.length * kn := ⟨_, rfl⟩
      have hm1 : m ≤ 51000 := by rw [hmm]; exact Nat.le_trans (Nat.mul_le_mul hlen (show kn ≤ 255 by omega)) (by decide)
      have hm2 : m / 256 ≤ l.length := by
        rw [hmm]
        have : l.length * kn ≤ l.length * 256 := Nat.mul_le_mul_left _ (by omega)
        omega
      have em : (l.length : Int) * (kn : Int) = (m : Int) := by rw [hmm, Int.natCast_mul]
      obtain ⟨q, hq⟩ : ∃ q, q = m / 256 := ⟨_, rfl⟩
      have hql : q ≤ l.length := by omega
      have eq1 : (m : Int) / 256 = (q : Int) := by rw [hq]; omega
      obtain ⟨hh, hhh⟩ : ∃ hh, hh = kn % 30 + 1 := ⟨_, rfl⟩
      have hh1 : 1 ≤ hh := by omega
      have hh2 : hh ≤ 30 := by omega
      have eh : (kn : Int) % 30 + 1 = (hh : Int) := by omega
      clear hmm hq hhh hm2
      have y0 := B4.out.cell 0
      have y1 := B4.out.cell 1
      have y2 := B4.out.cell 2
      have y3 := B4.out.cell 3
      have y4 := B4.out.cell 4
      have y5 := B4.out.cell 5
      have hM := tall_more (y := k.y) (h := max (hh : Int) 1) (a := k.a) (b := k.b) (l.take q) (l.drop q)
      rw [List.take_append_drop] at hM
      obtain ⟨P, hP⟩ : ∃ P, P = tall l k.y hh k.a k.b := ⟨_, rfl⟩
      obtain ⟨S, hS⟩ : ∃ S, S = tall (l.take q) k.y hh k.a k.b := ⟨_, rfl⟩
      have hM1 : S.1 ≤ P.1 := by rw [hP, hS]; exact hM.1
      have hM2 : P.2 ≤ S.2 := by rw [hP, hS]; exact hM.2
      have bM : decide (S.2 < P.2) = false := by simp; omega
      have HP := hide hP
      have HS := hide hS
      clear hM hP hS
      have hFt : Hid (∀ f ∈ l.take q, Fit f) := hide (fun f hf => HF.out f (List.mem_of_mem_take hf))
      have hlt : Hid ((l.take q).length = q) := hide (by rw [List.length_take]; omega)
      go_wp2_with fail
      refine (tall_any a0 l l.length cap k.y hh k.a k.b w3 R4.out rfl HF.out FY.out FA.out FB.out (by omega) (by omega)).mono ?_
      rintro r w5 ⟨rfl, kk_⟩
      have t5 := hide (below_call (w := w) t4.out kk_)
      have B5 := hide (B4.out.below kk_ B4.out.lt)
      have R5 := hide (FRow.below R4.out kk_)
      clear kk_ y0 y1 y2 y3 y4 y5 t4 B4 R4
      have y0 := B5.out.cell 0
      have y1 := B5.out.cell 1
      have y2 := B5.out.cell 2
      have y3 := B5.out.cell 3
      have y4 := B5.out.cell 4
      have y5 := B5.out.cell 5
      rw [← HP.out]
      go_wp2_with fail
      refine (tall_any a0 (l.take q) q cap k.y hh k.a k.b w5 (R5.out.take q) hlt.out hFt.out FY.out FA.out FB.out (by omega) (by omega)).mono ?_
      rintro r w6 ⟨rfl, kk_⟩
      have t6 := hide (below_call (w := w) t5.out kk_)
      have B6 := hide (B5.out.below kk_ B5.out.lt)
      have R6 := hide (FRow.below R5.out kk_)
      clear kk_ y0 y1 y2 y3 y4 y5 t5 B5 R5
      have y0 := B6.out.cell 0
      have y1 := B6.out.cell 1
      have y2 := B6.out.cell 2
      have y3 := B6.out.cell 3
      have y4 := B6.out.cell 4
      have y5 := B6.out.cell 5
      rw [← HS.out]
      go_wp2_with fail
      clear y0 y1 y2 y3 y4 y5 em eq1 eh bM
      have HSW := hide (sweep_eq l k.y k.a k.b hh hh1)
      rw [← HP.out] at HSW
      go_loopw [13, 14, 15] (fun u v i wr => ∃ j : Nat, j ≤ hh ∧ i = .int .i64 j ∧ u = .int .i64 (sweep l k.y k.a k.b j).1 ∧ v = .int .i64 (sweep l k.y k.a k.b j).2 ∧ Below w.heap.size w wr ∧ FRow wr a0 l ∧
        Blk wr w.heap.size 24 #[.int .u8 k.s, .int .i64 k.y, .int .i64 k.w, .int .i64 k.h, .int .i64 k.a, .int .i64 k.b]) (fun _ _ i _ => hh - (intOf i).toNat)
      case atStart => exact ⟨0, Nat.zero_le _, rfl, rfl, rfl, t6.out, R6.out, B6.out⟩
      case round =>
        clear t6 R6 B6
        obtain ⟨j, hj, rfl, rfl, rfl, hbel, R, B⟩ := hrel
        have t7 := hide hbel
        have R7 := hide R
        have B7 := hide B
        clear hbel R B
        have y0 := B7.out.cell 0
        have y1 := B7.out.cell 1
        have y2 := B7.out.cell 2
        have y3 := B7.out.cell 3
        have y4 := B7.out.cell 4
        have y5 := B7.out.cell 5
        by_cases hjl : j < hh
        · have hsw : Hid (sweep l k.y k.a k.b (j + 1) = (max (sweep l k.y k.a k.b j).1 (tall l (k.y + j) 1 k.a k.b).1, min (sweep l k.y k.a k.b j).2 (tall l (k.y + j) 1 k.a k.b).2)) := hide rfl
          have FJ : Hid (Far (k.y + j)) := hide (by unfold Far; omega)
          generalize sweep l k.y k.a k.b j = z at hsw ⊢
          go_wp2_with fail
          refine (band_any a0 l l.length cap (k.y + j) k.a k.b wr R7.out rfl HF.out FJ.out FA.out FB.out).mono ?_
          rintro r w8 ⟨rfl, kk_⟩
          have t8 := hide (below_call (w := w) t7.out kk_)
          have B8 := hide (B7.out.below kk_ B7.out.lt)
          have R8 := hide (FRow.below R7.out kk_)
          clear kk_ y0 y1 y2 y3 y4 y5 t7 B7 R7
          have y0 := B8.out.cell 0
          have y1 := B8.out.cell 1
          have y2 := B8.out.cell 2
          have y3 := B8.out.cell 3
          have y4 := B8.out.cell 4
          have y5 := B8.out.cell 5
          go_wp2
          go_roundw
          case rel => exact ⟨j + 1, hjl, by go_num, by rw [hsw.out], by rw [hsw.out], t8.out, R8.out, B8.out⟩
          case measure => simp [intOf]; omega
        · obtain rfl : j = hh := by omega
          obtain ⟨wo, rfl⟩ : ∃ wo : World, wo = wr := ⟨_, rfl⟩
          rw [HSW.out]
          obtain ⟨cl, hcl⟩ : ∃ cl, cl = clr l 3 k.y := ⟨_, rfl⟩
          have hc1 := (clr_ge l k.y).1
          rw [← hcl] at hc1
          have hcf : Hid (Far cl) := hide (by have := clr_far HF.out 3 (y := k.y) ⟨by omega, by omega⟩; rw [← hcl] at this; unfold Far; omega)
          have HCB := hide (clr_below (l := l) (y := k.y) (h := (j : Int)) (a := k.a) (b := k.b))
          rw [← hcl] at HCB
          have HCL := hide hcl
          clear hcl
          go_wp2_with fail
          refine (clear_any a0 l l.length cap 3 k.y wo R7.out rfl HF.out).mono ?_
          rintro r w8 ⟨rfl, kk_⟩
          have t8 := hide (below_call (w := w) t7.out kk_)
          have B8 := hide (B7.out.below kk_ B7.out.lt)
          have R8 := hide (FRow.below R7.out kk_)
          clear kk_ y0 y1 y2 y3 y4 y5 t7 B7 R7
          have y0 := B8.out.cell 0
          have y1 := B8.out.cell 1
          have y2 := B8.out.cell 2
          have y3 := B8.out.cell 3
          have y4 := B8.out.cell 4
          have y5 := B8.out.cell 5
          rw [← HCL.out]
          go_wp2_with fail
          refine (tall_any a0 l l.length cap cl j k.a k.b w8 R8.out rfl HF.out hcf.out FA.out FB.out (by omega) (by omega)).mono ?_
          rintro r w9 ⟨rfl, kk_⟩
          have t9 := hide (below_call (w := w) t8.out kk_)
          have B9 := hide (B8.out.below kk_ B8.out.lt)
          have R9 := hide (FRow.below R8.out kk_)
          clear kk_ y0 y1 y2 y3 y4 y5 t8 B8 R8
          have y0 := B9.out.cell 0
          have y1 := B9.out.cell 1
          have y2 := B9.out.cell 2
          have y3 := B9.out.cell 3
          have y4 := B9.out.cell 4
          have y5 := B9.out.cell 5
          rw [HCB.out.1]
          go_wp2_with fail
          clear y0 y1 y2 y3 y4 y5
          go_loopw [21] (fun i wr => ∃ j : Nat, j ≤ l.length ∧ i = .int .i64 j ∧ Below w.heap.size w wr ∧ FRow wr a0 l ∧
            Blk wr w.heap.size 24 #[.int .u8 k.s, .int .i64 k.y, .int .i64 k.w, .int .i64 k.h, .int .i64 k.a, .int .i64 k.b]) (fun i _ => l.length - (intOf i).toNat)
          case atStart => exact ⟨0, Nat.zero_le _, rfl, t9.out, R9.out, B9.out⟩
          case round =>
            clear t9 R9 B9
            obtain ⟨i, hi, rfl, hbel, R, B⟩ := hrel
            have ta := hide hbel
            have Ra := hide R
            have Ba := hide B
            clear R B
            by_cases hil : i < l.length
            · obtain ⟨b1, o1, rfl, h1, c1⟩ := f_at Ra.out (by omega)
              obtain ⟨x0, x1, x2, x3, x4⟩ := c1 i hil
              clear hbel c1
              generalize l[i] = f at x0 x1 x2 x3 x4
              by_cases hge : cl ≤ f.y
              · go_wp2_with fail
                refine (works_any _).mono ?_
                rintro e w9 ⟨rfl, k9⟩
                have t9 := hide (below_call (w := w) ta.out k9)
                clear k9
                go_wp2
                go_returns
                exact ⟨rfl, t9.out⟩
              · have bg : decide (cl ≤ f.y) = false := by simp; omega
                go_wp2_with fail
                go_roundw
                case rel => exact ⟨i + 1, hil, by go_num, ta.out, Ra.out, Ba.out⟩
                case measure => simp [intOf]; omega
            · obtain rfl : i = l.length := by omega
              have y0 := Ba.out.cell 0
              have y1 := Ba.out.cell 1
              have y2 := Ba.out.cell 2
              have y3 := Ba.out.cell 3
              have y4 := Ba.out.cell 4
              have y5 := Ba.out.cell 5
              clear hbel
              go_wp2_with fail
              refine (next_any a0 l l.length cap cl wr Ra.out rfl HF.out hcf.out).mono ?_
              rintro r wb ⟨rfl, kk_⟩
              have tb := hide (below_call (w := w) ta.out kk_)
              have Bb := hide (Ba.out.below kk_ Ba.out.lt)
              have Rb := hide (FRow.below Ra.out kk_)
              clear kk_ y0 y1 y2 y3 y4 y5 ta Ba Ra
              have y0 := Bb.out.cell 0
              have y1 := Bb.out.cell 1
              have y2 := Bb.out.cell 2
              have y3 := Bb.out.cell 3
              have y4 := Bb.out.cell 4
              have y5 := Bb.out.cell 5
              rw [HCB.out.2]
              generalize (nxt l cl).1 = zz
              go_wp2_with fail
              refine (works_any _).mono ?_
              rintro e w9 ⟨rfl, k9⟩
              have t9 := hide (below_call (w := w) tb.out k9)
              clear k9
              go_wp2
              go_returns
              exact ⟨rfl, t9.out⟩
    · have HI := hide hin
      clear hin
      refine (in_no _ _ 3 3 w3 R3.out rfl HI.out).mono ?_
      rintro r w4 ⟨rfl, rfl⟩
      go_wp2_with fail
      refine (works_any _).mono ?_
      rintro e w9 ⟨rfl, k9⟩
      have t9 := hide (below_call (w := w) t3.out k9)
      clear k9
      go_wp2
      go_returns
      exact ⟨rfl, t9.out⟩
  · have HM := hide hM
    clear hM
    go_enter Try.func6, Try.ntmps6
    go_wp2_with fail
    rw [← HW1.out]
    refine ((may_any a0 l l.length cap w1 (hr.below t1.out) rfl HU.out).2 HM.out).mono ?_
    rintro r w2 ⟨rfl, k2⟩
    have t2 := hide (below_call (w := w) t1.out k2)
    clear k2
    go_wp2_with fail
    refine (works_any _).mono ?_
    rintro e w9 ⟨rfl, k9⟩
    have t9 := hide (below_call (w := w) t2.out k9)
    clear k9
    go_wp2
    go_returns
    exact ⟨rfl, t9.out⟩
end Go.Proofs.Ytdckhheinpfbjaa
