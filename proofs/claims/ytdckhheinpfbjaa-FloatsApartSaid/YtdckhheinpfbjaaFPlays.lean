/- The walk of FloatsPlays. -/
import Derived.Test.YtdckhheinpfbjaaWorksF
namespace Go.Proofs.Ytdckhheinpfbjaa
open Go.RowKit

/-- What is asked. -/
structure AskD where
  s : Int
  y : Int
  w : Int
  h : Int
  a : Int
  b : Int
def acell (k : AskD) : List Value := [.int .u8 k.s, .int .i64 k.y, .int .i64 k.w, .int .i64 k.h, .int .i64 k.a, .int .i64 k.b]
theorem info34 : (Try.prog.info? 34).map (fun i => (i.zero, i.size, i.bytes)) = some (some (.agg #[.int .u8 0, .int .i64 0, .int .i64 0, .int .i64 0, .int .i64 0]), 5, 40) := by kernel_rfl
theorem near_far {x : Int} (h : near x) : Far x := by unfold near at h; unfold Far; omega
theorem near_hin {x : Int} (h : near x) : Hin x := ⟨by unfold near at h; omega, by unfold near at h; omega⟩
set_option maxHeartbeats 4000000 in
set_option maxRecDepth 100000 in
theorem walk_FloatsPlays (w : World) (a0 : Option Addr) (l : List Flt) (cap : Nat) (hr : FRow w a0 l) (hu : ∀ f ∈ l, 0 ≤ f.s ∧ f.s ≤ 255) (hcap : l.length ≤ cap) (hm : cap ≤ maxLen) (k : AskD) (_hk : 0 ≤ k.s ∧ k.s ≤ 255) :
    Calls Try.prog 3 #[.slice a0 l.length cap, .agg #[.int .u8 k.s, .int .i64 k.y, .int .i64 k.w, .int .i64 k.h, .int .i64 k.a, .int .i64 k.b]] w fun e w' => e = .returned (.bool true) ∧ Below w.heap.size w w' := by
  obtain ⟨i0, hi, hz0, hz1, hz2⟩ := info_parts info34
  unfold maxLen at hm
  have HU := hide hu
  clear hu
  obtain ⟨w1, hw1⟩ : ∃ w1, w1 = w.alloc (.cells #[.int .u8 k.s, .int .i64 k.y, .int .i64 k.w, .int .i64 k.h, .int .i64 k.a, .int .i64 k.b] 24) := ⟨_, rfl⟩
  have B1 : Hid (Blk w1 w.heap.size 24 #[.int .u8 k.s, .int .i64 k.y, .int .i64 k.w, .int .i64 k.h, .int .i64 k.a, .int .i64 k.b]) := hide (hw1 ▸ Blk.new w 24 _)
  have t1 : Hid (Below w.heap.size w w1) := hide (by rw [hw1]; go_grown)
  have HW1 := hide hw1
  clear hw1
  by_cases hM : Mays l
  · have HM := hide hM
    have hlen := hM.1
    clear hM
    go_enter Try.func3, Try.ntmps3
    go_wp2_with fail
    rw [← HW1.out]
    refine ((may_any a0 l l.length cap w1 (hr.below t1.out) rfl HU.out).1 HM.out).mono ?_
    rintro r w2 ⟨rfl, k2⟩
    have t2 := hide (below_call (w := w) t1.out k2)
    have B2 := hide (B1.out.below k2 B1.out.lt)
    have y0 := B2.out.cell 0
    have y1 := B2.out.cell 1
    have y2 := B2.out.cell 2
    have y3 := B2.out.cell 3
    have y4 := B2.out.cell 4
    have y5 := B2.out.cell 5
    clear k2 t1 B1
    go_wp2_with fail
    obtain ⟨w3, hw3⟩ : ∃ w3, w3 = w2.alloc (.cells #[.int .i64 k.y, .int .i64 k.w, .int .i64 k.h, .int .i64 k.a, .int .i64 k.b] 2) := ⟨_, rfl⟩
    have t3 : Hid (Below w.heap.size w w3) := hide (hw3 ▸ t2.out.alloc t2.out.size _)
    have B3 : Hid (Blk w3 w.heap.size 24 #[.int .u8 k.s, .int .i64 k.y, .int .i64 k.w, .int .i64 k.h, .int .i64 k.a, .int .i64 k.b]) := hide (hw3 ▸ B2.out.alloc _)
    have R3 : Hid (Row w3 (some ⟨w2.heap.size, 0, none⟩) (ints [k.y, k.w, k.h, k.a, k.b])) := hide (hw3 ▸ (Blk.new w2 2 #[.int .i64 k.y, .int .i64 k.w, .int .i64 k.h, .int .i64 k.a, .int .i64 k.b]).row (by simp))
    rw [← hw3]
    clear hw3 y0 y1 y2 y3 y4 y5 t2 B2
    by_cases hin : ∀ x ∈ [k.y, k.w, k.h, k.a, k.b], near x
    · have HI := hide hin
      have n1 : Hid (near k.y) := hide (hin _ (by simp))
      have n2 : Hid (near k.w) := hide (hin _ (by simp))
      have n3 : Hid (near k.h) := hide (hin _ (by simp))
      have n4 : Hid (near k.a) := hide (hin _ (by simp))
      have n5 : Hid (near k.b) := hide (hin _ (by simp))
      clear hin
      refine (in_yes _ _ 5 5 w3 R3.out rfl HI.out).mono ?_
      rintro r w4 ⟨rfl, rfl⟩
      clear HI R3
      have hown := hide (World.ownsRow_made (base := w3.heap.size) (e := 34) (size := 5) w3 #[] 0 (Nat.le_refl _) (by simp) rfl)
      go_wp2_with (at_builtin; refine wpList_append_rows rfl _ _ 22 rfl w3.heap.size 34 i0 (.agg #[.int .u8 0, .int .i64 0, .int .i64 0, .int .i64 0, .int .i64 0]) 5 40 Try.underlying22 hi hz0 hz1 hz2 rfl (by decide) _ _ _ rfl hown.out a0 l.length cap (l.map fcell) rfl (hr.below (t3.out.alloc t3.out.size _)) (by simp) (fcell_len l) (fcell_one l) ?c1 ?c2 ?c3 ?_)
      case c1 => unfold maxLen; omega
      case c2 => omega
      case c3 => simp
      intro v' w5 hown' hgrow _
      (try simp only [List.nil_append, Nat.zero_add] at hown')
      obtain ⟨a5, c5, rfl, _, _, _, G5⟩ := own_rowG (fcell_len l) (by decide) hown'
      have t5 : Hid (Below w.heap.size w w5) := hide (below_grown (a := w) (t3.out.alloc t3.out.size _) hgrow (fun q hq => by have := own_ge hown.out q hq; have := t3.out.size; omega))
      have B5 : Hid (Blk w5 w.heap.size 24 #[.int .u8 k.s, .int .i64 k.y, .int .i64 k.w, .int .i64 k.h, .int .i64 k.a, .int .i64 k.b]) := hide ((hgrow.block w.heap.size (B3.out.alloc _).lt (fun e => by have := own_ge hown.out _ e.symm; have := B3.out.lt; omega)).trans (B3.out.alloc _))
      have G5 : Hid (FRow w5 a5 l) := hide G5.1
      have R5 : Hid (FRow w5 a0 l) := hide (hr.below t5.out)
      clear hown' hgrow hown t3 B3
      have HF := hide HM.out.2
      have hl1 : l.length ≤ 1000 := by omega
      have FY := hide (near_far n1.out)
      have FA := hide (near_far n4.out)
      have FB := hide (near_far n5.out)
      have FH := hide (near_far n3.out)
      have y0 := B5.out.cell 0
      have y1 := B5.out.cell 1
      have y2 := B5.out.cell 2
      have y3 := B5.out.cell 3
      have y4 := B5.out.cell 4
      have y5 := B5.out.cell 5
      go_wp2_with fail
      refine (band_any a5 l l.length c5 k.y k.a k.b w5 G5.out rfl HF.out FY.out FA.out FB.out).mono ?_
      rintro r w6 ⟨rfl, kk⟩
      have t6 := hide (below_call (w := w) t5.out kk)
      have B6 := hide (B5.out.below kk B5.out.lt)
      have G6 := hide (FRow.below G5.out kk)
      have R6 := hide (FRow.below R5.out kk)
      clear kk y0 y1 y2 y3 y4 y5 t5 B5 G5 R5
      have y0 := B6.out.cell 0
      have y1 := B6.out.cell 1
      have y2 := B6.out.cell 2
      have y3 := B6.out.cell 3
      have y4 := B6.out.cell 4
      have y5 := B6.out.cell 5
      go_wp2_with fail
      refine (rband_any a0 l l.length cap k.y k.a k.b w6 R6.out rfl HF.out FY.out FA.out FB.out hl1).mono ?_
      rintro r w7 ⟨rfl, kk⟩
      have t7 := hide (below_call (w := w) t6.out kk)
      have B7 := hide (B6.out.below kk B6.out.lt)
      have G7 := hide (FRow.below G6.out kk)
      have R7 := hide (FRow.below R6.out kk)
      clear kk y0 y1 y2 y3 y4 y5 t6 B6 G6 R6
      have y0 := B7.out.cell 0
      have y1 := B7.out.cell 1
      have y2 := B7.out.cell 2
      have y3 := B7.out.cell 3
      have y4 := B7.out.cell 4
      have y5 := B7.out.cell 5
      go_wp2_with fail
      refine (tall_any a5 l l.length c5 k.y k.h k.a k.b w7 G7.out rfl HF.out FY.out FA.out FB.out (by have := n3.out; unfold near at this; omega) (by have := n3.out; unfold near at this; omega)).mono ?_
      rintro r w8 ⟨rfl, kk⟩
      have t8 := hide (below_call (w := w) t7.out kk)
      have B8 := hide (B7.out.below kk B7.out.lt)
      have G8 := hide (FRow.below G7.out kk)
      have R8 := hide (FRow.below R7.out kk)
      clear kk y0 y1 y2 y3 y4 y5 t7 B7 G7 R7
      have y0 := B8.out.cell 0
      have y1 := B8.out.cell 1
      have y2 := B8.out.cell 2
      have y3 := B8.out.cell 3
      have y4 := B8.out.cell 4
      have y5 := B8.out.cell 5
      go_wp2_with fail
      refine (rtall_any a0 l l.length cap k.y k.h k.a k.b w8 R8.out rfl HF.out FY.out FH.out FA.out FB.out hl1).mono ?_
      rintro r wa ⟨rfl, kk⟩
      have ta := hide (below_call (w := w) t8.out kk)
      have Ba := hide (B8.out.below kk B8.out.lt)
      have Ga := hide (FRow.below G8.out kk)
      have Ra := hide (FRow.below R8.out kk)
      clear kk y0 y1 y2 y3 y4 y5 t8 B8 G8 R8
      have y0 := Ba.out.cell 0
      have y1 := Ba.out.cell 1
      have y2 := Ba.out.cell 2
      have y3 := Ba.out.cell 3
      have y4 := Ba.out.cell 4
      have y5 := Ba.out.cell 5
      go_wp2_with fail
      refine (next_any a5 l l.length c5 k.y wa Ga.out rfl HF.out FY.out).mono ?_
      rintro r wb ⟨rfl, kk⟩
      have tb := hide (below_call (w := w) ta.out kk)
      have Bb := hide (Ba.out.below kk Ba.out.lt)
      have Gb := hide (FRow.below Ga.out kk)
      have Rb := hide (FRow.below Ra.out kk)
      clear kk y0 y1 y2 y3 y4 y5 ta Ba Ga Ra
      have y0 := Bb.out.cell 0
      have y1 := Bb.out.cell 1
      have y2 := Bb.out.cell 2
      have y3 := Bb.out.cell 3
      have y4 := Bb.out.cell 4
      have y5 := Bb.out.cell 5
      go_wp2_with fail
      refine (rnext_any a0 l l.length cap k.y wb Rb.out rfl HF.out FY.out).mono ?_
      rintro r wc ⟨rfl, kk⟩
      have tc := hide (below_call (w := w) tb.out kk)
      have Bc := hide (Bb.out.below kk Bb.out.lt)
      have Gc := hide (FRow.below Gb.out kk)
      have Rc := hide (FRow.below Rb.out kk)
      clear kk y0 y1 y2 y3 y4 y5 tb Bb Gb Rb
      have y0 := Bc.out.cell 0
      have y1 := Bc.out.cell 1
      have y2 := Bc.out.cell 2
      have y3 := Bc.out.cell 3
      have y4 := Bc.out.cell 4
      have y5 := Bc.out.cell 5
      go_wp2_with fail
      have z0 := keepc (p := ⟨w.heap.size, 0, none⟩) Bc.out.lt y0
      have z1 := keepc (p := ⟨w.heap.size, 1, none⟩) Bc.out.lt y1
      have z2 := keepc (p := ⟨w.heap.size, 2, none⟩) Bc.out.lt y2
      have z3 := keepc (p := ⟨w.heap.size, 3, none⟩) Bc.out.lt y3
      have z4 := keepc (p := ⟨w.heap.size, 4, none⟩) Bc.out.lt y4
      have z5 := keepc (p := ⟨w.heap.size, 5, none⟩) Bc.out.lt y5
      clear y0 y1 y2 y3 y4 y5
      refine Reg.region (by kernel_rfl) 44 [13, 27, 35, 41] (fun _ w' => Below wc.heap.size wc w') (by kernel_rfl) (by kernel_rfl) (Below.refl _ _).drew ?_
      iterate 13
        refine Reg.WT.yield (v := ?_) rfl rfl ?_ ?_
        rotate_left
        · intro w' _ hS; go_simp; (try go_bits); (first | rfl | rw [if_pos (by omega)])
        simp only [Act.put, List.setIfInBounds_toArray, List.set_cons_zero, List.set_cons_succ]
      refine Reg.WT.call (v := ?_) (f := ?_) (args := ?_) rfl rfl ?_ ?_ ?_
      rotate_left 3
      · intro w2; go_simp; exact ⟨by rfl, by rfl⟩
      · intro w2 hS; refine (place_any a5 l l.length c5 k.s k.w k.h k.a k.b k.y w2 (FRow.below Gc.out hS) rfl HF.out n2.out (near_hin n4.out) (near_hin n5.out) (near_hin n1.out)).mono ?_; rintro e w3 ⟨rfl, hb⟩; exact ⟨by rfl, hS.trans (hb.mono hS.size)⟩
      simp only [Act.put, List.setIfInBounds_toArray, List.set_cons_zero, List.set_cons_succ]
      iterate 13
        refine Reg.WT.yield (v := ?_) rfl rfl ?_ ?_
        rotate_left
        · intro w' _ hS; go_simp; (try go_bits); (first | rfl | rw [if_pos (by omega)])
        simp only [Act.put, List.setIfInBounds_toArray, List.set_cons_zero, List.set_cons_succ]
      refine Reg.WT.call (v := ?_) (f := ?_) (args := ?_) rfl rfl ?_ ?_ ?_
      rotate_left 3
      · intro w2; go_simp; exact ⟨by rfl, by rfl⟩
      · intro w2 hS; refine (rplace_any a0 l l.length cap k.s k.w k.h k.a k.b k.y w2 (FRow.below Rc.out hS) rfl HF.out hl1 n2.out (near_hin n4.out) (near_hin n5.out) (near_hin n1.out)).mono ?_; rintro e w3 ⟨rfl, hb⟩; exact ⟨by rfl, hS.trans (hb.mono hS.size)⟩
      simp only [Act.put, List.setIfInBounds_toArray, List.set_cons_zero, List.set_cons_succ]
      iterate 7
        refine Reg.WT.yield (v := ?_) rfl rfl ?_ ?_
        rotate_left
        · intro w' _ hS; go_simp; (try go_bits); (first | rfl | rw [if_pos (by omega)])
        simp only [Act.put, List.setIfInBounds_toArray, List.set_cons_zero, List.set_cons_succ]
      refine Reg.WT.call (v := ?_) (f := ?_) (args := ?_) rfl rfl ?_ ?_ ?_
      rotate_left 3
      · intro w2; go_simp; exact ⟨by rfl, by rfl⟩
      · intro w2 hS; refine (clear_any a5 l l.length c5 k.s k.y w2 (FRow.below Gc.out hS) rfl HF.out).mono ?_; rintro e w3 ⟨rfl, hb⟩; exact ⟨by rfl, hS.trans (hb.mono hS.size)⟩
      simp only [Act.put, List.setIfInBounds_toArray, List.set_cons_zero, List.set_cons_succ]
      iterate 5
        refine Reg.WT.yield (v := ?_) rfl rfl ?_ ?_
        rotate_left
        · intro w' _ hS; go_simp; (try go_bits); (first | rfl | rw [if_pos (by omega)])
        simp only [Act.put, List.setIfInBounds_toArray, List.set_cons_zero, List.set_cons_succ]
      refine Reg.WT.call (v := ?_) (f := ?_) (args := ?_) rfl rfl ?_ ?_ ?_
      rotate_left 3
      · intro w2; go_simp; exact ⟨by rfl, by rfl⟩
      · intro w2 hS; refine (rclear_any a0 l l.length cap k.s k.y w2 (FRow.below Rc.out hS) rfl HF.out).mono ?_; rintro e w3 ⟨rfl, hb⟩; exact ⟨by rfl, hS.trans (hb.mono hS.size)⟩
      simp only [Act.put, List.setIfInBounds_toArray, List.set_cons_zero, List.set_cons_succ]
      iterate 2
        refine Reg.WT.yield (v := ?_) rfl rfl ?_ ?_
        rotate_left
        · intro w' _ hS; go_simp; (try go_bits); (first | rfl | rw [if_pos (by omega)])
        simp only [Act.put, List.setIfInBounds_toArray, List.set_cons_zero, List.set_cons_succ]
      intro wd hS
      have td := hide (below_call (w := w) tc.out hS)
      have Gd := hide (FRow.below Gc.out hS)
      have Rd := hide (FRow.below Rc.out hS)
      clear z0 z1 z2 z3 z4 z5 hS tc Bc Gc Rc
      go_wp2
      go_loopw [18] (fun i wr => ∃ j : Nat, j ≤ l.length ∧ i = .int .i64 j ∧ Below w.heap.size w wr ∧ FRow wr a5 l ∧ FRow wr a0 l) (fun i _ => l.length - (intOf i).toNat)
      case atStart => exact ⟨0, Nat.zero_le _, rfl, td.out, Gd.out, Rd.out⟩
      case round =>
        clear td Gd Rd
        obtain ⟨j, hj, rfl, hbel, G, R⟩ := hrel
        have t := hide hbel
        have G := hide G
        have R := hide R
        by_cases hlt : j < l.length
        · obtain ⟨b1, o1, rfl, h1, c1⟩ := f_at G.out (by omega)
          obtain ⟨b2, o2, rfl, h2, c2⟩ := f_at R.out (by omega)
          obtain ⟨x0, x1, x2, x3, x4⟩ := c1 j hlt
          obtain ⟨u0, u1, u2, u3, u4⟩ := c2 j hlt
          clear hbel c1 c2
          generalize l[j] = f at x0 x1 x2 x3 x4 u0 u1 u2 u3 u4
          go_wp2
          have q0 := keepd x0
          have q1 := keepd x1
          have q2 := keepd x2
          have q3 := keepd x3
          have q4 := keepd x4
          have v0 := keepd u0
          have v1 := keepd u1
          have v2 := keepd u2
          have v3 := keepd u3
          have v4 := keepd u4
          clear x0 x1 x2 x3 x4 u0 u1 u2 u3 u4
          refine Reg.region (by kernel_rfl) 9 [] (fun _ w' => w' = wr.drew) (by kernel_rfl) (by kernel_rfl) rfl ?_
          iterate 9
            refine Reg.WT.yield (v := ?_) rfl rfl ?_ ?_
            rotate_left
            · intro w' _ hS; go_simp; (try go_bits); (first | rfl | rw [if_pos (by omega)])
            simp only [Act.put, List.setIfInBounds_toArray, List.set_cons_zero, List.set_cons_succ]
          intro we hS
          subst hS
          clear q0 q1 q2 q3 q4 v0 v1 v2 v3 v4
          go_wp2
          go_roundw
          case rel => exact ⟨j + 1, hlt, by go_num, t.out.drew, FRow.below G.out (Below.refl _ _).drew, FRow.below R.out (Below.refl _ _).drew⟩
          case measure => simp [intOf]; omega
        · obtain rfl : j = l.length := by omega
          go_wp2_with fail
          refine (works_any _).mono ?_
          rintro e w9 ⟨rfl, k9⟩
          have t9 := hide (below_call (w := w) t.out k9)
          clear k9
          go_wp2
          go_returns
          exact ⟨rfl, t9.out⟩
    · have HI := hide hin
      clear hin
      refine (in_no _ _ 5 5 w3 R3.out rfl HI.out).mono ?_
      rintro r w4 ⟨rfl, rfl⟩
      go_wp2_with fail
      refine (works_any _).mono ?_
      rintro e w9 ⟨rfl, k9⟩
      have t9 := hide (below_call (w := w) t3.out k9)
      clear k9
      go_wp2
      go_returns
      exact ⟨rfl, t9.out⟩
  · have HM := hide hM
    clear hM
    go_enter Try.func3, Try.ntmps3
    go_wp2_with fail
    rw [← HW1.out]
    refine ((may_any a0 l l.length cap w1 (hr.below t1.out) rfl HU.out).2 HM.out).mono ?_
    rintro r w2 ⟨rfl, k2⟩
    have t2 := hide (below_call (w := w) t1.out k2)
    clear k2
    go_wp2_with fail
    refine (works_any _).mono ?_
    rintro e w9 ⟨rfl, k9⟩
    have t9 := hide (below_call (w := w) t2.out k9)
    clear k9
    go_wp2
    go_returns
    exact ⟨rfl, t9.out⟩
end Go.Proofs.Ytdckhheinpfbjaa
