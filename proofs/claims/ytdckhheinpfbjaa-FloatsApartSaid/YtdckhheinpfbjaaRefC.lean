/- Walks of the reference: clear, place. -/
import Derived.Test.YtdckhheinpfbjaaRefB
import Derived.Laws.Rows
namespace Go.Proofs.Ytdckhheinpfbjaa
open Go.RowKit

set_option maxHeartbeats 2000000 in
theorem rclear_any (a : Option Addr) (l : List Flt) (n c : Nat) (s y : Int) (w : World) (hr : FRow w a l) (hn : l.length = n) (hl : ∀ f ∈ l, Fit f) :
    Calls Try.prog 19 #[.slice a n c, .int .u8 s, .int .i64 y] w (CPost l s y w) := by
  have hlen := hr.len
  rw [hn] at hlen
  have HN := hide hn
  have HL := hide hl
  clear hn hl
  go_enter Try.func19, Try.ntmps19
  go_wp2
  go_loopw [2, 7] (fun u i wr => ∃ k : Nat, k ≤ n ∧ i = .int .i64 k ∧ u = .int .i64 ((l.take k).foldl (cstep s) y) ∧ Below w.heap.size w wr) (fun _ i _ => n - (intOf i).toNat)
  case atStart => exact ⟨0, Nat.zero_le _, rfl, rfl, Below.refl _ _⟩
  case round =>
    obtain ⟨k, hk, rfl, rfl, hbel⟩ := hrel
    have t := hide hbel
    by_cases hlt : k < n
    · obtain ⟨b, off, rfl, hbw, hcell⟩ := f_at (hr.below hbel) (by have := HN.out; omega)
      have hlt' : k < l.length := by have := HN.out; omega
      obtain ⟨x0, x1, x2, x3, x4⟩ := hcell k hlt'
      have HT := hide (fold_take (cstep s) y l hlt')
      have hfit := HL.out _ (List.getElem_mem hlt')
      clear hbel hcell
      generalize (l.take k).foldl (cstep s) y = z at HT ⊢
      generalize l[k] = f at x0 x1 x2 x3 x4 HT hfit
      obtain ⟨hsd, hx, hyb, hw, hh⟩ := hfit
      by_cases s3 : s = 3
      · have b3 : (s == 3) = true := by simpa using s3
        rw [show cstep s z f = max z (f.y + f.h) from by unfold cstep; simp [s3]] at HT
        clear s3
        go_wp2
        have z0 := keepd x2
        have z1 := keepd x4
        refine Reg.region (by kernel_rfl) 14 [] (fun _ w' => w' = wr.drew) (by kernel_rfl) (by kernel_rfl) rfl ?_
        iterate 14
          refine Reg.WT.yield (v := ?_) rfl rfl ?_ ?_
          rotate_left
          · intro w' _ hS; go_simp; (try go_bits); (first | rfl | rw [if_pos (by omega)])
          simp only [Act.put, List.setIfInBounds_toArray, List.set_cons_zero, List.set_cons_succ]
        intro w2 hS
        subst hS
        clear z0 z1
        go_wp2
        go_roundw
        case rel => exact ⟨k + 1, hlt, by go_num, by rw [HT.out], t.out.drew⟩
        case measure => simp [intOf]; omega
      · have b3 : (s == 3) = false := by simpa using s3
        by_cases sf : s = f.s
        · have b4 : (s == f.s) = true := by simpa using sf
          have b5 : (s == 0) = false := by simp; omega
          have b6 : (s != 0) = true := by simp; omega
          rw [show cstep s z f = max z (f.y + f.h) from by unfold cstep; rw [if_pos (.inr ⟨sf, by omega⟩)]] at HT
          clear s3 sf
          go_wp2
          have z0 := keepd x2
          have z1 := keepd x4
          refine Reg.region (by kernel_rfl) 14 [] (fun _ w' => w' = wr.drew) (by kernel_rfl) (by kernel_rfl) rfl ?_
          iterate 14
            refine Reg.WT.yield (v := ?_) rfl rfl ?_ ?_
            rotate_left
            · intro w' _ hS; go_simp; (try go_bits); (first | rfl | rw [if_pos (by omega)])
            simp only [Act.put, List.setIfInBounds_toArray, List.set_cons_zero, List.set_cons_succ]
          intro w2 hS
          subst hS
          clear z0 z1
          go_wp2
          go_roundw
          case rel => exact ⟨k + 1, hlt, by go_num, by rw [HT.out], t.out.drew⟩
          case measure => simp [intOf]; omega
        · have b4 : (s == f.s) = false := by simpa using sf
          rw [show cstep s z f = z from by unfold cstep; rw [if_neg (by omega)]] at HT
          clear s3 sf
          go_wp2
          go_roundw
          case rel => exact ⟨k + 1, hlt, by go_num, by rw [HT.out], t.out⟩
          case measure => simp [intOf]; omega
    · obtain rfl : k = n := by omega
      have htk := hide (show l.take k = l from List.take_of_length_le (by have := HN.out; omega))
      go_wp2
      go_returns
      exact ⟨by unfold clr; rw [htk.out]; rfl, t.out⟩

def PPost (f : Flt) (w : World) (r : Ending) (w' : World) : Prop :=
  r = .returned (.agg #[.int .u8 f.s, .int .i64 f.x, .int .i64 f.y, .int .i64 f.w, .int .i64 f.h]) ∧ Below w.heap.size w w'
theorem top_take (l : List Flt) (y : Int) {k : Nat} (h : k < l.length) : top (l.take (k + 1)) y = max (top (l.take k) y) l[k].y := fold_take _ _ _ h
structure Hin (b : Int) : Prop where
  lo : -2251799813685248 ≤ b
  hi : b ≤ 2251799813685248
theorem ppost_of {l : List Flt} {s w0 h a b y : Int} {w w' : World} {yy ww : Int} {p : Int × Int} (hw : ww = max w0 0) (hy : yy = plc l ww a b (top l y)) (hp : p = tall l yy 1 a b) (hb : Below w.heap.size w w') :
    (s = 2 → PPost (place l s w0 h a b y) w (.returned (.agg #[.int .u8 s, .int .i64 (p.2 - ww), .int .i64 yy, .int .i64 ww, .int .i64 (max h 0)])) w') ∧
    (s ≠ 2 → PPost (place l s w0 h a b y) w (.returned (.agg #[.int .u8 1, .int .i64 p.1, .int .i64 yy, .int .i64 ww, .int .i64 (max h 0)])) w') := by
  subst hw hy hp
  refine ⟨fun h2 => ⟨?_, hb⟩, fun h2 => ⟨?_, hb⟩⟩
  · unfold place; simp [h2]
  · unfold place; simp [h2]
theorem box5 {w : World} {g : Nat} {t : TypeId} {a0 a1 a2 a3 a4 : Value} (B : Blk w g t #[a0, a1, a2, a3, a4]) (v0 v1 v2 v3 v4 : Value) :
    Blk (((((w.setCell ⟨g, 0, none⟩ v0).setCell ⟨g, 1, none⟩ v1).setCell ⟨g, 2, none⟩ v2).setCell ⟨g, 3, none⟩ v3).setCell ⟨g, 4, none⟩ v4) g t #[v0, v1, v2, v3, v4] := by
  simpa using ((((B.set_ 0 v0).set_ 1 v1).set_ 2 v2).set_ 3 v3).set_ 4 v4
theorem below5 {w w' : World} {g : Nat} (h : Below w.heap.size w w') (hg : w.heap.size ≤ g) (v0 v1 v2 v3 v4 : Value) :
    Below w.heap.size w (((((w'.setCell ⟨g, 0, none⟩ v0).setCell ⟨g, 1, none⟩ v1).setCell ⟨g, 2, none⟩ v2).setCell ⟨g, 3, none⟩ v3).setCell ⟨g, 4, none⟩ v4) :=
  ((((h.setCell (p := ⟨g, 0, none⟩) hg v0).setCell (p := ⟨g, 1, none⟩) hg v1).setCell (p := ⟨g, 2, none⟩) hg v2).setCell (p := ⟨g, 3, none⟩) hg v3).setCell (p := ⟨g, 4, none⟩) hg v4

set_option maxHeartbeats 4000000 in
set_option maxRecDepth 100000 in
theorem rplace_any (a : Option Addr) (l : List Flt) (n c : Nat) (s w0 h p q y : Int) (w : World) (hr : FRow w a l) (hn : l.length = n) (hl : ∀ f ∈ l, Fit f) (hn2 : n ≤ 1000) (hw : -1125899906842624 ≤ w0 ∧ w0 ≤ 1125899906842624) (hp : Hin p) (hq : Hin q) (hy : Hin y) :
    Calls Try.prog 17 #[.slice a n c, .int .u8 s, .int .i64 w0, .int .i64 h, .int .i64 p, .int .i64 q, .int .i64 y] w (PPost (place l s w0 h p q y) w) := by
  have hlen := hr.len
  rw [hn] at hlen
  have HN := hide hn
  have HL := hide hl
  have HT := hide (fun (k : Nat) => top_far (l := l.take k) (fun f hf => hl f (List.mem_of_mem_take hf)) (y := y) ⟨hy.lo, hy.hi⟩)
  have HP : Hid (Far p) := hide ⟨by have := hp.lo; omega, by have := hp.hi; omega⟩
  have HQ : Hid (Far q) := hide ⟨by have := hq.lo; omega, by have := hq.hi; omega⟩
  obtain ⟨ww, hww⟩ : ∃ ww, ww = max w0 0 := ⟨_, rfl⟩
  obtain ⟨hw1, hw2⟩ := hw
  have hw3 : 0 ≤ ww := by omega
  have hw4 : ww ≤ 1125899906842624 := by omega
  have HW := hide hww
  clear hn hl hww hy hp hq
  go_enter Try.func17, Try.ntmps17
  go_wp2
  rw [← HW.out]
  go_loopw [6, 15] (fun u i wr => ∃ k : Nat, k ≤ n ∧ i = .int .i64 k ∧ u = .int .i64 (top (l.take k) y) ∧ Blk wr w.heap.size 34 #[.int .u8 0, .int .i64 0, .int .i64 0, .int .i64 0, .int .i64 0] ∧ Below w.heap.size w wr) (fun _ i _ => n - (intOf i).toNat)
  case atStart => exact ⟨0, Nat.zero_le _, rfl, rfl, Blk.new w 34 _, by go_grown⟩
  case round =>
    obtain ⟨k, hk, rfl, rfl, B, hbel⟩ := hrel
    have t := hide hbel
    have B := hide B
    by_cases hlt : k < n
    · obtain ⟨b, off, rfl, hbw, hcell⟩ := f_at (hr.below hbel) (by have := HN.out; omega)
      have hlt' : k < l.length := by have := HN.out; omega
      obtain ⟨x0, x1, x2, x3, x4⟩ := hcell k hlt'
      have HK := hide (top_take l y hlt')
      clear hbel hcell
      generalize top (l.take k) y = z at HK ⊢
      generalize l[k] = f at x0 x1 x2 x3 x4 HK
      go_wp2
      go_roundw
      case rel => exact ⟨k + 1, hlt, by go_num, by rw [HK.out], B.out, t.out⟩
      case measure => simp [intOf]; omega
    · obtain rfl : k = n := by omega
      have htk := hide (show l.take k = l from List.take_of_length_le (by have := HN.out; omega))
      rw [htk.out]
      obtain ⟨ht1, ht2⟩ := HT.out k
      rw [htk.out] at ht1 ht2
      obtain ⟨y0, hy0⟩ : ∃ y0, y0 = top l y := ⟨_, rfl⟩
      rw [← hy0] at ht1 ht2 ⊢
      have HY0 := hide hy0
      clear hy0 htk hbel
      go_wp2
      go_loopw [6] (fun u wr => ∃ yy : Int, u = .int .i64 yy ∧ Hin yy ∧ Hid (plc l ww p q yy = plc l ww p q y0) ∧ Blk wr w.heap.size 34 #[.int .u8 0, .int .i64 0, .int .i64 0, .int .i64 0, .int .i64 0] ∧ Below w.heap.size w wr) (fun u _ => cntB l (intOf u))
      case atStart => exact ⟨y0, rfl, ⟨ht1, ht2⟩, rfl, B.out, t.out⟩
      case round =>
        clear B t
        obtain ⟨yy, rfl, hyy, hpl, B, hbel⟩ := hrel
        have t := hide hbel
        have B := hide B
        have hfar : Hid (Far yy) := hide ⟨by have := hyy.lo; omega, by have := hyy.hi; omega⟩
        have hlt := B.out.lt
        obtain ⟨hT1, hT2⟩ := tall_far (y := yy) (h := max 1 1) HL.out HP.out HQ.out
        obtain ⟨r2, hr2⟩ : ∃ r2, r2 = tall l yy 1 p q := ⟨_, rfl⟩
        have hT1 : Far r2.1 := by rw [hr2]; exact hT1
        have hT2 : Far r2.2 := by rw [hr2]; exact hT2
        unfold Far at hT1 hT2
        have HR2 := hide hr2
        clear hr2 hbel
        go_wp2_with fail
        refine (rband_any a l k c yy p q wr (hr.below t.out) HN.out HL.out hfar.out HP.out HQ.out hn2).mono ?_
        rintro r w2 ⟨rfl, k2⟩
        rw [← HR2.out]
        have t2 := hide (below_call (w := w) t.out k2)
        have B2 := hide (B.out.below k2 B.out.lt)
        clear k2
        go_wp2_with fail
        refine (free_any a l k c yy w2 (hr.below t2.out) HN.out HL.out hfar.out hn2).mono ?_
        rintro r w3 ⟨rfl, k3⟩
        have t3 := hide (below_call (w := w) t2.out k3)
        have B3 := hide (B2.out.below k3 B2.out.lt)
        have c0 := B3.out.cell 0
        have c1 := B3.out.cell 1
        have c2 := B3.out.cell 2
        have c3 := B3.out.cell 3
        have c4 := B3.out.cell 4
        have f0 := B3.out.frozen 0
        have f1 := B3.out.frozen 1
        have f2 := B3.out.frozen 2
        have f3 := B3.out.frozen 3
        have f4 := B3.out.frozen 4
        clear k3 t2 B2 t B
        have hok : Hid (okP l ww p q yy = (!someS l yy || decide (ww ≤ r2.2 - r2.1))) := hide (by unfold okP; rw [HR2.out])
        cases hsm : someS l yy with
        | false =>
          rw [hsm] at hok
          have HYY : Hid (yy = plc l ww p q (top l y)) := hide (by rw [← HY0.out, ← hpl.out, plc_ok (by rw [hok.out]; rfl)])
          clear hsm hpl hok
          by_cases s2 : s = 2
          · subst s2
            have B4 := hide (box5 B3.out (.int .u8 2) (.int .i64 (r2.2 - ww)) (.int .i64 yy) (.int .i64 ww) (.int .i64 (max h 0)))
            have t4 := hide (below5 t3.out (Nat.le_refl _) (.int .u8 2) (.int .i64 (r2.2 - ww)) (.int .i64 yy) (.int .i64 ww) (.int .i64 (max h 0)))
            go_wp2
            refine bodyPost_ret (results_cell_row Try.results17 _ _ w.heap.size 34 _ (0, 0) _ rfl B4.out Try.underlying34 rfl (by kernel_rfl)) rfl ?_
            exact (ppost_of HW.out HYY.out HR2.out t4.out).1 rfl
          · have bs : (s == 2) = false := by simpa using s2
            have HS2 := hide s2
            clear s2
            have B4 := hide (box5 B3.out (.int .u8 1) (.int .i64 r2.1) (.int .i64 yy) (.int .i64 ww) (.int .i64 (max h 0)))
            have t4 := hide (below5 t3.out (Nat.le_refl _) (.int .u8 1) (.int .i64 r2.1) (.int .i64 yy) (.int .i64 ww) (.int .i64 (max h 0)))
            go_wp2
            refine bodyPost_ret (results_cell_row Try.results17 _ _ w.heap.size 34 _ (0, 0) _ rfl B4.out Try.underlying34 rfl (by kernel_rfl)) rfl ?_
            exact (ppost_of (s := s) HW.out HYY.out HR2.out t4.out).2 HS2.out
        | true =>
          rw [hsm] at hok
          by_cases hge : ww ≤ r2.2 - r2.1
          · have HYY : Hid (yy = plc l ww p q (top l y)) := hide (by rw [← HY0.out, ← hpl.out, plc_ok (by rw [hok.out]; simpa using hge)])
            clear hsm hpl hok
            by_cases s2 : s = 2
            · subst s2
              have B4 := hide (box5 B3.out (.int .u8 2) (.int .i64 (r2.2 - ww)) (.int .i64 yy) (.int .i64 ww) (.int .i64 (max h 0)))
              have t4 := hide (below5 t3.out (Nat.le_refl _) (.int .u8 2) (.int .i64 (r2.2 - ww)) (.int .i64 yy) (.int .i64 ww) (.int .i64 (max h 0)))
              go_wp2
              refine bodyPost_ret (results_cell_row Try.results17 _ _ w.heap.size 34 _ (0, 0) _ rfl B4.out Try.underlying34 rfl (by kernel_rfl)) rfl ?_
              exact (ppost_of HW.out HYY.out HR2.out t4.out).1 rfl
            · have bs : (s == 2) = false := by simpa using s2
              have HS2 := hide s2
              clear s2
              have B4 := hide (box5 B3.out (.int .u8 1) (.int .i64 r2.1) (.int .i64 yy) (.int .i64 ww) (.int .i64 (max h 0)))
              have t4 := hide (below5 t3.out (Nat.le_refl _) (.int .u8 1) (.int .i64 r2.1) (.int .i64 yy) (.int .i64 ww) (.int .i64 (max h 0)))
              go_wp2
              refine bodyPost_ret (results_cell_row Try.results17 _ _ w.heap.size 34 _ (0, 0) _ rfl B4.out Try.underlying34 rfl (by kernel_rfl)) rfl ?_
              exact (ppost_of (s := s) HW.out HYY.out HR2.out t4.out).2 HS2.out
          · have HNX := hide (some_nxt hsm)
            have HPL : Hid (plc l ww p q (nxt l yy).1 = plc l ww p q y0) := hide (by rw [← hpl.out, plc_no (y := yy) (by rw [hok.out]; simp; omega)])
            have HC := hide (cnt_lt HNX.out)
            have hfr := nxt_far HL.out HNX.out
            clear hsm hpl hok
            go_wp2_with fail
            refine (rnext_any a l k c yy w3 (hr.below t3.out) HN.out HL.out hfar.out).mono ?_
            rintro r w4 ⟨rfl, k4⟩
            have t4 := hide (below_call (w := w) t3.out k4)
            have B4 := hide (B3.out.below k4 B3.out.lt)
            rw [HNX.out]
            generalize hz : (nxt l yy).1 = z at HPL HC hfr ⊢
            clear hz
            clear k4
            go_wp2
            go_roundw
            case rel => exact ⟨z, rfl, ⟨hfr.1, hfr.2⟩, HPL, B4.out, t4.out⟩
            case measure => exact HC.out
end Go.Proofs.Ytdckhheinpfbjaa
