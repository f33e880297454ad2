/- The walk of ClockSwaps. -/
import Derived.Test.YtffpphnjokmffaaEK
import Derived.Test.YtffpphnjokmffaaEV
import Derived.Test.YtffpphnjokmffaaOpens
import Derived.BigRegion
namespace Go.Proofs.Ytffpphnjokmffaa
open Go.RowKit Go.Maps
def natv (s : List Nat) : Array Value := (s.map fun (x : Nat) => Value.int .i64 (x : Int)).toArray
theorem natv_at {W : World} {g : Nat} {t : TypeId} {s : List Nat} (h : Blk W g t (natv s)) {i : Nat} (hi : i < s.length) : W.cell? ⟨g, i, none⟩ = some (.int .i64 (s[i] : Nat)) := by
  rw [h.cell]; unfold natv; simp [hi]
theorem natv_set {W : World} {g : Nat} {t : TypeId} {s : List Nat} (h : Blk W g t (natv s)) (i x : Nat) : Blk (W.setCell ⟨g, i, none⟩ (.int .i64 (x : Int))) g t (natv (s.set i x)) := by
  have := h.set_ i (.int .i64 (x : Int))
  unfold natv at this ⊢
  rw [List.map_set]
  simpa using this
def initS (L i : Nat) : List Nat := List.range i ++ List.replicate (L - i) 0
theorem initS_len {L i : Nat} (h : i ≤ L) : (initS L i).length = L := by simp [initS]; omega
theorem initS_set {L i : Nat} (h : i < L) : (initS L i).set i i = initS L (i + 1) := by
  unfold initS
  rw [List.set_append_right _ _ (by simp), List.length_range, Nat.sub_self, List.range_succ, show L - i = (L - (i + 1)) + 1 from by omega, List.replicate_succ, List.set_cons_zero]
  simp
theorem initS_full (L : Nat) : initS L L = List.range L := by simp [initS]
/-- What the changes keep in memory. -/
structure SI (W : World) (l : List Ev) (gw : Nat) (a4 : Option Addr) (c4 B4 : Nat) (m : List Ev) (s : List Nat) : Prop where
  bw : Blk W gw 3 (natv s)
  om : W.ownsRow B4 48 3 (.slice a4 l.length c4) l.length (m.map ecell).flatten
  ps : PS l m s
theorem info3' : (Try.prog.info? 3).map (fun i => (i.zero, i.size, i.bytes)) = some (some (.int .i64 0), 1, 8) := by kernel_rfl
set_option maxRecDepth 100000 in
set_option maxHeartbeats 4000000 in
theorem walkP_ClockSwaps (x : Int) (a : Option Addr) (l : List Ev) (c : Nat) (ta : Option Addr) (ts : List Int) (tc : Nat) (w : World) (hx : 0 ≤ x ∧ x ≤ 255) (hr : ERow w a l) (hl : ∀ e ∈ l, EvIn e) (hc1 : l.length ≤ c) (hc2 : c ≤ maxLen)
    (ht : Row w ta (ts.map (.int .u16))) (htw : ∀ t ∈ ts, 0 ≤ t ∧ t ≤ 65535) :
    Calls Try.prog 5 #[.int .u8 x, .slice a l.length c, .slice ta ts.length tc] w (BPost true w) := by
  obtain ⟨i3, hi3, hz3, hs3, hb3⟩ := info_parts info3'
  have hlen := hr.len
  have htl := ht.1
  rw [List.length_map] at htl
  have HL := hide hl
  have HR := hide hr
  have HT := hide ht
  have HTW := hide htw
  clear hl hr ht htw
  by_cases hlong : 400 < l.length
  · go_enter Try.func5, Try.ntmps5
    have b1 : decide (400 < (l.length : Int)) = true := by simp; omega
    go_wp2_with fail
    refine (works_any _).mono ?_
    rintro r w9 ⟨rfl, k9⟩
    have t9 := hide (below_call (w := w) (Below.refl _ _) k9)
    clear k9
    go_wp2_with fail
    go_returns
    exact ⟨rfl, t9.out⟩
  have hmk := fun W => run_make1 (P := Try.prog) 34 3 Try.underlying34 hi3 hz3 hs3 rfl hb3 l.length (by omega) (by omega) W
  go_enter Try.func5, Try.ntmps5
  obtain ⟨n, hn⟩ : ∃ n : Nat, 1 + x % 8 = (n : Int) := ⟨(1 + x % 8).toNat, by omega⟩
  have hn1 : 1 ≤ n ∧ n ≤ 8 := by omega
  have b1 : decide (400 < (l.length : Int)) = false := by simp; omega
  by_cases hlong2 : 400 < ts.length
  · have b2 : decide (400 < (ts.length : Int)) = true := by simp; omega
    go_wp2_with fail
    refine (works_any _).mono ?_
    rintro r w9 ⟨rfl, k9⟩
    have t9 := hide (below_call (w := w) (Below.refl _ _) k9)
    clear k9
    go_wp2_with fail
    go_returns
    exact ⟨rfl, t9.out⟩
  have b2 : decide (400 < (ts.length : Int)) = false := by simp; omega
  by_cases hM : LogOk n l
  · have HM := hide hM
    have HCC : Hid (∀ y ∈ l, y.c ≤ 9223372036854775807) := hide (fun y hy => (HL.out y hy).c.2)
    clear hM HL
    go_wp2_with fail
    refine (stamps_yes a l c n _ HR.out HM.out HCC.out).mono ?_
    rintro r w2 ⟨g1, e1, rfl, hT1, k2⟩
    have T1 := hide hT1
    have t2 := hide k2
    clear hT1 k2
    obtain ⟨gw, hgw⟩ : ∃ g, g = w2.heap.size := ⟨_, rfl⟩
    obtain ⟨w3, hw3⟩ : ∃ w3, w3 = w2.alloc (.cells (Array.replicate l.length (.int .i64 0)) 3) := ⟨_, rfl⟩
    have B3 : Hid (Blk w3 gw 3 (natv (initS l.length 0))) := hide (by
      have := Blk.new w2 3 (Array.replicate l.length (.int .i64 0))
      rw [← hw3, ← hgw] at this
      unfold natv initS
      simpa using this)
    have t3 : Hid (Below w2.heap.size w2 w3) := hide (hw3 ▸ (Below.refl _ _).alloc (Nat.le_refl _) _)
    have HW3 := hide hw3
    have HGW := hide hgw
    clear hw3 hgw
    go_wp2_with fail
    rw [← HW3.out, ← HGW.out]
    clear HW3 hmk
    go_loopw [11] (fun iv wr => ∃ i : Nat, i ≤ l.length ∧ iv = .int .i64 i ∧ Blk wr gw 3 (natv (initS l.length i)) ∧ Below w2.heap.size w2 wr) (fun iv _ => l.length - (intOf iv).toNat)
    case atStart => exact ⟨0, Nat.zero_le _, rfl, B3.out, t3.out⟩
    case round =>
      clear B3 t3
      obtain ⟨i, hi, rfl, hB, hb⟩ := hrel
      have B := hide hB
      have u := hide hb
      clear hB hb
      by_cases hlt : i < l.length
      · have m1 := natv_at B.out (i := i) (by rw [initS_len hi]; exact hlt)
        generalize (initS l.length i)[i]'(by rw [initS_len hi]; exact hlt) = v0 at m1
        have f1 := B.out.frozen i
        have BN := hide (natv_set B.out i i)
        rw [initS_set hlt] at BN
        go_wp2_with fail
        go_roundw
        case rel => exact ⟨i + 1, hlt, by go_num, BN.out, u.out.setCell (p := ⟨gw, i, none⟩) (Nat.le_of_eq HGW.out.symm) _⟩
        case measure => simp [intOf]; omega
      · obtain rfl : i = l.length := by omega
        rw [initS_full] at B
        go_wp2_with fail
        refine (copied_any a l c wr (HR.out.below (below_call (w := w) t2.out u.out)) (by omega)).mono ?_
        rintro r w4 ⟨v4, rfl, ho4, k4⟩
        obtain ⟨a4, c4, rfl, _, hf4⟩ := ho4.row
        have S4 : Hid (SI w4 l gw a4 c4 wr.heap.size l (List.range l.length)) := hide ⟨B.out.below k4 B.out.lt, ho4, ps_start l⟩
        have u4 := hide (below_call (w := w2) u.out k4)
        have hgB : gw < wr.heap.size := B.out.lt
        obtain ⟨B4, hB4⟩ : ∃ b, b = wr.heap.size := ⟨_, rfl⟩
        rw [← hB4] at S4 hgB
        have hB4w : B4 ≤ w4.heap.size := by have := k4.size; omega
        clear ho4 hf4 k4 B u hB4
        go_wp2_with fail
        go_loopw [13] (fun kv wr => ∃ k : Nat, k ≤ ts.length ∧ kv = .int .i64 k ∧ (∃ m s, SI wr l gw a4 c4 B4 m s) ∧ Below w2.heap.size w2 wr ∧ B4 ≤ wr.heap.size) (fun kv _ => ts.length - (intOf kv).toNat)
        case atStart => exact ⟨0, Nat.zero_le _, rfl, ⟨_, _, S4.out⟩, u4.out, hB4w⟩
        case round =>
          clear S4 u4 hB4w
          obtain ⟨k, hk, rfl, ⟨m, s, hS⟩, hb, hB4w⟩ := hrel
          have S := hide hS
          have u := hide hb
          have t := hide (below_call (w := w) t2.out hb)
          clear hS hb
          by_cases hkt : k < ts.length
          · by_cases h2 : 1 < l.length
            · obtain ⟨bt, ot, rfl, hbt, hct⟩ := (HT.out.below t.out).2 (by rw [List.length_map]; omega)
              have y0 := hct k (by rw [List.length_map]; exact hkt)
              rw [List.getElem_map] at y0
              have hv := HTW.out _ (List.getElem_mem hkt)
              clear hct
              generalize ts[k] = v at y0 hv
              obtain ⟨p, hp⟩ : ∃ p : Nat, Int.tmod v ((l.length : Int) - 1) = (p : Int) := ⟨(Int.tmod v ((l.length : Int) - 1)).toNat, by rw [Int.tmod_eq_emod_of_nonneg hv.1]; have := Int.emod_nonneg v (b := (l.length : Int) - 1) (by omega); omega⟩
              have hpl : p + 1 < l.length := by rw [Int.tmod_eq_emod_of_nonneg hv.1] at hp; have := Int.emod_lt_of_pos v (b := (l.length : Int) - 1) (by omega); omega
              have bn : (((l.length : Int) - 1) == 0) = false := by rw [beq_eq_false_iff_ne]; omega
              obtain ⟨gm, q4, e4, hgm, hgml⟩ := S.out.om.form (by omega)
              simp only [Value.slice.injEq] at e4
              obtain ⟨e4, _, e4c⟩ := e4
              subst e4 e4c
              have hml := S.out.ps.ml
              have hpm : p + 1 < m.length := by omega
              have hsl : p + 1 < s.length := by have := S.out.ps.sl; omega
              have hpm0 : p < m.length := by omega
              have PX := hide (fun h => ps_step S.out.ps hpm hsl h)
              have x0 : wr.cell? ⟨gm, p * 3, none⟩ = some (.int .i64 m[p].w) := by rw [S.out.om.cellAt _ (by omega)]; exact (eflat_at m p hpm0).1
              have x1 : wr.cell? ⟨gm, p * 3 + 1, none⟩ = some (.int .u8 m[p].k) := by rw [S.out.om.cellAt _ (by omega)]; exact (eflat_at m p hpm0).2.1
              have x2 : wr.cell? ⟨gm, p * 3 + 2, none⟩ = some (.int .i64 m[p].c) := by rw [S.out.om.cellAt _ (by omega)]; exact (eflat_at m p hpm0).2.2
              have z0 : wr.cell? ⟨gm, (p + 1) * 3, none⟩ = some (.int .i64 m[p + 1].w) := by rw [S.out.om.cellAt _ (by omega)]; exact (eflat_at m (p + 1) hpm).1
              have z1 : wr.cell? ⟨gm, (p + 1) * 3 + 1, none⟩ = some (.int .u8 m[p + 1].k) := by rw [S.out.om.cellAt _ (by omega)]; exact (eflat_at m (p + 1) hpm).2.1
              have z2 : wr.cell? ⟨gm, (p + 1) * 3 + 2, none⟩ = some (.int .i64 m[p + 1].c) := by rw [S.out.om.cellAt _ (by omega)]; exact (eflat_at m (p + 1) hpm).2.2
              have r0 := keepc hgml x0
              have r1 := keepc hgml x1
              have r2 := keepc hgml x2
              have v0 := keepc hgml z0
              have v1 := keepc hgml z1
              have v2 := keepc hgml z2
              generalize hmp : m[p] = ep at x0 x1 x2 r0 r1 r2 PX
              generalize hmq : m[p + 1] = eq at z0 z1 z2 v0 v1 v2 PX
              have HMP := hide hmp
              have HMQ := hide hmq
              clear hml hmp hmq
              go_upto_region 19 with fail
              refine Reg.region (by kernel_rfl) 10 [9] (fun _ w' => Below wr.heap.size wr w') (by kernel_rfl) (by kernel_rfl) (Below.refl _ _).drew ?_
              iterate 9
                refine Reg.WT.yield (v := ?_) rfl rfl ?_ ?_
                rotate_left
                · intro w' _ hS; go_simp; (try go_bits); (first | rfl | rw [if_pos (by omega)])
                simp only [Act.put, List.setIfInBounds_toArray, List.set_cons_zero, List.set_cons_succ]
              refine Reg.WT.call (v := ?_) (f := ?_) (args := ?_) rfl rfl ?_ ?_ ?_
              rotate_left 3
              · intro w2; go_simp; exact ⟨by rfl, by rfl⟩
              · intro w2 hS; refine (apart_any ep eq w2).mono ?_; rintro e w3 ⟨rfl, hb⟩; exact ⟨by rfl, hS.trans (hb.mono hS.size)⟩
              simp only [Act.put, List.setIfInBounds_toArray, List.set_cons_zero, List.set_cons_succ]
              intro w5 hS
              have S5 : Hid (SI w5 l gw (some ⟨gm, 0, none⟩) c4 B4 m s) := hide ⟨S.out.bw.below hS S.out.bw.lt, own_below S.out.om hS, S.out.ps⟩
              have u5 := hide (below_call (w := w2) u.out hS)
              have hs5 := hS.size
              clear r0 r1 r2 v0 v1 v2 x0 x1 x2 z0 z1 z2 y0 hS S
              cases hap : apE ep eq with
              | false =>
                go_wp2_with fail
                go_roundw
                case rel => exact ⟨k + 1, hkt, by go_num, ⟨m, s, S5.out⟩, u5.out, by omega⟩
                case measure => simp [intOf]; omega
              | true =>
                have HPX := hide (PX.out hap)
                have hpm0 : p < m.length := by omega
                have x0 : w5.cell? ⟨gm, p * 3, none⟩ = some (.int .i64 ep.w) := by rw [← HMP.out, S5.out.om.cellAt _ (by omega)]; exact (eflat_at m p hpm0).1
                have x1 : w5.cell? ⟨gm, p * 3 + 1, none⟩ = some (.int .u8 ep.k) := by rw [← HMP.out, S5.out.om.cellAt _ (by omega)]; exact (eflat_at m p hpm0).2.1
                have x2 : w5.cell? ⟨gm, p * 3 + 2, none⟩ = some (.int .i64 ep.c) := by rw [← HMP.out, S5.out.om.cellAt _ (by omega)]; exact (eflat_at m p hpm0).2.2
                have z0 : w5.cell? ⟨gm, (p + 1) * 3, none⟩ = some (.int .i64 eq.w) := by rw [← HMQ.out, S5.out.om.cellAt _ (by omega)]; exact (eflat_at m (p + 1) hpm).1
                have z1 : w5.cell? ⟨gm, (p + 1) * 3 + 1, none⟩ = some (.int .u8 eq.k) := by rw [← HMQ.out, S5.out.om.cellAt _ (by omega)]; exact (eflat_at m (p + 1) hpm).2.1
                have z2 : w5.cell? ⟨gm, (p + 1) * 3 + 2, none⟩ = some (.int .i64 eq.c) := by rw [← HMQ.out, S5.out.om.cellAt _ (by omega)]; exact (eflat_at m (p + 1) hpm).2.2
                have f0 := S5.out.om.frozenAt (p * 3)
                have f1 := S5.out.om.frozenAt (p * 3 + 1)
                have f2 := S5.out.om.frozenAt (p * 3 + 2)
                have f3 := S5.out.om.frozenAt ((p + 1) * 3)
                have f4 := S5.out.om.frozenAt ((p + 1) * 3 + 1)
                have f5 := S5.out.om.frozenAt ((p + 1) * 3 + 2)
                clear hap PX hpm0
                go_upto_region 20 with fail
                go_region
                obtain ⟨w6, hw6⟩ : ∃ w6, w6 = ((((((w5.setCell ⟨gm, p * 3, none⟩ (.int .i64 eq.w)).setCell ⟨gm, p * 3 + 1, none⟩ (.int .u8 eq.k)).setCell ⟨gm, p * 3 + 2, none⟩ (.int .i64 eq.c)).setCell ⟨gm, (p + 1) * 3, none⟩ (.int .i64 ep.w)).setCell ⟨gm, (p + 1) * 3 + 1, none⟩ (.int .u8 ep.k)).setCell ⟨gm, (p + 1) * 3 + 2, none⟩ (.int .i64 ep.c)).drew := ⟨_, rfl⟩
                have hgwm : gw ≠ gm := by omega
                have hgm2 : w2.heap.size ≤ gm := by have := HGW.out; omega
                have BW6 : Hid (Blk w6 gw 3 (natv s)) := hide (by
                  rw [hw6]
                  exact (((((((S5.out.bw.far (p := ⟨gm, p * 3, none⟩) hgwm _).far (p := ⟨gm, p * 3 + 1, none⟩) hgwm _).far (p := ⟨gm, p * 3 + 2, none⟩) hgwm _).far (p := ⟨gm, (p + 1) * 3, none⟩) hgwm _).far (p := ⟨gm, (p + 1) * 3 + 1, none⟩) hgwm _).far (p := ⟨gm, (p + 1) * 3 + 2, none⟩) hgwm _).drew))
                have OM6 : Hid (w6.ownsRow B4 48 3 (.slice (some ⟨gm, 0, none⟩) l.length c4) l.length ((ex m p hpm).map ecell).flatten) := hide (by
                  have h := ((((((S5.out.om.stored (p * 3) (.int .i64 eq.w)).1.stored (p * 3 + 1) (.int .u8 eq.k)).1.stored (p * 3 + 2) (.int .i64 eq.c)).1.stored ((p + 1) * 3) (.int .i64 ep.w)).1.stored ((p + 1) * 3 + 1) (.int .u8 ep.k)).1.stored ((p + 1) * 3 + 2) (.int .i64 ep.c)).1
                  rw [eflat_put m p (by omega) eq, eflat_put _ (p + 1) (by rw [List.length_set]; exact hpm) ep, ← HMP.out, ← HMQ.out] at h
                  rw [hw6]
                  rw [← HMP.out, ← HMQ.out]
                  exact own_below h (Below.refl _ _).drew)
                have u6 : Hid (Below w2.heap.size w2 w6) := hide (by
                  rw [hw6]
                  exact (((((((u5.out.setCell (p := ⟨gm, p * 3, none⟩) hgm2 _).setCell (p := ⟨gm, p * 3 + 1, none⟩) hgm2 _).setCell (p := ⟨gm, p * 3 + 2, none⟩) hgm2 _).setCell (p := ⟨gm, (p + 1) * 3, none⟩) hgm2 _).setCell (p := ⟨gm, (p + 1) * 3 + 1, none⟩) hgm2 _).setCell (p := ⟨gm, (p + 1) * 3 + 2, none⟩) hgm2 _).drew))
                have hs6 : w5.heap.size ≤ w6.heap.size := by rw [hw6]; simp
                rw [← hw6]
                clear hw6 x0 x1 x2 z0 z1 z2 f0 f1 f2 f3 f4 f5 S5 u5
                go_upto_region 21 with fail
                have y0 := natv_at BW6.out (i := p) (by omega)
                have y1 := natv_at BW6.out (i := p + 1) hsl
                have f0 := BW6.out.frozen p
                have f1 := BW6.out.frozen (p + 1)
                generalize hsp : s[p]'(by omega) = sp at y0
                generalize hsq : s[p + 1] = sq at y1
                have HSP := hide hsp
                have HSQ := hide hsq
                clear hsp hsq
                go_region
                obtain ⟨w7, hw7⟩ : ∃ w7, w7 = ((w6.setCell ⟨gw, p, none⟩ (.int .i64 sq)).setCell ⟨gw, p + 1, none⟩ (.int .i64 sp)).drew := ⟨_, rfl⟩
                have BW7 : Hid (Blk w7 gw 3 (natv (ex s p hsl))) := hide (by
                  rw [hw7]
                  have h := natv_set (natv_set BW6.out p sq) (p + 1) sp
                  rw [← HSP.out, ← HSQ.out] at h ⊢
                  exact h.drew)
                have OM7 : Hid (w7.ownsRow B4 48 3 (.slice (some ⟨gm, 0, none⟩) l.length c4) l.length ((ex m p hpm).map ecell).flatten) := hide (by
                  rw [hw7]
                  exact own_below (ownsRow_setCell_other (ownsRow_setCell_other OM6.out (a := ⟨gw, p, none⟩) (by simp [Value.ownBlock]; omega) _) (a := ⟨gw, p + 1, none⟩) (by simp [Value.ownBlock]; omega) _) (Below.refl _ _).drew)
                have u7 : Hid (Below w2.heap.size w2 w7) := hide (by
                  rw [hw7]
                  exact ((u6.out.setCell (p := ⟨gw, p, none⟩) (Nat.le_of_eq HGW.out.symm) _).setCell (p := ⟨gw, p + 1, none⟩) (Nat.le_of_eq HGW.out.symm) _).drew)
                have hs7 : w6.heap.size ≤ w7.heap.size := by rw [hw7]; simp
                rw [← hw7]
                clear hw7 y0 y1 f0 f1 BW6 OM6 u6
                have S7 : Hid (SI w7 l gw (some ⟨gm, 0, none⟩) c4 B4 (ex m p hpm) (ex s p hsl)) := hide ⟨BW7.out, OM7.out, HPX.out⟩
                go_wp2_with fail
                go_roundw
                case rel => exact ⟨k + 1, hkt, by go_num, ⟨_, _, S7.out⟩, u7.out, by omega⟩
                case measure => simp [intOf]; omega
            · have b3 : decide (1 < (l.length : Int)) = false := by simp; omega
              have Q3 : Hid (ERow wr a4 m) := hide (by
                obtain ⟨A, C, e, _, _, _, h, _⟩ := own_rowS (ecell_len _) (by decide) S.out.om
                simp only [Value.slice.injEq] at e
                rw [e.1]; exact h)
              have BW := hide S.out.bw
              have hml := S.out.ps.ml
              have HSL : Hid (s.length = l.length) := hide S.out.ps.sl
              have HLT : Hid (∀ i (h : i < s.length), s[i] < l.length) := hide (fun i h => S.out.ps.lt _ (List.getElem_mem h))
              have HST : Hid (∀ i (h : i < s.length), ∀ v, stamp (gl m) i v = stamp (gl l) s[i] v) := hide (fun i h v => by
                have := S.out.ps.st i (by rw [← HSL.out]; exact h) v
                rw [List.getD_eq_getElem?_getD, List.getElem?_eq_getElem h] at this
                exact this)
              have HRC : Hid (∀ a b c d is so, RaceIs (gl l) l.length a b is → RaceIs (gl m) l.length c d so → is = so) := hide (fun a b c d is so h1 h2 => ps_race S.out.ps h1 (by rw [hml]; exact h2))
              have HMM := hide (ps_log S.out.ps HM.out)
              have S2 := hide (fun W h => stamps_yes a4 m c4 n W h HMM.out (fun y hy => HCC.out y (S.out.ps.me y hy)))
              have R2 := hide (fun W h => race_yes a4 m c4 n W h HMM.out (fun y hy => HCC.out y (S.out.ps.me y hy)))
              rw [hml] at S2 R2
              have T1 := hide (T1.out.below u.out)
              clear hml S u
              go_wp2_with fail
              refine (S2.out _ Q3.out).mono ?_
              rintro r w5 ⟨g2, e2, rfl, hT2, k5⟩
              have T2 := hide hT2
              have T1 := hide (T1.out.below k5)
              have BW := hide (BW.out.below k5 BW.out.lt)
              have t5 := hide (below_call (w := w) t.out k5)
              have Q3 := hide (Q3.out.below k5)
              clear hT2 k5 t S2
              go_wp2_with fail
              refine (race_yes a l c n _ (HR.out.below t5.out) HM.out HCC.out).mono ?_
              rintro r w6 ⟨ia, ib, is1, rfl, hR1, k6⟩
              have HR1 := hide hR1
              have T1 := hide (T1.out.below k6)
              have T2 := hide (T2.out.below k6)
              have BW := hide (BW.out.below k6 BW.out.lt)
              have t6 := hide (below_call (w := w) t5.out k6)
              have Q3 := hide (Q3.out.below k6)
              clear hR1 k6 t5
              go_wp2_with fail
              refine (R2.out _ Q3.out).mono ?_
              rintro r w7 ⟨ic, id, is2, rfl, hR2, k7⟩
              obtain rfl := HRC.out _ _ _ _ _ _ HR1.out hR2
              have T1 := hide (T1.out.below k7)
              have T2 := hide (T2.out.below k7)
              have BW := hide (BW.out.below k7 BW.out.lt)
              have t7 := hide (below_call (w := w) t6.out k7)
              clear hR2 k7 t6 Q3 HRC R2 HR1
              go_wp2_with fail
              go_loopw [25] (fun iv wr => ∃ i : Nat, i ≤ l.length ∧ iv = .int .i64 i ∧ Below w7.heap.size w7 wr) (fun iv _ => l.length - (intOf iv).toNat)
              case atStart => exact ⟨0, Nat.zero_le _, rfl, Below.refl _ _⟩
              case round =>
                obtain ⟨i, hi, rfl, hb⟩ := hrel
                have b4 := hide hb
                clear hb
                by_cases hlt : i < l.length
                · have his : i < s.length := by have := HSL.out; omega
                  obtain ⟨p1, o1, hS1, hp1, hcc1⟩ := t_at (T1.out.below b4.out) (by omega)
                  obtain ⟨p2, o2, hS2, hp2, hcc2⟩ := t_at (T2.out.below b4.out) (by omega)
                  simp only [Option.some.injEq, Addr.mk.injEq, and_true] at hS1 hS2
                  obtain ⟨e11, e12⟩ := hS1
                  obtain ⟨e21, e22⟩ := hS2
                  subst e11 e12 e21 e22
                  have hst := HST.out i his
                  have hsi := HLT.out i his
                  have y0 := natv_at (BW.out.below b4.out BW.out.lt) his
                  have hgwl := (BW.out.below b4.out BW.out.lt).lt
                  generalize s[i] = si at hst hsi y0
                  have HSTi := hide hst
                  clear hst
                  obtain ⟨q1, d1, x1, m1, n1, f1, s1⟩ := hcc1 si hsi
                  obtain ⟨q2, d2, x2, m2, n2, f2, s2⟩ := hcc2 i hlt
                  simp only [Nat.zero_add] at x1 x2
                  unfold maxLen at n1 n2
                  clear hcc1 hcc2
                  have f1 := f1 (by omega)
                  have f2 := f2 (by omega)
                  have S1 := hide s1
                  have S2 := hide s2
                  have X1 := hide x1
                  have X2 := hide x2
                  have Y0 := hide y0
                  clear s1 s2 his
                  go_wp2_with fail
                  clear x1 x2 y0
                  go_loopw [26] (fun vv wq => ∃ v : Nat, v ≤ n ∧ vv = .int .i64 v ∧ Below wr.heap.size wr wq) (fun vv _ => n - (intOf vv).toNat)
                  case atStart => exact ⟨0, Nat.zero_le _, rfl, Below.refl _ _⟩
                  case round =>
                    obtain ⟨v, hv, rfl, hbq⟩ := hrel
                    have c4 := hide hbq
                    clear hbq
                    by_cases hvn : v < n
                    · have y0 := (c4.out.cell (p := ⟨gw, i, none⟩) hgwl).trans Y0.out
                      have y1 := (c4.out.cell (p := ⟨g1, si, none⟩) hp1).trans X1.out
                      have y2 := (c4.out.cell (p := ⟨g2, i, none⟩) hp2).trans X2.out
                      have z1 := (c4.out.cell (p := ⟨q1, v, none⟩) f1).trans (S1.out v hvn)
                      have z2 := (c4.out.cell (p := ⟨q2, v, none⟩) f2).trans (S2.out v hvn)
                      rw [HSTi.out (v : Int)] at z2
                      have hle := stamp_le (e := gl l) si (v : Int)
                      generalize stamp (gl l) si (v : Int) = st at z1 z2 hle
                      go_upto_region 35 with fail
                      have r0 := keepd y0
                      have r1 := keepd y1
                      have r2 := keepd y2
                      have u1 := keepd z1
                      have u2 := keepd z2
                      refine Reg.region (by kernel_rfl) 18 [] (fun _ w' => w' = wr.drew) (by kernel_rfl) (by kernel_rfl) rfl ?_
                      iterate 18
                        refine Reg.WT.yield (v := ?_) rfl rfl ?_ ?_
                        rotate_left
                        · intro w' _ hS; go_simp; (try go_bits); (first | rfl | rw [if_pos (by omega)])
                        simp only [Act.put, List.setIfInBounds_toArray, List.set_cons_zero, List.set_cons_succ]
                      intro w6 hS
                      subst hS
                      clear r0 r1 r2 u1 u2 y0 y1 y2 z1 z2
                      go_wp2_with fail
                      go_roundw
                      case rel => exact ⟨v + 1, hvn, by go_num, c4.out.drew⟩
                      case measure => simp [intOf]; omega
                    · go_wp2_with fail
                      go_roundw
                      case rel => exact ⟨i + 1, hlt, by go_num, b4.out.trans (c4.out.mono b4.out.size)⟩
                      case measure => simp [intOf]; omega
                · have t8 := hide (below_call (w := w) t7.out b4.out)
                  go_wp2_with fail
                  refine (works_any _).mono ?_
                  rintro r w9 ⟨rfl, k9⟩
                  have t9 := hide (below_call (w := w) t8.out k9)
                  clear k9
                  go_wp2_with fail
                  go_returns
                  exact ⟨rfl, t9.out⟩
          · obtain rfl : k = ts.length := by omega
            have Q3 : Hid (ERow wr a4 m) := hide (by
              obtain ⟨A, C, e, _, _, _, h, _⟩ := own_rowS (ecell_len _) (by decide) S.out.om
              simp only [Value.slice.injEq] at e
              rw [e.1]; exact h)
            have BW := hide S.out.bw
            have hml := S.out.ps.ml
            have HSL : Hid (s.length = l.length) := hide S.out.ps.sl
            have HLT : Hid (∀ i (h : i < s.length), s[i] < l.length) := hide (fun i h => S.out.ps.lt _ (List.getElem_mem h))
            have HST : Hid (∀ i (h : i < s.length), ∀ v, stamp (gl m) i v = stamp (gl l) s[i] v) := hide (fun i h v => by
              have := S.out.ps.st i (by rw [← HSL.out]; exact h) v
              rw [List.getD_eq_getElem?_getD, List.getElem?_eq_getElem h] at this
              exact this)
            have HRC : Hid (∀ a b c d is so, RaceIs (gl l) l.length a b is → RaceIs (gl m) l.length c d so → is = so) := hide (fun a b c d is so h1 h2 => ps_race S.out.ps h1 (by rw [hml]; exact h2))
            have HMM := hide (ps_log S.out.ps HM.out)
            have S2 := hide (fun W h => stamps_yes a4 m c4 n W h HMM.out (fun y hy => HCC.out y (S.out.ps.me y hy)))
            have R2 := hide (fun W h => race_yes a4 m c4 n W h HMM.out (fun y hy => HCC.out y (S.out.ps.me y hy)))
            rw [hml] at S2 R2
            have T1 := hide (T1.out.below u.out)
            clear hml S u
            go_wp2_with fail
            refine (S2.out _ Q3.out).mono ?_
            rintro r w5 ⟨g2, e2, rfl, hT2, k5⟩
            have T2 := hide hT2
            have T1 := hide (T1.out.below k5)
            have BW := hide (BW.out.below k5 BW.out.lt)
            have t5 := hide (below_call (w := w) t.out k5)
            have Q3 := hide (Q3.out.below k5)
            clear hT2 k5 t S2
            go_wp2_with fail
            refine (race_yes a l c n _ (HR.out.below t5.out) HM.out HCC.out).mono ?_
            rintro r w6 ⟨ia, ib, is1, rfl, hR1, k6⟩
            have HR1 := hide hR1
            have T1 := hide (T1.out.below k6)
            have T2 := hide (T2.out.below k6)
            have BW := hide (BW.out.below k6 BW.out.lt)
            have t6 := hide (below_call (w := w) t5.out k6)
            have Q3 := hide (Q3.out.below k6)
            clear hR1 k6 t5
            go_wp2_with fail
            refine (R2.out _ Q3.out).mono ?_
            rintro r w7 ⟨ic, id, is2, rfl, hR2, k7⟩
            obtain rfl := HRC.out _ _ _ _ _ _ HR1.out hR2
            have T1 := hide (T1.out.below k7)
            have T2 := hide (T2.out.below k7)
            have BW := hide (BW.out.below k7 BW.out.lt)
            have t7 := hide (below_call (w := w) t6.out k7)
            clear hR2 k7 t6 Q3 HRC R2 HR1
            go_wp2_with fail
            go_loopw [25] (fun iv wr => ∃ i : Nat, i ≤ l.length ∧ iv = .int .i64 i ∧ Below w7.heap.size w7 wr) (fun iv _ => l.length - (intOf iv).toNat)
            case atStart => exact ⟨0, Nat.zero_le _, rfl, Below.refl _ _⟩
            case round =>
              obtain ⟨i, hi, rfl, hb⟩ := hrel
              have b4 := hide hb
              clear hb
              by_cases hlt : i < l.length
              · have his : i < s.length := by have := HSL.out; omega
                obtain ⟨p1, o1, hS1, hp1, hcc1⟩ := t_at (T1.out.below b4.out) (by omega)
                obtain ⟨p2, o2, hS2, hp2, hcc2⟩ := t_at (T2.out.below b4.out) (by omega)
                simp only [Option.some.injEq, Addr.mk.injEq, and_true] at hS1 hS2
                obtain ⟨e11, e12⟩ := hS1
                obtain ⟨e21, e22⟩ := hS2
                subst e11 e12 e21 e22
                have hst := HST.out i his
                have hsi := HLT.out i his
                have y0 := natv_at (BW.out.below b4.out BW.out.lt) his
                have hgwl := (BW.out.below b4.out BW.out.lt).lt
                generalize s[i] = si at hst hsi y0
                have HSTi := hide hst
                clear hst
                obtain ⟨q1, d1, x1, m1, n1, f1, s1⟩ := hcc1 si hsi
                obtain ⟨q2, d2, x2, m2, n2, f2, s2⟩ := hcc2 i hlt
                simp only [Nat.zero_add] at x1 x2
                unfold maxLen at n1 n2
                clear hcc1 hcc2
                have f1 := f1 (by omega)
                have f2 := f2 (by omega)
                have S1 := hide s1
                have S2 := hide s2
                have X1 := hide x1
                have X2 := hide x2
                have Y0 := hide y0
                clear s1 s2 his
                go_wp2_with fail
                clear x1 x2 y0
                go_loopw [26] (fun vv wq => ∃ v : Nat, v ≤ n ∧ vv = .int .i64 v ∧ Below wr.heap.size wr wq) (fun vv _ => n - (intOf vv).toNat)
                case atStart => exact ⟨0, Nat.zero_le _, rfl, Below.refl _ _⟩
                case round =>
                  obtain ⟨v, hv, rfl, hbq⟩ := hrel
                  have c4 := hide hbq
                  clear hbq
                  by_cases hvn : v < n
                  · have y0 := (c4.out.cell (p := ⟨gw, i, none⟩) hgwl).trans Y0.out
                    have y1 := (c4.out.cell (p := ⟨g1, si, none⟩) hp1).trans X1.out
                    have y2 := (c4.out.cell (p := ⟨g2, i, none⟩) hp2).trans X2.out
                    have z1 := (c4.out.cell (p := ⟨q1, v, none⟩) f1).trans (S1.out v hvn)
                    have z2 := (c4.out.cell (p := ⟨q2, v, none⟩) f2).trans (S2.out v hvn)
                    rw [HSTi.out (v : Int)] at z2
                    have hle := stamp_le (e := gl l) si (v : Int)
                    generalize stamp (gl l) si (v : Int) = st at z1 z2 hle
                    go_upto_region 35 with fail
                    have r0 := keepd y0
                    have r1 := keepd y1
                    have r2 := keepd y2
                    have u1 := keepd z1
                    have u2 := keepd z2
                    refine Reg.region (by kernel_rfl) 18 [] (fun _ w' => w' = wr.drew) (by kernel_rfl) (by kernel_rfl) rfl ?_
                    iterate 18
                      refine Reg.WT.yield (v := ?_) rfl rfl ?_ ?_
                      rotate_left
                      · intro w' _ hS; go_simp; (try go_bits); (first | rfl | rw [if_pos (by omega)])
                      simp only [Act.put, List.setIfInBounds_toArray, List.set_cons_zero, List.set_cons_succ]
                    intro w6 hS
                    subst hS
                    clear r0 r1 r2 u1 u2 y0 y1 y2 z1 z2
                    go_wp2_with fail
                    go_roundw
                    case rel => exact ⟨v + 1, hvn, by go_num, c4.out.drew⟩
                    case measure => simp [intOf]; omega
                  · go_wp2_with fail
                    go_roundw
                    case rel => exact ⟨i + 1, hlt, by go_num, b4.out.trans (c4.out.mono b4.out.size)⟩
                    case measure => simp [intOf]; omega
              · have t8 := hide (below_call (w := w) t7.out b4.out)
                go_wp2_with fail
                refine (works_any _).mono ?_
                rintro r w9 ⟨rfl, k9⟩
                have t9 := hide (below_call (w := w) t8.out k9)
                clear k9
                go_wp2_with fail
                go_returns
                exact ⟨rfl, t9.out⟩
  · have HM := hide hM
    clear hM
    go_wp2_with fail
    refine (stamps_no a l c n _ HR.out (fun y hy => (HL.out y hy).k) HM.out).mono ?_
    rintro r w2 ⟨rfl, k2⟩
    have t2 := hide k2
    clear k2
    go_wp2_with fail
    refine (works_any _).mono ?_
    rintro r w9 ⟨rfl, k9⟩
    have t9 := hide (below_call (w := w) t2.out k9)
    clear k9
    go_wp2_with fail
    go_returns
    exact ⟨rfl, t9.out⟩
theorem walk_ClockSwaps (w : World) (x : Int) (hx : (Lit.int .u8 x).wf = true) (a : Option Addr) (l : List Ev) (c : Nat) (hr : ERow w a l) (hl : ∀ e ∈ l, EvIn e) (hc1 : l.length ≤ c) (hc2 : c ≤ maxLen) (ta : Option Addr) (ts : List Int) (tc : Nat) (ht : Row w ta (ts.map (.int .u16))) (htw : ∀ t ∈ ts, (Lit.int .u16 t).wf = true) (_ : ts.length ≤ tc) (_ : tc ≤ maxLen) :
    Calls Try.prog 5 #[.int .u8 x, .slice a l.length c, .slice ta ts.length tc] w (fun e w' => e = .returned (.bool true) ∧ Below w.heap.size w w') :=
  walkP_ClockSwaps x a l c ta ts tc w (u8_of hx) hr hl hc1 hc2 ht (fun t h => u16_of (htw t h))
end Go.Proofs.Ytffpphnjokmffaa
