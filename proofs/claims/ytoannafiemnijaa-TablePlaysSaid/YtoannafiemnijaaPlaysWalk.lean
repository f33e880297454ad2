/- The walk of TablePlays. -/
import Derived.Test.YtoannafiemnijaaAllAny
namespace Go.Proofs.Ytoannafiemnijaa
open Go.RowKit

structure Duo (w : World) (gt gm gc gr gl n : Nat) (st sr : Nat → Option (Int × ByteArray)) : Prop where
  t : Tab kP w gt gm gc n st
  r : RTab w gr gl n sr
  a1 : gr ≠ gt
  a2 : gr ≠ gm
  a3 : gr ≠ gc
  b1 : gl ≠ gt
  b2 : gl ≠ gm
  b3 : gl ≠ gc
theorem Duo.foot0 {w w' : World} {gt gm gc gr gl n : Nat} {st sr : Nat → Option (Int × ByteArray)} (h : Duo w gt gm gc gr gl n st sr) (hb : Below w.heap.size w w') : Duo w' gt gm gc gr gl n st sr :=
  ⟨h.t.below hb, h.r.below hb, h.a1, h.a2, h.a3, h.b1, h.b2, h.b3⟩
def PCls (gt gm gc gr gl n : Nat) (st st' : Nat → Option (Int × ByteArray)) (W : World) (c : Nat) (w' : World) : Prop :=
  Foot [gt, gm, gc, gl] W w' ∧ Duo w' gt gm gc gr gl n (if c = 0 then st else st') (if c ≤ 1 then st else st')
section
variable {gt gm gc gr gl n : Nat} {st : Nat → Option (Int × ByteArray)} {W w2 : World} {i : Int} {v : Int × ByteArray}
theorem pcls_cell {st' : Nat → Option (Int × ByteArray)} {p : Addr} {u : Value} (h : W.cell? p = some u) (hb : p.block < W.heap.size) (hn : p.block ∉ [gt, gm, gc, gl]) : ∀ w' c, PCls gt gm gc gr gl n st st' W c w' → w'.cell? p = some u :=
  fun _ _ hc => (hc.1.cell hb hn).trans h
theorem pcls_first (h : PCls gt gm gc gr gl n st (putS st n i v) W 0 w2) :
    Calls Try.prog 11 #[.pointer (some ⟨gt, 0, none⟩), .int .i64 i, .agg #[.int .i64 v.1, .string v.2]] w2 fun r w' => r = .returned (.int .i64 (putE st n i)) ∧ PCls gt gm gc gr gl n st (putS st n i v) W 1 w' := by
  obtain ⟨hf, hd⟩ := h
  simp only [if_true, Nat.zero_le] at hd
  refine (putP gt gm gc n st i v w2 hd.t).mono fun r w' h => ?_
  obtain ⟨rfl, hT, hF⟩ := h
  refine ⟨rfl, hf.trans (hF.mono (by simp)), ?_⟩
  exact ⟨hT, hd.r.foot hF (by simp [hd.a1, hd.a2, hd.a3]) (by simp [hd.b1, hd.b2, hd.b3]), hd.a1, hd.a2, hd.a3, hd.b1, hd.b2, hd.b3⟩
theorem pcls_second (h : PCls gt gm gc gr gl n st (putS st n i v) W 1 w2) :
    Calls Try.prog 12 #[.pointer (some ⟨gr, 0, none⟩), .int .i64 i, .agg #[.int .i64 v.1, .string v.2]] w2 fun r w' => r = .returned (.int .i64 (putE st n i)) ∧ PCls gt gm gc gr gl n st (putS st n i v) W 2 w' := by
  obtain ⟨hf, hd⟩ := h
  refine (rput_any gr gl n st i v w2 hd.r).mono fun r w' h => ?_
  obtain ⟨rfl, hT, hF⟩ := h
  refine ⟨rfl, hf.trans (hF.mono (by simp)), ?_⟩
  exact ⟨hd.t.foot hF (by simp [hd.b1.symm]) (by simp [hd.b2.symm]) (by simp [hd.b3.symm]), hT, hd.a1, hd.a2, hd.a3, hd.b1, hd.b2, hd.b3⟩
end


/-- What is left of the first list while its numbers are raised. -/
def Rest (wr : World) (a : Option Addr) (lo hi k : Nat) (L : List (Int × ByteArray)) : Prop :=
  ∀ j, k ≤ j → ∀ (h : j < L.length), ∃ g, a = some ⟨g, 0, none⟩ ∧ lo ≤ g ∧ g < hi ∧ wr.cell? ⟨g, j * 2, none⟩ = some (.int .i64 L[j].1) ∧ wr.frozen? ⟨g, j * 2, none⟩ = false
theorem Rest.start {w wr : World} {a : Option Addr} {lo : Nat} {L : List (Int × ByteArray)} (h : RowG w a 2 lo (L.map pc)) (hb : Below w.heap.size w wr) : Rest wr a lo w.heap.size 0 L := by
  intro j _ hj
  rcases h.2 with ⟨_, h2⟩ | ⟨g, rfl, hg, hlt, hf⟩
  · have := congrArg List.length h2; simp at this; subst this; simp at hj
  · obtain ⟨b, off, hab, _, hc⟩ := h.1.2 (by simp; omega)
    obtain ⟨rfl, rfl⟩ : g = b ∧ 0 = off := by simpa using hab
    refine ⟨g, rfl, hg, hlt, ?_, ?_⟩
    · rw [hb.cell (p := ⟨g, j * 2, none⟩) hlt]
      have := hc j (by simpa using hj) 0 (by simp [pc])
      simpa [pc] using this
    · rw [hb.frozen (p := ⟨g, j * 2, none⟩) hlt]; exact hf _
theorem Rest.keepb {w w' : World} {a : Option Addr} {lo hi k : Nat} {L : List (Int × ByteArray)} (h : Rest w a lo hi k L) (hb : Below w.heap.size w w') (hh : hi ≤ w.heap.size) : Rest w' a lo hi k L := by
  intro j hj hl
  obtain ⟨g, h1, h2, h3, h4, h5⟩ := h j hj hl
  exact ⟨g, h1, h2, h3, (hb.cell (p := ⟨g, j * 2, none⟩) (by simp; omega)).trans h4, (hb.frozen (p := ⟨g, j * 2, none⟩) (by simp; omega)).trans h5⟩
theorem Rest.next {wr : World} {g lo hi k : Nat} {L : List (Int × ByteArray)} {u : Value} (h : Rest wr (some ⟨g, 0, none⟩) lo hi k L) : Rest (wr.setCell ⟨g, k * 2, none⟩ u) (some ⟨g, 0, none⟩) lo hi (k + 1) L := by
  intro j hj hl
  obtain ⟨g', hg, h1, h2, h3, h4⟩ := h j (by omega) hl
  obtain rfl : g = g' := by simpa using hg
  refine ⟨g, rfl, h1, h2, ?_, ?_⟩
  · rw [← h3]; exact World.cell?_setCell_other wr _ _ u (by simp <;> omega)
  · rw [← h4]; simp

set_option maxHeartbeats 4000000 in
set_option maxRecDepth 100000 in
theorem plays_most (w : World) (n : Nat) (a1 : Option Addr) (l : List POp) (cap : Nat) (hr : RowS w a1 4 (l.map oc)) (hn : n ≤ 2000) (hl : l.length ≤ 300) :
    Calls Try.prog 3 #[.int .i64 n, .slice a1 l.length cap] w fun e w' => e = .returned (.bool true) ∧ Below w.heap.size w w' := by
  have hv := hide (vast_any (n : Int) a1 l.length cap w (by omega))
  rw [show vastB (n : Int) l.length = false from by unfold vastB; simp; omega] at hv
  go_enter Try.func3, Try.ntmps3
  go_wp2_with fail
  refine hv.out.mono ?_
  rintro r w1 ⟨rfl, rfl⟩
  clear hv
  go_wp2_with fail
  refine (newP_ok n w (by omega)).mono ?_
  rintro r w1 ⟨gt, gm, gc, rfl, T1, u1, u2, u3, k1⟩
  have t1 := hide k1
  have T1 := hide T1
  have v1 := T1.out.box.lt
  have v2 := T1.out.marks.lt
  have v3 := T1.out.cells.lt
  clear k1
  go_wp2_with fail
  refine (rnew_ok n w1 (by omega)).mono ?_
  rintro r w2 ⟨gr, gl, rfl, R2, u4, u5, k2⟩
  have t2 := hide (below_call t1.out k2)
  have D2 : Hid (Duo w2 gt gm gc gr gl n (fun _ => none) (fun _ => none)) := hide ⟨T1.out.below k2, R2, by omega, by omega, by omega, by omega, by omega, by omega⟩
  have v4 := R2.box.lt
  have v5 := R2.cells.lt
  have s1 := t1.out.size
  have s2 := k2.size
  clear k2 R2 T1 t1
  go_wp2_with fail
  clear v1 v2 v3 v4 v5 s2
  go_loopw [9] (fun i wr => ∃ (k : Nat) (st : Nat → Option (Int × ByteArray)), k ≤ l.length ∧ i = .int .i64 k ∧ Duo wr gt gm gc gr gl n st st ∧ Below w.heap.size w wr) (fun i _ => l.length - (intOf i).toNat)
  case atStart => exact ⟨0, _, Nat.zero_le _, rfl, D2.out, t2.out⟩
  case round =>
    clear D2 t2
    obtain ⟨k, st, hk, rfl, D, hbel⟩ := hrel
    have D := hide D
    have sz := hbel.size
    have t0 := hide hbel
    by_cases hlt : k < l.length
    · obtain ⟨b, off, rfl, hbw, hcell⟩ := oc_at (hr.below hbel) (by omega)
      obtain ⟨x0, x1, x2, x3⟩ := hcell k hlt
      obtain ⟨b', off', hbb, hbw', _⟩ := oc_at hr (by omega)
      obtain ⟨rfl, rfl⟩ : b = b' ∧ off = off' := by simpa using hbb
      clear hcell hbb
      generalize l[k] = o at x0 x1 x2 x3
      cases hput : o.put with
      | true =>
        rw [hput] at x0
        clear hput
        go_wp2_with fail
        have nb : b ∉ [gt, gm, gc, gl] := by simp; omega
        have y0 := pcls_cell (gr := gr) (n := n) (st := st) (st' := putS st n o.i o.v) x0 hbw nb
        have y1 := pcls_cell (gr := gr) (n := n) (st := st) (st' := putS st n o.i o.v) x1 hbw nb
        have y2 := pcls_cell (gr := gr) (n := n) (st := st) (st' := putS st n o.i o.v) x2 hbw nb
        have y3 := pcls_cell (gr := gr) (n := n) (st := st) (st' := putS st n o.i o.v) x3 hbw nb
        clear x0 x1 x2 x3
        refine Reg.region (by kernel_rfl) 32 [17, 29] (PCls gt gm gc gr gl n st (putS st n o.i o.v) wr) (by kernel_rfl) (by kernel_rfl) (⟨(Foot.refl _ _).drew, D.out.foot0 (Below.refl _ _).drew⟩) ?_
        iterate 17
          refine Reg.WT.yield (v := ?_) rfl rfl ?_ ?_
          rotate_left
          · intro w' _ hS; have z0_ := y0 _ _ hS; have z1_ := y1 _ _ hS; have z2_ := y2 _ _ hS; have z3_ := y3 _ _ hS; go_simp; (try go_bits); (first | rfl | rw [if_pos (by omega)])
          simp only [Act.put, List.setIfInBounds_toArray, List.set_cons_zero, List.set_cons_succ]
        refine Reg.WT.call (v := ?_) (f := ?_) (args := ?_) rfl rfl ?_ ?_ ?_
        rotate_left 3
        · intro w2; go_simp; exact ⟨by rfl, by rfl⟩
        · intro w2 hS; exact pcls_first hS
        simp only [Act.put, List.setIfInBounds_toArray, List.set_cons_zero, List.set_cons_succ]
        iterate 11
          refine Reg.WT.yield (v := ?_) rfl rfl ?_ ?_
          rotate_left
          · intro w' _ hS; have z0_ := y0 _ _ hS; have z1_ := y1 _ _ hS; have z2_ := y2 _ _ hS; have z3_ := y3 _ _ hS; go_simp; (try go_bits); (first | rfl | rw [if_pos (by omega)])
          simp only [Act.put, List.setIfInBounds_toArray, List.set_cons_zero, List.set_cons_succ]
        refine Reg.WT.call (v := ?_) (f := ?_) (args := ?_) rfl rfl ?_ ?_ ?_
        rotate_left 3
        · intro w2; go_simp; exact ⟨by rfl, by rfl⟩
        · intro w2 hS; exact pcls_second hS
        simp only [Act.put, List.setIfInBounds_toArray, List.set_cons_zero, List.set_cons_succ]
        iterate 2
          refine Reg.WT.yield (v := ?_) rfl rfl ?_ ?_
          rotate_left
          · intro w' _ hS; have z0_ := y0 _ _ hS; have z1_ := y1 _ _ hS; have z2_ := y2 _ _ hS; have z3_ := y3 _ _ hS; go_simp; (try go_bits); (first | rfl | rw [if_pos (by omega)])
          simp only [Act.put, List.setIfInBounds_toArray, List.set_cons_zero, List.set_cons_succ]
        intro w3 hS
        obtain ⟨s, hs⟩ : ∃ s, s = putS st n o.i o.v := ⟨_, rfl⟩
        have D3 : Hid (Duo w3 gt gm gc gr gl n s s) := hide (hs ▸ hS.2)
        have t3 := hide (below_foot t0.out hS.1 (by intro x hx; simp at hx; omega))
        have e1 := y1 _ _ hS
        have hbw3 : b < w3.heap.size := Nat.lt_of_lt_of_le hbw hS.1.size
        clear y0 y1 y2 y3 hS hs
        go_wp2_with fail
        refine (getP gt gm gc n s o.i w3 D3.out.t).mono ?_
        rintro r w4 ⟨rfl, k4⟩
        have t4 := hide (below_call t3.out k4)
        have D4 := hide (D3.out.foot0 k4)
        have f1 := (k4.cell (p := ⟨b, off + k * 4 + 1, none⟩) hbw3).trans e1
        have s4 := k4.size
        have hbw4 : b < w4.heap.size := Nat.lt_of_lt_of_le hbw3 s4
        clear e1 k4 t3 D3
        simp only [pairV]
        obtain ⟨gv, hgv⟩ : ∃ gv, gv = getV (0, ByteArray.empty) s n o.i := ⟨_, rfl⟩
        obtain ⟨ge, hge⟩ : ∃ ge, ge = getE s n o.i := ⟨_, rfl⟩
        rw [← hgv, ← hge]
        have Hgv := hide hgv
        have Hge := hide hge
        clear hgv hge
        go_wp2_with fail
        obtain ⟨w5, hw5⟩ : ∃ W, W = w4.alloc (Obj.cells #[Value.int IntKind.i64 gv.fst, Value.string gv.snd] 30) := ⟨_, rfl⟩
        have B5 : Hid (Blk w5 w4.heap.size 30 #[.int .i64 gv.1, .string gv.2]) := hide (hw5 ▸ Blk.new w4 30 _)
        have t5 : Hid (Below w.heap.size w w5) := hide (hw5 ▸ t4.out.alloc t4.out.size _)
        have D5 : Hid (Duo w5 gt gm gc gr gl n s s) := hide (hw5 ▸ D4.out.foot0 ((Below.refl _ _).alloc (Nat.le_refl _) _))
        rw [← hw5]
        clear hw5 t4 D4 f1
        refine (rget_any gr gl n s o.i w5 D5.out.r).mono ?_
        rintro r w6 ⟨rfl, k6⟩
        simp only [pairV]
        rw [← Hgv.out, ← Hge.out]
        have t6 := hide (below_call t5.out k6)
        have D6 := hide (D5.out.foot0 k6)
        have B6 := hide (B5.out.below k6 B5.out.lt)
        clear k6 t5 D5 B5
        go_wp2_with fail
        obtain ⟨w7, hw7⟩ : ∃ W, W = w6.alloc (Obj.cells #[Value.int IntKind.i64 gv.fst, Value.string gv.snd] 30) := ⟨_, rfl⟩
        have G7 : Hid (Blk w7 w6.heap.size 30 #[.int .i64 gv.1, .string gv.2]) := hide (hw7 ▸ Blk.new w6 30 _)
        have t7 : Hid (Below w.heap.size w w7) := hide (hw7 ▸ t6.out.alloc t6.out.size _)
        have D7 : Hid (Duo w7 gt gm gc gr gl n s s) := hide (hw7 ▸ D6.out.foot0 ((Below.refl _ _).alloc (Nat.le_refl _) _))
        have B7 : Hid (Blk w7 w4.heap.size 30 #[.int .i64 gv.1, .string gv.2]) := hide (hw7 ▸ B6.out.alloc _)
        rw [← hw7]
        clear hw7 t6 D6 B6 Hgv Hge
        have g0 := keepc (p := ⟨w6.heap.size, 0, none⟩) G7.out.lt (G7.out.cell 0)
        have g1 := keepc (p := ⟨w6.heap.size, 1, none⟩) G7.out.lt (G7.out.cell 1)
        have h0 := keepc (p := ⟨w4.heap.size, 0, none⟩) B7.out.lt (B7.out.cell 0)
        have h1 := keepc (p := ⟨w4.heap.size, 1, none⟩) B7.out.lt (B7.out.cell 1)
        have i0 := keepc (p := ⟨gr, 0, none⟩) D7.out.r.box.lt (D7.out.r.box.cell 0)
        refine Reg.region (by kernel_rfl) 25 [10, 12, 17] (fun _ w' => Below w7.heap.size w7 w') (by kernel_rfl) (by kernel_rfl) (Below.refl _ _).drew ?_
        iterate 10
          refine Reg.WT.yield (v := ?_) rfl rfl ?_ ?_
          rotate_left
          · intro w' _ hS; go_simp; (try go_bits); (first | rfl | rw [if_pos (by omega)])
          simp only [Act.put, List.setIfInBounds_toArray, List.set_cons_zero, List.set_cons_succ]
        refine Reg.WT.call (v := ?_) (f := ?_) (args := ?_) rfl rfl ?_ ?_ ?_
        rotate_left 3
        · intro w2; go_simp; exact ⟨by rfl, by rfl⟩
        · intro w2 hS; refine (leftP gt gm gc n s w2 (D7.out.t.below hS)).mono ?_; rintro e w3 ⟨rfl, hb⟩; exact ⟨by rfl, hS.trans (hb.mono hS.size)⟩
        simp only [Act.put, List.setIfInBounds_toArray, List.set_cons_zero, List.set_cons_succ]
        iterate 1
          refine Reg.WT.yield (v := ?_) rfl rfl ?_ ?_
          rotate_left
          · intro w' _ hS; go_simp; (try go_bits); (first | rfl | rw [if_pos (by omega)])
          simp only [Act.put, List.setIfInBounds_toArray, List.set_cons_zero, List.set_cons_succ]
        refine Reg.WT.call (v := ?_) (f := ?_) (args := ?_) rfl rfl ?_ ?_ ?_
        rotate_left 3
        · intro w2; go_simp; exact ⟨by rfl, by rfl⟩
        · intro w2 hS; refine (rleft_any gr gl n s w2 (D7.out.r.below hS)).mono ?_; rintro e w3 ⟨rfl, hb⟩; exact ⟨by rfl, hS.trans (hb.mono hS.size)⟩
        simp only [Act.put, List.setIfInBounds_toArray, List.set_cons_zero, List.set_cons_succ]
        iterate 4
          refine Reg.WT.yield (v := ?_) rfl rfl ?_ ?_
          rotate_left
          · intro w' _ hS; go_simp; (try go_bits); (first | rfl | rw [if_pos (by omega)])
          simp only [Act.put, List.setIfInBounds_toArray, List.set_cons_zero, List.set_cons_succ]
        refine Reg.WT.call (v := ?_) (f := ?_) (args := ?_) rfl rfl ?_ ?_ ?_
        rotate_left 3
        · intro w2; go_simp; exact ⟨by rfl, by rfl⟩
        · intro w2 hS; refine (sizeP gt gm gc n s w2 (D7.out.t.below hS)).mono ?_; rintro e w3 ⟨rfl, hb⟩; exact ⟨by rfl, hS.trans (hb.mono hS.size)⟩
        simp only [Act.put, List.setIfInBounds_toArray, List.set_cons_zero, List.set_cons_succ]
        iterate 7
          refine Reg.WT.yield (v := ?_) rfl rfl ?_ ?_
          rotate_left
          · intro w' _ hS; go_simp; (try go_bits); (first | rfl | rw [if_pos (by omega)])
          simp only [Act.put, List.setIfInBounds_toArray, List.set_cons_zero, List.set_cons_succ]
        intro w8 hS
        have t8 := hide (below_call t7.out hS)
        have D8 := hide (D7.out.foot0 hS)
        clear g0 g1 h0 h1 i0 hS t7 D7 G7 B7
        go_wp2
        go_roundw
        case rel => exact ⟨k + 1, s, hlt, by go_num, D8.out, t8.out⟩
        case measure => simp [intOf]; omega
      | false =>
        rw [hput] at x0
        clear hput
        go_wp2_with fail
        have y0 := keepd x0
        refine Reg.region (by kernel_rfl) 32 [] (fun _ w' => w' = wr.drew) (by kernel_rfl) (by kernel_rfl) rfl ?_
        iterate 32
          first
            | refine Reg.WT.idle rfl rfl ?_
            | (refine Reg.WT.yield (v := ?_) rfl rfl ?_ ?_
               rotate_left
               · intro w' _ hS; go_simp; (try go_bits); (first | rfl | rw [if_pos (by omega)]))
          simp only [Act.put, List.setIfInBounds_toArray, List.set_cons_zero, List.set_cons_succ]
        intro w3 hS
        obtain ⟨s, hs⟩ : ∃ s, s = st := ⟨_, rfl⟩
        have D3 : Hid (Duo w3 gt gm gc gr gl n s s) := hide (hs ▸ hS ▸ D.out.foot0 (Below.refl _ _).drew)
        have t3 : Hid (Below w.heap.size w w3) := hide (hS ▸ t0.out.drew)
        have e1 : w3.cell? ⟨b, off + k * 4 + 1, none⟩ = some (.int .i64 o.i) := by rw [hS]; exact x1
        have hbw3 : b < w3.heap.size := by rw [hS]; exact hbw
        clear x0 x1 x2 x3 hS hs y0
        go_wp2_with fail
        refine (getP gt gm gc n s o.i w3 D3.out.t).mono ?_
        rintro r w4 ⟨rfl, k4⟩
        have t4 := hide (below_call t3.out k4)
        have D4 := hide (D3.out.foot0 k4)
        have f1 := (k4.cell (p := ⟨b, off + k * 4 + 1, none⟩) hbw3).trans e1
        have s4 := k4.size
        have hbw4 : b < w4.heap.size := Nat.lt_of_lt_of_le hbw3 s4
        clear e1 k4 t3 D3
        simp only [pairV]
        obtain ⟨gv, hgv⟩ : ∃ gv, gv = getV (0, ByteArray.empty) s n o.i := ⟨_, rfl⟩
        obtain ⟨ge, hge⟩ : ∃ ge, ge = getE s n o.i := ⟨_, rfl⟩
        rw [← hgv, ← hge]
        have Hgv := hide hgv
        have Hge := hide hge
        clear hgv hge
        go_wp2_with fail
        obtain ⟨w5, hw5⟩ : ∃ W, W = w4.alloc (Obj.cells #[Value.int IntKind.i64 gv.fst, Value.string gv.snd] 30) := ⟨_, rfl⟩
        have B5 : Hid (Blk w5 w4.heap.size 30 #[.int .i64 gv.1, .string gv.2]) := hide (hw5 ▸ Blk.new w4 30 _)
        have t5 : Hid (Below w.heap.size w w5) := hide (hw5 ▸ t4.out.alloc t4.out.size _)
        have D5 : Hid (Duo w5 gt gm gc gr gl n s s) := hide (hw5 ▸ D4.out.foot0 ((Below.refl _ _).alloc (Nat.le_refl _) _))
        rw [← hw5]
        clear hw5 t4 D4 f1
        refine (rget_any gr gl n s o.i w5 D5.out.r).mono ?_
        rintro r w6 ⟨rfl, k6⟩
        simp only [pairV]
        rw [← Hgv.out, ← Hge.out]
        have t6 := hide (below_call t5.out k6)
        have D6 := hide (D5.out.foot0 k6)
        have B6 := hide (B5.out.below k6 B5.out.lt)
        clear k6 t5 D5 B5
        go_wp2_with fail
        obtain ⟨w7, hw7⟩ : ∃ W, W = w6.alloc (Obj.cells #[Value.int IntKind.i64 gv.fst, Value.string gv.snd] 30) := ⟨_, rfl⟩
        have G7 : Hid (Blk w7 w6.heap.size 30 #[.int .i64 gv.1, .string gv.2]) := hide (hw7 ▸ Blk.new w6 30 _)
        have t7 : Hid (Below w.heap.size w w7) := hide (hw7 ▸ t6.out.alloc t6.out.size _)
        have D7 : Hid (Duo w7 gt gm gc gr gl n s s) := hide (hw7 ▸ D6.out.foot0 ((Below.refl _ _).alloc (Nat.le_refl _) _))
        have B7 : Hid (Blk w7 w4.heap.size 30 #[.int .i64 gv.1, .string gv.2]) := hide (hw7 ▸ B6.out.alloc _)
        rw [← hw7]
        clear hw7 t6 D6 B6 Hgv Hge
        have g0 := keepc (p := ⟨w6.heap.size, 0, none⟩) G7.out.lt (G7.out.cell 0)
        have g1 := keepc (p := ⟨w6.heap.size, 1, none⟩) G7.out.lt (G7.out.cell 1)
        have h0 := keepc (p := ⟨w4.heap.size, 0, none⟩) B7.out.lt (B7.out.cell 0)
        have h1 := keepc (p := ⟨w4.heap.size, 1, none⟩) B7.out.lt (B7.out.cell 1)
        have i0 := keepc (p := ⟨gr, 0, none⟩) D7.out.r.box.lt (D7.out.r.box.cell 0)
        refine Reg.region (by kernel_rfl) 25 [10, 12, 17] (fun _ w' => Below w7.heap.size w7 w') (by kernel_rfl) (by kernel_rfl) (Below.refl _ _).drew ?_
        iterate 10
          refine Reg.WT.yield (v := ?_) rfl rfl ?_ ?_
          rotate_left
          · intro w' _ hS; go_simp; (try go_bits); (first | rfl | rw [if_pos (by omega)])
          simp only [Act.put, List.setIfInBounds_toArray, List.set_cons_zero, List.set_cons_succ]
        refine Reg.WT.call (v := ?_) (f := ?_) (args := ?_) rfl rfl ?_ ?_ ?_
        rotate_left 3
        · intro w2; go_simp; exact ⟨by rfl, by rfl⟩
        · intro w2 hS; refine (leftP gt gm gc n s w2 (D7.out.t.below hS)).mono ?_; rintro e w3 ⟨rfl, hb⟩; exact ⟨by rfl, hS.trans (hb.mono hS.size)⟩
        simp only [Act.put, List.setIfInBounds_toArray, List.set_cons_zero, List.set_cons_succ]
        iterate 1
          refine Reg.WT.yield (v := ?_) rfl rfl ?_ ?_
          rotate_left
          · intro w' _ hS; go_simp; (try go_bits); (first | rfl | rw [if_pos (by omega)])
          simp only [Act.put, List.setIfInBounds_toArray, List.set_cons_zero, List.set_cons_succ]
        refine Reg.WT.call (v := ?_) (f := ?_) (args := ?_) rfl rfl ?_ ?_ ?_
        rotate_left 3
        · intro w2; go_simp; exact ⟨by rfl, by rfl⟩
        · intro w2 hS; refine (rleft_any gr gl n s w2 (D7.out.r.below hS)).mono ?_; rintro e w3 ⟨rfl, hb⟩; exact ⟨by rfl, hS.trans (hb.mono hS.size)⟩
        simp only [Act.put, List.setIfInBounds_toArray, List.set_cons_zero, List.set_cons_succ]
        iterate 4
          refine Reg.WT.yield (v := ?_) rfl rfl ?_ ?_
          rotate_left
          · intro w' _ hS; go_simp; (try go_bits); (first | rfl | rw [if_pos (by omega)])
          simp only [Act.put, List.setIfInBounds_toArray, List.set_cons_zero, List.set_cons_succ]
        refine Reg.WT.call (v := ?_) (f := ?_) (args := ?_) rfl rfl ?_ ?_ ?_
        rotate_left 3
        · intro w2; go_simp; exact ⟨by rfl, by rfl⟩
        · intro w2 hS; refine (sizeP gt gm gc n s w2 (D7.out.t.below hS)).mono ?_; rintro e w3 ⟨rfl, hb⟩; exact ⟨by rfl, hS.trans (hb.mono hS.size)⟩
        simp only [Act.put, List.setIfInBounds_toArray, List.set_cons_zero, List.set_cons_succ]
        iterate 7
          refine Reg.WT.yield (v := ?_) rfl rfl ?_ ?_
          rotate_left
          · intro w' _ hS; go_simp; (try go_bits); (first | rfl | rw [if_pos (by omega)])
          simp only [Act.put, List.setIfInBounds_toArray, List.set_cons_zero, List.set_cons_succ]
        intro w8 hS
        have t8 := hide (below_call t7.out hS)
        have D8 := hide (D7.out.foot0 hS)
        clear g0 g1 h0 h1 i0 hS t7 D7 G7 B7
        go_wp2
        go_roundw
        case rel => exact ⟨k + 1, s, hlt, by go_num, D8.out, t8.out⟩
        case measure => simp [intOf]; omega
    · obtain rfl : k = l.length := by omega
      obtain ⟨wo, rfl⟩ : ∃ wo : World, wo = wr := ⟨_, rfl⟩
      have lt1 := D.out.t.box.lt
      have lt2 := D.out.t.marks.lt
      have lt3 := D.out.t.cells.lt
      have lt4 := D.out.r.box.lt
      have lt5 := D.out.r.cells.lt
      have hal := allL_le st n
      go_wp2_with fail
      refine (all_P gt gm gc n st wo D.out.t).mono ?_
      rintro r w3 ⟨xa, xc, rfl, X3, k3⟩
      have t3 := hide (below_call t0.out k3)
      have D3 := hide (D.out.foot0 k3)
      have z3 := k3.size
      have X3 := hide X3
      clear k3 D t0
      obtain ⟨L, hL⟩ : ∃ L, L = allL st n := ⟨_, rfl⟩
      obtain ⟨ae, hae⟩ : ∃ ae, ae = allE st n := ⟨_, rfl⟩
      rw [← hL, ← hae]
      rw [← hL] at X3 hal
      have HL := hide hL
      have HE := hide hae
      clear hL hae
      go_wp2_with fail
      refine (rall_P gr gl n st w3 D3.out.r).mono ?_
      rintro r w4 ⟨ya, yc, rfl, Y4, k4⟩
      rw [← HL.out] at Y4
      rw [← HL.out, ← HE.out]
      have t4 := hide (below_call t3.out k4)
      have D4 := hide (D3.out.foot0 k4)
      have X4 := hide (X3.out.below k4)
      have R4 := hide (Rest.start X3.out k4)
      have z4 := k4.size
      have Y4 := hide Y4
      clear k4 D3 t3 X3
      go_wp2_with fail
      refine (same_eq xa ya L.length xc yc L w4 X4.out.1 Y4.out.1 rfl).mono ?_
      rintro r w5 ⟨rfl, k5⟩
      have t5 := hide (below_call t4.out k5)
      have D5 := hide (D4.out.foot0 k5)
      have Y5 := hide (Y4.out.below k5)
      have R5 := hide (R4.out.keepb k5 z4)
      have z5 := k5.size
      clear k5 D4 t4 X4 Y4 R4
      go_wp2_with fail
      go_loopw [18] (fun i wq => ∃ k : Nat, k ≤ L.length ∧ i = .int .i64 k ∧ Duo wq gt gm gc gr gl n st st ∧ Below w.heap.size w wq ∧ RowG wq ya 2 w3.heap.size (L.map pc) ∧ Rest wq xa wo.heap.size w3.heap.size k L) (fun i _ => L.length - (intOf i).toNat)
      case atStart => exact ⟨0, Nat.zero_le _, rfl, D5.out, t5.out, Y5.out, R5.out⟩
      case round =>
        clear D5 t5 Y5 R5
        obtain ⟨k, hk, rfl, D, hbel, Y, R⟩ := hrel
        have D := hide D
        have t0 := hide hbel
        have Y := hide Y
        have R := hide R
        by_cases hlt : k < L.length
        · obtain ⟨g, rfl, hg1, hg2, c0, f0⟩ := R.out k (Nat.le_refl _) hlt
          generalize L[k].1 = x at c0
          go_wp2
          go_roundw
          case rel =>
            refine ⟨k + 1, hlt, by go_num, ?_, t0.out.setCell (by simp; omega) _, ?_, R.out.next⟩
            · have hf : Foot [g] wr (wr.setCell ⟨g, k * 2, none⟩ (.int .i64 (wrap64 (x + 1)))) := (Foot.refl _ _).setCell (.inl (by simp)) _
              exact ⟨D.out.t.foot hf (by simp; omega) (by simp; omega) (by simp; omega), D.out.r.foot hf (by simp; omega) (by simp; omega), D.out.a1, D.out.a2, D.out.a3, D.out.b1, D.out.b2, D.out.b3⟩
            · exact Y.out.keep (by simp) (fun q hq _ => Below.heap_setCell _ _ _ _ (by simp; omega))
          case measure => simp [intOf]; omega
        · obtain rfl : k = L.length := by omega
          go_wp2_with fail
          refine (all_P gt gm gc n st wr D.out.t).mono ?_
          rintro r w6 ⟨za, zc, rfl, Z6, k6⟩
          rw [← HL.out] at Z6
          rw [← HL.out, ← HE.out]
          have t6 := hide (below_call t0.out k6)
          have Y6 := hide (Y.out.below k6)
          have Z6 := hide Z6
          clear k6 t0 Y D R
          go_wp2_with fail
          refine (same_eq za ya L.length zc yc L w6 Z6.out.1 Y6.out.1 rfl).mono ?_
          rintro r w7 ⟨rfl, k7⟩
          have t7 := hide (below_call t6.out k7)
          clear k7 t6 Y6 Z6
          go_wp2_with fail
          refine (works_any _).mono ?_
          rintro e w9 ⟨rfl, k9⟩
          have t9 := hide (below_call t7.out k9)
          clear k9 t7
          go_wp2
          go_returns
          exact ⟨rfl, t9.out⟩

set_option maxHeartbeats 1000000 in
set_option maxRecDepth 100000 in
theorem walk_TablePlays (w : World) (n : Int) (_hw : (Lit.int .i64 n).wf = true) (a1 : Option Addr) (l : List POp) (cap : Nat) (hr : RowS w a1 4 (l.map oc)) (_h1 : ∀ f ∈ l, (Lit.int .i64 f.i).wf = true) (hc : l.length ≤ cap) (hm : cap ≤ maxLen) :
    Calls Try.prog 3 #[.int .i64 n, .slice a1 l.length cap] w fun e w' => e = .returned (.bool true) ∧ Below w.heap.size w w' := by
  unfold maxLen at hm
  have hv := hide (vast_any n a1 l.length cap w (by omega))
  by_cases hb : 300 < l.length ∨ (2000 < n ∧ n ≤ 65536)
  · rw [show vastB n l.length = true from by unfold vastB; simpa using hb] at hv
    clear hb
    go_enter Try.func3, Try.ntmps3
    go_wp2_with fail
    refine hv.out.mono ?_
    rintro r w1 ⟨rfl, rfl⟩
    clear hv
    go_wp2_with fail
    refine (works_any _).mono ?_
    rintro e w9 ⟨rfl, k9⟩
    have t9 := hide (below_call (Below.refl _ _) k9)
    clear k9
    go_wp2
    go_returns
    exact ⟨rfl, t9.out⟩
  by_cases hn : n < 0 ∨ 65536 < n
  · rw [show vastB n l.length = false from by unfold vastB; simpa using hb] at hv
    have HN := hide hn
    clear hb hn
    go_enter Try.func3, Try.ntmps3
    go_wp2_with fail
    refine hv.out.mono ?_
    rintro r w1 ⟨rfl, rfl⟩
    clear hv
    go_wp2_with fail
    refine (newP_bad n w HN.out).mono ?_
    rintro r w1 ⟨rfl, rfl⟩
    go_wp2_with fail
    refine (rnew_bad n w HN.out).mono ?_
    rintro r w1 ⟨rfl, rfl⟩
    go_wp2_with fail
    refine (works_any _).mono ?_
    rintro e w9 ⟨rfl, k9⟩
    have t9 := hide (below_call (Below.refl _ _) k9)
    clear k9
    go_wp2
    go_returns
    exact ⟨rfl, t9.out⟩
  obtain ⟨m, rfl⟩ := Int.eq_ofNat_of_zero_le (show 0 ≤ n by omega)
  exact plays_most w m a1 l cap hr (by omega) (by omega)
end Go.Proofs.Ytoannafiemnijaa
