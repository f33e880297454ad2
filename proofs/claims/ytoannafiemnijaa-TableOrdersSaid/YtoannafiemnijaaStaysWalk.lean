/- The walk of TableStays. -/
import Derived.Test.YtoannafiemnijaaAllAny
namespace Go.Proofs.Ytoannafiemnijaa
open Go.RowKit

structure Fst (l : List POp) (st : Nat → Option (Int × ByteArray)) (F : List Int) (n : Nat) : Prop where
  len : F.length = n
  at_ : ∀ k (h : k < F.length), (st k = none ∧ F[k] = -1) ∨ ∃ i, ∃ hi : i < l.length, F[k] = (i : Int) ∧ st k = some l[i].v
theorem Fst.start (l : List POp) (n : Nat) : Fst l (fun _ => none) (List.replicate n (-1)) n := ⟨by simp, fun k h => .inl ⟨rfl, by simp⟩⟩
theorem Fst.next {l : List POp} {st : Nat → Option (Int × ByteArray)} {F : List Int} {n q i : Nat} (h : Fst l st F n) (hi : i < l.length) : Fst l (put st q l[i].v) (F.set q i) n := by
  refine ⟨by rw [List.length_set]; exact h.len, fun k hk => ?_⟩
  rw [List.length_set] at hk
  by_cases e : k = q
  · subst e
    exact .inr ⟨i, hi, by simp, by simp [put]⟩
  · have := h.at_ k hk
    rw [List.getElem_set_ne (Ne.symm e), show put st q l[i].v k = st k from if_neg e]
    exact this
section
variable {gt gm gc n : Nat} {st : Nat → Option (Int × ByteArray)} {w : World}
theorem put_at {i : Int} {v : Int × ByteArray} {e : Int} {s' : Nat → Option (Int × ByteArray)} (h : Tab kP w gt gm gc n st) (hE : putE st n i = e) (hS : putS st n i v = s') :
    Calls Try.prog 11 #[.pointer (some ⟨gt, 0, none⟩), .int .i64 i, .agg #[.int .i64 v.1, .string v.2]] w fun r w' => r = .returned (.int .i64 e) ∧ Tab kP w' gt gm gc n s' ∧ Foot [gt, gm, gc] w w' := by
  subst hE hS; exact putP gt gm gc n st i v w h
theorem left_at {x : Int} (h : Tab kP w gt gm gc n st) (hx : (left st n : Int) = x) : Calls Try.prog 15 #[.pointer (some ⟨gt, 0, none⟩)] w fun r w' => r = .returned (.int .i64 x) ∧ Below w.heap.size w w' := by
  subst hx; exact leftP gt gm gc n st w h
theorem get_at_none {k : Nat} (h : Tab kP w gt gm gc n st) (hk : k < n) (hs : st k = none) : Calls Try.prog 13 #[.pointer (some ⟨gt, 0, none⟩), .int .i64 k] w fun r w' => r = .returned (.tuple #[.agg #[.int .i64 0, .string ByteArray.empty], .int .i64 4]) ∧ Below w.heap.size w w' := by
  refine (getP gt gm gc n st k w h).mono fun r w' hh => ?_
  obtain ⟨rfl, hb⟩ := hh
  have e1 : getV (0, ByteArray.empty) st n (k : Int) = (0, ByteArray.empty) := by unfold getV; rw [if_neg (by omega)]; simp [hs]
  have e2 : getE st n (k : Int) = 4 := by unfold getE; rw [if_neg (by omega)]; simp [hs]
  rw [e1, e2]
  exact ⟨rfl, hb⟩
theorem get_at_some {k : Nat} {u : Int × ByteArray} (h : Tab kP w gt gm gc n st) (hk : k < n) (hs : st k = some u) : Calls Try.prog 13 #[.pointer (some ⟨gt, 0, none⟩), .int .i64 k] w fun r w' => r = .returned (.tuple #[.agg #[.int .i64 u.1, .string u.2], .int .i64 0]) ∧ Below w.heap.size w w' := by
  refine (getP gt gm gc n st k w h).mono fun r w' hh => ?_
  obtain ⟨rfl, hb⟩ := hh
  have e1 : getV (0, ByteArray.empty) st n (k : Int) = u := by unfold getV; rw [if_neg (by omega)]; simp [hs]
  have e2 : getE st n (k : Int) = 0 := by unfold getE; rw [if_neg (by omega)]; simp [hs]
  rw [e1, e2]
  exact ⟨rfl, hb⟩
end
def half (n k : Nat) : List Int := List.replicate k (-1) ++ List.replicate (n - k) 0
theorem half_set {n k : Nat} (h : k < n) : (half n k).set k (-1) = half n (k + 1) := by
  unfold half
  apply List.ext_getElem
  · simp; omega
  · intro i h1 h2
    simp only [List.length_set, List.length_append, List.length_replicate] at h1
    rw [List.getElem_set]
    simp only [List.getElem_append, List.length_replicate, List.getElem_replicate]
    rcases Nat.lt_trichotomy i k with h | h | h
    · rw [if_neg (by omega), dif_pos h, dif_pos (by omega)]
    · rw [if_pos (by omega), dif_pos (by omega)]
    · rw [if_neg (by omega), dif_neg (by omega), dif_neg (by omega)]
theorem half_len (n k : Nat) (h : k ≤ n) : (half n k).length = n := by unfold half; simp; omega
theorem info3 : (Try.prog.info? 3).map (fun i => (i.zero, i.size, i.bytes)) = some (some (.int .i64 0), 1, 8) := by kernel_rfl

set_option maxHeartbeats 4000000 in
set_option maxRecDepth 100000 in
theorem stays_most (w : World) (n : Nat) (a1 : Option Addr) (l : List POp) (cap : Nat) (hr : RowS w a1 4 (l.map oc)) (hn : n ≤ 255) (hl : l.length ≤ 300) :
    Calls Try.prog 4 #[.int .u8 n, .slice a1 l.length cap] w fun e w' => e = .returned (.bool true) ∧ Below w.heap.size w w' := by
  obtain ⟨i0, hi, hz0, hz1, hz2⟩ := info_parts info3
  have hmk := fun W => run_make1 (P := Try.prog) 47 3 Try.underlying47 hi hz0 hz1 rfl hz2 n (by omega) (by omega) W
  go_enter Try.func4, Try.ntmps4
  go_wp2_with fail
  refine (newP_ok n w (by omega)).mono ?_
  rintro r w1 ⟨gt, gm, gc, rfl, T1, u1, u2, u3, k1⟩
  have t1 := hide k1
  have T1 := hide T1
  have v1 := T1.out.box.lt
  have v2 := T1.out.marks.lt
  have v3 := T1.out.cells.lt
  have s1 := k1.size
  clear k1
  go_wp2_with fail
  obtain ⟨gf, hgf⟩ : ∃ gf, gf = w1.heap.size := ⟨_, rfl⟩
  have B2 := Blk.new w1 3 (List.replicate n (Value.int .i64 0)).toArray
  have t2 : Below w.heap.size w (w1.alloc (.cells (List.replicate n (Value.int .i64 0)).toArray 3)) := t1.out.alloc s1 _
  have T2 := T1.out.below ((Below.refl _ _).alloc (Nat.le_refl _) (.cells (List.replicate n (Value.int .i64 0)).toArray 3))
  have h0 : (List.replicate n (Value.int .i64 0)) = ints (half n 0) := by simp [half, ints]
  rw [h0] at B2 T2 t2
  rw [show Array.replicate n (Value.int .i64 0) = (ints (half n 0)).toArray from by rw [← List.toArray_replicate, h0]]
  rw [← hgf] at B2 ⊢
  rw [← hgf] at v1 v2 v3 s1
  have B2 := hide B2
  have T2 := hide T2
  have t2 := hide t2
  clear hgf h0 T1 t1
  go_loopw [8] (fun i wr => ∃ k : Nat, k ≤ n ∧ i = .int .i64 k ∧ Tab kP wr gt gm gc n (fun _ => none) ∧ Blk wr gf 3 (ints (half n k)).toArray ∧ Below w.heap.size w wr) (fun i _ => n - (intOf i).toNat)
  case atStart => exact ⟨0, Nat.zero_le _, rfl, T2.out, B2.out, t2.out⟩
  case round =>
    clear T2 B2 t2
    obtain ⟨k, hk, rfl, T, B, hbel⟩ := hrel
    by_cases hlt : k < n
    · have c0 := blk_int (i := k) B (by rw [half_len _ _ hk]; exact hlt)
      have f0 := B.frozen k
      have B' := hide (blk_int_set B k (-1))
      rw [half_set hlt] at B'
      have T' := hide (T.foot ((Foot.refl [gf] wr).setCell (p := ⟨gf, k, none⟩) (.inl (by simp)) (.int .i64 (-1))) (by simp; omega) (by simp; omega) (by simp; omega))
      have t' := hide (hbel.setCell (p := ⟨gf, k, none⟩) (by simp; omega) (.int .i64 (-1)))
      generalize (half n k)[k]'(by rw [half_len _ _ hk]; exact hlt) = x at c0
      go_wp2
      go_roundw
      case rel => exact ⟨k + 1, hlt, by go_num, T'.out, B'.out, t'.out⟩
      case measure => simp [intOf]; omega
    · obtain rfl : k = n := by omega
      obtain ⟨wo, rfl⟩ : ∃ wo : World, wo = wr := ⟨_, rfl⟩
      have hh : half k k = List.replicate k (-1) := by simp [half]
      rw [hh] at B
      have hln := left_none (V := Int × ByteArray) k
      have HLN := hide hln
      have T := hide T
      have B := hide B
      have t := hide hbel
      clear hh hln hbel
      go_wp2_with fail
      clear hmk
      go_loopw [9, 10] (fun c i wr => ∃ (j : Nat) (st : Nat → Option (Int × ByteArray)) (F : List Int), j ≤ l.length ∧ i = .int .i64 j ∧ c = .int .i64 (left st k) ∧ Fst l st F k ∧ Tab kP wr gt gm gc k st ∧ Blk wr gf 3 (ints F).toArray ∧ Below w.heap.size w wr)
        (fun _ i _ => l.length - (intOf i).toNat)
      case atStart => exact ⟨0, _, _, Nat.zero_le _, rfl, by rw [HLN.out], Fst.start l k, T.out, B.out, t.out⟩
      case round =>
        clear T B t HLN
        obtain ⟨j, st, F, hj, rfl, rfl, HF, T, B, hbel⟩ := hrel
        have T := hide T
        have HF := hide HF
        have t := hide hbel
        have hll := left_le st k
        have HFl := hide HF.out.len
        have B := hide B
        by_cases hlt : j < l.length
        · obtain ⟨b, off, rfl, hbw, hcell⟩ := oc_at (hr.below hbel) (by omega)
          obtain ⟨x0, x1, x2, x3⟩ := hcell j hlt
          clear hcell hbel
          obtain ⟨o, ho⟩ : ∃ o, o = l[j] := ⟨_, rfl⟩
          rw [← ho] at x0 x1 x2 x3
          have HO := hide ho
          clear ho
          by_cases hout : o.i < 0 ∨ (k : Int) ≤ o.i
          · have e1 : putE st k o.i = 1 := if_pos hout
            have e2 : putS st k o.i o.v = st := by unfold putS; rw [if_neg (by rw [e1]; decide)]
            have P := hide (put_at T.out e1 e2)
            clear e1 e2
            by_cases hneg : o.i < 0
            · clear hout
              go_wp2_with fail
              refine P.out.mono ?_
              rintro r w5 ⟨rfl, T5, k5⟩
              have t5 := hide (below_foot t.out k5 (by intro x hx; simp at hx; omega))
              have B5 := hide (B.out.foot k5 (by simp; omega))
              have T5 := hide T5
              clear k5
              go_wp2_with fail
              refine (left_at T5.out rfl).mono ?_
              rintro r w6 ⟨rfl, k6⟩
              have t6 := hide (below_call t5.out k6)
              have T6 := hide (T5.out.below k6)
              have B6 := hide (B5.out.below k6 B5.out.lt)
              clear k6
              go_wp2
              go_roundw
              case rel => exact ⟨j + 1, st, F, hlt, by go_num, rfl, HF.out, T6.out, B6.out, t6.out⟩
              case measure => simp [intOf]; omega
            · have hge : (k : Int) ≤ o.i := by omega
              clear hout
              go_wp2_with fail
              refine P.out.mono ?_
              rintro r w5 ⟨rfl, T5, k5⟩
              have t5 := hide (below_foot t.out k5 (by intro x hx; simp at hx; omega))
              have B5 := hide (B.out.foot k5 (by simp; omega))
              have T5 := hide T5
              clear k5
              go_wp2_with fail
              refine (left_at T5.out rfl).mono ?_
              rintro r w6 ⟨rfl, k6⟩
              have t6 := hide (below_call t5.out k6)
              have T6 := hide (T5.out.below k6)
              have B6 := hide (B5.out.below k6 B5.out.lt)
              clear k6
              go_wp2
              go_roundw
              case rel => exact ⟨j + 1, st, F, hlt, by go_num, rfl, HF.out, T6.out, B6.out, t6.out⟩
              case measure => simp [intOf]; omega
          · obtain ⟨q, hq⟩ := Int.eq_ofNat_of_zero_le (show 0 ≤ o.i by omega)
            have hqk : q < k := by omega
            rw [hq] at x1
            clear hout
            rcases HF.out.at_ q (by rw [HFl.out]; exact hqk) with ⟨hs, hFq⟩ | ⟨i, hil, hFq, hs⟩
            · have e1 : putE st k (q : Int) = 0 := by unfold putE; rw [if_neg (by omega)]; simp [hs]
              have e2 : putS st k (q : Int) o.v = put st q o.v := by unfold putS; rw [if_pos e1]; rfl
              have P := hide (put_at (v := o.v) T.out e1 e2)
              have hl1 := left_put st q o.v hs k hqk
              have HL1 := hide (show ((left (put st q o.v) k : Nat) : Int) = (left st k : Int) - 1 by omega)
              have HF' := HF.out.next (q := q) hlt
              rw [← HO.out] at HF'
              have HF' := hide HF'
              have hpos : 1 ≤ left st k := by omega
              have c0 := blk_int (i := q) B.out (by rw [HFl.out]; exact hqk)
              rw [hFq] at c0
              have HC := hide c0
              clear e1 e2 hs hFq hl1 hq c0
              go_wp2_with fail
              refine P.out.mono ?_
              rintro r w5 ⟨rfl, T5, k5⟩
              have t5 := hide (below_foot t.out k5 (by intro x hx; simp at hx; omega))
              have c1 := (k5.cell (p := ⟨gf, q, none⟩) B.out.lt (by simp; omega)).trans HC.out
              have B5 := hide (B.out.foot k5 (by simp; omega))
              have f1 := B5.out.frozen q
              have T5 := hide (T5.foot ((Foot.refl [gf] w5).setCell (p := ⟨gf, q, none⟩) (.inl (by simp)) (.int .i64 j)) (by simp; omega) (by simp; omega) (by simp; omega))
              have B5' := hide (blk_int_set B5.out q j)
              have t5' := hide (t5.out.setCell (p := ⟨gf, q, none⟩) (by simp; omega) (.int .i64 j))
              clear k5
              go_wp2_with fail
              refine (left_at T5.out HL1.out).mono ?_
              rintro r w6 ⟨rfl, k6⟩
              have t6 := hide (below_call t5'.out k6)
              have T6 := hide (T5.out.below k6)
              have B6 := hide (B5'.out.below k6 B5'.out.lt)
              clear k6
              go_wp2
              go_roundw
              case rel => exact ⟨j + 1, _, _, hlt, by go_num, by rw [HL1.out], HF'.out, T6.out, B6.out, t6.out⟩
              case measure => simp [intOf]; omega
            · have e1 : putE st k (q : Int) = 3 := by unfold putE; rw [if_neg (by omega)]; simp [hs]
              have e2 : putS st k (q : Int) o.v = st := by unfold putS; rw [if_neg (by rw [e1]; decide)]
              have P := hide (put_at (v := o.v) T.out e1 e2)
              have c0 := blk_int (i := q) B.out (by rw [HFl.out]; exact hqk)
              rw [hFq] at c0
              have HC := hide c0
              clear e1 e2 hs hFq hq c0
              go_wp2_with fail
              refine P.out.mono ?_
              rintro r w5 ⟨rfl, T5, k5⟩
              have t5 := hide (below_foot t.out k5 (by intro x hx; simp at hx; omega))
              have c1 := (k5.cell (p := ⟨gf, q, none⟩) B.out.lt (by simp; omega)).trans HC.out
              have B5 := hide (B.out.foot k5 (by simp; omega))
              have T5 := hide T5
              clear k5
              go_wp2_with fail
              refine (left_at T5.out rfl).mono ?_
              rintro r w6 ⟨rfl, k6⟩
              have t6 := hide (below_call t5.out k6)
              have T6 := hide (T5.out.below k6)
              have B6 := hide (B5.out.below k6 B5.out.lt)
              clear k6
              go_wp2
              go_roundw
              case rel => exact ⟨j + 1, st, F, hlt, by go_num, rfl, HF.out, T6.out, B6.out, t6.out⟩
              case measure => simp [intOf]; omega
        · obtain rfl : j = l.length := by omega
          obtain ⟨wo, rfl⟩ : ∃ wo : World, wo = wr := ⟨_, rfl⟩
          clear hbel
          go_wp2_with fail
          go_loopw [13] (fun i wr => ∃ q : Nat, q ≤ k ∧ i = .int .i64 q ∧ Tab kP wr gt gm gc k st ∧ Blk wr gf 3 (ints F).toArray ∧ Below w.heap.size w wr) (fun i _ => k - (intOf i).toNat)
          case atStart => exact ⟨0, Nat.zero_le _, rfl, T.out, B.out, t.out⟩
          case round =>
            clear T B t
            obtain ⟨q, hq, rfl, T, B, hbel⟩ := hrel
            have T := hide T
            have t := hide hbel
            have B := hide B
            clear hbel
            by_cases hlt : q < k
            · rcases HF.out.at_ q (by rw [HFl.out]; exact hlt) with ⟨hs, hFq⟩ | ⟨i, hil, hFq, hs⟩
              · have P := hide (get_at_none T.out hlt hs)
                have c0 := blk_int (i := q) B.out (by rw [HFl.out]; exact hlt)
                rw [hFq] at c0
                have HC := hide c0
                clear hs hFq c0
                go_wp2_with fail
                refine P.out.mono ?_
                rintro r w5 ⟨rfl, k5⟩
                have t5 := hide (below_call t.out k5)
                have B5 := hide (B.out.below k5 B.out.lt)
                have T5 := hide (T.out.below k5)
                have c1 := (k5.cell (p := ⟨gf, q, none⟩) B.out.lt).trans HC.out
                have hgl := B5.out.lt
                clear k5
                go_wp2_with fail
                obtain ⟨W, hW⟩ : ∃ W, W = w5.alloc (Obj.cells #[Value.int IntKind.i64 0, Value.string ByteArray.empty] 30) := ⟨_, rfl⟩
                have t6 : Hid (Below w.heap.size w W) := hide (hW ▸ t5.out.alloc t5.out.size _)
                have B6 : Hid (Blk W gf 3 (ints F).toArray) := hide (hW ▸ B5.out.alloc _)
                have T6 : Hid (Tab kP W gt gm gc k st) := hide (hW ▸ T5.out.below ((Below.refl _ _).alloc (Nat.le_refl _) _))
                have d1 : W.cell? ⟨gf, q, none⟩ = some (.int .i64 (-1)) := by rw [B6.out.cell, ← B5.out.cell]; exact c1
                rw [← hW]
                clear hW c1
                have d2 := keepd d1
                clear d1
                refine Reg.region (by kernel_rfl) 32 [] (fun _ w' => w' = W.drew) (by kernel_rfl) (by kernel_rfl) rfl ?_
                iterate 32
                  first
                    | refine Reg.WT.idle rfl rfl ?_
                    | (refine Reg.WT.yield (v := ?_) rfl rfl ?_ ?_
                       rotate_left
                       · intro w' _ hS; go_simp; (try go_bits); (first | rfl | rw [if_pos (by omega)]))
                  simp only [Act.put, List.setIfInBounds_toArray, List.set_cons_zero, List.set_cons_succ]
                intro w7 hS
                subst hS
                clear d2
                go_wp2
                go_roundw
                case rel => exact ⟨q + 1, hlt, by go_num, T6.out.below (Below.refl _ _).drew, B6.out.drew, t6.out.drew⟩
                case measure => simp [intOf]; omega
              · obtain ⟨b, off, rfl, hbw, hcell⟩ := oc_at (hr.below t.out) (by omega)
                obtain ⟨_, _, x2, x3⟩ := hcell i hil
                clear hcell
                generalize l[i].v = u at x2 x3 hs
                have P := hide (get_at_some T.out hlt hs)
                have c0 := blk_int (i := q) B.out (by rw [HFl.out]; exact hlt)
                rw [hFq] at c0
                have HC := hide c0
                have X2 := hide x2
                have X3 := hide x3
                clear hs hFq c0 x2 x3
                go_wp2_with fail
                refine P.out.mono ?_
                rintro r w5 ⟨rfl, k5⟩
                have t5 := hide (below_call t.out k5)
                have B5 := hide (B.out.below k5 B.out.lt)
                have T5 := hide (T.out.below k5)
                have c1 := (k5.cell (p := ⟨gf, q, none⟩) B.out.lt).trans HC.out
                have y2 := hide ((k5.cell (p := ⟨b, off + i * 4 + 2, none⟩) hbw).trans X2.out)
                have y3 := hide ((k5.cell (p := ⟨b, off + i * 4 + 3, none⟩) hbw).trans X3.out)
                have hbw5 := Nat.lt_of_lt_of_le hbw k5.size
                have hgl := B5.out.lt
                clear k5
                go_wp2_with fail
                obtain ⟨W, hW⟩ : ∃ W, W = w5.alloc (Obj.cells #[Value.int IntKind.i64 u.fst, Value.string u.snd] 30) := ⟨_, rfl⟩
                have t6 : Hid (Below w.heap.size w W) := hide (hW ▸ t5.out.alloc t5.out.size _)
                have B6 : Hid (Blk W gf 3 (ints F).toArray) := hide (hW ▸ B5.out.alloc _)
                have G6 : Hid (Blk W w5.heap.size 30 #[.int .i64 u.1, .string u.2]) := hide (hW ▸ Blk.new w5 30 _)
                have T6 : Hid (Tab kP W gt gm gc k st) := hide (hW ▸ T5.out.below ((Below.refl _ _).alloc (Nat.le_refl _) _))
                have hbl : Below w5.heap.size w5 W := hW ▸ (Below.refl _ _).alloc (Nat.le_refl _) _
                have d1 := keepd ((hbl.cell (p := ⟨gf, q, none⟩) hgl).trans c1)
                have d2 := keepd ((hbl.cell (p := ⟨b, off + i * 4 + 2, none⟩) hbw5).trans y2.out)
                have d3 := keepd ((hbl.cell (p := ⟨b, off + i * 4 + 3, none⟩) hbw5).trans y3.out)
                have d4 := keepd (G6.out.cell 0)
                have d5 := keepd (G6.out.cell 1)
                rw [← hW]
                clear hW c1 hbl
                refine Reg.region (by kernel_rfl) 32 [] (fun _ w' => w' = W.drew) (by kernel_rfl) (by kernel_rfl) rfl ?_
                iterate 32
                  first
                    | refine Reg.WT.idle rfl rfl ?_
                    | (refine Reg.WT.yield (v := ?_) rfl rfl ?_ ?_
                       rotate_left
                       · intro w' _ hS; go_simp; (try go_bits); (first | rfl | rw [if_pos (by omega)]))
                  simp only [Act.put, List.setIfInBounds_toArray, List.set_cons_zero, List.set_cons_succ]
                intro w7 hS
                subst hS
                clear d1 d2 d3 d4 d5
                go_wp2
                go_roundw
                case rel => exact ⟨q + 1, hlt, by go_num, T6.out.below (Below.refl _ _).drew, B6.out.drew, t6.out.drew⟩
                case measure => simp [intOf]; omega
            · obtain rfl : q = k := by omega
              go_wp2_with fail
              refine (works_any _).mono ?_
              rintro e w9 ⟨rfl, k9⟩
              have t9 := hide (below_call t.out k9)
              clear k9
              go_wp2
              go_returns
              exact ⟨rfl, t9.out⟩

set_option maxHeartbeats 1000000 in
set_option maxRecDepth 100000 in
theorem walk_TableStays (w : World) (n : Int) (hw : (Lit.int .u8 n).wf = true) (a1 : Option Addr) (l : List POp) (cap : Nat) (hr : RowS w a1 4 (l.map oc)) (_h1 : ∀ f ∈ l, (Lit.int .i64 f.i).wf = true) (hc : l.length ≤ cap) (hm : cap ≤ maxLen) :
    Calls Try.prog 4 #[.int .u8 n, .slice a1 l.length cap] w fun e w' => e = .returned (.bool true) ∧ Below w.heap.size w w' := by
  unfold maxLen at hm
  by_cases hb : 300 < l.length
  · clear hw
    go_enter Try.func4, Try.ntmps4
    go_wp2_with fail
    refine (works_any _).mono ?_
    rintro e w9 ⟨rfl, k9⟩
    have t9 := hide (below_call (Below.refl _ _) k9)
    clear k9
    go_wp2
    go_returns
    exact ⟨rfl, t9.out⟩
  have hx : 0 ≤ n ∧ n ≤ 255 := by simpa [Lit.wf, IntKind.min, IntKind.max, IntKind.signed, IntKind.bits] using hw
  obtain ⟨m, rfl⟩ := Int.eq_ofNat_of_zero_le hx.1
  exact stays_most w m a1 l cap hr (by omega) (by omega)
end Go.Proofs.Ytoannafiemnijaa
