/- Walk: the document's Read. Walk: CodecPlays: a tree stands while bytes elsewhere are written over. -/
import Derived.Test.YtmngndmcidbakaaVD
import Derived.Test.YtmngndmcidbakaaSV
import Derived.Test.YtmngndmcidbakaaZJ
namespace Go.Proofs.Ytmngndmcidbakaa
open Go.RowKit
abbrev TZ : Array Value := #[.slice none 0 0, .slice none 0 0, .int .i64 0]
/-- What the document's Read gives. -/
def RR (w : World) (o : Option Tr) (r : Ending) (w' : World) : Prop :=
  Below w.heap.size w w' ∧ match o with
  | some T => ∃ v, r = .returned (.tuple #[v, .int .i64 0]) ∧ TrV w' v T
  | none => r = .returned (.tuple #[.agg TZ, .int .i64 5])
theorem tr_own {W : World} {B j i nc ac : Nat} {nv av : Option Addr} {ns : List Nd} {xs : List Int} {vw : Int} (h1 : ns.length = j) (h2 : xs.length = i) (hN : NO W B (.slice nv j nc) ns) (hO : AO W B (.slice av i ac) xs) (ok : okT ⟨vw, xs, ns⟩) :
    TrV W (.agg #[.slice nv j nc, .slice av i ac, .int .i64 vw]) ⟨vw, xs, ns⟩ := by
  subst h1 h2
  obtain ⟨na, nc', e1, hn1, hn2, hn3⟩ := hN.row
  obtain ⟨aa, ac', e2, ha1, ha2, _, ha3⟩ := own_row hO
  simp only [Value.slice.injEq, true_and] at e1 e2
  obtain ⟨rfl, rfl⟩ := e1
  obtain ⟨rfl, rfl⟩ := e2
  exact ⟨_, _, _, _, rfl, hn1, ha3, ok, hn2, hn3, ha1, ha2⟩
theorem take_next {l b : List Int} {n : Nat} (h1 : n < l.length) (h2 : n < b.length) (h : l.take n = b.take n) : (l[n] = b[n] → l.take (n + 1) = b.take (n + 1)) ∧ (l[n] ≠ b[n] → l ≠ b) := by
  refine ⟨fun e => by rw [List.take_succ_eq_append_getElem h1, List.take_succ_eq_append_getElem h2, h, e], fun e h => ?_⟩
  subst h
  exact e rfl
set_option maxRecDepth 100000 in
set_option maxHeartbeats 4000000 in
theorem rread_any {b : List Int} (a : Option Addr) (c : Nat) (w : World) (hr : BRow w a b) (hb : Bts b) (hn : b.length ≤ 8192) :
    Calls Try.prog 21 #[.slice a b.length c] w (RR w (rdT b)) := by
  obtain ⟨i1, hi, hz0, hz1, hz2⟩ := info_parts info2
  obtain ⟨i2, hi', hy0, hy1, hy2⟩ := info_parts info51
  obtain ⟨W2, hW2⟩ : ∃ W2, W2 = (w.alloc (.cells TZ 35)).alloc (.cells TZ 35) := ⟨_, rfl⟩
  obtain ⟨rb, hrb⟩ : ∃ rb, rb = w.heap.size := ⟨_, rfl⟩
  obtain ⟨tb, htb⟩ : ∃ tb, tb = w.heap.size + 1 := ⟨_, rfl⟩
  have k2 : Below w.heap.size w W2 := by rw [hW2]; exact ((Below.refl _ _).alloc (Nat.le_refl _) _).alloc (by simp) _
  have BR2 : Blk W2 rb 35 TZ := by rw [hW2, hrb]; exact (Blk.new w _ _).alloc _
  have BT2 : Blk W2 tb 35 TZ := by
    rw [hW2, htb]
    have := Blk.new (w.alloc (.cells TZ 35)) 35 TZ
    simpa using this
  have HR := hide hr
  have HB := hide hb
  have hrb2 := BR2.lt
  have htb2 := BT2.lt
  have K2 := hide k2
  have BR2 := hide BR2
  have BT2 := hide BT2
  have BR00 := BR2
  have BT00 := BT2
  have HFIN : Hid (∀ w', Foot [rb] W2 w' → Below w.heap.size w w') := hide (fun w' hf => below_foot K2.out hf (by simp; omega))
  have HRI : Hid (rb ∈ [rb] ∨ W2.heap.size ≤ rb) := hide (by simp)
  have HEQ := hide (rdT_eq hb hn)
  have HLP : Hid (lnP b = match rdN b with
    | some (v, r) => lnP2 b.length v r
    | none => none) := hide rfl
  have HW2 := hide hW2
  have HSB := hide htb
  have HRB := hide hrb
  have hsb3 : rb < tb := by omega
  have HT := hide (rtake_suf a c W2 (hr.below k2) hb (by omega) (Suf.refl b))
  rw [Nat.sub_self] at HT
  clear hr hb hW2 k2 hrb htb
  go_enter Try.func21, Try.ntmps21
  go_upto_region 2 with fail
  change Code.wp _ _ _ _ ((w.alloc (.cells TZ 35)).alloc (.cells TZ 35))
  rw [← HW2.out, ← HSB.out, ← HRB.out]
  cases e1 : rdN b with
  | none =>
    have HN : Hid (rdT b = none) := hide (by rw [HEQ.out, HLP.out, e1])
    rw [e1] at HT
    clear HEQ HLP e1
    go_wp2_with fail
    refine HT.out.mono ?_
    rintro r' w3 ⟨k3, rfl⟩
    have BT := hide (BT2.out.below k3 htb2)
    have BR := hide (BR2.out.below k3 hrb2)
    have F3 := Foot.of_below [rb] k3
    clear HT k3
    have q0 : w3.cell? ⟨tb, 0, none⟩ = some (.slice none 0 0) := BT.out.cell 0
    have q1 : w3.cell? ⟨tb, 1, none⟩ = some (.slice none 0 0) := BT.out.cell 1
    have q2 : w3.cell? ⟨tb, 2, none⟩ = some (.int .i64 0) := BT.out.cell 2
    have q3 : w3.cell? ⟨rb, 0, none⟩ = some (.slice none 0 0) := BR.out.cell 0
    have q4 : w3.cell? ⟨rb, 1, none⟩ = some (.slice none 0 0) := BR.out.cell 1
    have q5 : w3.cell? ⟨rb, 2, none⟩ = some (.int .i64 0) := BR.out.cell 2
    have g3 := BR.out.frozen 0
    have g4 := BR.out.frozen 1
    have g5 := BR.out.frozen 2
    go_wp2_with fail
    have BF : Blk (((w3.setCell ⟨rb, 0, none⟩ (.slice none 0 0)).setCell ⟨rb, 1, none⟩ (.slice none 0 0)).setCell ⟨rb, 2, none⟩ (.int .i64 0)) rb 35 TZ := by
      have := ((BR.out.set_ 0 (.slice none 0 0)).set_ 1 (.slice none 0 0)).set_ 2 (.int .i64 0)
      simpa using this
    refine bodyPost_ret (results_cell2 Try.results21 _ _ rb 35 _ (0, 0) _ rfl BF Try.underlying35 ⟨_, rfl⟩ (by kernel_rfl)) rfl ?_
    refine ⟨HFIN.out _ (((F3.setCell (p := ⟨rb, 0, none⟩) HRI.out _).setCell (p := ⟨rb, 1, none⟩) HRI.out _).setCell (p := ⟨rb, 2, none⟩) HRI.out _), ?_⟩
    rw [HN.out]
    rfl
  | some p1 =>
    obtain ⟨vw, r1⟩ := p1
    have s1 := (rdN_end e1).1
    have HT1 := hide (show lnP b = lnP2 b.length vw r1 by rw [HLP.out, e1])
    rw [e1] at HT
    clear HLP e1
    go_wp2_with fail
    refine HT.out.mono ?_
    rintro r' w3 ⟨k3, rfl⟩
    have T3 := hide k3
    have BT := hide (BT2.out.below k3 htb2)
    have BR := hide (BR2.out.below k3 hrb2)
    have F3 := hide (Foot.of_below [rb] k3)
    have HT := hide (rtake_suf a c w3 (HR.out.below (HFIN.out _ F3.out)) HB.out (by omega) s1)
    clear k3
    cases e2 : rdN r1 with
    | none =>
      have HN : Hid (rdT b = none) := hide (by rw [HEQ.out, HT1.out, lnP2, e2])
      rw [e2] at HT
      clear HEQ HT1 e2
      go_wp2_with fail
      refine HT.out.mono ?_
      rintro r' w4 ⟨k4, rfl⟩
      have BT' := hide (BT.out.below k4 BT.out.lt)
      have BR' := hide (BR.out.below k4 BR.out.lt)
      have F4 := F3.out.trans (Foot.of_below [rb] k4)
      clear HT k4 BT BR
      have q0 : w4.cell? ⟨tb, 0, none⟩ = some (.slice none 0 0) := BT'.out.cell 0
      have q1 : w4.cell? ⟨tb, 1, none⟩ = some (.slice none 0 0) := BT'.out.cell 1
      have q2 : w4.cell? ⟨tb, 2, none⟩ = some (.int .i64 0) := BT'.out.cell 2
      have q3 : w4.cell? ⟨rb, 0, none⟩ = some (.slice none 0 0) := BR'.out.cell 0
      have q4 : w4.cell? ⟨rb, 1, none⟩ = some (.slice none 0 0) := BR'.out.cell 1
      have q5 : w4.cell? ⟨rb, 2, none⟩ = some (.int .i64 0) := BR'.out.cell 2
      have g3 := BR'.out.frozen 0
      have g4 := BR'.out.frozen 1
      have g5 := BR'.out.frozen 2
      go_wp2_with fail
      have BF : Blk (((w4.setCell ⟨rb, 0, none⟩ (.slice none 0 0)).setCell ⟨rb, 1, none⟩ (.slice none 0 0)).setCell ⟨rb, 2, none⟩ (.int .i64 0)) rb 35 TZ := by
        have := ((BR'.out.set_ 0 (.slice none 0 0)).set_ 1 (.slice none 0 0)).set_ 2 (.int .i64 0)
        simpa using this
      refine bodyPost_ret (results_cell2 Try.results21 _ _ rb 35 _ (0, 0) _ rfl BF Try.underlying35 ⟨_, rfl⟩ (by kernel_rfl)) rfl ?_
      refine ⟨HFIN.out _ (((F4.setCell (p := ⟨rb, 0, none⟩) HRI.out _).setCell (p := ⟨rb, 1, none⟩) HRI.out _).setCell (p := ⟨rb, 2, none⟩) HRI.out _), ?_⟩
      rw [HN.out]
      rfl
    | some p2 =>
      obtain ⟨mm, r2⟩ := p2
      have s2 := s1.trans (rdN_end e2).1
      rw [e2] at HT
      by_cases hc : 0 ≤ mm ∧ mm ≤ (b.length : Int)
      · obtain ⟨m, hm⟩ : ∃ m : Nat, mm = m := ⟨mm.toNat, by omega⟩
        have HT2 := hide (show lnP b = match rdL rdN m r2 with
          | some (av, r') => lnP3 b.length vw av r'
          | none => none by rw [HT1.out, lnP2, e2]; dsimp only; rw [if_pos hc, hm, Int.toNat_natCast]; rfl)
        have e3 : decide (mm < 0) = false := by rw [decide_eq_false_iff_not]; omega
        have e4 : decide ((b.length : Int) < mm) = false := by rw [decide_eq_false_iff_not]; omega
        have hm8 : m ≤ 8192 := by omega
        have HM := hide hm
        clear HT1 e2 hc hm
        go_wp2_with fail
        refine HT.out.mono ?_
        rintro r' w4 ⟨k4, rfl⟩
        have BT4 := hide (BT.out.below k4 BT.out.lt)
        have BR4 := hide (BR.out.below k4 BR.out.lt)
        have T4 := hide (below_call T3.out k4)
        clear HT k4 BT BR F3 T3 BT2 BR2
        go_wp2_with fail
        clear e3 e4
        have k5 : Below w4.heap.size w4 (w4.alloc (.cells #[.slice none 0 0, .slice none 0 0, .int .i64 vw] 35)) := (Below.refl _ _).alloc (Nat.le_refl _) _
        have BO5 : Blk (w4.alloc (.cells #[.slice none 0 0, .slice none 0 0, .int .i64 vw] 35)) w4.heap.size 35 #[.slice none 0 0, .slice none 0 0, .int .i64 vw] := Blk.new _ _ _
        have hob : W2.heap.size ≤ w4.heap.size := T4.out.size
        have T5 := hide (below_call T4.out k5)
        generalize w4.alloc (.cells #[.slice none 0 0, .slice none 0 0, .int .i64 vw] 35) = w5 at k5 BO5 T5 ⊢
        generalize w4.heap.size = ob at k5 BO5 hob ⊢
        have BO5 := hide BO5
        have BT0 := hide (show ∀ w', Below W2.heap.size W2 w' → Blk w' tb 35 TZ ∧ Blk w' rb 35 TZ ∧ Foot [rb] W2 w' from fun w' h => ⟨BT00.out.below h htb2, BR00.out.below h hrb2, Foot.of_below _ h⟩)
        clear k5 BT4 BR4 T4
        go_loopw [6, 10] (fun s6 s10 wr => ∃ (i : Nat) (xs q : List Int) (av : Option Addr) (ac : Nat), i ≤ m ∧ s6 = .int .i64 ((b.length - q.length : Nat) : Int) ∧ s10 = .int .i64 i ∧ Hid (xs.length = i) ∧ Hid (Suf b q) ∧ Hid (rdL rdN m r2 = (rdL rdN (m - i) q).map fun p => (xs ++ p.1, p.2)) ∧ Blk wr ob 35 #[.slice none 0 0, .slice av i ac, .int .i64 vw] ∧ AO wr W2.heap.size (.slice av i ac) xs ∧ Below W2.heap.size W2 wr) (fun _ s10 _ => m - (intOf s10).toNat)
        case atStart => exact ⟨0, [], r2, none, 0, Nat.zero_le _, rfl, rfl, hide rfl, hide s2, hide (by cases rdL rdN (m - 0) r2 <;> rfl), BO5.out, World.ownsRow_nil _ _ _ _, T5.out⟩
        case round =>
          clear BO5 T5
          obtain ⟨i, xs, q, av, ac, him, rfl, rfl, HXS, HSF, HRD, hB, hO, hb⟩ := hrel
          have B := hide hB
          have O := hide hO
          have TR := hide hb
          clear hB hO hb
          by_cases hlt : i < m
          · have d1 : decide ((i : Int) < mm) = true := by rw [decide_eq_true_eq]; have := HM.out; omega
            have HT := hide (rtake_suf a c wr (HR.out.below (HFIN.out _ (Foot.of_below _ TR.out))) HB.out (by omega) HSF.out)
            cases e3 : rdN q with
            | none =>
              have HN : Hid (rdT b = none) := hide (by rw [HEQ.out, HT2.out, rdL_none hlt HRD.out e3])
              rw [e3] at HT
              clear HEQ HT2 HRD e3
              go_wp2_with fail
              refine HT.out.mono ?_
              rintro r' w6 ⟨k6, rfl⟩
              obtain ⟨BT', BR', F'⟩ := BT0.out _ (below_call TR.out k6)
              have BT' := hide BT'
              have BR' := hide BR'
              clear HT k6
              have q0 : w6.cell? ⟨tb, 0, none⟩ = some (.slice none 0 0) := BT'.out.cell 0
              have q1 : w6.cell? ⟨tb, 1, none⟩ = some (.slice none 0 0) := BT'.out.cell 1
              have q2 : w6.cell? ⟨tb, 2, none⟩ = some (.int .i64 0) := BT'.out.cell 2
              have q3 : w6.cell? ⟨rb, 0, none⟩ = some (.slice none 0 0) := BR'.out.cell 0
              have q4 : w6.cell? ⟨rb, 1, none⟩ = some (.slice none 0 0) := BR'.out.cell 1
              have q5 : w6.cell? ⟨rb, 2, none⟩ = some (.int .i64 0) := BR'.out.cell 2
              have g3 := BR'.out.frozen 0
              have g4 := BR'.out.frozen 1
              have g5 := BR'.out.frozen 2
              go_wp2_with fail
              have BF : Blk (((w6.setCell ⟨rb, 0, none⟩ (.slice none 0 0)).setCell ⟨rb, 1, none⟩ (.slice none 0 0)).setCell ⟨rb, 2, none⟩ (.int .i64 0)) rb 35 TZ := by
                have := ((BR'.out.set_ 0 (.slice none 0 0)).set_ 1 (.slice none 0 0)).set_ 2 (.int .i64 0)
                simpa using this
              refine bodyPost_ret (results_cell2 Try.results21 _ _ rb 35 _ (0, 0) _ rfl BF Try.underlying35 ⟨_, rfl⟩ (by kernel_rfl)) rfl ?_
              refine ⟨HFIN.out _ (((F'.setCell (p := ⟨rb, 0, none⟩) HRI.out _).setCell (p := ⟨rb, 1, none⟩) HRI.out _).setCell (p := ⟨rb, 2, none⟩) HRI.out _), ?_⟩
              rw [HN.out]
              rfl
            | some p3 =>
              obtain ⟨x, q'⟩ := p3
              have HSF2 := hide (HSF.out.trans (rdN_end e3).1)
              have HRD2 := hide (rdL_some hlt HRD.out e3)
              rw [e3] at HT
              clear HRD e3
              go_wp2_with fail
              refine HT.out.mono ?_
              rintro r' w6 ⟨k6, rfl⟩
              have B6 := hide (B.out.below k6 B.out.lt)
              have O6 := AO.keeps O.out (Keeps.of_below k6)
              have T6 := below_call TR.out k6
              have y6 : w6.cell? ⟨ob, 1, none⟩ = some (.slice av i ac) := B6.out.cell 1
              have b8 : Below w6.heap.size w6 (w6.alloc (.cells #[.int .i64 x] 2)) := (Below.refl _ _).alloc (Nat.le_refl _) _
              have O8 : Hid ((w6.alloc (.cells #[.int .i64 x] 2)).ownsRow W2.heap.size 2 1 (.slice av i ac) i (xs.map (.int .i64))) := hide (by
                have := own_below O6 b8
                rwa [HXS.out] at this)
              have N8 := hide (Blk.new w6 2 #[.int .i64 x])
              have B8 := hide (B6.out.below b8 B6.out.lt)
              have T8 := hide (below_call T6 b8)
              have hsz8 := T8.out.size
              clear HT k6 O6 T6 b8 O B
              go_wp2_with (at_builtin; refine wpList_append_lies _ rfl _ _ 33 rfl W2.heap.size 2 i1 (.int .i64 0) 1 8 Try.underlying33 hi hz0 hz1 hz2 rfl (by decide) _ _ _ rfl O8.out ⟨w6.heap.size, 0, none⟩ 1 1 [.int .i64 x] rfl rfl ?c1 ?c2 (by decide) ?c3 ?c4 ?c5 _ rfl ?_)
              case c1 => exact N8.out.news
              case c2 => intro z hz; simp at hz; rcases hz with rfl; rfl
              case c3 => unfold maxLen; omega
              case c4 => omega
              case c5 => exact hsz8
              intro g2 cap2 w9 hown hgrow hat hlt9
              have hge := own_ge O8.out
              have hnr := own_ne O8.out B8.out (by decide)
              have FG := foot_row hgrow
              have B9 := B8.out.foot FG (fun hm => absurd rfl (hnr _ (Option.mem_toList.1 hm)))
              have T9 := below_grown (a := W2) T8.out hgrow hge
              have y9 : w9.cell? ⟨ob, 1, none⟩ = some (.slice av i ac) := B9.cell 1
              have f9 := B9.frozen 1
              obtain ⟨wA, hwA⟩ : ∃ wA, wA = w9.setCell ⟨ob, 1, none⟩ (.slice (some ⟨g2, 0, none⟩) (i + 1) cap2) := ⟨_, rfl⟩
              have BA : Hid (Blk wA ob 35 #[.slice none 0 0, .slice (some ⟨g2, 0, none⟩) (i + 1) cap2, .int .i64 vw]) := hide (by
                rw [hwA]
                have := B9.set_ 1 (.slice (some ⟨g2, 0, none⟩) (i + 1) cap2)
                simpa using this)
              have TA := hide (show Below W2.heap.size W2 wA by rw [hwA]; exact T9.setCell (p := ⟨ob, 1, none⟩) hob _)
              have OA : Hid (AO wA W2.heap.size (.slice (some ⟨g2, 0, none⟩) (i + 1) cap2) (xs ++ [x])) := hide (by
                refine AO.keeps (W := w9) ?_ (by rw [hwA]; exact (Keeps.refl w9).setCell B9 (by decide) _)
                unfold AO
                rw [List.length_append, HXS.out, List.map_append]
                exact hown)
              have HXA : Hid ((xs ++ [x]).length = i + 1) := hide (by rw [List.length_append, HXS.out]; rfl)
              clear hown hgrow hat hlt9 O8 N8 T8 B8 hsz8 hge hnr FG B9 T9 B6 y6 TR
              go_wp2_with fail
              rw [← hwA]
              go_roundw
              case rel => exact ⟨i + 1, xs ++ [x], q', some ⟨g2, 0, none⟩, cap2, hlt, rfl, by go_num, HXA, HSF2, HRD2, BA.out, OA.out, TA.out⟩
              case measure => simp [intOf]; omega
          · obtain rfl : i = m := by omega
            have d1 : decide ((i : Int) < mm) = false := by rw [decide_eq_false_iff_not]; have := HM.out; omega
            have HT3 := hide (show lnP b = lnP3 b.length vw xs q by rw [HT2.out, rdL_end HRD.out])
            have HT := hide (rtake_suf a c wr (HR.out.below (HFIN.out _ (Foot.of_below _ TR.out))) HB.out (by omega) HSF.out)
            clear HT2 HRD
            as_aux_lemma =>
              cases e4 : rdN q with
              | none =>
                have HN : Hid (rdT b = none) := hide (by rw [HEQ.out, HT3.out, lnP3, e4])
                rw [e4] at HT
                clear HEQ HT3 e4
                go_wp2_with fail
                refine HT.out.mono ?_
                rintro r' w6 ⟨k6, rfl⟩
                obtain ⟨BT', BR', F'⟩ := BT0.out _ (below_call TR.out k6)
                have BT' := hide BT'
                have BR' := hide BR'
                clear k6
                have q0 : w6.cell? ⟨tb, 0, none⟩ = some (.slice none 0 0) := BT'.out.cell 0
                have q1 : w6.cell? ⟨tb, 1, none⟩ = some (.slice none 0 0) := BT'.out.cell 1
                have q2 : w6.cell? ⟨tb, 2, none⟩ = some (.int .i64 0) := BT'.out.cell 2
                have q3 : w6.cell? ⟨rb, 0, none⟩ = some (.slice none 0 0) := BR'.out.cell 0
                have q4 : w6.cell? ⟨rb, 1, none⟩ = some (.slice none 0 0) := BR'.out.cell 1
                have q5 : w6.cell? ⟨rb, 2, none⟩ = some (.int .i64 0) := BR'.out.cell 2
                have g3 := BR'.out.frozen 0
                have g4 := BR'.out.frozen 1
                have g5 := BR'.out.frozen 2
                go_wp2_with fail
                have BF : Blk (((w6.setCell ⟨rb, 0, none⟩ (.slice none 0 0)).setCell ⟨rb, 1, none⟩ (.slice none 0 0)).setCell ⟨rb, 2, none⟩ (.int .i64 0)) rb 35 TZ := by
                  have := ((BR'.out.set_ 0 (.slice none 0 0)).set_ 1 (.slice none 0 0)).set_ 2 (.int .i64 0)
                  simpa using this
                refine bodyPost_ret (results_cell2 Try.results21 _ _ rb 35 _ (0, 0) _ rfl BF Try.underlying35 ⟨_, rfl⟩ (by kernel_rfl)) rfl ?_
                refine ⟨HFIN.out _ (((F'.setCell (p := ⟨rb, 0, none⟩) HRI.out _).setCell (p := ⟨rb, 1, none⟩) HRI.out _).setCell (p := ⟨rb, 2, none⟩) HRI.out _), ?_⟩
                rw [HN.out]
                rfl
              | some p4 =>
                obtain ⟨kk, r5⟩ := p4
                have s5 := HSF.out.trans (rdN_end e4).1
                rw [e4] at HT
                by_cases hc : 0 ≤ kk ∧ kk ≤ (b.length : Int)
                · obtain ⟨k, hk⟩ : ∃ k : Nat, kk = k := ⟨kk.toNat, by omega⟩
                  have HT4 := hide (show lnP b = match rdL lnNd k r5 with
                    | some (ns, r') => some (⟨vw, xs, ns⟩, r')
                    | none => none by rw [HT3.out, lnP3, e4]; dsimp only; rw [if_pos hc, hk, Int.toNat_natCast]; rfl)
                  have e5 : decide (kk < 0) = false := by rw [decide_eq_false_iff_not]; omega
                  have e6 : decide ((b.length : Int) < kk) = false := by rw [decide_eq_false_iff_not]; omega
                  have hk8 : k ≤ 8192 := by omega
                  have HK := hide hk
                  clear HT3 e4 hc hk
                  go_wp2_with fail
                  refine HT.out.mono ?_
                  rintro r' w6 ⟨k6, rfl⟩
                  have B6 := hide (B.out.below k6 B.out.lt)
                  have O6 := hide (AO.keeps O.out (Keeps.of_below k6))
                  have T6 := hide (below_call TR.out k6)
                  clear HT k6 B O TR
                  go_wp2_with fail
                  clear e5 e6
                  go_loopw [6, 15] (fun s6 s15 wr => ∃ (j : Nat) (ns : List Nd) (q : List Int) (nv : Option Addr) (nc : Nat), j ≤ k ∧ s6 = .int .i64 ((b.length - q.length : Nat) : Int) ∧ s15 = .int .i64 j ∧ Hid (ns.length = j) ∧ Hid (Suf b q) ∧ Hid (rdL lnNd k r5 = (rdL lnNd (k - j) q).map fun p => (ns ++ p.1, p.2)) ∧ Blk wr ob 35 #[.slice nv j nc, .slice av i ac, .int .i64 vw] ∧ AO wr W2.heap.size (.slice av i ac) xs ∧ NO wr W2.heap.size (.slice nv j nc) ns ∧ Below W2.heap.size W2 wr) (fun _ s15 _ => k - (intOf s15).toNat)
                  case atStart => exact ⟨0, [], r5, none, 0, Nat.zero_le _, rfl, rfl, hide rfl, hide s5, hide (by cases rdL lnNd (k - 0) r5 <;> rfl), B6.out, O6.out, ⟨[], trivial, World.ownsRow_nil _ _ _ _⟩, T6.out⟩
                  case round =>
                    clear B6 O6 T6
                    obtain ⟨j, ns, q, nv, nc, hjk, rfl, rfl, HNS, HSF, HRD, hB, hO, hN, hb⟩ := hrel
                    have B := hide hB
                    have O := hide hO
                    have N := hide hN
                    have TR := hide hb
                    clear hB hO hN hb
                    by_cases hlt2 : j < k
                    · have d2 : decide ((j : Int) < kk) = true := by rw [decide_eq_true_eq]; have := HK.out; omega
                      have HT := hide (rtake_suf a c wr (HR.out.below (HFIN.out _ (Foot.of_below _ TR.out))) HB.out (by omega) HSF.out)
                      cases e5 : rdN q with
                      | none =>
                        have HN : Hid (rdT b = none) := hide (by rw [HEQ.out, HT4.out, rdL_none hlt2 HRD.out (by unfold lnNd; rw [e5])])
                        rw [e5] at HT
                        clear HEQ HT4 HRD e5
                        go_wp2_with fail
                        refine HT.out.mono ?_
                        rintro r' w6 ⟨k6, rfl⟩
                        obtain ⟨BT', BR', F'⟩ := BT0.out _ (below_call TR.out k6)
                        have BT' := hide BT'
                        have BR' := hide BR'
                        clear k6
                        have q0 : w6.cell? ⟨tb, 0, none⟩ = some (.slice none 0 0) := BT'.out.cell 0
                        have q1 : w6.cell? ⟨tb, 1, none⟩ = some (.slice none 0 0) := BT'.out.cell 1
                        have q2 : w6.cell? ⟨tb, 2, none⟩ = some (.int .i64 0) := BT'.out.cell 2
                        have q3 : w6.cell? ⟨rb, 0, none⟩ = some (.slice none 0 0) := BR'.out.cell 0
                        have q4 : w6.cell? ⟨rb, 1, none⟩ = some (.slice none 0 0) := BR'.out.cell 1
                        have q5 : w6.cell? ⟨rb, 2, none⟩ = some (.int .i64 0) := BR'.out.cell 2
                        have g3 := BR'.out.frozen 0
                        have g4 := BR'.out.frozen 1
                        have g5 := BR'.out.frozen 2
                        go_wp2_with fail
                        have BF : Blk (((w6.setCell ⟨rb, 0, none⟩ (.slice none 0 0)).setCell ⟨rb, 1, none⟩ (.slice none 0 0)).setCell ⟨rb, 2, none⟩ (.int .i64 0)) rb 35 TZ := by
                          have := ((BR'.out.set_ 0 (.slice none 0 0)).set_ 1 (.slice none 0 0)).set_ 2 (.int .i64 0)
                          simpa using this
                        refine bodyPost_ret (results_cell2 Try.results21 _ _ rb 35 _ (0, 0) _ rfl BF Try.underlying35 ⟨_, rfl⟩ (by kernel_rfl)) rfl ?_
                        refine ⟨HFIN.out _ (((F'.setCell (p := ⟨rb, 0, none⟩) HRI.out _).setCell (p := ⟨rb, 1, none⟩) HRI.out _).setCell (p := ⟨rb, 2, none⟩) HRI.out _), ?_⟩
                        rw [HN.out]
                        rfl
                      | some p5 =>
                        obtain ⟨pa, q1⟩ := p5
                        have HSF1 := hide (HSF.out.trans (rdN_end e5).1)
                        rw [e5] at HT
                        go_wp2_with fail
                        refine HT.out.mono ?_
                        rintro r' w6 ⟨k6, rfl⟩
                        have B6 := hide (B.out.below k6 B.out.lt)
                        have O6 := hide (AO.keeps O.out (Keeps.of_below k6))
                        have N6 := hide (N.out.below k6)
                        have T6 := hide (below_call TR.out k6)
                        have HS := hide (rread_style a c w6 (HR.out.below (HFIN.out _ (Foot.of_below _ T6.out))) HB.out (by omega) HSF1.out)
                        clear HT k6 B O N TR
                        as_aux_lemma =>
                          cases e6 : lnS (q1.length + 1) (KD.map zv) q1 with
                          | none =>
                            have HN : Hid (rdT b = none) := hide (by rw [HEQ.out, HT4.out, rdL_none hlt2 HRD.out (by unfold lnNd; rw [e5]; dsimp only; rw [e6])])
                            rw [e6] at HS
                            clear HEQ HT4 HRD e5 e6
                            go_wp2_with fail
                            refine HS.out.mono ?_
                            rintro r' w7 ⟨k7, g, uv, rfl, hu⟩
                            have HU := hide hu
                            go_upto_region 27 with (refine wpList_store_row rfl 49 _ _ rfl w7.heap.size (SC g uv).toArray rfl rfl 49 _ (heap_alloc_new w7 _) (st_size _ _) rfl (SC_one _ HU.out) ?_)
                            rw [World.setRow_alloc_new]
                            have k8 := below_call k7 ((Below.refl w7.heap.size w7).alloc (Nat.le_refl _) (.cells (SC g uv).toArray 49))
                            generalize w7.alloc (.cells (SC g uv).toArray 49) = w8 at k8 ⊢
                            have TR := T6
                            obtain ⟨BT', BR', F'⟩ := BT0.out _ (below_call TR.out k8)
                            have BT' := hide BT'
                            have BR' := hide BR'
                            clear k8
                            have q0 : w8.cell? ⟨tb, 0, none⟩ = some (.slice none 0 0) := BT'.out.cell 0
                            have q1 : w8.cell? ⟨tb, 1, none⟩ = some (.slice none 0 0) := BT'.out.cell 1
                            have q2 : w8.cell? ⟨tb, 2, none⟩ = some (.int .i64 0) := BT'.out.cell 2
                            have q3 : w8.cell? ⟨rb, 0, none⟩ = some (.slice none 0 0) := BR'.out.cell 0
                            have q4 : w8.cell? ⟨rb, 1, none⟩ = some (.slice none 0 0) := BR'.out.cell 1
                            have q5 : w8.cell? ⟨rb, 2, none⟩ = some (.int .i64 0) := BR'.out.cell 2
                            have g3 := BR'.out.frozen 0
                            have g4 := BR'.out.frozen 1
                            have g5 := BR'.out.frozen 2
                            go_wp2_with fail
                            have BF : Blk (((w8.setCell ⟨rb, 0, none⟩ (.slice none 0 0)).setCell ⟨rb, 1, none⟩ (.slice none 0 0)).setCell ⟨rb, 2, none⟩ (.int .i64 0)) rb 35 TZ := by
                              have := ((BR'.out.set_ 0 (.slice none 0 0)).set_ 1 (.slice none 0 0)).set_ 2 (.int .i64 0)
                              simpa using this
                            refine bodyPost_ret (results_cell2 Try.results21 _ _ rb 35 _ (0, 0) _ rfl BF Try.underlying35 ⟨_, rfl⟩ (by kernel_rfl)) rfl ?_
                            refine ⟨HFIN.out _ (((F'.setCell (p := ⟨rb, 0, none⟩) HRI.out _).setCell (p := ⟨rb, 1, none⟩) HRI.out _).setCell (p := ⟨rb, 2, none⟩) HRI.out _), ?_⟩
                            rw [HN.out]
                            rfl
                          | some p6 =>
                            obtain ⟨L, q'⟩ := p6
                            have HRD2 := hide (rdL_some (x := ((pa, L) : Nd)) hlt2 HRD.out (by unfold lnNd; rw [e5]; dsimp only; rw [e6]))
                            rw [e6] at HS
                            clear HRD e5 e6
                            go_wp2_with fail
                            refine HS.out.mono ?_
                            rintro r' w7 ⟨k7, hLl, uv, rfl, U7, S7⟩
                            have HSF2 := hide S7
                            have B7 := hide (B6.out.below k7 B6.out.lt)
                            have O7 := hide (AO.keeps O6.out (Keeps.of_below k7))
                            have N7 := hide (N6.out.below k7)
                            have T7 := hide (below_call T6.out k7)
                            have U7 := hide (U7.mono T6.out.size)
                            have HU := hide U7.out.one
                            clear HS k7 B6 O6 N6 T6 S7
                            go_upto_region 27 with (refine wpList_store_row rfl 49 _ _ rfl w7.heap.size (SC (gof L) uv).toArray rfl rfl 49 _ (heap_alloc_new w7 _) (st_size _ _) rfl (SC_one _ HU.out) ?_)
                            rw [World.setRow_alloc_new]
                            obtain ⟨w8, hw8⟩ : ∃ w8, w8 = w7.alloc (.cells (SC (gof L) uv).toArray 49) := ⟨_, rfl⟩
                            have k8 : Below w7.heap.size w7 w8 := by rw [hw8]; exact (Below.refl _ _).alloc (Nat.le_refl _) _
                            have SB8 : Blk w8 w7.heap.size 49 (SC (gof L) uv).toArray := by rw [hw8]; exact Blk.new _ _ _
                            rw [← hw8]
                            have B8 := hide (B7.out.below k8 B7.out.lt)
                            have O8 := hide (AO.keeps O7.out (Keeps.of_below k8))
                            have N8 := N7.out.below k8
                            have T8 := hide (below_call T7.out k8)
                            have U8 := hide (U7.out.keeps (Keeps.of_below k8))
                            generalize w7.heap.size = gs at SB8 ⊢
                            have SB8 := hide SB8
                            have y8 : w8.cell? ⟨ob, 0, none⟩ = some (.slice nv j nc) := B8.out.cell 0
                            obtain ⟨ls, hnl, how⟩ := N8
                            have b9 : Below w8.heap.size w8 (w8.alloc (.cells (ncell (pa, L) uv).toArray 51)) := (Below.refl _ _).alloc (Nat.le_refl _) _
                            have O9 : Hid ((w8.alloc (.cells (ncell (pa, L) uv).toArray 51)).ownsRow W2.heap.size 51 44 (.slice nv j nc) j ls.flatten) := hide (by
                              have := own_below how b9
                              rwa [HNS.out] at this)
                            have NL8 := hide hnl
                            have NB9 := hide (Blk.new w8 51 (ncell (pa, L) uv).toArray)
                            have B9 := hide (B8.out.below b9 B8.out.lt)
                            have K9 := hide (Keeps.of_below b9)
                            have T9 := hide (below_call T8.out b9)
                            have hsz9 := T9.out.size
                            clear hw8 k8 hnl how b9 B7 O7 N7 T7 U7
                            go_wp2_with (first | (refine wpList_load_row rfl 49 _ rfl gs rfl 49 _ _ _ SB8.out Try.underlying49 rfl (st_size _ _) ?_) | (refine wpList_mknode rfl _ _ rfl pa L uv rfl rfl ?_) | (refine wpList_node rfl _ rfl (pa, L) uv rfl ?_) | (at_builtin; refine wpList_append_lies _ rfl _ _ 32 rfl W2.heap.size 51 i2 (.agg (ncell (0, KD.map zv) (.slice none 0 0)).toArray) 44 328 Try.underlying32 hi' hy0 hy1 hy2 rfl (by decide) _ _ _ rfl O9.out ⟨w8.heap.size, 0, none⟩ 1 1 (ncell (pa, L) uv) rfl rfl ?c1 ?c2 (by decide) ?c3 ?c4 ?c5 _ rfl ?_))
                            case c1 => exact NB9.out.news
                            case c2 => exact ncell_one _ HU.out
                            case c3 => unfold maxLen; omega
                            case c4 => omega
                            case c5 => exact hsz9
                            intro g2 cap2 w10 hown hgrow hat hlt10
                            have hge := own_ge O9.out
                            have hnr := own_ne O9.out B9.out (by decide)
                            have FG := foot_row hgrow
                            have B10 := B9.out.foot FG (fun hm => absurd rfl (hnr _ (Option.mem_toList.1 hm)))
                            have K10 := K9.out.trans (Keeps.of_grown O9.out (by decide) hgrow)
                            have T10 := below_grown (a := W2) T9.out hgrow hge
                            have y10 : w10.cell? ⟨ob, 0, none⟩ = some (.slice nv j nc) := B10.cell 0
                            have f10 := B10.frozen 0
                            have hne2 := own_ne hown B10 (by decide)
                            obtain ⟨wA, hwA⟩ : ∃ wA, wA = w10.setCell ⟨ob, 0, none⟩ (.slice (some ⟨g2, 0, none⟩) (j + 1) cap2) := ⟨_, rfl⟩
                            have BA : Hid (Blk wA ob 35 #[.slice (some ⟨g2, 0, none⟩) (j + 1) cap2, .slice av i ac, .int .i64 vw]) := hide (by
                              rw [hwA]
                              have := B10.set_ 0 (.slice (some ⟨g2, 0, none⟩) (j + 1) cap2)
                              simpa using this)
                            have KA : Keeps w8 wA := by rw [hwA]; exact K10.setCell B10 (by decide) _
                            have FA : Foot [ob] w10 wA := by rw [hwA]; exact (Foot.refl _ _).setCell (.inl (by simp)) _
                            have OA := hide (O8.out.keeps KA)
                            have TA := hide (show Below W2.heap.size W2 wA by rw [hwA]; exact T10.setCell (p := ⟨ob, 0, none⟩) hob _)
                            have NA : Hid (NO wA W2.heap.size (.slice (some ⟨g2, 0, none⟩) (j + 1) cap2) (ns ++ [((pa, L) : Nd)])) := hide (by
                              refine ⟨ls ++ [ncell (pa, L) uv], (NL8.out.keeps KA).app ⟨⟨uv, rfl, U8.out.keeps KA⟩, trivial⟩, ?_⟩
                              refine own_foot ?_ FA (fun y hy hm => hne2 y hy (List.mem_singleton.1 hm))
                              rw [List.length_append, HNS.out, List.flatten_append]
                              simpa using hown)
                            have HNA : Hid ((ns ++ [((pa, L) : Nd)]).length = j + 1) := hide (by rw [List.length_append, HNS.out]; rfl)
                            clear hown hgrow hat hlt10 hge hnr FG B10 K10 T10 hne2 FA KA O9 NL8 NB9 B9 K9 T9 hsz9 O8 U8 B8 T8 HU SB8 y8
                            go_wp2_with fail
                            rw [← hwA]
                            go_roundw
                            case rel => exact ⟨j + 1, ns ++ [(pa, L)], q', some ⟨g2, 0, none⟩, cap2, hlt2, rfl, by go_num, HNA, HSF2, HRD2, BA.out, OA.out, NA.out, TA.out⟩
                            case measure => simp [intOf]; omega
                    · obtain rfl : j = k := by omega
                      have d2 : decide ((j : Int) < kk) = false := by rw [decide_eq_false_iff_not]; have := HK.out; omega
                      have HT5 := hide (show lnP b = some (⟨vw, xs, ns⟩, q) by rw [HT4.out, rdL_end HRD.out])
                      clear HT4 HRD
                      as_aux_lemma =>
                        have hls := lnP_sound HB.out hn HT5.out
                        have OKT := hide hls.1
                        have HWL := hide hls.2
                        have HFINAL := hide (show rdT b = if wrT ⟨vw, xs, ns⟩ = b then some ⟨vw, xs, ns⟩ else none by rw [HEQ.out, HT5.out])
                        clear hls HEQ HT5
                        have x0 : wr.cell? ⟨ob, 0, none⟩ = some (.slice nv j nc) := B.out.cell 0
                        have x1 : wr.cell? ⟨ob, 1, none⟩ = some (.slice av i ac) := B.out.cell 1
                        have x2 : wr.cell? ⟨ob, 2, none⟩ = some (.int .i64 vw) := B.out.cell 2
                        have htv : TrV wr (.agg #[.slice nv j nc, .slice av i ac, .int .i64 vw]) ⟨vw, xs, ns⟩ := tr_own HNS.out HXS.out N.out O.out OKT.out
                        have HW := hide (rwrite_any _ ⟨vw, xs, ns⟩ wr htv HWL.out)
                        clear htv
                        go_wp2_with fail
                        refine HW.out.mono ?_
                        rintro r' w6 ⟨v6, rfl, O6, k6⟩
                        obtain ⟨a6, cap6, rfl, q61, q62, R6⟩ := O6.row
                        have R6 := hide R6
                        have B6 := hide (B.out.below k6 B.out.lt)
                        have AO6 := hide (AO.keeps O.out (Keeps.of_below k6))
                        have N6 := hide (N.out.below k6)
                        have T6 := hide (below_call TR.out k6)
                        clear HW k6 O6 B O N TR x0 x1 x2
                        obtain ⟨l, hl⟩ : ∃ l, l = wrT ⟨vw, xs, ns⟩ := ⟨_, rfl⟩
                        rw [← hl] at R6 q61 HFINAL HWL ⊢
                        clear hl
                        by_cases hlen : l.length = b.length
                        · have e1 : ((l.length : Int) != (b.length : Int)) = false := by simp [hlen]
                          have HLEN := hide hlen
                          clear hlen
                          go_wp2_with fail
                          clear e1
                          go_loopw [23] (fun s23 wr => ∃ i : Nat, i ≤ b.length ∧ s23 = .int .i64 i ∧ Hid (l.take i = b.take i) ∧ Below w6.heap.size w6 wr) (fun s23 _ => b.length - (intOf s23).toNat)
                          case atStart => exact ⟨0, Nat.zero_le _, rfl, hide (by simp), Below.refl _ _⟩
                          case round =>
                            obtain ⟨n, hnl, rfl, HTK, hb⟩ := hrel
                            have TL := hide hb
                            clear hb
                            have TL2 := hide (below_call T6.out TL.out)
                            by_cases hlt3 : n < b.length
                            · have e2 : decide ((n : Int) < (b.length : Int)) = true := by simpa using hlt3
                              have hll : n < l.length := by have := HLEN.out; omega
                              obtain ⟨bb, bo, ha, hbb, hcell⟩ := b_at (HR.out.below (HFIN.out _ (Foot.of_below _ TL2.out))) (by omega)
                              subst ha
                              obtain ⟨lb, lo, ha6, hlb, hlcell⟩ := b_at (R6.out.below TL.out) (by omega)
                              subst ha6
                              have y1 := hlcell n hll
                              have y2 := hcell n hlt3
                              have HA := hide (take_next hll hlt3 HTK.out)
                              generalize l[n] = z1 at y1 HA
                              generalize b[n] = z2 at y2 HA
                              have Y1 : ∀ w', w' = wr.drew → w'.cell? ⟨lb, lo + n, none⟩ = some (.int .u8 z1) := fun w' h => by rw [h]; exact y1
                              have Y2 : ∀ w', w' = wr.drew → w'.cell? ⟨bb, bo + n, none⟩ = some (.int .u8 z2) := fun w' h => by rw [h]; exact y2
                              clear hcell hlcell y1 y2 HTK
                              by_cases hz : z1 = z2
                              · subst hz
                                have HA2 := hide (HA.out.1 rfl)
                                have e3 : (z1 != z1) = false := by simp
                                clear HA
                                go_upto_region 37 with fail
                                refine Hold.begin_ 9 (by kernel_rfl) rfl (fun w' => w' = wr.drew) ?_ rfl
                                intro hS
                                refine Hold.take (i := 0) (v := ?_) rfl (by kernel_rfl) (fun _ _ _ h => h) rfl ?_ hS ?_
                                rotate_left
                                · intro w' hS; have z0_ := Y1 _ hS; have z1_ := Y2 _ hS; go_simp; (try go_bits); (first | rfl | rw [if_pos (by omega)])
                                simp only [Act.put, List.getElem_toArray, List.getElem_cons_zero, List.getElem_cons_succ, List.setIfInBounds_toArray, List.set_cons_zero, List.set_cons_succ]
                                refine Hold.take (i := 1) (v := ?_) rfl (by kernel_rfl) (fun _ _ _ h => h) rfl ?_ hS ?_
                                rotate_left
                                · intro w' hS; have z0_ := Y1 _ hS; have z1_ := Y2 _ hS; go_simp; (try go_bits); (first | rfl | rw [if_pos (by omega)])
                                simp only [Act.put, List.getElem_toArray, List.getElem_cons_zero, List.getElem_cons_succ, List.setIfInBounds_toArray, List.set_cons_zero, List.set_cons_succ]
                                refine Hold.take (i := 2) (v := ?_) rfl (by kernel_rfl) (fun _ _ _ h => h) rfl ?_ hS ?_
                                rotate_left
                                · intro w' hS; have z0_ := Y1 _ hS; have z1_ := Y2 _ hS; go_simp; (try go_bits); (first | rfl | rw [if_pos (by omega)])
                                simp only [Act.put, List.getElem_toArray, List.getElem_cons_zero, List.getElem_cons_succ, List.setIfInBounds_toArray, List.set_cons_zero, List.set_cons_succ]
                                refine Hold.take (i := 3) (v := ?_) rfl (by kernel_rfl) (fun _ _ _ h => h) rfl ?_ hS ?_
                                rotate_left
                                · intro w' hS; have z0_ := Y1 _ hS; have z1_ := Y2 _ hS; go_simp; (try go_bits); (first | rfl | rw [if_pos (by omega)])
                                simp only [Act.put, List.getElem_toArray, List.getElem_cons_zero, List.getElem_cons_succ, List.setIfInBounds_toArray, List.set_cons_zero, List.set_cons_succ]
                                refine Hold.take (i := 4) (v := ?_) rfl (by kernel_rfl) (fun _ _ _ h => h) rfl ?_ hS ?_
                                rotate_left
                                · intro w' hS; have z0_ := Y1 _ hS; have z1_ := Y2 _ hS; go_simp; (try go_bits); (first | rfl | rw [if_pos (by omega)])
                                simp only [Act.put, List.getElem_toArray, List.getElem_cons_zero, List.getElem_cons_succ, List.setIfInBounds_toArray, List.set_cons_zero, List.set_cons_succ]
                                refine Hold.take (i := 5) (v := ?_) rfl (by kernel_rfl) (fun _ _ _ h => h) rfl ?_ hS ?_
                                rotate_left
                                · intro w' hS; have z0_ := Y1 _ hS; have z1_ := Y2 _ hS; go_simp; (try go_bits); (first | rfl | rw [if_pos (by omega)])
                                simp only [Act.put, List.getElem_toArray, List.getElem_cons_zero, List.getElem_cons_succ, List.setIfInBounds_toArray, List.set_cons_zero, List.set_cons_succ]
                                refine Hold.take (i := 6) (v := ?_) rfl (by kernel_rfl) (fun _ _ _ h => h) rfl ?_ hS ?_
                                rotate_left
                                · intro w' hS; have z0_ := Y1 _ hS; have z1_ := Y2 _ hS; go_simp; (try go_bits); (first | rfl | rw [if_pos (by omega)])
                                simp only [Act.put, List.getElem_toArray, List.getElem_cons_zero, List.getElem_cons_succ, List.setIfInBounds_toArray, List.set_cons_zero, List.set_cons_succ]
                                refine Hold.take (i := 7) (v := ?_) rfl (by kernel_rfl) (fun _ _ _ h => h) rfl ?_ hS ?_
                                rotate_left
                                · intro w' hS; have z0_ := Y1 _ hS; have z1_ := Y2 _ hS; go_simp; (try go_bits); (first | rfl | rw [if_pos (by omega)])
                                simp only [Act.put, List.getElem_toArray, List.getElem_cons_zero, List.getElem_cons_succ, List.setIfInBounds_toArray, List.set_cons_zero, List.set_cons_succ]
                                refine Hold.take (i := 8) (v := ?_) rfl (by kernel_rfl) (fun _ _ _ h => h) rfl ?_ hS ?_
                                rotate_left
                                · intro w' hS; have z0_ := Y1 _ hS; have z1_ := Y2 _ hS; go_simp; (try go_bits); (first | rfl | rw [if_pos (by omega)])
                                simp only [Act.put, List.getElem_toArray, List.getElem_cons_zero, List.getElem_cons_succ, List.setIfInBounds_toArray, List.set_cons_zero, List.set_cons_succ]
                                refine Hold.done (by kernel_rfl) ?_
                                clear hS
                                go_wp2_with fail
                                go_roundw
                                case rel => exact ⟨n + 1, hlt3, by go_num, HA2, TL.out.drew⟩
                                case measure => simp [intOf]; omega
                              · have HN : Hid (rdT b = none) := hide (by rw [HFINAL.out, if_neg (HA.out.2 hz)])
                                have e3 : (z1 != z2) = true := by simpa using hz
                                clear HA HFINAL
                                go_upto_region 37 with fail
                                refine Hold.begin_ 9 (by kernel_rfl) rfl (fun w' => w' = wr.drew) ?_ rfl
                                intro hS
                                refine Hold.take (i := 0) (v := ?_) rfl (by kernel_rfl) (fun _ _ _ h => h) rfl ?_ hS ?_
                                rotate_left
                                · intro w' hS; have z0_ := Y1 _ hS; have z1_ := Y2 _ hS; go_simp; (try go_bits); (first | rfl | rw [if_pos (by omega)])
                                simp only [Act.put, List.getElem_toArray, List.getElem_cons_zero, List.getElem_cons_succ, List.setIfInBounds_toArray, List.set_cons_zero, List.set_cons_succ]
                                refine Hold.take (i := 1) (v := ?_) rfl (by kernel_rfl) (fun _ _ _ h => h) rfl ?_ hS ?_
                                rotate_left
                                · intro w' hS; have z0_ := Y1 _ hS; have z1_ := Y2 _ hS; go_simp; (try go_bits); (first | rfl | rw [if_pos (by omega)])
                                simp only [Act.put, List.getElem_toArray, List.getElem_cons_zero, List.getElem_cons_succ, List.setIfInBounds_toArray, List.set_cons_zero, List.set_cons_succ]
                                refine Hold.take (i := 2) (v := ?_) rfl (by kernel_rfl) (fun _ _ _ h => h) rfl ?_ hS ?_
                                rotate_left
                                · intro w' hS; have z0_ := Y1 _ hS; have z1_ := Y2 _ hS; go_simp; (try go_bits); (first | rfl | rw [if_pos (by omega)])
                                simp only [Act.put, List.getElem_toArray, List.getElem_cons_zero, List.getElem_cons_succ, List.setIfInBounds_toArray, List.set_cons_zero, List.set_cons_succ]
                                refine Hold.take (i := 3) (v := ?_) rfl (by kernel_rfl) (fun _ _ _ h => h) rfl ?_ hS ?_
                                rotate_left
                                · intro w' hS; have z0_ := Y1 _ hS; have z1_ := Y2 _ hS; go_simp; (try go_bits); (first | rfl | rw [if_pos (by omega)])
                                simp only [Act.put, List.getElem_toArray, List.getElem_cons_zero, List.getElem_cons_succ, List.setIfInBounds_toArray, List.set_cons_zero, List.set_cons_succ]
                                refine Hold.take (i := 4) (v := ?_) rfl (by kernel_rfl) (fun _ _ _ h => h) rfl ?_ hS ?_
                                rotate_left
                                · intro w' hS; have z0_ := Y1 _ hS; have z1_ := Y2 _ hS; go_simp; (try go_bits); (first | rfl | rw [if_pos (by omega)])
                                simp only [Act.put, List.getElem_toArray, List.getElem_cons_zero, List.getElem_cons_succ, List.setIfInBounds_toArray, List.set_cons_zero, List.set_cons_succ]
                                refine Hold.take (i := 5) (v := ?_) rfl (by kernel_rfl) (fun _ _ _ h => h) rfl ?_ hS ?_
                                rotate_left
                                · intro w' hS; have z0_ := Y1 _ hS; have z1_ := Y2 _ hS; go_simp; (try go_bits); (first | rfl | rw [if_pos (by omega)])
                                simp only [Act.put, List.getElem_toArray, List.getElem_cons_zero, List.getElem_cons_succ, List.setIfInBounds_toArray, List.set_cons_zero, List.set_cons_succ]
                                refine Hold.take (i := 6) (v := ?_) rfl (by kernel_rfl) (fun _ _ _ h => h) rfl ?_ hS ?_
                                rotate_left
                                · intro w' hS; have z0_ := Y1 _ hS; have z1_ := Y2 _ hS; go_simp; (try go_bits); (first | rfl | rw [if_pos (by omega)])
                                simp only [Act.put, List.getElem_toArray, List.getElem_cons_zero, List.getElem_cons_succ, List.setIfInBounds_toArray, List.set_cons_zero, List.set_cons_succ]
                                refine Hold.take (i := 7) (v := ?_) rfl (by kernel_rfl) (fun _ _ _ h => h) rfl ?_ hS ?_
                                rotate_left
                                · intro w' hS; have z0_ := Y1 _ hS; have z1_ := Y2 _ hS; go_simp; (try go_bits); (first | rfl | rw [if_pos (by omega)])
                                simp only [Act.put, List.getElem_toArray, List.getElem_cons_zero, List.getElem_cons_succ, List.setIfInBounds_toArray, List.set_cons_zero, List.set_cons_succ]
                                refine Hold.take (i := 8) (v := ?_) rfl (by kernel_rfl) (fun _ _ _ h => h) rfl ?_ hS ?_
                                rotate_left
                                · intro w' hS; have z0_ := Y1 _ hS; have z1_ := Y2 _ hS; go_simp; (try go_bits); (first | rfl | rw [if_pos (by omega)])
                                simp only [Act.put, List.getElem_toArray, List.getElem_cons_zero, List.getElem_cons_succ, List.setIfInBounds_toArray, List.set_cons_zero, List.set_cons_succ]
                                refine Hold.done (by kernel_rfl) ?_
                                clear hS
                                obtain ⟨wd, hwd⟩ : ∃ wd, wd = wr.drew := ⟨_, rfl⟩
                                obtain ⟨BT', BR', F'⟩ := BT0.out wd (by rw [hwd]; exact TL2.out.drew)
                                have BT' := hide BT'
                                have BR' := hide BR'
                                rw [← hwd]
                                clear Y1 Y2 TL TL2 N6 AO6 B6 R6 T6 hwd
                                have q0 : wd.cell? ⟨tb, 0, none⟩ = some (.slice none 0 0) := BT'.out.cell 0
                                have q1 : wd.cell? ⟨tb, 1, none⟩ = some (.slice none 0 0) := BT'.out.cell 1
                                have q2 : wd.cell? ⟨tb, 2, none⟩ = some (.int .i64 0) := BT'.out.cell 2
                                have q3 : wd.cell? ⟨rb, 0, none⟩ = some (.slice none 0 0) := BR'.out.cell 0
                                have q4 : wd.cell? ⟨rb, 1, none⟩ = some (.slice none 0 0) := BR'.out.cell 1
                                have q5 : wd.cell? ⟨rb, 2, none⟩ = some (.int .i64 0) := BR'.out.cell 2
                                have g3 := BR'.out.frozen 0
                                have g4 := BR'.out.frozen 1
                                have g5 := BR'.out.frozen 2
                                go_wp2_with fail
                                have BF : Blk (((wd.setCell ⟨rb, 0, none⟩ (.slice none 0 0)).setCell ⟨rb, 1, none⟩ (.slice none 0 0)).setCell ⟨rb, 2, none⟩ (.int .i64 0)) rb 35 TZ := by
                                  have := ((BR'.out.set_ 0 (.slice none 0 0)).set_ 1 (.slice none 0 0)).set_ 2 (.int .i64 0)
                                  simpa using this
                                refine bodyPost_ret (results_cell2 Try.results21 _ _ rb 35 _ (0, 0) _ rfl BF Try.underlying35 ⟨_, rfl⟩ (by kernel_rfl)) rfl ?_
                                refine ⟨HFIN.out _ (((F'.setCell (p := ⟨rb, 0, none⟩) HRI.out _).setCell (p := ⟨rb, 1, none⟩) HRI.out _).setCell (p := ⟨rb, 2, none⟩) HRI.out _), ?_⟩
                                rw [HN.out]
                                rfl
                            · obtain rfl : n = b.length := by omega
                              have e2 : decide ((b.length : Int) < (b.length : Int)) = false := by simp
                              have hEQ : l = b := by
                                have := HTK.out
                                rw [List.take_length, ← HLEN.out, List.take_length] at this
                                exact this
                              have HF := hide (show rdT b = some ⟨vw, xs, ns⟩ by rw [HFINAL.out, if_pos hEQ])
                              have B7 := hide (B6.out.below TL.out B6.out.lt)
                              have O7 := hide (AO.keeps AO6.out (Keeps.of_below TL.out))
                              have N7 := hide (N6.out.below TL.out)
                              obtain ⟨BT', BR', F'⟩ := BT0.out _ TL2.out
                              have BR' := hide BR'
                              have x0 : wr.cell? ⟨ob, 0, none⟩ = some (.slice nv j nc) := B7.out.cell 0
                              have x1 : wr.cell? ⟨ob, 1, none⟩ = some (.slice av i ac) := B7.out.cell 1
                              have x2 : wr.cell? ⟨ob, 2, none⟩ = some (.int .i64 vw) := B7.out.cell 2
                              have q3 : wr.cell? ⟨rb, 0, none⟩ = some (.slice none 0 0) := BR'.out.cell 0
                              have q4 : wr.cell? ⟨rb, 1, none⟩ = some (.slice none 0 0) := BR'.out.cell 1
                              have q5 : wr.cell? ⟨rb, 2, none⟩ = some (.int .i64 0) := BR'.out.cell 2
                              have g3 := BR'.out.frozen 0
                              have g4 := BR'.out.frozen 1
                              have g5 := BR'.out.frozen 2
                              clear HFINAL hEQ HTK B6 AO6 N6 R6 T6
                              go_wp2_with fail
                              have BF : Blk (((wr.setCell ⟨rb, 0, none⟩ (.slice nv j nc)).setCell ⟨rb, 1, none⟩ (.slice av i ac)).setCell ⟨rb, 2, none⟩ (.int .i64 vw)) rb 35 #[.slice nv j nc, .slice av i ac, .int .i64 vw] := by
                                have := ((BR'.out.set_ 0 (.slice nv j nc)).set_ 1 (.slice av i ac)).set_ 2 (.int .i64 vw)
                                simpa using this
                              refine bodyPost_ret (results_cell2 Try.results21 _ _ rb 35 _ (0, 0) _ rfl BF Try.underlying35 ⟨_, rfl⟩ (by kernel_rfl)) rfl ?_
                              have FW : Foot [rb] wr (((wr.setCell ⟨rb, 0, none⟩ (.slice nv j nc)).setCell ⟨rb, 1, none⟩ (.slice av i ac)).setCell ⟨rb, 2, none⟩ (.int .i64 vw)) := (((Foot.refl _ wr).setCell (.inl (by simp)) _).setCell (.inl (by simp)) _).setCell (.inl (by simp)) _
                              have KW := Keeps.of_foot FW (fun y hy => by obtain rfl := List.mem_singleton.1 hy; exact ⟨_, _, BR'.out, by decide⟩)
                              obtain ⟨ls, hnl, how⟩ := N7.out
                              have hge := own_ge how
                              refine ⟨HFIN.out _ (F'.trans FW), ?_⟩
                              rw [HF.out]
                              exact ⟨_, rfl, tr_own HNS.out HXS.out (N7.out.foot FW KW (fun y hy hm => by have := hge y hy; have := List.mem_singleton.1 hm; omega)) (AO.keeps O7.out KW) OKT.out⟩
                        · have HN : Hid (rdT b = none) := hide (by rw [HFINAL.out, if_neg (fun e => hlen (by rw [e]))])
                          have e1 : ((l.length : Int) != (b.length : Int)) = true := by rw [bne_iff_ne]; omega
                          clear HFINAL hlen
                          obtain ⟨BT', BR', F'⟩ := BT0.out _ T6.out
                          have BT' := hide BT'
                          have BR' := hide BR'
                          have q0 : w6.cell? ⟨tb, 0, none⟩ = some (.slice none 0 0) := BT'.out.cell 0
                          have q1 : w6.cell? ⟨tb, 1, none⟩ = some (.slice none 0 0) := BT'.out.cell 1
                          have q2 : w6.cell? ⟨tb, 2, none⟩ = some (.int .i64 0) := BT'.out.cell 2
                          have q3 : w6.cell? ⟨rb, 0, none⟩ = some (.slice none 0 0) := BR'.out.cell 0
                          have q4 : w6.cell? ⟨rb, 1, none⟩ = some (.slice none 0 0) := BR'.out.cell 1
                          have q5 : w6.cell? ⟨rb, 2, none⟩ = some (.int .i64 0) := BR'.out.cell 2
                          have g3 := BR'.out.frozen 0
                          have g4 := BR'.out.frozen 1
                          have g5 := BR'.out.frozen 2
                          go_wp2_with fail
                          have BF : Blk (((w6.setCell ⟨rb, 0, none⟩ (.slice none 0 0)).setCell ⟨rb, 1, none⟩ (.slice none 0 0)).setCell ⟨rb, 2, none⟩ (.int .i64 0)) rb 35 TZ := by
                            have := ((BR'.out.set_ 0 (.slice none 0 0)).set_ 1 (.slice none 0 0)).set_ 2 (.int .i64 0)
                            simpa using this
                          refine bodyPost_ret (results_cell2 Try.results21 _ _ rb 35 _ (0, 0) _ rfl BF Try.underlying35 ⟨_, rfl⟩ (by kernel_rfl)) rfl ?_
                          refine ⟨HFIN.out _ (((F'.setCell (p := ⟨rb, 0, none⟩) HRI.out _).setCell (p := ⟨rb, 1, none⟩) HRI.out _).setCell (p := ⟨rb, 2, none⟩) HRI.out _), ?_⟩
                          rw [HN.out]
                          rfl
                · have HN : Hid (rdT b = none) := hide (by
                    rw [HEQ.out, HT3.out, lnP3, e4]; dsimp only; rw [if_neg hc])
                  clear HEQ HT3 e4
                  by_cases c1 : kk < 0
                  · have e3 : decide (kk < 0) = true := by simpa using c1
                    clear hc
                    go_wp2_with fail
                    refine HT.out.mono ?_
                    rintro r' w6 ⟨k6, rfl⟩
                    obtain ⟨BT', BR', F'⟩ := BT0.out _ (below_call TR.out k6)
                    have BT' := hide BT'
                    have BR' := hide BR'
                    clear k6
                    have q0 : w6.cell? ⟨tb, 0, none⟩ = some (.slice none 0 0) := BT'.out.cell 0
                    have q1 : w6.cell? ⟨tb, 1, none⟩ = some (.slice none 0 0) := BT'.out.cell 1
                    have q2 : w6.cell? ⟨tb, 2, none⟩ = some (.int .i64 0) := BT'.out.cell 2
                    have q3 : w6.cell? ⟨rb, 0, none⟩ = some (.slice none 0 0) := BR'.out.cell 0
                    have q4 : w6.cell? ⟨rb, 1, none⟩ = some (.slice none 0 0) := BR'.out.cell 1
                    have q5 : w6.cell? ⟨rb, 2, none⟩ = some (.int .i64 0) := BR'.out.cell 2
                    have g3 := BR'.out.frozen 0
                    have g4 := BR'.out.frozen 1
                    have g5 := BR'.out.frozen 2
                    go_wp2_with fail
                    have BF : Blk (((w6.setCell ⟨rb, 0, none⟩ (.slice none 0 0)).setCell ⟨rb, 1, none⟩ (.slice none 0 0)).setCell ⟨rb, 2, none⟩ (.int .i64 0)) rb 35 TZ := by
                      have := ((BR'.out.set_ 0 (.slice none 0 0)).set_ 1 (.slice none 0 0)).set_ 2 (.int .i64 0)
                      simpa using this
                    refine bodyPost_ret (results_cell2 Try.results21 _ _ rb 35 _ (0, 0) _ rfl BF Try.underlying35 ⟨_, rfl⟩ (by kernel_rfl)) rfl ?_
                    refine ⟨HFIN.out _ (((F'.setCell (p := ⟨rb, 0, none⟩) HRI.out _).setCell (p := ⟨rb, 1, none⟩) HRI.out _).setCell (p := ⟨rb, 2, none⟩) HRI.out _), ?_⟩
                    rw [HN.out]
                    rfl
                  · have e3 : decide (kk < 0) = false := by simpa using c1
                    have e4 : decide ((b.length : Int) < kk) = true := by rw [decide_eq_true_eq]; omega
                    clear hc
                    go_wp2_with fail
                    refine HT.out.mono ?_
                    rintro r' w6 ⟨k6, rfl⟩
                    obtain ⟨BT', BR', F'⟩ := BT0.out _ (below_call TR.out k6)
                    have BT' := hide BT'
                    have BR' := hide BR'
                    clear k6
                    have q0 : w6.cell? ⟨tb, 0, none⟩ = some (.slice none 0 0) := BT'.out.cell 0
                    have q1 : w6.cell? ⟨tb, 1, none⟩ = some (.slice none 0 0) := BT'.out.cell 1
                    have q2 : w6.cell? ⟨tb, 2, none⟩ = some (.int .i64 0) := BT'.out.cell 2
                    have q3 : w6.cell? ⟨rb, 0, none⟩ = some (.slice none 0 0) := BR'.out.cell 0
                    have q4 : w6.cell? ⟨rb, 1, none⟩ = some (.slice none 0 0) := BR'.out.cell 1
                    have q5 : w6.cell? ⟨rb, 2, none⟩ = some (.int .i64 0) := BR'.out.cell 2
                    have g3 := BR'.out.frozen 0
                    have g4 := BR'.out.frozen 1
                    have g5 := BR'.out.frozen 2
                    go_wp2_with fail
                    have BF : Blk (((w6.setCell ⟨rb, 0, none⟩ (.slice none 0 0)).setCell ⟨rb, 1, none⟩ (.slice none 0 0)).setCell ⟨rb, 2, none⟩ (.int .i64 0)) rb 35 TZ := by
                      have := ((BR'.out.set_ 0 (.slice none 0 0)).set_ 1 (.slice none 0 0)).set_ 2 (.int .i64 0)
                      simpa using this
                    refine bodyPost_ret (results_cell2 Try.results21 _ _ rb 35 _ (0, 0) _ rfl BF Try.underlying35 ⟨_, rfl⟩ (by kernel_rfl)) rfl ?_
                    refine ⟨HFIN.out _ (((F'.setCell (p := ⟨rb, 0, none⟩) HRI.out _).setCell (p := ⟨rb, 1, none⟩) HRI.out _).setCell (p := ⟨rb, 2, none⟩) HRI.out _), ?_⟩
                    rw [HN.out]
                    rfl
      · have HN : Hid (rdT b = none) := hide (by
          rw [HEQ.out, HT1.out, lnP2, e2]; dsimp only; rw [if_neg hc])
        clear HEQ HT1 e2
        by_cases c1 : mm < 0
        · have e3 : decide (mm < 0) = true := by simpa using c1
          clear hc
          go_wp2_with fail
          refine HT.out.mono ?_
          rintro r' w4 ⟨k4, rfl⟩
          have BT' := hide (BT.out.below k4 BT.out.lt)
          have BR' := hide (BR.out.below k4 BR.out.lt)
          have F4 := F3.out.trans (Foot.of_below [rb] k4)
          clear HT k4 BT BR
          have q0 : w4.cell? ⟨tb, 0, none⟩ = some (.slice none 0 0) := BT'.out.cell 0
          have q1 : w4.cell? ⟨tb, 1, none⟩ = some (.slice none 0 0) := BT'.out.cell 1
          have q2 : w4.cell? ⟨tb, 2, none⟩ = some (.int .i64 0) := BT'.out.cell 2
          have q3 : w4.cell? ⟨rb, 0, none⟩ = some (.slice none 0 0) := BR'.out.cell 0
          have q4 : w4.cell? ⟨rb, 1, none⟩ = some (.slice none 0 0) := BR'.out.cell 1
          have q5 : w4.cell? ⟨rb, 2, none⟩ = some (.int .i64 0) := BR'.out.cell 2
          have g3 := BR'.out.frozen 0
          have g4 := BR'.out.frozen 1
          have g5 := BR'.out.frozen 2
          go_wp2_with fail
          have BF : Blk (((w4.setCell ⟨rb, 0, none⟩ (.slice none 0 0)).setCell ⟨rb, 1, none⟩ (.slice none 0 0)).setCell ⟨rb, 2, none⟩ (.int .i64 0)) rb 35 TZ := by
            have := ((BR'.out.set_ 0 (.slice none 0 0)).set_ 1 (.slice none 0 0)).set_ 2 (.int .i64 0)
            simpa using this
          refine bodyPost_ret (results_cell2 Try.results21 _ _ rb 35 _ (0, 0) _ rfl BF Try.underlying35 ⟨_, rfl⟩ (by kernel_rfl)) rfl ?_
          refine ⟨HFIN.out _ (((F4.setCell (p := ⟨rb, 0, none⟩) HRI.out _).setCell (p := ⟨rb, 1, none⟩) HRI.out _).setCell (p := ⟨rb, 2, none⟩) HRI.out _), ?_⟩
          rw [HN.out]
          rfl
        · have e3 : decide (mm < 0) = false := by simpa using c1
          have e4 : decide ((b.length : Int) < mm) = true := by rw [decide_eq_true_eq]; omega
          clear hc
          go_wp2_with fail
          refine HT.out.mono ?_
          rintro r' w4 ⟨k4, rfl⟩
          have BT' := hide (BT.out.below k4 BT.out.lt)
          have BR' := hide (BR.out.below k4 BR.out.lt)
          have F4 := F3.out.trans (Foot.of_below [rb] k4)
          clear HT k4 BT BR
          have q0 : w4.cell? ⟨tb, 0, none⟩ = some (.slice none 0 0) := BT'.out.cell 0
          have q1 : w4.cell? ⟨tb, 1, none⟩ = some (.slice none 0 0) := BT'.out.cell 1
          have q2 : w4.cell? ⟨tb, 2, none⟩ = some (.int .i64 0) := BT'.out.cell 2
          have q3 : w4.cell? ⟨rb, 0, none⟩ = some (.slice none 0 0) := BR'.out.cell 0
          have q4 : w4.cell? ⟨rb, 1, none⟩ = some (.slice none 0 0) := BR'.out.cell 1
          have q5 : w4.cell? ⟨rb, 2, none⟩ = some (.int .i64 0) := BR'.out.cell 2
          have g3 := BR'.out.frozen 0
          have g4 := BR'.out.frozen 1
          have g5 := BR'.out.frozen 2
          go_wp2_with fail
          have BF : Blk (((w4.setCell ⟨rb, 0, none⟩ (.slice none 0 0)).setCell ⟨rb, 1, none⟩ (.slice none 0 0)).setCell ⟨rb, 2, none⟩ (.int .i64 0)) rb 35 TZ := by
            have := ((BR'.out.set_ 0 (.slice none 0 0)).set_ 1 (.slice none 0 0)).set_ 2 (.int .i64 0)
            simpa using this
          refine bodyPost_ret (results_cell2 Try.results21 _ _ rb 35 _ (0, 0) _ rfl BF Try.underlying35 ⟨_, rfl⟩ (by kernel_rfl)) rfl ?_
          refine ⟨HFIN.out _ (((F4.setCell (p := ⟨rb, 0, none⟩) HRI.out _).setCell (p := ⟨rb, 1, none⟩) HRI.out _).setCell (p := ⟨rb, 2, none⟩) HRI.out _), ?_⟩
          rw [HN.out]
          rfl
/-- All but the first n cells of the block g are as they were; these were bytes. -/
structure Over (g n : Nat) (W W' : World) : Prop where
  size : W.heap.size ≤ W'.heap.size
  was : ∀ i, i < n → ∃ x, W.cell? ⟨g, i, none⟩ = some (.int .u8 x)
  cell : ∀ b o, b < W.heap.size → ¬ (b = g ∧ o < n) → W'.cell? ⟨b, o, none⟩ = W.cell? ⟨b, o, none⟩
section
variable {g n : Nat} {W W' : World}
theorem Over.keep (h : Over g n W W') {b o : Nat} {v : Value} (hb : b < W.heap.size) (hv : W.cell? ⟨b, o, none⟩ = some v) (hn : ∀ x, v ≠ .int .u8 x) : W'.cell? ⟨b, o, none⟩ = some v := by
  rw [h.cell b o hb ?_]
  · exact hv
  · rintro ⟨rfl, ho⟩
    obtain ⟨x, hx⟩ := h.was o ho
    rw [hv] at hx
    exact hn x (Option.some.inj hx)
theorem Over.row (h : Over g n W W') {a : Option Addr} {l : List Value} (hr : Row W a l) (hn : ∀ v ∈ l, ∀ x, v ≠ .int .u8 x) : Row W' a l :=
  ⟨hr.1, fun hp => by
    obtain ⟨b, o, h1, h2, h3⟩ := hr.2 hp
    exact ⟨b, o, h1, Nat.lt_of_lt_of_le h2 h.size, fun i hi => h.keep h2 (h3 i hi) (hn _ (List.getElem_mem hi))⟩⟩
theorem Over.ur (h : Over g n W W') {uv : Value} {us : List Int} (hu : UR W uv us) : UR W' uv us := by
  obtain ⟨ua, uc, h1, h2, h3⟩ := hu
  exact ⟨ua, uc, h1, h.row h2 (fun v hv x e => by obtain ⟨y, _, rfl⟩ := List.mem_map.1 hv; cases e), h3⟩
theorem Over.tree (h : Over g n W W') {v : Value} {T : Tr} (ht : TrV W v T) : TrV W' v T := by
  obtain ⟨na, nc, aa, ac, h1, h2, h3, h4⟩ := ht
  refine ⟨na, nc, aa, ac, h1, ⟨h2.1, fun hp => ?_⟩, h.row h3 (fun v hv x e => by obtain ⟨y, _, rfl⟩ := List.mem_map.1 hv; cases e), h4⟩
  obtain ⟨b, o, e1, e2, e3⟩ := h2.2 hp
  refine ⟨b, o, e1, Nat.lt_of_lt_of_le e2 h.size, fun i hi => ?_⟩
  obtain ⟨c1, c2, uv, c3, c4⟩ := e3 i hi
  have hout : ¬ (b = g ∧ o + i * 44 < n) := by
    rintro ⟨rfl, ho⟩
    obtain ⟨x, hx⟩ := h.was _ ho
    rw [c1] at hx
    cases hx
  refine ⟨(h.cell b _ e2 hout).trans c1, Nat.lt_of_lt_of_le c2 h.size, uv, fun j hj => ?_, h.ur c4⟩
  rw [h.cell b _ e2 (by rintro ⟨rfl, ho⟩; exact hout ⟨rfl, by omega⟩)]
  exact c3 j hj
theorem Over.refl {g n : Nat} {W : World} (h : ∀ i, i < n → ∃ x, W.cell? ⟨g, i, none⟩ = some (.int .u8 x)) : Over g n W W := ⟨Nat.le_refl _, h, fun _ _ _ _ => rfl⟩
theorem Over.set_ (h : Over g n W W') {i : Nat} (hi : i < n) (v : Value) : Over g n W (W'.setCell ⟨g, i, none⟩ v) := by
  refine ⟨by simpa [World.setCell] using h.size, h.was, fun b o hb hn => ?_⟩
  rw [← h.cell b o hb hn]
  by_cases hbg : b = g
  · subst hbg
    have ho : o ≠ i := fun e => hn ⟨rfl, by omega⟩
    simp only [World.cell?, World.setCell]
    rw [Array.getElem?_modify]
    simp
    cases W'.heap[b]? with
    | none => rfl
    | some x =>
      cases x <;> simp
      rw [Array.getElem?_setIfInBounds_ne (fun e => ho e.symm)]
  · have := Below.heap_setCell W' ⟨g, i, none⟩ v b hbg
    simp only [World.cell?] at this ⊢
    rw [this]
end
theorem trv_zero (W : World) : TrV W (.agg TZ) ⟨0, [], []⟩ :=
  ⟨none, 0, none, 0, rfl, ⟨by decide, fun h => absurd h (by simp)⟩, ⟨by decide, fun h => absurd h (by simp)⟩, ⟨by show I64 0; unfold I64; omega, fun _ h => absurd h (by simp), by decide, fun _ h => absurd h (by simp), by decide⟩, by decide, by decide, by decide, by decide⟩
/-- The tree that was read; the zero one, where none was. -/
def tr0 : Option Tr → Tr
  | some T => T
  | none => ⟨0, [], []⟩
def er0 : Option Tr → Int
  | some _ => 0
  | none => 5
theorem rd_uni {w w' : World} {o : Option Tr} {r : Ending} (h : RDP w o r w') : Below w.heap.size w w' ∧ ∃ v, r = .returned (.tuple #[v, .int .i64 (er0 o)]) ∧ TrV w' v (tr0 o) := by
  refine ⟨h.1, ?_⟩
  cases o with
  | some T => exact h.2
  | none => exact ⟨_, h.2, trv_zero _⟩
theorem rr_uni {w w' : World} {o : Option Tr} {r : Ending} (h : RR w o r w') : Below w.heap.size w w' ∧ ∃ v, r = .returned (.tuple #[v, .int .i64 (er0 o)]) ∧ TrV w' v (tr0 o) := by
  refine ⟨h.1, ?_⟩
  cases o with
  | some T => exact h.2
  | none => exact ⟨_, h.2, trv_zero _⟩
theorem tr0_sz {b : List Int} (hb : Bts b) (hl : b.length ≤ 8192) : SzT (tr0 (rdT b)) := by
  cases e : rdT b with
  | none =>
    obtain ⟨_, _, _, _, _, _, _, ok, _⟩ := trv_zero default
    exact SzT.of_wr ok (small_wr ok (by decide))
  | some T =>
    obtain ⟨h1, h2⟩ := rdT_sound hb e
    exact SzT.of_wr h2 (by show (wrT T).length ≤ 10000000; rw [← h1]; omega)
theorem BOwn.blk {W : World} {B : Nat} {v : Value} {l : List Int} (h : BOwn W B v l) : ∃ a cap g, v = .slice a l.length cap ∧ BRow W a l ∧ (0 < l.length → a = some ⟨g, 0, none⟩ ∧ B ≤ g ∧ ∃ cs, Blk W g 5 cs ∧ l.length ≤ cs.size ∧ ∀ i (h : i < l.length), cs[i]? = some (.int .u8 l[i])) := by
  obtain ⟨a, cap, e, h1, h2, h3⟩ := h.row
  rcases h.2 with ⟨rfl, hn⟩ | ⟨g, cap', cur, rfl, hB, hh, hnc, hcap, hsz, htake⟩
  · exact ⟨a, cap, 0, e, h3, fun hp => by omega⟩
  · simp only [Value.slice.injEq] at e
    refine ⟨a, cap, g, by rw [← e.1, e.2.2], h3, fun _ => ⟨e.1.symm, hB, cur, hh, by omega, fun i hi => ?_⟩⟩
    have : (cur.toList.take (l.length * 1))[i]? = (bys l)[i]? := by rw [htake]
    rw [List.getElem?_take_of_lt (by omega)] at this
    simp [bys, List.getElem?_map, List.getElem?_eq_getElem hi] at this
    simpa using this
/-- Where the bytes lie that were copied. -/
def OGp (w : World) (oa : Option Addr) (og : Nat) (l : List Int) (W : World) : Prop := 0 < l.length → oa = some ⟨og, 0, none⟩ ∧ w.heap.size ≤ og ∧ ∃ cs, Blk W og 5 cs ∧ l.length ≤ cs.size ∧ ∀ i (h : i < l.length), cs[i]? = some (.int .u8 l[i])
theorem OGp.below {w W W' : World} {oa : Option Addr} {og : Nat} {l : List Int} (h : OGp w oa og l W) (k : Below W.heap.size W W') : OGp w oa og l W' := by
  intro hp
  obtain ⟨e, hB, cs, hk, hs, hv⟩ := h hp
  exact ⟨e, hB, cs, hk.below k hk.lt, hs, hv⟩
set_option maxRecDepth 100000 in
set_option maxHeartbeats 4000000 in
theorem walk_CodecPlays (w : World) (a0 : Option Addr) (l : List Int) (c0 : Nat) (hr0 : Row w a0 (l.map (.int .u8))) (hw0 : ∀ n ∈ l, (Lit.int .u8 n).wf = true) (hc0 : l.length ≤ c0) (hm0 : c0 ≤ maxLen) :
    Calls Try.prog 5 #[.slice a0 l.length c0] w fun e w' => e = .returned (.bool true) ∧ Below w.heap.size w w' := by
  have bl : Bts l := fun n hn => u8_of (hw0 n hn)
  have R0 : Hid (BRow w a0 l) := hide hr0
  have hln := hr0.1
  rw [List.length_map] at hln
  have BL := hide bl
  clear hr0 hw0 bl
  go_enter Try.func5, Try.ntmps5
  by_cases h1 : l.length ≤ 8192
  · have d1 : decide (8192 < (l.length : Int)) = false := by rw [decide_eq_false_iff_not]; omega
    have SZ := hide (tr0_sz BL.out h1)
    go_wp2_with fail
    clear d1
    refine (bcopied_any a0 l c0 w R0.out (by omega)).mono ?_
    rintro r w2 ⟨v2, rfl, O2, k2⟩
    have T2 := hide k2
    have hrd := read_own O2 BL.out (by omega)
    obtain ⟨oa, oc, og, rfl, OR, OG⟩ := O2.blk
    have OR2 := hide OR
    have OG2 : Hid (OGp w oa og l w2) := hide OG
    clear k2 O2 OR OG
    generalize hTT : tr0 (rdT l) = TT at SZ
    generalize hEE : er0 (rdT l) = EE
    have HTT := hide hTT
    have HEE := hide hEE
    clear hTT hEE
    go_wp2_with fail
    refine hrd.mono ?_
    intro r w3 hrd3
    obtain ⟨k3, v3, rfl, TV3⟩ := rd_uni hrd3
    rw [HTT.out] at TV3
    rw [HEE.out]
    obtain ⟨na, nc, aa, ac, e3⟩ := TV3.form
    subst e3
    have TV3 := hide TV3
    have T3 := hide (below_call (w := w) T2.out k3)
    have OR3 := hide (OR2.out.below k3)
    have OG3 := hide (OG2.out.below k3)
    clear hrd hrd3 k3 OR2 OG2 T2
    go_upto_region 5 with fail
    obtain ⟨w4, hw4⟩ : ∃ w4, w4 = w3.alloc (.cells #[.slice na TT.nodes.length nc, .slice aa TT.adv.length ac, .int .i64 TT.view] 35) := ⟨_, rfl⟩
    have k4 : Below w3.heap.size w3 w4 := by rw [hw4]; exact (Below.refl _ _).alloc (Nat.le_refl _) _
    have BT4 : Blk w4 w3.heap.size 35 #[.slice na TT.nodes.length nc, .slice aa TT.adv.length ac, .int .i64 TT.view] := by rw [hw4]; exact Blk.new _ _ _
    rw [← hw4]
    have T4 := hide (below_call (w := w) T3.out k4)
    have TV4 := hide (TV3.out.below k4)
    have OR4 := hide (OR3.out.below k4)
    have OG4 := hide (OG3.out.below k4)
    have hog4 : Hid (0 < l.length → og ≠ w3.heap.size) := hide (fun h => by
      obtain ⟨_, _, cs, hk, _⟩ := OG3.out h
      have := hk.lt
      omega)
    generalize w3.heap.size = tb at BT4 hog4 ⊢
    have BT4 := hide BT4
    clear hw4 k4 T3 TV3 OR3 OG3
    go_wp2_with fail
    refine (rread_any a0 c0 w4 (R0.out.below T4.out) BL.out h1).mono ?_
    intro r w5 hrd5
    obtain ⟨k5, v5, rfl, TW5⟩ := rr_uni hrd5
    rw [HTT.out] at TW5
    rw [HEE.out]
    obtain ⟨nb, nd, ab, ad, e5⟩ := TW5.form
    subst e5
    have TW5 := hide TW5
    have TV5 := hide (TV4.out.below k5)
    have T5 := hide (below_call (w := w) T4.out k5)
    have BT5 := hide (BT4.out.below k5 BT4.out.lt)
    have OR5 := hide (OR4.out.below k5)
    have OG5 := hide (OG4.out.below k5)
    clear hrd5 k5 OR4 OG4 T4 TV4 BT4
    go_upto_region 6 with fail
    obtain ⟨w6, hw6⟩ : ∃ w6, w6 = w5.alloc (.cells #[.slice nb TT.nodes.length nd, .slice ab TT.adv.length ad, .int .i64 TT.view] 35) := ⟨_, rfl⟩
    have k6 : Below w5.heap.size w5 w6 := by rw [hw6]; exact (Below.refl _ _).alloc (Nat.le_refl _) _
    have BU6 : Blk w6 w5.heap.size 35 #[.slice nb TT.nodes.length nd, .slice ab TT.adv.length ad, .int .i64 TT.view] := by rw [hw6]; exact Blk.new _ _ _
    rw [← hw6]
    have T6 := hide (below_call (w := w) T5.out k6)
    have TV6 := hide (TV5.out.below k6)
    have TW6 := hide (TW5.out.below k6)
    have BT6 := hide (BT5.out.below k6 BT5.out.lt)
    have OR6 := hide (OR5.out.below k6)
    have OG6 := hide (OG5.out.below k6)
    have hog6 : Hid (0 < l.length → og ≠ w5.heap.size) := hide (fun h => by
      obtain ⟨_, _, cs, hk, _⟩ := OG5.out h
      have := hk.lt
      omega)
    generalize w5.heap.size = ub at BU6 hog6 ⊢
    have BU6 := hide BU6
    clear hw6 k6 OR5 OG5 T5 TV5 TW5 BT5
    have x0 : w6.cell? ⟨tb, 0, none⟩ = some (.slice na TT.nodes.length nc) := BT6.out.cell 0
    have x1 : w6.cell? ⟨tb, 1, none⟩ = some (.slice aa TT.adv.length ac) := BT6.out.cell 1
    have x2 : w6.cell? ⟨tb, 2, none⟩ = some (.int .i64 TT.view) := BT6.out.cell 2
    have y0 : w6.cell? ⟨ub, 0, none⟩ = some (.slice nb TT.nodes.length nd) := BU6.out.cell 0
    have y1 : w6.cell? ⟨ub, 1, none⟩ = some (.slice ab TT.adv.length ad) := BU6.out.cell 1
    have y2 : w6.cell? ⟨ub, 2, none⟩ = some (.int .i64 TT.view) := BU6.out.cell 2
    go_wp2_with fail
    refine (tsame_any _ _ TT TT w6 TV6.out TW6.out SZ.out SZ.out).mono ?_
    rintro r w7 ⟨rfl, k7⟩
    rw [decide_eq_true (rfl : TT = TT)]
    have T7 := hide (below_call (w := w) T6.out k7)
    have K7 := hide k7
    clear k7 x0 x1 x2 y0 y1 y2
    go_wp2_with fail
    refine (bsame_any oa a0 l l oc c0 w7 (OR6.out.below K7.out) (R0.out.below T7.out) (by omega) (by omega)).mono ?_
    rintro r w8 ⟨rfl, k8⟩
    rw [decide_eq_true (rfl : l = l)]
    have T8 := hide (below_call (w := w) T7.out k8)
    have K8 := hide (below_call K7.out k8)
    clear k8
    have TV8 := hide (TV6.out.below K8.out)
    have TW8 := hide (TW6.out.below K8.out)
    have BT8 := hide (BT6.out.below K8.out BT6.out.lt)
    have BU8 := hide (BU6.out.below K8.out BU6.out.lt)
    have OG8 := hide (OG6.out.below K8.out)
    clear K7 T7 TV6 TW6 BT6 BU6 OR6 OG6 T6 K8
    go_wp2_with fail
    go_loopw [8] (fun s8 wr => ∃ i : Nat, i ≤ l.length ∧ s8 = .int .i64 i ∧ Over og l.length w8 wr ∧ Below w.heap.size w wr ∧ (0 < l.length → ∃ cs, Blk wr og 5 cs ∧ l.length ≤ cs.size)) (fun s8 _ => l.length - (intOf s8).toNat)
    case atStart =>
      refine ⟨0, Nat.zero_le _, rfl, Over.refl (fun i hi => ?_), T8.out, fun h => ?_⟩
      · obtain ⟨e, hB, cs, hk, hs, hv⟩ := OG8.out (by omega)
        exact ⟨_, (hk.cell i).trans (hv i hi)⟩
      · obtain ⟨e, hB, cs, hk, hs, hv⟩ := OG8.out h
        exact ⟨cs, hk, hs⟩
    case round =>
      obtain ⟨i, hil, rfl, hO, hb, hbk⟩ := hrel
      have OV := hide hO
      have TR := hide hb
      have HBK := hide hbk
      clear hO hb hbk
      by_cases hlt : i < l.length
      · have e1 : decide ((i : Int) < (l.length : Int)) = true := by simpa using hlt
        obtain ⟨ea, hB, _⟩ := OG8.out (by omega)
        obtain ⟨cs, hk, hs⟩ := HBK.out (by omega)
        subst ea
        have z0 : wr.cell? ⟨og, i, none⟩ = some cs[i] := by rw [hk.cell i, Array.getElem?_eq_getElem (by omega)]
        have g0 := hk.frozen i
        have HK := hide hk
        clear hk
        go_wp2_with fail
        go_roundw
        case rel =>
          refine ⟨i + 1, hlt, by go_num, OV.out.set_ hlt _, TR.out.setCell (p := ⟨og, i, none⟩) hB _, fun _ => ⟨_, HK.out.set_ i _, by rw [Array.size_setIfInBounds]; exact hs⟩⟩
        case measure => simp [intOf]; omega
      · obtain rfl : i = l.length := by omega
        have e1 : decide ((l.length : Int) < (l.length : Int)) = false := by simp
        have TV9 := hide (OV.out.tree TV8.out)
        have TW9 := hide (OV.out.tree TW8.out)
        have keep : ∀ g c0 c1 c2, Blk w8 g 35 #[c0, c1, c2] → (0 < l.length → og ≠ g) → wr.cell? ⟨g, 0, none⟩ = some c0 ∧ wr.cell? ⟨g, 1, none⟩ = some c1 ∧ wr.cell? ⟨g, 2, none⟩ = some c2 := by
          intro g c0 c1 c2 hk hne
          have hc : ∀ o, wr.cell? ⟨g, o, none⟩ = w8.cell? ⟨g, o, none⟩ := fun o => OV.out.cell g o hk.lt (fun ⟨h1, h2⟩ => hne (by omega) h1.symm)
          exact ⟨(hc 0).trans (hk.cell 0), (hc 1).trans (hk.cell 1), (hc 2).trans (hk.cell 2)⟩
        obtain ⟨x0, x1, x2⟩ := keep tb _ _ _ BT8.out hog4.out
        obtain ⟨y0, y1, y2⟩ := keep ub _ _ _ BU8.out hog6.out
        clear keep
        go_wp2_with fail
        refine (tsame_any _ _ TT TT wr TV9.out TW9.out SZ.out SZ.out).mono ?_
        rintro r w9 ⟨rfl, k9⟩
        rw [decide_eq_true (rfl : TT = TT)]
        have T9 := hide (below_call (w := w) TR.out k9)
        clear k9 x0 x1 x2 y0 y1 y2
        go_wp2_with fail
        refine (works_any w9).mono ?_
        rintro r' w10 ⟨rfl, k10⟩
        have T10 := hide (below_call (w := w) T9.out k10)
        clear k10
        go_wp2_with fail
        go_returns
        exact ⟨rfl, T10.out⟩
  · have d1 : decide (8192 < (l.length : Int)) = true := by rw [decide_eq_true_eq]; omega
    go_wp2_with fail
    refine (works_any w).mono ?_
    rintro r' w2 ⟨rfl, k2⟩
    have T2 := hide k2
    clear k2
    go_wp2_with fail
    go_returns
    exact ⟨rfl, T2.out⟩
end Go.Proofs.Ytmngndmcidbakaa
