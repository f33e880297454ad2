/- Walk: the document's style. -/
import Derived.Test.YtmngndmcidbakaaSV
namespace Go.Proofs.Ytmngndmcidbakaa
open Go.RowKit
abbrev Z0 : Array Value := (SC (gof (KD.map zv)) (.slice none 0 0)).toArray
/-- What the document's style gives. -/
def RS2 (w : World) (b : List Int) (o : Option (List (List Int) × List Int)) (r : Ending) (w' : World) : Prop :=
  Below w.heap.size w w' ∧ match o with
  | some (L, q) => L.length = 32 ∧ ∃ uv, r = .returned (.tuple #[.agg (SC (gof L) uv).toArray, .int .i64 ((b.length - q.length : Nat) : Int), .bool true]) ∧ UO w' w.heap.size uv (L.getD 31 []) ∧ Suf b q
  | none => ∃ g uv, r = .returned (.tuple #[.agg (SC g uv).toArray, .int .i64 0, .bool false]) ∧ uv.oneCell' = true
/-- The state: the style lies in the block sb. -/
structure LS (W2 wr : World) (sb : Nat) (L : List (List Int)) (uv : Value) : Prop where
  len : L.length = 32
  blk : Blk wr sb 49 (SC (gof L) uv).toArray
  own : UO wr W2.heap.size uv (L.getD 31 [])
  foot : Foot [sb] W2 wr
theorem LS.below {W2 wr w' : World} {sb : Nat} {L : List (List Int)} {uv : Value} (h : LS W2 wr sb L uv) (hb : Below wr.heap.size wr w') : LS W2 w' sb L uv :=
  ⟨h.len, h.blk.below hb h.blk.lt, h.own.keeps (Keeps.of_below hb), h.foot.trans (Foot.of_below _ hb)⟩
set_option maxRecDepth 100000 in
set_option maxHeartbeats 4000000 in
theorem rread_style {b q0 : List Int} (a : Option Addr) (c : Nat) (w : World) (hr : BRow w a b) (hb : Bts b) (hn : b.length ≤ 1000000) (hs : Suf b q0) :
    Calls Try.prog 32 #[.slice a b.length c, .int .i64 ((b.length - q0.length : Nat) : Int)] w (RS2 w b (lnS (q0.length + 1) (KD.map zv) q0)) := by
  obtain ⟨i0, hi, hz0, hz1, hz2⟩ := info_parts info92
  obtain ⟨i1, hi', hy0, hy1, hy2⟩ := info_parts info2
  obtain ⟨W2, hW2⟩ : ∃ W2, W2 = (w.alloc (.cells Z0 49)).alloc (.cells Z0 49) := ⟨_, rfl⟩
  obtain ⟨rb, hrb⟩ : ∃ rb, rb = w.heap.size := ⟨_, rfl⟩
  obtain ⟨sb, hsb⟩ : ∃ sb, sb = w.heap.size + 1 := ⟨_, rfl⟩
  have k2 : Below w.heap.size w W2 := by rw [hW2]; exact ((Below.refl _ _).alloc (Nat.le_refl _) _).alloc (by simp) _
  have BR2 : Blk W2 rb 49 Z0 := by rw [hW2, hrb]; exact (Blk.new w _ _).alloc _
  have BS2 : Blk W2 sb 49 Z0 := by
    rw [hW2, hsb]
    have := Blk.new (w.alloc (.cells Z0 49)) 49 Z0
    simpa using this
  have HR := hide hr
  have HB := hide hb
  have HSZ2 : Hid (w.heap.size ≤ W2.heap.size) := hide k2.size
  have hsb2 := BS2.lt
  have hrb2 := BR2.lt
  have K2 := hide k2
  have BR2 := hide BR2
  have HFIN : Hid (∀ w', Foot [sb, rb] W2 w' → Below w.heap.size w w') := hide (fun w' hf => below_foot K2.out hf (by simp; omega))
  have HFS : Hid (∀ w', Foot [sb] W2 w' → Below w.heap.size w w' ∧ Blk w' rb 49 Z0) := hide (fun w' hf => ⟨below_foot K2.out hf (by simp; omega), BR2.out.foot hf (by simp; omega)⟩)
  have HRI : Hid (rb ∈ [sb, rb]) := hide (by simp)
  have LS2 : Hid (LS W2 W2 sb (KD.map zv) (.slice none 0 0)) := hide ⟨rfl, BS2, World.ownsRow_nil _ _ _ _, Foot.refl _ _⟩
  have HW2 := hide hW2
  have HSB := hide hsb
  have HRB := hide hrb
  have hsb3 : rb < sb := by omega
  clear hr hb hW2 BS2 k2 hrb hsb
  go_enter Try.func32, Try.ntmps32
  go_wp2_with fail
  change Code.wp _ _ _ _ ((w.alloc (.cells Z0 49)).alloc (.cells Z0 49))
  rw [← HW2.out, ← HSB.out, ← HRB.out]
  go_loopw [1] (fun s1 wr => ∃ (n : Nat) (L : List (List Int)) (q : List Int) (uv : Value), s1 = .int .i64 ((b.length - q.length : Nat) : Int) ∧ Hid (Suf b q) ∧ Hid (q.length < n) ∧ Hid (lnS (q0.length + 1) (KD.map zv) q0 = lnS n L q) ∧ LS W2 wr sb L uv) (fun s1 _ => b.length - (intOf s1).toNat)
  case atStart => exact ⟨q0.length + 1, KD.map zv, q0, _, rfl, hide hs, hide (Nat.lt_succ_self _), hide rfl, LS2.out⟩
  case round =>
    clear LS2 hs
    obtain ⟨wo, hwo⟩ : ∃ wo, wo = wr := ⟨_, rfl⟩
    subst hwo
    obtain ⟨n, L, q, uv, rfl, HSF, HLT, HE, hL⟩ := hrel
    have HL := hide hL
    obtain ⟨T, BRr⟩ := HFS.out _ hL.foot
    have T := hide T
    have BRr := hide BRr
    have RB := hide (HR.out.below T.out)
    have hql := HSF.out.len
    clear hL
    cases q with
    | nil =>
      have HN : Hid (lnS (q0.length + 1) (KD.map zv) q0 = none) := hide (by
        rw [HE.out]
        cases n <;> rfl)
      have d0 : decide (((b.length - ([] : List Int).length : Nat) : Int) < (b.length : Int)) = false := by simp
      go_wp2_with (first | (refine wpList_load_row rfl 49 _ rfl sb rfl 49 _ _ _ HL.out.blk Try.underlying49 rfl (st_size _ _) ?_) | (refine wpList_store_row rfl 49 _ _ rfl rb (SC (gof L) uv).toArray rfl rfl 49 _ BRr.out (st_size _ _) rfl (SC_one _ HL.out.own.one) ?_))
      refine bodyPost_ret (results_cell3 Try.results32 _ _ rb 49 _ (0, 0) _ rfl (BRr.out.setRow _) Try.underlying49 ⟨_, rfl⟩ (st_size _ _)) rfl ?_
      refine ⟨?_, ?_⟩
      · exact HFIN.out _ ((HL.out.foot.mono (by simp)).setRow (g := rb) (.inl HRI.out) _)
      · rw [HN.out]; exact ⟨_, _, rfl, HL.out.own.one⟩
    | cons x q =>
      have hbx := (HSF.out.bts HB.out) x (by simp)
      obtain ⟨x, rfl⟩ := Int.eq_ofNat_of_zero_le hbx.1
      have hx255 : x ≤ 255 := by have := hbx.2; omega
      have HSQ := hide HSF.out.tail
      obtain ⟨n, rfl⟩ : ∃ m, n = m + 1 := ⟨n - 1, by have := HLT.out; omega⟩
      have hlt : q.length < n := by have := HLT.out; simp only [List.length_cons] at this; omega
      rw [List.length_cons] at hql
      obtain ⟨p, hp⟩ : ∃ p, p = b.length - ((x : Int) :: q).length := ⟨_, rfl⟩
      have hp1 : p + 1 = b.length - q.length := by rw [hp, List.length_cons]; omega
      have hpl : p < b.length := by omega
      obtain ⟨bb, bo, ha, hbb, hcell⟩ := b_at HR.out (by omega)
      subst ha
      have HCELL := hide hcell
      have x0 : wo.cell? ⟨bb, bo + p, none⟩ = some (.int .u8 x) := by
        rw [T.out.cell (p := ⟨bb, bo + p, none⟩) hbb, hcell p hpl]
        have := HSF.out.get (i := 0) (by simp) (by rw [Nat.add_zero, ← hp]; exact hpl)
        simp only [Nat.add_zero, ← hp, List.getElem_cons_zero] at this
        rw [this]
      rw [← hp]
      have HP := hide hp
      have HP1 := hide hp1
      have d0 : decide ((p : Int) < (b.length : Int)) = true := by simpa using hpl
      have w0 : IntKind.i64.wrap ((p : Int) + 1) = ((b.length - q.length : Nat) : Int) := by rw [← hp1]; simp only [IntKind.wrap, IntKind.bits, IntKind.signed]; simp; omega
      clear hcell hbx hp hp1
      cases x with
      | zero =>
        have HN : Hid (lnS (q0.length + 1) (KD.map zv) q0 = some (L, q)) := hide (by rw [HE.out]; exact lnS_zero _ _ _)
        clear HE
        go_wp2_with (first | (refine wpList_load_row rfl 49 _ rfl sb rfl 49 _ _ _ HL.out.blk Try.underlying49 rfl (st_size _ _) ?_) | (refine wpList_store_row rfl 49 _ _ rfl rb (SC (gof L) uv).toArray rfl rfl 49 _ BRr.out (st_size _ _) rfl (SC_one _ HL.out.own.one) ?_))
        refine bodyPost_ret (results_cell3 Try.results32 _ _ rb 49 _ (0, 0) _ rfl (BRr.out.setRow _) Try.underlying49 ⟨_, rfl⟩ (st_size _ _)) rfl ?_
        refine ⟨HFIN.out _ ((HL.out.foot.mono (by simp)).setRow (g := rb) (.inl HRI.out) _), ?_⟩
        rw [HN.out]
        refine ⟨HL.out.len, uv, rfl, ?_, HSQ.out⟩
        refine (HL.out.own.keeps (Keeps.of_foot ((Foot.refl [rb] wo).setRow (g := rb) (.inl (by simp)) _) (fun k hk => by obtain rfl := List.mem_singleton.1 hk; exact ⟨_, _, BRr.out, by decide⟩))).mono HSZ2.out
      | succ j =>
        have ej : ((j + 1 : Nat) : Int) = (j : Int) + 1 := by omega
        rw [ej] at x0 HE
        have hw8 : IntKind.i64.wrap ((j : Int) + 1) = (j : Int) + 1 := by simp only [IntKind.wrap, IntKind.bits, IntKind.signed]; simp; omega
        have hx0 : ((j : Int) + 1 == 0) = false := by simp; omega
        clear ej
        by_cases h32 : 32 ≤ j
        · have d1 : decide (32 < (j : Int) + 1) = true := by rw [decide_eq_true_eq]; omega
          have HN : Hid (lnS (q0.length + 1) (KD.map zv) q0 = none) := hide (by rw [HE.out]; exact lnS_big _ _ _ _ (by omega))
          clear HE h32
          go_wp2_with (first | (refine wpList_load_row rfl 49 _ rfl sb rfl 49 _ _ _ HL.out.blk Try.underlying49 rfl (st_size _ _) ?_) | (refine wpList_store_row rfl 49 _ _ rfl rb (SC (gof L) uv).toArray rfl rfl 49 _ BRr.out (st_size _ _) rfl (SC_one _ HL.out.own.one) ?_))
          refine bodyPost_ret (results_cell3 Try.results32 _ _ rb 49 _ (0, 0) _ rfl (BRr.out.setRow _) Try.underlying49 ⟨_, rfl⟩ (st_size _ _)) rfl ?_
          refine ⟨?_, ?_⟩
          · exact HFIN.out _ ((HL.out.foot.mono (by simp)).setRow (g := rb) (.inl HRI.out) _)
          · rw [HN.out]; exact ⟨_, _, rfl, HL.out.own.one⟩
        · have d1 : decide (32 < (j : Int) + 1) = false := by rw [decide_eq_false_iff_not]; omega
          have hj : j < 32 := by omega
          have hstep := lnS_step n L j q hj
          rw [← HE.out] at hstep
          have HST := hide hstep
          have HT := hide (rtake_suf (some ⟨bb, bo, none⟩) c wo RB.out HB.out hn HSQ.out)
          have hql2 := HSQ.out.len
          clear HE hstep h32
          by_cases h31 : j = 31
          · subst h31
            have d2 : (((31 : Nat) : Int) + 1 == 32) = true := by decide
            as_aux_lemma =>
              cases e : rdN q with
              | none =>
                have HN : Hid (lnS (q0.length + 1) (KD.map zv) q0 = none) := hide (by
                  rw [HST.out, show KD.getD 31 9 = 5 from rfl, lnF5_no e])
                rw [e] at HT
                clear HST e
                go_wp2_with fail
                refine HT.out.mono ?_
                rintro r' w5 ⟨k5, rfl⟩
                have LY := hide (HL.out.below k5)
                have BY := hide (BRr.out.below k5 BRr.out.lt)
                clear k5 HT HL BRr
                go_wp2_with (first | (refine wpList_load_row rfl 49 _ rfl sb rfl 49 _ _ _ LY.out.blk Try.underlying49 rfl (st_size _ _) ?_) | (refine wpList_store_row rfl 49 _ _ rfl rb (SC (gof L) uv).toArray rfl rfl 49 _ BY.out (st_size _ _) rfl (SC_one _ LY.out.own.one) ?_))
                refine bodyPost_ret (results_cell3 Try.results32 _ _ rb 49 _ (0, 0) _ rfl (BY.out.setRow _) Try.underlying49 ⟨_, rfl⟩ (st_size _ _)) rfl ?_
                refine ⟨?_, ?_⟩
                · exact HFIN.out _ ((LY.out.foot.mono (by simp)).setRow (g := rb) (.inl HRI.out) _)
                · rw [HN.out]; exact ⟨_, _, rfl, LY.out.own.one⟩
              | some pr =>
                obtain ⟨n5, r⟩ := pr
                obtain ⟨sr1, sr2⟩ := rdN_end e
                have HSR := hide (HSQ.out.trans sr1)
                have hrl := HSR.out.len
                rw [e] at HT
                by_cases hc : 0 ≤ n5 ∧ 2 * n5 ≤ (r.length : Int)
                · obtain ⟨m, hm⟩ : ∃ m : Nat, n5 = m := ⟨n5.toNat, by omega⟩
                  obtain ⟨us, hus1, hus2, hus3⟩ := lnF5_some e hm (by omega)
                  have HD : Hid (lnS (q0.length + 1) (KD.map zv) q0 = lnS n (L.set 31 us) (r.drop (2 * m))) := hide (by
                    rw [HST.out, show KD.getD 31 9 = 5 from rfl, hus1])
                  obtain ⟨p2, hp2⟩ : ∃ p2, p2 = b.length - r.length := ⟨_, rfl⟩
                  have HT := hide (HT.out.mono (fun r' w' (h : RT b wo (some (n5, r)) r' w') => (⟨h.1, by rw [hp2]; exact h.2⟩ : Below wo.heap.size wo w' ∧ r' = .returned (.tuple #[.int .i64 n5, .int .i64 (p2 : Int), .int .i64 0]))))
                  have hm2 : 2 * m ≤ r.length := by omega
                  have w1 : IntKind.i64.wrap ((b.length : Int) - (p2 : Int)) = (r.length : Int) := by rw [hp2]; simp only [IntKind.wrap, IntKind.bits, IntKind.signed]; simp; omega
                  have e1 : decide (n5 < 0) = false := by rw [decide_eq_false_iff_not]; omega
                  have e2 : decide ((b.length : Int) < n5) = false := by rw [decide_eq_false_iff_not]; omega
                  have w2 : IntKind.i64.wrap (2 * n5) = 2 * n5 := by simp only [IntKind.wrap, IntKind.bits, IntKind.signed]; simp; omega
                  have e3 : decide ((r.length : Int) < 2 * n5) = false := by rw [decide_eq_false_iff_not]; omega
                  have w3 : IntKind.i64.wrap ((p2 : Int) + 2 * n5) = ((b.length - (r.drop (2 * m)).length : Nat) : Int) := by
                    rw [List.length_drop, hp2, hm]; simp only [IntKind.wrap, IntKind.bits, IntKind.signed]; simp; omega
                  have hpr : p2 + r.length = b.length := by omega
                  have HM := hide hm
                  have HP2 := hide hp2
                  have HUS := hide hus2
                  have HU3 := hide hus3
                  clear HST e hc hm hus1 hus2 hus3 hp2
                  go_wp2_with fail
                  refine HT.out.mono ?_
                  rintro r' w5 ⟨k5, rfl⟩
                  have LY := hide (HL.out.below k5)
                  have y5 : w5.cell? ⟨sb, 42, none⟩ = some uv := LY.out.blk.cell 42
                  have f5 := LY.out.blk.frozen 42
                  clear k5 HT HL BRr
                  go_wp2_with fail
                  have L6 : Hid (LS W2 (w5.setCell ⟨sb, 42, none⟩ (.slice none 0 0)) sb (L.set 31 []) (.slice none 0 0)) := hide ⟨by rw [List.length_set]; exact LY.out.len, by
                    rw [SC_put5 _ LY.out.len]
                    exact LY.out.blk.set_ 42 _, by
                    rw [List.getD_eq_getElem?_getD, List.getElem?_set_self (by rw [LY.out.len]; decide)]
                    exact World.ownsRow_nil _ _ _ _, LY.out.foot.setCell (p := ⟨sb, 42, none⟩) (.inl (by simp)) _⟩
                  have HLL := hide LY.out.len
                  generalize w5.setCell ⟨sb, 42, none⟩ (.slice none 0 0) = w6 at L6 ⊢
                  clear y5 f5 LY
                  obtain ⟨m5, hm5⟩ : ∃ m5, m5 = m := ⟨_, rfl⟩
                  go_loopw [12] (fun s12 wr => ∃ (i : Nat) (uvi : Value), i ≤ m ∧ s12 = .int .i64 i ∧ LS W2 wr sb (L.set 31 (us.take i)) uvi) (fun s12 _ => m - (intOf s12).toNat)
                  case atStart => exact ⟨0, _, Nat.zero_le _, rfl, L6.out⟩
                  case round =>
                    clear L6
                    obtain ⟨i, uvi, him, rfl, hL⟩ := hrel
                    have LI := hide hL
                    have hi31 : ((L.set 31 (us.take i)).getD 31 []) = us.take i := by rw [List.getD_eq_getElem?_getD, List.getElem?_set_self (by rw [HLL.out]; decide)]; rfl
                    have OI := hide (show UO wr W2.heap.size uvi (us.take i) by have := hL.own; rwa [hi31] at this)
                    obtain ⟨T7, BX⟩ := HFS.out _ hL.foot
                    have T7 := hide T7
                    have BX := hide BX
                    have hszr := hL.foot.size
                    clear hL hi31
                    by_cases hlt2 : i < m
                    · have d3 : decide ((i : Int) < n5) = true := by rw [decide_eq_true_eq]; have := HM.out; omega
                      have hul : i < us.length := by have := HUS.out; omega
                      have hu1 := HU3.out i hul (by omega)
                      obtain ⟨u1, hu1'⟩ : ∃ u1, u1 = p2 + 2 * i := ⟨_, rfl⟩
                      have hl1 : u1 < b.length := by omega
                      have hl2 : u1 + 1 < b.length := by omega
                      have g1 : b[u1] = r[2 * i] := by
                        have := HSR.out.get (i := 2 * i) (by omega) (by rw [← HP2.out]; omega)
                        rw [← this]; congr 1; rw [← HP2.out]; omega
                      have g2 : b[u1 + 1] = r[2 * i + 1] := by
                        have := HSR.out.get (i := 2 * i + 1) (by omega) (by rw [← HP2.out]; omega)
                        rw [← this]; congr 1; rw [← HP2.out]; omega
                      have hb1 := HB.out _ (List.getElem_mem hl1)
                      have hb2 := HB.out _ (List.getElem_mem hl2)
                      have y1 := HCELL.out u1 hl1
                      have y2 := HCELL.out (u1 + 1) hl2
                      rw [← g1, ← g2] at hu1
                      generalize b[u1] = x1 at hu1 hb1 y1
                      generalize b[u1 + 1] = x2 at hu1 hb2 y2
                      obtain ⟨x1, rfl⟩ := Int.eq_ofNat_of_zero_le hb1.1
                      obtain ⟨x2, rfl⟩ := Int.eq_ofNat_of_zero_le hb2.1
                      have hx1 : x1 < 256 := by have := hb1.2; omega
                      have hx2 : x2 < 256 := by have := hb2.2; omega
                      have hwx : IntKind.u16.wrap (x1 : Int) = x1 := w_u16 ⟨hb1.1, by omega⟩
                      have hwy : IntKind.u16.wrap (x2 : Int) = x2 := w_u16 ⟨hb2.1, by omega⟩
                      have HO := hide (or_u16 hx2 hx1)
                      have HUI := hide hu1
                      have v1 : IntKind.i64.wrap (2 * (i : Int)) = 2 * (i : Int) := by simp only [IntKind.wrap, IntKind.bits, IntKind.signed]; simp; omega
                      have v2 : IntKind.i64.wrap ((p2 : Int) + 2 * (i : Int)) = (u1 : Int) := by rw [hu1']; simp only [IntKind.wrap, IntKind.bits, IntKind.signed]; simp; omega
                      have v3 : IntKind.i64.wrap ((u1 : Int) + 1) = ((u1 + 1 : Nat) : Int) := by simp only [IntKind.wrap, IntKind.bits, IntKind.signed]; simp; omega
                      obtain ⟨u2, hu2⟩ : ∃ u2, u2 = u1 + 1 := ⟨_, rfl⟩
                      rw [← hu2] at v3 y2 hl2
                      have Y1 := keepc (p := ⟨bb, bo + u1, none⟩) hbb y1
                      have Y2 := keepc (p := ⟨bb, bo + u2, none⟩) hbb y2
                      obtain ⟨ua, uc, rfl, _, _, hulen, _⟩ := own_row OI.out
                      have hti : (us.take i).length = i := by rw [List.length_take]; omega
                      rw [hti] at LI OI
                      have HTI := hide hti
                      have y0 : wr.drew.cell? ⟨sb, 42, none⟩ = some (.slice ua i uc) := LI.out.blk.cell 42
                      clear g1 g2 hb1 hb2 y1 y2 hu1 hu1' hu2 hulen hti
                      go_upto_region 17 with fail
                      refine Hold.begin_ 25 (by kernel_rfl) rfl (fun w' => Below w.heap.size w w') ?_ T7.out.drew
                      intro hS
                      refine Hold.take (i := 0) (v := ?_) rfl (by kernel_rfl) (fun _ _ _ h => h) rfl ?_ hS ?_
                      rotate_left
                      · intro w' hS; have z0_ := Y1 _ hS; have z1_ := Y2 _ hS; go_simp; (try go_bits); (first | rfl | rw [if_pos (by omega)])
                      simp only [Act.put, List.getElem_toArray, List.getElem_cons_zero, List.getElem_cons_succ, List.setIfInBounds_toArray, List.set_cons_zero, List.set_cons_succ]
                      refine Hold.take (i := 2) (v := ?_) rfl (by kernel_rfl) (fun _ _ _ h => h) rfl ?_ hS ?_
                      rotate_left
                      · intro w' hS; have z0_ := Y1 _ hS; have z1_ := Y2 _ hS; go_simp; (try go_bits); (first | rfl | rw [if_pos (by omega)])
                      simp only [Act.put, List.getElem_toArray, List.getElem_cons_zero, List.getElem_cons_succ, List.setIfInBounds_toArray, List.set_cons_zero, List.set_cons_succ]
                      refine Hold.take (i := 3) (v := ?_) rfl (by kernel_rfl) (fun _ _ _ h => h) rfl ?_ hS ?_
                      rotate_left
                      · intro w' hS; have z0_ := Y1 _ hS; have z1_ := Y2 _ hS; go_simp; (try go_bits); (first | rfl | rw [if_pos (by omega)])
                      simp only [Act.put, List.getElem_toArray, List.getElem_cons_zero, List.getElem_cons_succ, List.setIfInBounds_toArray, List.set_cons_zero, List.set_cons_succ]
                      refine Hold.take (i := 4) (v := ?_) rfl (by kernel_rfl) (fun _ _ _ h => h) rfl ?_ hS ?_
                      rotate_left
                      · intro w' hS; have z0_ := Y1 _ hS; have z1_ := Y2 _ hS; go_simp; (try go_bits); (first | rfl | rw [if_pos (by omega)])
                      simp only [Act.put, List.getElem_toArray, List.getElem_cons_zero, List.getElem_cons_succ, List.setIfInBounds_toArray, List.set_cons_zero, List.set_cons_succ]
                      refine Hold.take (i := 5) (v := ?_) rfl (by kernel_rfl) (fun _ _ _ h => h) rfl ?_ hS ?_
                      rotate_left
                      · intro w' hS; have z0_ := Y1 _ hS; have z1_ := Y2 _ hS; go_simp; (try go_bits); (first | rfl | rw [if_pos (by omega)])
                      simp only [Act.put, List.getElem_toArray, List.getElem_cons_zero, List.getElem_cons_succ, List.setIfInBounds_toArray, List.set_cons_zero, List.set_cons_succ]
                      refine Hold.take (i := 6) (v := ?_) rfl (by kernel_rfl) (fun _ _ _ h => h) rfl ?_ hS ?_
                      rotate_left
                      · intro w' hS; have z0_ := Y1 _ hS; have z1_ := Y2 _ hS; go_simp; (try go_bits); (first | rfl | rw [if_pos (by omega)])
                      simp only [Act.put, List.getElem_toArray, List.getElem_cons_zero, List.getElem_cons_succ, List.setIfInBounds_toArray, List.set_cons_zero, List.set_cons_succ]
                      refine Hold.take (i := 7) (v := ?_) rfl (by kernel_rfl) (fun _ _ _ h => h) rfl ?_ hS ?_
                      rotate_left
                      · intro w' hS; have z0_ := Y1 _ hS; have z1_ := Y2 _ hS; go_simp; (try go_bits); (first | rfl | rw [if_pos (by omega)])
                      simp only [Act.put, List.getElem_toArray, List.getElem_cons_zero, List.getElem_cons_succ, List.setIfInBounds_toArray, List.set_cons_zero, List.set_cons_succ]
                      refine Hold.take (i := 8) (v := ?_) rfl (by kernel_rfl) (fun _ _ _ h => h) rfl ?_ hS ?_
                      rotate_left
                      · intro w' hS; have z0_ := Y1 _ hS; have z1_ := Y2 _ hS; go_simp; (try go_bits); (first | rfl | rw [if_pos (by omega)])
                      simp only [Act.put, List.getElem_toArray, List.getElem_cons_zero, List.getElem_cons_succ, List.setIfInBounds_toArray, List.set_cons_zero, List.set_cons_succ]
                      refine Hold.take (i := 9) (v := ?_) rfl (by kernel_rfl) (fun _ _ _ h => h) rfl ?_ hS ?_
                      rotate_left
                      · intro w' hS; have z0_ := Y1 _ hS; have z1_ := Y2 _ hS; go_simp; (try go_bits); (first | rfl | rw [if_pos (by omega)])
                      simp only [Act.put, List.getElem_toArray, List.getElem_cons_zero, List.getElem_cons_succ, List.setIfInBounds_toArray, List.set_cons_zero, List.set_cons_succ]
                      refine Hold.take (i := 10) (v := ?_) rfl (by kernel_rfl) (fun _ _ _ h => h) rfl ?_ hS ?_
                      rotate_left
                      · intro w' hS; have z0_ := Y1 _ hS; have z1_ := Y2 _ hS; go_simp; (try go_bits); (first | rfl | rw [if_pos (by omega)])
                      simp only [Act.put, List.getElem_toArray, List.getElem_cons_zero, List.getElem_cons_succ, List.setIfInBounds_toArray, List.set_cons_zero, List.set_cons_succ]
                      refine Hold.take (i := 11) (v := ?_) rfl (by kernel_rfl) (fun _ _ _ h => h) rfl ?_ hS ?_
                      rotate_left
                      · intro w' hS; have z0_ := Y1 _ hS; have z1_ := Y2 _ hS; go_simp; (try go_bits); (first | rfl | rw [if_pos (by omega)])
                      simp only [Act.put, List.getElem_toArray, List.getElem_cons_zero, List.getElem_cons_succ, List.setIfInBounds_toArray, List.set_cons_zero, List.set_cons_succ]
                      refine Hold.take (i := 12) (v := ?_) rfl (by kernel_rfl) (fun _ _ _ h => h) rfl ?_ hS ?_
                      rotate_left
                      · intro w' hS; have z0_ := Y1 _ hS; have z1_ := Y2 _ hS; go_simp; (try go_bits); (first | rfl | rw [if_pos (by omega)])
                      simp only [Act.put, List.getElem_toArray, List.getElem_cons_zero, List.getElem_cons_succ, List.setIfInBounds_toArray, List.set_cons_zero, List.set_cons_succ]
                      refine Hold.take (i := 13) (v := ?_) rfl (by kernel_rfl) (fun _ _ _ h => h) rfl ?_ hS ?_
                      rotate_left
                      · intro w' hS; have z0_ := Y1 _ hS; have z1_ := Y2 _ hS; go_simp; (try go_bits); (first | rfl | rw [if_pos (by omega)])
                      simp only [Act.put, List.getElem_toArray, List.getElem_cons_zero, List.getElem_cons_succ, List.setIfInBounds_toArray, List.set_cons_zero, List.set_cons_succ]
                      refine Hold.take (i := 14) (v := ?_) rfl (by kernel_rfl) (fun _ _ _ h => h) rfl ?_ hS ?_
                      rotate_left
                      · intro w' hS; have z0_ := Y1 _ hS; have z1_ := Y2 _ hS; go_simp; (try go_bits); (first | rfl | rw [if_pos (by omega)])
                      simp only [Act.put, List.getElem_toArray, List.getElem_cons_zero, List.getElem_cons_succ, List.setIfInBounds_toArray, List.set_cons_zero, List.set_cons_succ]
                      refine Hold.take (i := 15) (v := ?_) rfl (by kernel_rfl) (fun _ _ _ h => h) rfl ?_ hS ?_
                      rotate_left
                      · intro w' hS; have z0_ := Y1 _ hS; have z1_ := Y2 _ hS; go_simp; (try go_bits); (first | rfl | rw [if_pos (by omega)])
                      simp only [Act.put, List.getElem_toArray, List.getElem_cons_zero, List.getElem_cons_succ, List.setIfInBounds_toArray, List.set_cons_zero, List.set_cons_succ]
                      refine Hold.take (i := 16) (v := ?_) rfl (by kernel_rfl) (fun _ _ _ h => h) rfl ?_ hS ?_
                      rotate_left
                      · intro w' hS; have z0_ := Y1 _ hS; have z1_ := Y2 _ hS; go_simp; (try go_bits); (first | rfl | rw [if_pos (by omega)])
                      simp only [Act.put, List.getElem_toArray, List.getElem_cons_zero, List.getElem_cons_succ, List.setIfInBounds_toArray, List.set_cons_zero, List.set_cons_succ]
                      refine Hold.take (i := 17) (v := ?_) rfl (by kernel_rfl) (fun _ _ _ h => h) rfl ?_ hS ?_
                      rotate_left
                      · intro w' hS; have z0_ := Y1 _ hS; have z1_ := Y2 _ hS; go_simp; (try go_bits); (first | rfl | rw [if_pos (by omega)])
                      simp only [Act.put, List.getElem_toArray, List.getElem_cons_zero, List.getElem_cons_succ, List.setIfInBounds_toArray, List.set_cons_zero, List.set_cons_succ]
                      refine Hold.take (i := 18) (v := ?_) rfl (by kernel_rfl) (fun _ _ _ h => h) rfl ?_ hS ?_
                      rotate_left
                      · intro w' hS; have z0_ := Y1 _ hS; have z1_ := Y2 _ hS; go_simp; (try go_bits); (first | rfl | rw [if_pos (by omega)])
                      simp only [Act.put, List.getElem_toArray, List.getElem_cons_zero, List.getElem_cons_succ, List.setIfInBounds_toArray, List.set_cons_zero, List.set_cons_succ]
                      refine Hold.take (i := 19) (v := ?_) rfl (by kernel_rfl) (fun _ _ _ h => h) rfl ?_ hS ?_
                      rotate_left
                      · intro w' hS; have z0_ := Y1 _ hS; have z1_ := Y2 _ hS; go_simp; (try go_bits); (first | rfl | rw [if_pos (by omega)])
                      simp only [Act.put, List.getElem_toArray, List.getElem_cons_zero, List.getElem_cons_succ, List.setIfInBounds_toArray, List.set_cons_zero, List.set_cons_succ]
                      refine Hold.take (i := 20) (v := ?_) rfl (by kernel_rfl) (fun _ _ _ h => h) rfl ?_ hS ?_
                      rotate_left
                      · intro w' hS; have z0_ := Y1 _ hS; have z1_ := Y2 _ hS; go_simp; (try go_bits); (first | rfl | rw [if_pos (by omega)])
                      simp only [Act.put, List.getElem_toArray, List.getElem_cons_zero, List.getElem_cons_succ, List.setIfInBounds_toArray, List.set_cons_zero, List.set_cons_succ]
                      refine Hold.two (i := 1) (j := 21) (by kernel_rfl) ?_ ?_
                      · refine Hold.run (w' := wr.drew) rfl rfl (by go_simp; first | rfl | exact ⟨rfl, rfl⟩) ?_
                        refine ⟨hS, ?_⟩
                        simp only [Act.put, List.getElem_toArray, List.getElem_cons_zero, List.getElem_cons_succ, List.setIfInBounds_toArray, List.set_cons_zero, List.set_cons_succ]
                        refine Hold.one (i := 21) (by kernel_rfl) ?_
                        refine Hold.run (w' := wr.drew.alloc (.cells #[.int .u16 (bits BinOp.or IntKind.u16 ((x1 : Int) * 256) (x2 : Int))] 92)) rfl rfl (by go_simp; first | rfl | exact ⟨rfl, rfl⟩) ?_
                        have b8 : Below wr.heap.size wr (wr.drew.alloc (.cells #[.int .u16 (bits BinOp.or IntKind.u16 ((x1 : Int) * 256) (x2 : Int))] 92)) := (Below.refl _ _).drew.alloc (Nat.le_refl _) _
                        have S8 : Below w.heap.size w (wr.drew.alloc (.cells #[.int .u16 (bits BinOp.or IntKind.u16 ((x1 : Int) * 256) (x2 : Int))] 92)) := T7.out.trans (b8.mono T7.out.size)
                        have O8 : Hid ((wr.drew.alloc (.cells #[.int .u16 (bits BinOp.or IntKind.u16 ((x1 : Int) * 256) (x2 : Int))] 92)).ownsRow W2.heap.size 92 1 (.slice ua i uc) i ((us.take i).map (.int .u16))) := hide (by
                          have := own_below OI.out b8
                          rwa [HTI.out] at this)
                        have N8 := hide (Blk.new wr.drew 92 #[.int .u16 (bits BinOp.or IntKind.u16 ((x1 : Int) * 256) (x2 : Int))])
                        have L8 := hide (LI.out.below b8)
                        have hsz8 := b8.size
                        refine ⟨S8, ?_⟩
                        simp only [Act.put, List.getElem_toArray, List.getElem_cons_zero, List.getElem_cons_succ, List.setIfInBounds_toArray, List.set_cons_zero, List.set_cons_succ]
                        refine Hold.one (i := 22) (by kernel_rfl) ?_
                        refine Hold.list1 rfl rfl ?_
                        refine wpList_append_lies _ rfl _ _ 47 rfl W2.heap.size 92 i0 (.int .u16 0) 1 2 Try.underlying47 hi hz0 hz1 hz2 rfl (by decide) _ _ _ rfl O8.out ⟨wr.heap.size, 0, none⟩ 1 1 [.int .u16 (bits BinOp.or IntKind.u16 ((x1 : Int) * 256) (x2 : Int))] rfl rfl ?c1 ?c2 (by decide) ?c3 ?c4 ?c5 _ rfl ?_
                        case c1 => exact N8.out.news
                        case c2 => intro z hz; simp at hz; rcases hz with rfl; rfl
                        case c3 => unfold maxLen; omega
                        case c4 => omega
                        case c5 => omega
                        intro g2 cap2 w9 hown hgrow hat hlt9
                        have hge := own_ge O8.out
                        have FG := foot_row hgrow
                        have hns : sb ∉ ((Value.slice ua i uc).ownBlock).toList := fun hm => by have := hge sb (Option.mem_toList.1 hm); omega
                        have B9 := L8.out.blk.foot FG hns
                        have F9 := foot_more L8.out.foot FG (fun x hx => hge x (Option.mem_toList.1 hx))
                        have S9 := (HFS.out _ F9).1
                        have y9 : w9.cell? ⟨sb, 42, none⟩ = some (.slice ua i uc) := B9.cell 42
                        have f9 := B9.frozen 42
                        show _ ∧ _
                        refine ⟨S9, ?_⟩
                        simp only [Act.put, List.getElem_toArray, List.getElem_cons_zero, List.getElem_cons_succ, List.setIfInBounds_toArray, List.set_cons_zero, List.set_cons_succ]
                        clear hS
                        have hS := S9
                        refine Hold.take (i := 23) (v := ?_) rfl (by kernel_rfl) (fun _ _ _ h => h) rfl ?_ hS ?_
                        rotate_left
                        · intro w' hS; have z0_ := Y1 _ hS; have z1_ := Y2 _ hS; go_simp; (try go_bits); (first | rfl | rw [if_pos (by omega)])
                        simp only [Act.put, List.getElem_toArray, List.getElem_cons_zero, List.getElem_cons_succ, List.setIfInBounds_toArray, List.set_cons_zero, List.set_cons_succ]
                        refine Hold.one (i := 24) (by kernel_rfl) ?_
                        refine Hold.skip (w' := w9.setCell ⟨sb, 42, none⟩ (.slice (some ⟨g2, 0, none⟩) (i + 1) cap2)) rfl rfl (by go_simp <;> first | rfl | exact ⟨rfl, rfl⟩) ?_
                        have FS := (Foot.refl [sb] w9).setCell (p := ⟨sb, 42, none⟩) (.inl (by simp)) (.slice (some ⟨g2, 0, none⟩) (i + 1) cap2)
                        have FA := F9.trans FS
                        refine ⟨(HFS.out _ FA).1, ?_⟩
                        simp only [Act.put, List.getElem_toArray, List.getElem_cons_zero, List.getElem_cons_succ, List.setIfInBounds_toArray, List.set_cons_zero, List.set_cons_succ]
                        refine Hold.done (by kernel_rfl) ?_
                        have LA : Hid (LS W2 (w9.setCell ⟨sb, 42, none⟩ (.slice (some ⟨g2, 0, none⟩) (i + 1) cap2)) sb (L.set 31 (us.take (i + 1))) (.slice (some ⟨g2, 0, none⟩) (i + 1) cap2)) := hide ⟨by rw [List.length_set]; exact HLL.out, by
                          have := B9.set_ 42 (.slice (some ⟨g2, 0, none⟩) (i + 1) cap2)
                          rw [SC_put5 _ HLL.out] at this ⊢
                          exact this, by
                          rw [List.getD_eq_getElem?_getD, List.getElem?_set_self (by rw [HLL.out]; decide), Option.getD_some]
                          refine UO.keeps (W := w9) ?_ (Keeps.of_foot FS (fun k hk => by obtain rfl := List.mem_singleton.1 hk; exact ⟨_, _, B9, by decide⟩))
                          unfold UO
                          have e : bits BinOp.or IntKind.u16 ((x1 : Int) * 256) (x2 : Int) = us[i] := by rw [HUI.out, HO.out]; omega
                          rw [e] at hown
                          rw [List.take_succ_eq_append_getElem hul, List.length_append, HTI.out, List.map_append]
                          exact hown, FA⟩
                        clear hown hgrow hat hlt9 b8 O8 N8 L8 hge FG hns B9 F9 S8 S9 y9 f9 FS FA hS
                        go_wp2_with fail
                        go_roundw
                        case rel => exact ⟨i + 1, _, hlt2, by go_num, LA.out⟩
                        case measure => simp [intOf]; omega
                      · refine Hold.run (w' := wr.drew.alloc (.cells #[.int .u16 (bits BinOp.or IntKind.u16 ((x1 : Int) * 256) (x2 : Int))] 92)) rfl rfl (by go_simp; first | rfl | exact ⟨rfl, rfl⟩) ?_
                        have b8 : Below wr.heap.size wr (wr.drew.alloc (.cells #[.int .u16 (bits BinOp.or IntKind.u16 ((x1 : Int) * 256) (x2 : Int))] 92)) := (Below.refl _ _).drew.alloc (Nat.le_refl _) _
                        have S8 : Below w.heap.size w (wr.drew.alloc (.cells #[.int .u16 (bits BinOp.or IntKind.u16 ((x1 : Int) * 256) (x2 : Int))] 92)) := T7.out.trans (b8.mono T7.out.size)
                        have O8 : Hid ((wr.drew.alloc (.cells #[.int .u16 (bits BinOp.or IntKind.u16 ((x1 : Int) * 256) (x2 : Int))] 92)).ownsRow W2.heap.size 92 1 (.slice ua i uc) i ((us.take i).map (.int .u16))) := hide (by
                          have := own_below OI.out b8
                          rwa [HTI.out] at this)
                        have N8 := hide (Blk.new wr.drew 92 #[.int .u16 (bits BinOp.or IntKind.u16 ((x1 : Int) * 256) (x2 : Int))])
                        have L8 := hide (LI.out.below b8)
                        have hsz8 := b8.size
                        refine ⟨S8, ?_⟩
                        simp only [Act.put, List.getElem_toArray, List.getElem_cons_zero, List.getElem_cons_succ, List.setIfInBounds_toArray, List.set_cons_zero, List.set_cons_succ]
                        refine Hold.one (i := 1) (by kernel_rfl) ?_
                        have y8 : (wr.drew.alloc (.cells #[.int .u16 (bits BinOp.or IntKind.u16 ((x1 : Int) * 256) (x2 : Int))] 92)).cell? ⟨sb, 42, none⟩ = some (.slice ua i uc) := L8.out.blk.cell 42
                        have y8' : (wr.alloc (.cells #[.int .u16 (bits BinOp.or IntKind.u16 ((x1 : Int) * 256) (x2 : Int))] 92)).cell? ⟨sb, 42, none⟩ = some (.slice ua i uc) := L8.out.blk.cell 42
                        refine Hold.run (w' := wr.drew.alloc (.cells #[.int .u16 (bits BinOp.or IntKind.u16 ((x1 : Int) * 256) (x2 : Int))] 92)) rfl rfl (by go_simp; first | rfl | exact ⟨rfl, rfl⟩) ?_
                        refine ⟨S8, ?_⟩
                        clear y8 y8'
                        simp only [Act.put, List.getElem_toArray, List.getElem_cons_zero, List.getElem_cons_succ, List.setIfInBounds_toArray, List.set_cons_zero, List.set_cons_succ]
                        refine Hold.one (i := 22) (by kernel_rfl) ?_
                        refine Hold.list1 rfl rfl ?_
                        refine wpList_append_lies _ rfl _ _ 47 rfl W2.heap.size 92 i0 (.int .u16 0) 1 2 Try.underlying47 hi hz0 hz1 hz2 rfl (by decide) _ _ _ rfl O8.out ⟨wr.heap.size, 0, none⟩ 1 1 [.int .u16 (bits BinOp.or IntKind.u16 ((x1 : Int) * 256) (x2 : Int))] rfl rfl ?c1 ?c2 (by decide) ?c3 ?c4 ?c5 _ rfl ?_
                        case c1 => exact N8.out.news
                        case c2 => intro z hz; simp at hz; rcases hz with rfl; rfl
                        case c3 => unfold maxLen; omega
                        case c4 => omega
                        case c5 => omega
                        intro g2 cap2 w9 hown hgrow hat hlt9
                        have hge := own_ge O8.out
                        have FG := foot_row hgrow
                        have hns : sb ∉ ((Value.slice ua i uc).ownBlock).toList := fun hm => by have := hge sb (Option.mem_toList.1 hm); omega
                        have B9 := L8.out.blk.foot FG hns
                        have F9 := foot_more L8.out.foot FG (fun x hx => hge x (Option.mem_toList.1 hx))
                        have S9 := (HFS.out _ F9).1
                        have y9 : w9.cell? ⟨sb, 42, none⟩ = some (.slice ua i uc) := B9.cell 42
                        have f9 := B9.frozen 42
                        show _ ∧ _
                        refine ⟨S9, ?_⟩
                        simp only [Act.put, List.getElem_toArray, List.getElem_cons_zero, List.getElem_cons_succ, List.setIfInBounds_toArray, List.set_cons_zero, List.set_cons_succ]
                        clear hS
                        have hS := S9
                        refine Hold.take (i := 23) (v := ?_) rfl (by kernel_rfl) (fun _ _ _ h => h) rfl ?_ hS ?_
                        rotate_left
                        · intro w' hS; have z0_ := Y1 _ hS; have z1_ := Y2 _ hS; go_simp; (try go_bits); (first | rfl | rw [if_pos (by omega)])
                        simp only [Act.put, List.getElem_toArray, List.getElem_cons_zero, List.getElem_cons_succ, List.setIfInBounds_toArray, List.set_cons_zero, List.set_cons_succ]
                        refine Hold.one (i := 24) (by kernel_rfl) ?_
                        refine Hold.skip (w' := w9.setCell ⟨sb, 42, none⟩ (.slice (some ⟨g2, 0, none⟩) (i + 1) cap2)) rfl rfl (by go_simp <;> first | rfl | exact ⟨rfl, rfl⟩) ?_
                        have FS := (Foot.refl [sb] w9).setCell (p := ⟨sb, 42, none⟩) (.inl (by simp)) (.slice (some ⟨g2, 0, none⟩) (i + 1) cap2)
                        have FA := F9.trans FS
                        refine ⟨(HFS.out _ FA).1, ?_⟩
                        simp only [Act.put, List.getElem_toArray, List.getElem_cons_zero, List.getElem_cons_succ, List.setIfInBounds_toArray, List.set_cons_zero, List.set_cons_succ]
                        refine Hold.done (by kernel_rfl) ?_
                        have LA : Hid (LS W2 (w9.setCell ⟨sb, 42, none⟩ (.slice (some ⟨g2, 0, none⟩) (i + 1) cap2)) sb (L.set 31 (us.take (i + 1))) (.slice (some ⟨g2, 0, none⟩) (i + 1) cap2)) := hide ⟨by rw [List.length_set]; exact HLL.out, by
                          have := B9.set_ 42 (.slice (some ⟨g2, 0, none⟩) (i + 1) cap2)
                          rw [SC_put5 _ HLL.out] at this ⊢
                          exact this, by
                          rw [List.getD_eq_getElem?_getD, List.getElem?_set_self (by rw [HLL.out]; decide), Option.getD_some]
                          refine UO.keeps (W := w9) ?_ (Keeps.of_foot FS (fun k hk => by obtain rfl := List.mem_singleton.1 hk; exact ⟨_, _, B9, by decide⟩))
                          unfold UO
                          have e : bits BinOp.or IntKind.u16 ((x1 : Int) * 256) (x2 : Int) = us[i] := by rw [HUI.out, HO.out]; omega
                          rw [e] at hown
                          rw [List.take_succ_eq_append_getElem hul, List.length_append, HTI.out, List.map_append]
                          exact hown, FA⟩
                        clear hown hgrow hat hlt9 b8 O8 N8 L8 hge FG hns B9 F9 S8 S9 y9 f9 FS FA hS
                        go_wp2_with fail
                        go_roundw
                        case rel => exact ⟨i + 1, _, hlt2, by go_num, LA.out⟩
                        case measure => simp [intOf]; omega
                    · obtain rfl : i = m := by omega
                      have d3 : decide ((i : Int) < n5) = false := by rw [decide_eq_false_iff_not]; have := HM.out; omega
                      have LF : Hid (LS W2 wr sb (L.set 31 us) uvi) := hide (by
                        have := LI.out
                        rwa [← HUS.out, List.take_length] at this)
                      have hq2 := HSQ.out.len
                      have hdl : (r.drop (2 * i)).length ≤ r.length := by rw [List.length_drop]; omega
                      clear LI OI T7 BX
                      go_wp2_with fail
                      go_roundw
                      case rel => exact ⟨n, _, r.drop (2 * i), uvi, by rw [List.length_drop], hide (HSR.out.trans ⟨_, rfl⟩), hide (by omega), HD, LF.out⟩
                      case measure =>
                        have hp1 := HP1.out
                        simp [intOf]; omega
                · have HN : Hid (lnS (q0.length + 1) (KD.map zv) q0 = none) := hide (by
                    rw [HST.out, show KD.getD 31 9 = 5 from rfl, lnF5_none e hc])
                  obtain ⟨p2, hp2⟩ : ∃ p2, p2 = b.length - r.length := ⟨_, rfl⟩
                  have HT := hide (HT.out.mono (fun r' w' (h : RT b wo (some (n5, r)) r' w') => (⟨h.1, by rw [hp2]; exact h.2⟩ : Below wo.heap.size wo w' ∧ r' = .returned (.tuple #[.int .i64 n5, .int .i64 (p2 : Int), .int .i64 0]))))
                  have w1 : IntKind.i64.wrap ((b.length : Int) - (p2 : Int)) = (r.length : Int) := by rw [hp2]; simp only [IntKind.wrap, IntKind.bits, IntKind.signed]; simp; omega
                  clear HST e hp2
                  by_cases c1 : n5 < 0
                  · have e1 : decide (n5 < 0) = true := by simpa using c1
                    clear hc w1
                    go_wp2_with fail
                    refine HT.out.mono ?_
                    rintro r' w5 ⟨k5, rfl⟩
                    have LY := hide (HL.out.below k5)
                    have BY := hide (BRr.out.below k5 BRr.out.lt)
                    clear k5 HT HL BRr
                    go_wp2_with (first | (refine wpList_load_row rfl 49 _ rfl sb rfl 49 _ _ _ LY.out.blk Try.underlying49 rfl (st_size _ _) ?_) | (refine wpList_store_row rfl 49 _ _ rfl rb (SC (gof L) uv).toArray rfl rfl 49 _ BY.out (st_size _ _) rfl (SC_one _ LY.out.own.one) ?_))
                    refine bodyPost_ret (results_cell3 Try.results32 _ _ rb 49 _ (0, 0) _ rfl (BY.out.setRow _) Try.underlying49 ⟨_, rfl⟩ (st_size _ _)) rfl ?_
                    refine ⟨?_, ?_⟩
                    · exact HFIN.out _ ((LY.out.foot.mono (by simp)).setRow (g := rb) (.inl HRI.out) _)
                    · rw [HN.out]; exact ⟨_, _, rfl, LY.out.own.one⟩
                  · have e1 : decide (n5 < 0) = false := by simpa using c1
                    by_cases c2 : (b.length : Int) < n5
                    · have e2 : decide ((b.length : Int) < n5) = true := by simpa using c2
                      clear hc w1
                      go_wp2_with fail
                      refine HT.out.mono ?_
                      rintro r' w5 ⟨k5, rfl⟩
                      have LY := hide (HL.out.below k5)
                      have BY := hide (BRr.out.below k5 BRr.out.lt)
                      clear k5 HT HL BRr
                      go_wp2_with (first | (refine wpList_load_row rfl 49 _ rfl sb rfl 49 _ _ _ LY.out.blk Try.underlying49 rfl (st_size _ _) ?_) | (refine wpList_store_row rfl 49 _ _ rfl rb (SC (gof L) uv).toArray rfl rfl 49 _ BY.out (st_size _ _) rfl (SC_one _ LY.out.own.one) ?_))
                      refine bodyPost_ret (results_cell3 Try.results32 _ _ rb 49 _ (0, 0) _ rfl (BY.out.setRow _) Try.underlying49 ⟨_, rfl⟩ (st_size _ _)) rfl ?_
                      refine ⟨?_, ?_⟩
                      · exact HFIN.out _ ((LY.out.foot.mono (by simp)).setRow (g := rb) (.inl HRI.out) _)
                      · rw [HN.out]; exact ⟨_, _, rfl, LY.out.own.one⟩
                    · have e2 : decide ((b.length : Int) < n5) = false := by simpa using c2
                      have w2 : IntKind.i64.wrap (2 * n5) = 2 * n5 := by simp only [IntKind.wrap, IntKind.bits, IntKind.signed]; simp; omega
                      have e3 : decide ((r.length : Int) < 2 * n5) = true := by rw [decide_eq_true_eq]; omega
                      clear hc
                      go_wp2_with fail
                      refine HT.out.mono ?_
                      rintro r' w5 ⟨k5, rfl⟩
                      have LY := hide (HL.out.below k5)
                      have BY := hide (BRr.out.below k5 BRr.out.lt)
                      clear k5 HT HL BRr
                      go_wp2_with (first | (refine wpList_load_row rfl 49 _ rfl sb rfl 49 _ _ _ LY.out.blk Try.underlying49 rfl (st_size _ _) ?_) | (refine wpList_store_row rfl 49 _ _ rfl rb (SC (gof L) uv).toArray rfl rfl 49 _ BY.out (st_size _ _) rfl (SC_one _ LY.out.own.one) ?_))
                      refine bodyPost_ret (results_cell3 Try.results32 _ _ rb 49 _ (0, 0) _ rfl (BY.out.setRow _) Try.underlying49 ⟨_, rfl⟩ (st_size _ _)) rfl ?_
                      refine ⟨?_, ?_⟩
                      · exact HFIN.out _ ((LY.out.foot.mono (by simp)).setRow (g := rb) (.inl HRI.out) _)
                      · rw [HN.out]; exact ⟨_, _, rfl, LY.out.own.one⟩
          · have hj31 : j < 31 := by omega
            have d2 : ((j : Int) + 1 == 32) = false := by simp; omega
            have hk5 : KD.getD j 9 ≠ 5 := fun h => h31 ((kd_31 j hj).1 h)
            have hlnf := lnF_o hk5 q
            rw [hlnf] at HST
            have hcnt : ∀ j, j < 32 → cnt (KD.getD j 9) ≤ 2 := by decide
            have hcnt := hcnt j hj
            obtain ⟨cn, hcn⟩ : ∃ cn, cn = cnt (KD.getD j 9) := ⟨_, rfl⟩
            have HNUM := hide (fun wo => rnumbers_kd hj31 wo)
            rw [← hcn] at HST HNUM hcnt
            have HCN := hide hcn
            clear HT hlnf hk5 h31 hcn
            go_wp2_with fail
            go_loopw [1, 13, 14] (fun s1 s13 s14 wx => ∃ (i : Nat) (xs r : List Int) (av : Option Addr) (ac : Nat), i ≤ cn ∧ s1 = .int .i64 ((b.length - r.length : Nat) : Int) ∧ s13 = .slice av i ac ∧ s14 = .int .i64 i ∧ Hid (xs.length = i) ∧ Hid (Suf b r ∧ r.length ≤ q.length) ∧ Hid (rdL rdN cn q = (rdL rdN (cn - i) r).map fun p => (xs ++ p.1, p.2)) ∧ AO wx wo.heap.size (.slice av i ac) xs ∧ Below wo.heap.size wo wx) (fun _ _ s14 _ => cn - (intOf s14).toNat)
            case atStart => exact ⟨0, [], q, none, 0, Nat.zero_le _, rfl, rfl, rfl, hide rfl, hide ⟨HSQ.out, Nat.le_refl _⟩, hide (by cases rdL rdN (cn - 0) q <;> rfl), World.ownsRow_nil _ _ _ _, Below.refl _ _⟩
            case round =>
              obtain ⟨i, xs, r, av, ac, hic, rfl, rfl, rfl, HXS, HSR, HRD, hO, hb⟩ := hrel
              have O := hide hO
              have TX := hide hb
              clear hO hb
              have NUM := HNUM.out wr
              have LX := hide (HL.out.below TX.out)
              obtain ⟨T7, BX⟩ := HFS.out _ LX.out.foot
              have T7 := hide T7
              have BX := hide BX
              by_cases hlt2 : i < cn
              · have HT2 := hide (rtake_suf (some ⟨bb, bo, none⟩) c wr (HR.out.below T7.out) HB.out hn HSR.out.1)
                have d3 : decide ((i : Int) < (cn : Int)) = true := by simpa using hlt2
                go_wp2_with fail
                refine NUM.mono ?_
                rintro r' w4 ⟨rfl, rfl⟩
                cases e : rdN r with
                | none =>
                  have HN : Hid (lnS (q0.length + 1) (KD.map zv) q0 = none) := hide (by
                    rw [HST.out, rdL_none hlt2 HRD.out e]; rfl)
                  rw [e] at HT2
                  clear HRD HST e NUM
                  go_wp2_with fail
                  refine HT2.out.mono ?_
                  rintro r' w5 ⟨k5, rfl⟩
                  have LY := hide (LX.out.below k5)
                  have BY := hide (BX.out.below k5 BX.out.lt)
                  clear k5 HT2 LX BX HL
                  go_wp2_with (first | (refine wpList_load_row rfl 49 _ rfl sb rfl 49 _ _ _ LY.out.blk Try.underlying49 rfl (st_size _ _) ?_) | (refine wpList_store_row rfl 49 _ _ rfl rb (SC (gof L) uv).toArray rfl rfl 49 _ BY.out (st_size _ _) rfl (SC_one _ LY.out.own.one) ?_))
                  refine bodyPost_ret (results_cell3 Try.results32 _ _ rb 49 _ (0, 0) _ rfl (BY.out.setRow _) Try.underlying49 ⟨_, rfl⟩ (st_size _ _)) rfl ?_
                  refine ⟨?_, ?_⟩
                  · exact HFIN.out _ ((LY.out.foot.mono (by simp)).setRow (g := rb) (.inl HRI.out) _)
                  · rw [HN.out]; exact ⟨_, _, rfl, LY.out.own.one⟩
                | some pr =>
                  obtain ⟨m, r2⟩ := pr
                  obtain ⟨sr1, sr2⟩ := rdN_end e
                  have HSR2 := hide (And.intro (HSR.out.1.trans sr1) (Nat.le_trans (Nat.le_of_lt sr2) HSR.out.2))
                  have HRD2 := hide (rdL_some hlt2 HRD.out e)
                  rw [e] at HT2
                  clear HRD e NUM sr1 sr2
                  go_wp2_with fail
                  refine HT2.out.mono ?_
                  rintro r' w5 ⟨k5, rfl⟩
                  have O5 := AO.keeps O.out (Keeps.of_below k5)
                  have TY := below_call TX.out k5
                  clear HT2
                  have b8 : Below w5.heap.size w5 (w5.alloc (.cells #[.int .i64 m] 2)) := (Below.refl _ _).alloc (Nat.le_refl _) _
                  have O8 : Hid ((w5.alloc (.cells #[.int .i64 m] 2)).ownsRow wo.heap.size 2 1 (.slice av i ac) i (xs.map (.int .i64))) := hide (by
                    have := own_below O5 b8
                    rwa [HXS.out] at this)
                  have N8 := hide (Blk.new w5 2 #[.int .i64 m])
                  have T8 := hide (below_call TY b8)
                  have hsz8 := T8.out.size
                  clear k5 O5 TY b8
                  go_wp2_with (at_builtin; refine wpList_append_lies _ rfl _ _ 33 rfl wo.heap.size 2 i1 (.int .i64 0) 1 8 Try.underlying33 hi' hy0 hy1 hy2 rfl (by decide) _ _ _ rfl O8.out ⟨w5.heap.size, 0, none⟩ 1 1 [.int .i64 m] rfl rfl ?c1 ?c2 (by decide) ?c3 ?c4 ?c5 _ rfl ?_)
                  case c1 => exact N8.out.news
                  case c2 => intro z hz; simp at hz; rcases hz with rfl; rfl
                  case c3 => unfold maxLen; omega
                  case c4 => omega
                  case c5 => exact hsz8
                  intro g2 cap2 w9 hown hgrow hat hlt9
                  have OA : Hid (AO w9 wo.heap.size (.slice (some ⟨g2, 0, none⟩) (i + 1) cap2) (xs ++ [m])) := hide (by
                    unfold AO
                    rw [List.length_append, HXS.out, List.map_append]
                    exact hown)
                  have TA := hide (below_grown (a := wo) T8.out hgrow (own_ge O8.out))
                  have HXA : Hid ((xs ++ [m]).length = i + 1) := hide (by rw [List.length_append, HXS.out]; rfl)
                  clear hown hgrow hat hlt9 O8 N8 T8 hsz8 O TX LX BX T7
                  go_wp2_with fail
                  go_roundw
                  case rel => exact ⟨i + 1, xs ++ [m], r2, some ⟨g2, 0, none⟩, cap2, hlt2, rfl, rfl, by go_num, HXA, HSR2, HRD2, OA.out, TA.out⟩
                  case measure => simp [intOf]; omega
              · obtain rfl : i = cn := by omega
                have HDE : Hid (lnS (q0.length + 1) (KD.map zv) q0 = lnS n (L.set j (fvL (KD.getD j 9) xs)) r) := hide (by
                  rw [HST.out, rdL_end HRD.out]; rfl)
                have d3 : decide ((i : Int) < (i : Int)) = false := by simp
                have hset := rset_any wr sb L LX.out.len uv LX.out.blk
                obtain ⟨av', ac', e1, h3, h4, h5, hrow⟩ := own_row O.out
                simp only [Value.slice.injEq] at e1
                obtain ⟨e1, e2, e3⟩ := e1
                subst e1 e3
                have hset := hset av xs ac hrow j hj31 (by rw [HXS.out, HCN.out])
                rw [HXS.out] at hset
                have HSET := hide hset
                clear hset h3 h4 h5 hrow e2 HRD HST
                go_wp2_with fail
                refine NUM.mono ?_
                rintro r' w4 ⟨rfl, rfl⟩
                clear NUM
                go_wp2_with fail
                refine HSET.out.mono ?_
                rintro r' w5 ⟨rfl, B5, F5⟩
                have LA : Hid (LS W2 w5 sb (L.set j (fvL (KD.getD j 9) xs)) uv) := hide ⟨by rw [List.length_set]; exact LX.out.len, B5, by
                  rw [getD_set_ne _ hj31]
                  exact LX.out.own.keeps (Keeps.of_foot F5 (fun k hk => by obtain rfl := List.mem_singleton.1 hk; exact ⟨_, _, LX.out.blk, by decide⟩)), LX.out.foot.trans F5⟩
                have HQR := hide (Nat.lt_of_le_of_lt HSR.out.2 hlt)
                have hrl := HSR.out.1.len
                have hrq := HSR.out.2
                clear HSET B5 F5 LX BX T7 O
                go_wp2_with fail
                go_roundw
                case rel => exact ⟨n, _, r, uv, rfl, hide HSR.out.1, HQR, HDE, LA.out⟩
                case measure =>
                  have hp1 := HP1.out
                  simp [intOf]; omega
end Go.Proofs.Ytmngndmcidbakaa
