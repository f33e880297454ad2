/- Walk: Write. -/
import Derived.Test.YtmngndmcidbakaaYO
namespace Go.Proofs.Ytmngndmcidbakaa
open Go.RowKit
/-- One more number behind the bytes. -/
theorem num_ge (n : Int) : 1 ≤ (num n).length := by unfold num; rw [List.length_cons]; omega
set_option maxRecDepth 100000 in
set_option maxHeartbeats 4000000 in
theorem write_any (v : Value) (T : Tr) (w : World) (hv : TrV w v T) (hsz : (wrT T).length ≤ 10000000) :
    Calls Try.prog 17 #[v] w fun r w' => ∃ v', r = .returned v' ∧ BOwn w' w.heap.size v' (wrT T) ∧ Below w.heap.size w w' := by
  obtain ⟨i0, hi, hz0, hz1, hz2⟩ := info_parts info5
  obtain ⟨na, nc, aa, ac, rfl, hn, ha, hok, hnc, hnc2, hac, hac2⟩ := hv
  obtain ⟨view, adv, nodes⟩ := T
  obtain ⟨ok1, ok2, ok3, ok4, ok5⟩ := hok
  dsimp only at hn ha ok1 ok2 ok3 ok4 ok5 hnc hac ⊢
  unfold wrT at hsz ⊢
  dsimp only at hsz ⊢
  have hal : adv.length ≤ 10000000 := by
    have := flat_ge (wr := num) (ok := fun _ => True) (fun x _ => num_ge x) adv (fun _ _ => trivial)
    simp only [List.length_append] at hsz; omega
  have hnl : nodes.length ≤ 10000000 := by
    have := flat_ge (wr := wrN) (ok := okN) (fun x hx => wrN_len hx) nodes ok4
    simp only [List.length_append] at hsz; omega
  have HSZ := hide hsz
  have HN0 := hide hn
  have HA0 := hide ha
  have OK2 := hide ok2
  have OK4 := hide ok4
  clear hsz hn ha ok2 ok4
  obtain ⟨w1, hw1⟩ : ∃ w1, w1 = w.alloc (.cells #[.slice na nodes.length nc, .slice aa adv.length ac, .int .i64 view] 35) := ⟨_, rfl⟩
  obtain ⟨gb, hgb⟩ : ∃ gb, gb = w.heap.size := ⟨_, rfl⟩
  have hgb1 : gb + 1 = w1.heap.size := by rw [hw1, hgb]; simp
  have t1 : Below w.heap.size w w1 := by rw [hw1]; exact (Below.refl _ _).alloc (Nat.le_refl _) _
  have BX : Blk w1 gb 35 #[.slice na nodes.length nc, .slice aa adv.length ac, .int .i64 view] := by rw [hw1, hgb]; exact Blk.new w _ _
  have HN := hide (HN0.out.below t1)
  have HA := hide (HA0.out.below t1)
  have T1 := hide t1
  have BX := hide BX
  have HW1 := hide hw1
  have HGB := hide hgb
  have HGB1 := hide hgb1
  clear t1 HN0 HA0 hgb hw1 hgb1
  rw [← HGB.out]
  have O0 : Hid (BOwn w1 w1.heap.size (.slice none 0 0) []) := hide (World.ownsRow_nil _ _ _ _)
  have T2 : Hid (Below w1.heap.size w1 w1) := hide (Below.refl _ _)
  go_enter Try.func17, Try.ntmps17
  go_upto_region 1 with fail
  rw [← HW1.out, ← HGB.out]
  have b0 : w1.cell? ⟨gb, 0, none⟩ = some (.slice na nodes.length nc) := BX.out.cell 0
  have b1 : w1.cell? ⟨gb, 1, none⟩ = some (.slice aa adv.length ac) := BX.out.cell 1
  have b2 : w1.cell? ⟨gb, 2, none⟩ = some (.int .i64 view) := BX.out.cell 2
  go_wp2_with fail
  refine (number_any w1.heap.size [] none 0 view w1 O0.out (Nat.le_refl _) (by simp) ok1).mono ?_
  rintro r w2 ⟨v2, rfl, hO, hG, _⟩
  have T2' : Hid (Below w1.heap.size w1 w2) := hide (below_grown (a := w1) T2.out hG (own_ge O0.out))
  obtain ⟨a2, c2, rfl, _, _, _⟩ := hO.row
  have O2 := hide hO
  clear hO hG
  clear b0 b1 b2 T2 O0
  have BX2 := hide (BX.out.below T2'.out BX.out.lt)
  have b1 : w2.cell? ⟨gb, 1, none⟩ = some (.slice aa adv.length ac) := BX2.out.cell 1
  obtain ⟨cur2, hcur2⟩ : ∃ cur, cur = [] ++ num view := ⟨_, rfl⟩
  rw [← hcur2] at O2
  rw [← hcur2]
  have HC2 := hide hcur2
  have hl2 : cur2.length ≤ 10000000 := by
    have := HSZ.out; rw [hcur2]; simp only [List.length_append, List.length_nil] at this ⊢; omega
  clear hcur2
  go_wp2_with fail
  refine (number_any w1.heap.size cur2 a2 c2 adv.length w2 O2.out T2'.out.size (by omega) (by omega)).mono ?_
  rintro r w3 ⟨v3, rfl, hO, hG, _⟩
  have T3 : Hid (Below w1.heap.size w1 w3) := hide (below_grown (a := w1) T2'.out hG (own_ge O2.out))
  obtain ⟨a3, c3, rfl, _, _, _⟩ := hO.row
  have O3 := hide hO
  clear hO hG
  clear b1
  obtain ⟨cur3, hcur3⟩ : ∃ cur, cur = cur2 ++ num adv.length := ⟨_, rfl⟩
  rw [← hcur3] at O3
  rw [← hcur3]
  have HC3 := hide hcur3
  have BX3 := hide (BX.out.below T3.out BX.out.lt)
  have b1 : w3.cell? ⟨gb, 1, none⟩ = some (.slice aa adv.length ac) := BX3.out.cell 1
  clear hcur3 O2 T2' BX2
  go_wp2_with fail
  clear b1
  have HL3 : Hid (cur3 = num view ++ num adv.length) := hide (by rw [HC3.out, HC2.out, List.nil_append])
  have hl3 : cur3.length ≤ 10000000 := by
    have := HSZ.out; rw [HL3.out]; simp only [List.length_append] at this ⊢; omega
  clear HC2 HC3 BX3
  go_loopw [3, 22] (fun s3 s22 wr => ∃ (i : Nat) (cur : List Int) (a : Option Addr) (cap : Nat), i ≤ adv.length ∧ s22 = .int .i64 i ∧ s3 = .slice a cur.length cap ∧ BOwn wr w1.heap.size s3 cur ∧ Hid (cur = cur3 ++ ((adv.take i).map num).flatten) ∧ Below w1.heap.size w1 wr) (fun _ s22 _ => adv.length - (intOf s22).toNat)
  case atStart => exact ⟨0, cur3, a3, c3, by omega, rfl, rfl, O3.out, hide (by simp), T3.out⟩
  case round =>
    clear O3 T3
    obtain ⟨i, cur, a4, c4, hi', rfl, rfl, ho, hcur, hb⟩ := hrel
    have O4 := hide ho
    have T4 := hide hb
    clear ho hb
    have hl4 : cur.length ≤ 10000000 := by
      have := HSZ.out
      have h2 := flat_le num adv i
      rw [hcur.out, HL3.out]; simp only [List.length_append] at this ⊢; omega
    by_cases hlt : i < adv.length
    · obtain ⟨ab, ao, rfl, habl, hac0⟩ := HA.out.2 (by rw [List.length_map]; omega)
      have x0 := hac0 i (by rw [List.length_map]; exact hlt)
      rw [List.getElem_map] at x0
      have x0 : wr.cell? ⟨ab, ao + i, none⟩ = some (.int .i64 adv[i]) := (T4.out.cell (p := ⟨ab, ao + i, none⟩) habl).trans x0
      have hx := OK2.out _ (List.getElem_mem hlt)
      have HT := hide (flat_succ num adv hlt)
      clear hac0
      generalize adv[i] = x at x0 hx HT
      go_wp2_with fail
      refine (number_any w1.heap.size cur a4 c4 x wr O4.out T4.out.size (by omega) hx).mono ?_
      rintro r w5 ⟨v5, rfl, hO, hG, _⟩
      have T5 : Hid (Below w1.heap.size w1 w5) := hide (below_grown (a := w1) T4.out hG (own_ge O4.out))
      obtain ⟨a5, c5, rfl, _, _, _⟩ := hO.row
      have O5 := hide hO
      clear hO hG
      have HCN : Hid (cur ++ num x = cur3 ++ ((adv.take (i + 1)).map num).flatten) := hide (by rw [HT.out, hcur.out, List.append_assoc])
      clear x0 O4 T4 hcur HT
      obtain ⟨cur5, hcur5⟩ : ∃ c, c = cur ++ num x := ⟨_, rfl⟩
      rw [← hcur5] at O5 HCN
      rw [← hcur5]
      clear hcur5
      go_wp2_with fail
      go_roundw
      case rel => exact ⟨i + 1, cur5, a5, c5, hlt, by go_num, rfl, O5.out, HCN, T5.out⟩
      case measure => simp [intOf]; omega
    · have hie : i = adv.length := by omega
      have HC4 : Hid (cur = num view ++ (num adv.length ++ (adv.map num).flatten)) := hide (by rw [hcur.out, HL3.out, hie, List.take_length, List.append_assoc])
      clear hcur hie HL3
      have BX4 := hide (BX.out.below T4.out BX.out.lt)
      have b0 : wr.cell? ⟨gb, 0, none⟩ = some (.slice na nodes.length nc) := BX4.out.cell 0
      go_wp2_with fail
      refine (number_any w1.heap.size cur a4 c4 nodes.length wr O4.out T4.out.size (by omega) (by omega)).mono ?_
      rintro r w6 ⟨v6, rfl, hO, hG, _⟩
      have T6 : Hid (Below w1.heap.size w1 w6) := hide (below_grown (a := w1) T4.out hG (own_ge O4.out))
      obtain ⟨a6, c6, rfl, _, _, _⟩ := hO.row
      have O6 := hide hO
      clear hO hG
      obtain ⟨cur6, hcur6⟩ : ∃ c, c = cur ++ num nodes.length := ⟨_, rfl⟩
      rw [← hcur6] at O6
      rw [← hcur6]
      have HC6 : Hid (cur6 = num view ++ (num adv.length ++ ((adv.map num).flatten ++ num nodes.length))) := hide (by rw [hcur6, HC4.out]; simp only [List.append_assoc])
      clear hcur6 b0 O4 T4 BX4 HC4
      go_wp2_with fail
      refine (fields_any w6).mono ?_
      rintro r w7 ⟨fa, fc, rfl, hFs, k7⟩
      have T7 : Hid (Below w1.heap.size w1 w7) := hide (below_call T6.out k7)
      have O7 := hide (BOwn.below O6.out k7)
      have FS := hide hFs
      have BX7 := hide (BX.out.below T7.out BX.out.lt)
      have b0 : w7.cell? ⟨gb, 0, none⟩ = some (.slice na nodes.length nc) := BX7.out.cell 0
      clear hFs k7 T6 O6
      go_wp2_with fail
      clear b0
      go_loopw [3, 39] (fun s3 s39 wr => ∃ (i : Nat) (cur : List Int) (a : Option Addr) (cap : Nat), i ≤ nodes.length ∧ s39 = .int .i64 i ∧ s3 = .slice a cur.length cap ∧ BOwn wr w1.heap.size s3 cur ∧ Hid (cur = cur6 ++ ((nodes.take i).map wrN).flatten) ∧ Below w1.heap.size w1 wr ∧ Fs wr w6.heap.size fa fc) (fun _ s39 _ => nodes.length - (intOf s39).toNat)
      case atStart => exact ⟨0, cur6, a6, c6, by omega, rfl, rfl, O7.out, hide (by simp), T7.out, FS.out⟩
      case round =>
        clear O7 T7 FS BX7
        obtain ⟨i, cur, a7, c7, hi', rfl, rfl, ho, hcur, hb, hfs⟩ := hrel
        have O7 := hide ho
        have T7 := hide hb
        have FS := hide hfs
        clear ho hb hfs
        have hl7 : cur.length ≤ 10000000 := by
          have := HSZ.out
          have h2 := flat_le wrN nodes i
          rw [hcur.out, HC6.out]; simp only [List.length_append] at this ⊢; omega
        have BX7 := hide (BX.out.below T7.out BX.out.lt)
        have b0 : wr.cell? ⟨gb, 0, none⟩ = some (.slice na nodes.length nc) := BX7.out.cell 0
        by_cases hlt : i < nodes.length
        · obtain ⟨nb, no, rfl, hnbl, hnd⟩ := HN.out.2 (by omega)
          obtain ⟨n0, hst0⟩ := hnd i hlt
          have n0 : wr.cell? ⟨nb, no + i * 44, none⟩ = some (.int .i64 nodes[i].1) := (T7.out.cell (p := ⟨nb, no + i * 44, none⟩) hnbl).trans n0
          obtain ⟨hp, hS⟩ := OK4.out _ (List.getElem_mem hlt)
          have HT := hide (flat_succ wrN nodes hlt)
          have HNL : Hid ((wrN nodes[i]).length + (cur6 ++ ((nodes.take i).map wrN).flatten).length ≤ 10000000) := hide (by
            have h1 := HSZ.out
            have h2 := flat_le wrN nodes (i + 1)
            rw [flat_succ wrN nodes hlt] at h2
            rw [HC6.out]; simp only [List.length_append] at h1 h2 ⊢; omega)
          clear hnd
          generalize nodes[i] = nd at n0 hst0 hp hS HT HNL
          obtain ⟨par, L⟩ := nd
          dsimp only at n0 hst0 hp hS
          have HST := hide hst0
          have HSS := hide hS
          have HPB := hide hp
          clear hst0 hS
          go_upto_region 13 with fail
          go_wp2_with fail
          refine (number_any w1.heap.size cur a7 c7 par wr O7.out T7.out.size (by omega) hp).mono ?_
          rintro r w8 ⟨v8, rfl, hO, hG, _⟩
          have T8 : Hid (Below w1.heap.size w1 w8) := hide (below_grown (a := w1) T7.out hG (own_ge O7.out))
          have FS8 := hide (FS.out.keeps (Keeps.of_grown O7.out (by decide) hG))
          obtain ⟨a8, c8, rfl, _, _, _⟩ := hO.row
          have O8 := hide hO
          clear hO hG b0 n0 hp O7 T7 FS BX7
          have BX8 := hide (BX.out.below T8.out BX.out.lt)
          have b0 : w8.cell? ⟨gb, 0, none⟩ = some (.slice (some ⟨nb, no, none⟩) nodes.length nc) := BX8.out.cell 0
          obtain ⟨cur8, hcur8⟩ : ∃ c, c = cur ++ num par := ⟨_, rfl⟩
          rw [← hcur8] at O8
          rw [← hcur8]
          have HC8 := hide hcur8
          clear hcur8
          go_wp2_with fail
          clear b0
          have HCI : Hid (wrN (par, L) = num par ++ (((List.range 32).map (fb L)).flatten ++ [0])) := hide (by unfold wrN; dsimp only; rw [wrF_eq HSS.out])
          have HUL : Hid ((L.getD 31 []).length ≤ 10000000) := hide (by
            have h1 := units_le HSS.out
            have h2 := HNL.out
            unfold wrN at h2
            rw [List.length_append] at h2
            dsimp only at h2
            omega)
          go_loopw [3, 57] (fun s3 s57 wr => ∃ (k : Nat) (cur : List Int) (a : Option Addr) (cap : Nat), k ≤ 32 ∧ s57 = .int .i64 k ∧ s3 = .slice a cur.length cap ∧ BOwn wr w1.heap.size s3 cur ∧ Hid (cur = cur8 ++ ((List.range k).map (fb L)).flatten) ∧ Below w1.heap.size w1 wr ∧ Fs wr w6.heap.size fa fc) (fun _ s57 _ => 32 - (intOf s57).toNat)
          case atStart => exact ⟨0, cur8, a8, c8, by omega, rfl, rfl, O8.out, hide (by simp), T8.out, FS8.out⟩
          case round =>
            clear O8 T8 FS8 BX8
            obtain ⟨k, cur, a9, c9, hk', rfl, rfl, ho, hcur9, hb, hfs⟩ := hrel
            have hl9 : cur.length ≤ 10000000 := by
              have := HNL.out
              have h2 := fb_le L hk'
              rw [hcur9.out, HC8.out, hcur.out]; rw [HCI.out] at this; simp only [List.length_append] at this ⊢; omega
            by_cases hk : k < 32
            · obtain ⟨fg, rfl, hfgl, hfc1, hfc2, hfat⟩ := hfs.at_
              obtain ⟨v0, v1, v2, hFV, x0, x1, x2⟩ := hfat k hk
              obtain ⟨⟨K0, caps0, rfl⟩, ⟨K1, caps1, rfl⟩, K2, caps2, rfl⟩ := hFV.one
              obtain ⟨w10, hw10⟩ : ∃ w10, w10 = wr.alloc (.cells #[.func (.func K0) #[] caps0, .func (.func K1) #[] caps1, .func (.func K2) #[] caps2] 61) := ⟨_, rfl⟩
              obtain ⟨gf, hgf⟩ : ∃ gf, gf = wr.heap.size := ⟨_, rfl⟩
              have k10 : Below wr.heap.size wr w10 := by rw [hw10]; exact (Below.refl _ _).alloc (Nat.le_refl _) _
              have O10 := hide (BOwn.below ho k10)
              have T10 : Hid (Below w1.heap.size w1 w10) := hide (below_call hb k10)
              have FS10 := hide (hfs.keeps (Keeps.of_below k10))
              have FV10 := hide (hFV.below k10)
              have BF10 : Hid (Blk w10 gf 61 #[.func (.func K0) #[] caps0, .func (.func K1) #[] caps1, .func (.func K2) #[] caps2]) := hide (by rw [hw10, hgf]; exact Blk.new wr _ _)
              have HW10 := hide hw10
              have HGF := hide hgf
              obtain ⟨he0, hc0⟩ := (field_has hk FV10.out (HST.out.below T10.out) HSS.out HUL.out).same
              have HC0 := hide hc0
              clear hw10 hgf k10 hfat hFV ho hb hfs hc0
              go_upto_region 18 with fail
              rw [← HW10.out, ← HGF.out]
              have y0 : w10.cell? ⟨gf, 0, none⟩ = some (.func (.func K0) #[] caps0) := BF10.out.cell 0
              clear x0 x1 x2
              go_wp2_with fail
              refine HC0.out.mono ?_
              rintro r w11' ⟨rfl, q, hq⟩
              obtain ⟨w11, hw11⟩ : ∃ w11, w11 = w10.drewN q := ⟨_, rfl⟩
              obtain rfl : w11' = w11 := by rw [hq, hw11]
              have k11 : Below w10.heap.size w10 w11' := by rw [hw11]; exact below_drewN (Below.refl _ _) q
              have O11 := hide (BOwn.below O10.out k11)
              have T11 : Hid (Below w1.heap.size w1 w11') := hide (below_call T10.out k11)
              have FS11 := hide (FS10.out.keeps (Keeps.of_below k11))
              have FV11 := hide (FV10.out.below k11)
              have BF11 : Hid (Blk w11' gf 61 #[.func (.func K0) #[] caps0, .func (.func K1) #[] caps1, .func (.func K2) #[] caps2]) := hide (BF10.out.below k11 BF10.out.lt)
              clear hq hw11 k11 O10 T10 FS10 FV10 BF10 HC0 he0 HW10 HGF y0
              have HFB := hide (fb_succ L k)
              by_cases hz : L.getD k [] = zv (kd k)
              · have HD : Hid (decide (L.getD k [] ≠ zv (kd k)) = false) := hide (by simpa using hz)
                have HCN : Hid (cur = cur8 ++ ((List.range (k + 1)).map (fb L)).flatten) := hide (by rw [HFB.out, hcur9.out]; unfold fb; rw [if_pos hz, List.append_nil])
                rw [HD.out]
                clear hz HD hcur9 HFB FV11 BF11
                go_wp2_with fail
                go_roundw
                case rel => exact ⟨k + 1, cur, a9, c9, hk, by go_num, rfl, O11.out, HCN, T11.out, FS11.out⟩
                case measure => simp [intOf]; omega
              · have HD : Hid (decide (L.getD k [] ≠ zv (kd k)) = true) := hide (by simpa using hz)
                have HZ := hide hz
                rw [HD.out]
                clear hz HD
                go_upto_region 19 with fail
                have hwk : IntKind.u8.wrap ((k : Int) + 1) = ((k + 1 : Nat) : Int) := by simp only [IntKind.wrap, IntKind.bits, IntKind.signed]; simp; omega
                have y1 : w11'.cell? ⟨gf, 1, none⟩ = some (.func (.func K1) #[] caps1) := BF11.out.cell 1
                have z1 : ∀ w' : World, w'.cell? ⟨gf, 1, none⟩ = some (.func (.func K1) #[] caps1) → w'.cell? ⟨gf, 1, none⟩ = some (.func (.func K1) #[] caps1) := fun _ h => h
                refine Hold.begin_ 11 (by kernel_rfl) rfl (fun w' : World => w'.cell? ⟨gf, 1, none⟩ = some (.func (.func K1) #[] caps1)) ?_ y1
                intro hS
                refine Hold.take (i := 0) (v := ?_) rfl (by kernel_rfl) (fun _ _ _ h => h) rfl ?_ hS ?_
                rotate_left
                · intro w' hS; have z0_ := z1 _ hS; go_simp; (try go_bits); (first | rfl | rw [if_pos (by omega)])
                simp only [Act.put, List.getElem_toArray, List.getElem_cons_zero, List.getElem_cons_succ, List.setIfInBounds_toArray, List.set_cons_zero, List.set_cons_succ]
                refine Hold.take (i := 1) (v := ?_) rfl (by kernel_rfl) (fun _ _ _ h => h) rfl ?_ hS ?_
                rotate_left
                · intro w' hS; have z0_ := z1 _ hS; go_simp; (try go_bits); (first | rfl | rw [if_pos (by omega)])
                simp only [Act.put, List.getElem_toArray, List.getElem_cons_zero, List.getElem_cons_succ, List.setIfInBounds_toArray, List.set_cons_zero, List.set_cons_succ]
                refine Hold.take (i := 2) (v := ?_) rfl (by kernel_rfl) (fun _ _ _ h => h) rfl ?_ hS ?_
                rotate_left
                · intro w' hS; have z0_ := z1 _ hS; go_simp; (try go_bits); (first | rfl | rw [if_pos (by omega)])
                simp only [Act.put, List.getElem_toArray, List.getElem_cons_zero, List.getElem_cons_succ, List.setIfInBounds_toArray, List.set_cons_zero, List.set_cons_succ]
                refine Hold.take (i := 3) (v := ?_) rfl (by kernel_rfl) (fun _ _ _ h => h) rfl ?_ hS ?_
                rotate_left
                · intro w' hS; have z0_ := z1 _ hS; go_simp; (try go_bits); (first | rfl | rw [if_pos (by omega)])
                simp only [Act.put, List.getElem_toArray, List.getElem_cons_zero, List.getElem_cons_succ, List.setIfInBounds_toArray, List.set_cons_zero, List.set_cons_succ]
                refine Hold.take (i := 4) (v := ?_) rfl (by kernel_rfl) (fun _ _ _ h => h) rfl ?_ hS ?_
                rotate_left
                · intro w' hS; have z0_ := z1 _ hS; go_simp; (try go_bits); (first | rfl | rw [if_pos (by omega)])
                simp only [Act.put, List.getElem_toArray, List.getElem_cons_zero, List.getElem_cons_succ, List.setIfInBounds_toArray, List.set_cons_zero, List.set_cons_succ]
                refine Hold.take (i := 5) (v := ?_) rfl (by kernel_rfl) (fun _ _ _ h => h) rfl ?_ hS ?_
                rotate_left
                · intro w' hS; have z0_ := z1 _ hS; go_simp; (try go_bits); (first | rfl | rw [if_pos (by omega)])
                simp only [Act.put, List.getElem_toArray, List.getElem_cons_zero, List.getElem_cons_succ, List.setIfInBounds_toArray, List.set_cons_zero, List.set_cons_succ]
                refine Hold.take (i := 8) (v := ?_) rfl (by kernel_rfl) (fun _ _ _ h => h) rfl ?_ hS ?_
                rotate_left
                · intro w' hS; have z0_ := z1 _ hS; go_simp; (try go_bits); (first | rfl | rw [if_pos (by omega)])
                simp only [Act.put, List.getElem_toArray, List.getElem_cons_zero, List.getElem_cons_succ, List.setIfInBounds_toArray, List.set_cons_zero, List.set_cons_succ]
                refine Hold.one (i := 6) (by kernel_rfl) ?_
                have k12 : Below w11'.heap.size w11' (w11'.drew.alloc (.cells #[.int .u8 ((k + 1 : Nat) : Int)] 5)) := ((Below.refl w11'.heap.size w11').drew).alloc (Nat.le_refl _) _
                obtain ⟨w12, hw12⟩ : ∃ w12, w12 = w11'.drew.alloc (.cells #[.int .u8 ((k + 1 : Nat) : Int)] 5) := ⟨_, rfl⟩
                have hS12 : w12.cell? ⟨gf, 1, none⟩ = some (.func (.func K1) #[] caps1) := by rw [hw12]; exact (k12.cell (p := ⟨gf, 1, none⟩) BF11.out.lt).trans y1
                have N12 : Hid (Blk w12 w11'.heap.size 5 #[.int .u8 ((k + 1 : Nat) : Int)]) := hide (by rw [hw12]; exact Blk.new w11'.drew _ _)
                rw [← hw12] at k12
                have O12 := hide (BOwn.below O11.out k12)
                have T12 : Hid (Below w1.heap.size w1 w12) := hide (below_call T11.out k12)
                have FS12 := hide (FS11.out.keeps (Keeps.of_below k12))
                have FV12 := hide (FV11.out.below k12)
                have BF12 := hide (BF11.out.below k12 BF11.out.lt)
                refine Hold.run (w' := w12) (v := .slice (some ⟨w11'.heap.size, 0, none⟩) 1 1) rfl rfl (by rw [hw12]; go_simp) ?_
                refine ⟨hS12, ?_⟩
                simp only [Act.put, List.getElem_toArray, List.getElem_cons_zero, List.getElem_cons_succ, List.setIfInBounds_toArray, List.set_cons_zero, List.set_cons_succ]
                refine Hold.one (i := 7) (by kernel_rfl) ?_
                refine Hold.list1 rfl rfl ?_
                refine wpList_append_lies _ rfl _ _ 22 rfl w1.heap.size 5 i0 (.int .u8 0) 1 1 Try.underlying22 hi hz0 hz1 hz2 rfl (by decide) _ _ _ rfl O12.out ⟨w11'.heap.size, 0, none⟩ 1 1 [.int .u8 ((k + 1 : Nat) : Int)] rfl rfl ?c1 ?c2 (by decide) ?c3 ?c4 ?c5 _ rfl ?_
                case c1 => exact N12.out.news
                case c2 => intro z hz; simp at hz; subst hz; rfl
                case c3 => unfold maxLen; omega
                case c4 => omega
                case c5 => exact T12.out.size
                intro g2 cap2 w13 hown hgrow hat hlt13
                have G13 := hide (FS12.out.keeps (Keeps.of_grown O12.out (by decide) hgrow))
                have kk13 := Keeps.of_grown O12.out (by decide) hgrow
                have T13 : Hid (Below w1.heap.size w1 w13) := hide (below_grown (a := w1) T12.out hgrow (own_ge O12.out))
                have FV13 := hide (FV12.out.keeps kk13)
                have BF13 : Hid (Blk w13 gf 61 #[.func (.func K0) #[] caps0, .func (.func K1) #[] caps1, .func (.func K2) #[] caps2]) := hide (kk13.2 _ _ _ _ BF12.out (by decide))
                obtain ⟨cur13, hcur13⟩ : ∃ c, c = cur ++ [((k + 1 : Nat) : Int)] := ⟨_, rfl⟩
                have hcl13 : cur13.length = cur.length + 1 := by rw [hcur13, List.length_append]; rfl
                have O13 : Hid (BOwn w13 w1.heap.size (.slice (some ⟨g2, 0, none⟩) cur13.length cap2) cur13) := hide (by
                  unfold BOwn
                  rw [hcl13, hcur13]
                  simpa [bys] using hown)
                have HC13 := hide hcur13
                have hl13 : cur13.length ≤ 10000001 := by omega
                have hS13 : w13.cell? ⟨gf, 1, none⟩ = some (.func (.func K1) #[] caps1) := BF13.out.cell 1
                obtain ⟨he1, hc1⟩ := (field_put hk FV13.out HST.out T13.out HSS.out HUL.out HZ.out).same
                have HC1 := hide (hc1 cur13 (some ⟨g2, 0, none⟩) cap2 O13.out (by omega))
                rw [← hcl13]
                show _ ∧ _
                refine ⟨hS13, ?_⟩
                clear hcl13 hcur13 hown hgrow hat hlt13 O11 T11 FS11 FV11 BF11 k12 hw12 hS12 N12 O12 T12 FS12 FV12 BF12 kk13 hc1 y1
                simp only [Act.put, List.getElem_toArray, List.getElem_cons_zero, List.getElem_cons_succ, List.setIfInBounds_toArray, List.set_cons_zero, List.set_cons_succ]
                refine Hold.one (i := 9) (by kernel_rfl) ?_
                refine Hold.call rfl rfl (by go_simp; exact ⟨rfl, rfl⟩) ?_
                refine HC1.out.mono ?_
                rintro r w14 ⟨v14, rfl, hO14, hG14, _⟩
                have kk14 := Keeps.of_grown O13.out (by decide) hG14
                have FS14 := hide (G13.out.keeps kk14)
                have T14 : Hid (Below w1.heap.size w1 w14) := hide (below_grown (a := w1) T13.out hG14 (own_ge O13.out))
                have BF14 : Hid (Blk w14 gf 61 #[.func (.func K0) #[] caps0, .func (.func K1) #[] caps1, .func (.func K2) #[] caps2]) := hide (kk14.2 _ _ _ _ BF13.out (by decide))
                have hS14 : w14.cell? ⟨gf, 1, none⟩ = some (.func (.func K1) #[] caps1) := BF14.out.cell 1
                obtain ⟨a14, c14, rfl, _, _, _⟩ := hO14.row
                obtain ⟨cur14, hcur14⟩ : ∃ c, c = cur13 ++ encF (kd k) (L.getD k []) := ⟨_, rfl⟩
                rw [← hcur14] at hO14
                rw [← hcur14]
                have O14 := hide hO14
                have HCN : Hid (cur14 = cur8 ++ ((List.range (k + 1)).map (fb L)).flatten) := hide (by
                  rw [HFB.out, hcur14, HC13.out, hcur9.out]
                  have : fb L k = ((k + 1 : Nat) : Int) :: encF (kd k) (L.getD k []) := if_neg HZ.out
                  rw [this]
                  simp only [List.append_assoc, List.singleton_append])
                refine ⟨_, rfl, hS14, ?_⟩
                clear hcur14 hO14 hG14 kk14 G13 T13 FV13 BF13 O13 HC13 hS13 HC1 he1 hS
                simp only [Act.put, List.getElem_toArray, List.getElem_cons_zero, List.getElem_cons_succ, List.setIfInBounds_toArray, List.set_cons_zero, List.set_cons_succ]
                have hS := hS14
                refine Hold.take (i := 10) (v := ?_) rfl (by kernel_rfl) (fun _ _ _ h => h) rfl ?_ hS ?_
                rotate_left
                · intro w' hS; have z0_ := z1 _ hS; go_simp; (try go_bits); (first | rfl | rw [if_pos (by omega)])
                simp only [Act.put, List.getElem_toArray, List.getElem_cons_zero, List.getElem_cons_succ, List.setIfInBounds_toArray, List.set_cons_zero, List.set_cons_succ]
                refine Hold.done (by kernel_rfl) ?_
                clear hS hS14 z1 BF14
                go_wp2_with fail
                go_roundw
                case rel => exact ⟨k + 1, cur14, a14, c14, hk, by go_num, rfl, O14.out, HCN, T14.out, FS14.out⟩
                case measure => simp [intOf]; omega
            · have hke : k = 32 := by omega
              have O9 := hide ho
              have T9 := hide hb
              have FS9 := hide hfs
              have HC9 : Hid (cur ++ [0] = cur6 ++ ((nodes.take (i + 1)).map wrN).flatten) := hide (by
                rw [HT.out, HCI.out, hcur9.out, HC8.out, hcur.out, hke]
                simp only [List.append_assoc])
              clear ho hb hfs hcur9 hke
              have HO8 := hide (O9.out.alloc (.cells #[.int .u8 0] 5))
              have N8 := hide (Blk.new wr 5 #[.int .u8 0])
              have kA : Below wr.heap.size wr (wr.alloc (.cells #[.int .u8 0] 5)) := (Below.refl _ _).alloc (Nat.le_refl _) _
              have FSA := hide (FS9.out.keeps (Keeps.of_below kA))
              have TA : Hid (Below w1.heap.size w1 (wr.alloc (.cells #[.int .u8 0] 5))) := hide (below_call T9.out kA)
              clear kA
              go_wp2_with (at_builtin; refine wpList_append_lies _ rfl _ _ 22 rfl w1.heap.size 5 i0 (.int .u8 0) 1 1 Try.underlying22 hi hz0 hz1 hz2 rfl (by decide) _ _ _ rfl HO8.out ⟨wr.heap.size, 0, none⟩ 1 1 [.int .u8 0] rfl rfl ?c1 ?c2 (by decide) ?c3 ?c4 ?c5 _ rfl ?_)
              case c1 => exact N8.out.news
              case c2 => intro z hz; simp at hz; subst hz; rfl
              case c3 => unfold maxLen; omega
              case c4 => omega
              case c5 => exact TA.out.size
              intro g2 cap2 w13 hown hgrow hat hlt13
              have kk13 := Keeps.of_grown HO8.out (by decide) hgrow
              have FSB := hide (FSA.out.keeps kk13)
              have TB : Hid (Below w1.heap.size w1 w13) := hide (below_grown (a := w1) TA.out hgrow (own_ge HO8.out))
              have OB : Hid (BOwn w13 w1.heap.size (.slice (some ⟨g2, 0, none⟩) (cur.length + 1) cap2) (cur ++ [0])) := hide (by
                unfold BOwn
                rw [List.length_append]
                simpa [bys] using hown)
              clear hown hgrow hat hlt13 HO8 N8 FSA TA kk13 O9 T9 FS9
              go_wp2_with fail
              go_roundw
              case rel => exact ⟨i + 1, cur ++ [0], some ⟨g2, 0, none⟩, cap2, hlt, by go_num, by rw [List.length_append]; rfl, OB.out, HC9, TB.out, FSB.out⟩
              case measure => simp [intOf]; omega
        · have hie : i = nodes.length := by omega
          have HF : Hid (cur = num view ++ (num adv.length ++ ((adv.map num).flatten ++ (num nodes.length ++ (nodes.map wrN).flatten)))) := hide (by rw [hcur.out, HC6.out, hie, List.take_length]; simp only [List.append_assoc])
          clear hie hcur b0
          go_wp2_with fail
          go_returns
          rw [HGB.out]
          refine ⟨_, rfl, ?_, T1.out.trans (T7.out.mono T1.out.size)⟩
          rw [← HF.out]
          exact own_mono O7.out T1.out.size
end Go.Proofs.Ytmngndmcidbakaa
