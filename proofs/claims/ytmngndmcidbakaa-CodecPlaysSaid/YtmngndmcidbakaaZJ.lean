/- Walk: CodecReads. -/
import Derived.Test.YtmngndmcidbakaaZI
namespace Go.Proofs.Ytmngndmcidbakaa
open Go.RowKit
/-- Read of a slice that reads as l. -/
theorem read_own {W : World} {B : Nat} {v : Value} {l : List Int} (h : BOwn W B v l) (hb : Bts l) (hl : l.length ≤ 10000000) : Calls Try.prog 18 #[v] W (RDP W (rdT l)) := by
  obtain ⟨a, cap, rfl, h1, h2, h3⟩ := h.row
  exact read_any a l cap W h3 hb h1 h2 hl
theorem BRow.take {W : World} {a : Option Addr} {l : List Int} (h : BRow W a l) (i : Nat) : BRow W a (l.take i) := by
  have := Row.take h i
  unfold BRow bys
  rwa [List.map_take]
theorem Bts.take {l : List Int} (h : Bts l) (i : Nat) : Bts (l.take i) := fun x hx => h x (List.mem_of_mem_take hx)
set_option maxRecDepth 100000 in
set_option maxHeartbeats 4000000 in
theorem walk_CodecReads (w : World) (a0 : Option Addr) (l : List Int) (c0 : Nat) (hr0 : Row w a0 (l.map (.int .u8))) (hw0 : ∀ n ∈ l, (Lit.int .u8 n).wf = true) (hc0 : l.length ≤ c0) (hm0 : c0 ≤ maxLen)
    (a1 : Option Addr) (m : List Int) (c1 : Nat) (hr1 : Row w a1 (m.map (.int .u8))) (hw1 : ∀ n ∈ m, (Lit.int .u8 n).wf = true) (hc1 : m.length ≤ c1) (hm1 : c1 ≤ maxLen) :
    Calls Try.prog 6 #[.slice a0 l.length c0, .slice a1 m.length c1] w fun e w' => e = .returned (.bool true) ∧ Below w.heap.size w w' := by
  obtain ⟨i0, hi, hz0, hz1, hz2⟩ := info_parts info5
  have bl : Bts l := fun n hn => u8_of (hw0 n hn)
  have bm : Bts m := fun n hn => u8_of (hw1 n hn)
  have R0 : Hid (BRow w a0 l) := hide hr0
  have R1 : Hid (BRow w a1 m) := hide hr1
  have hln := hr0.1
  have hmn := hr1.1
  rw [List.length_map] at hln hmn
  have BL := hide bl
  have BM := hide bm
  clear hr0 hr1 hw0 hw1 bl bm
  go_enter Try.func6, Try.ntmps6
  by_cases h1 : l.length ≤ 4096
  · have d1 : decide (4096 < (l.length : Int)) = false := by rw [decide_eq_false_iff_not]; omega
    by_cases h2 : m.length ≤ 1024
    · have d2 : decide (1024 < (m.length : Int)) = false := by rw [decide_eq_false_iff_not]; omega
      go_wp2_with fail
      clear d1 d2
      refine (bcopied_any a0 l c0 w R0.out (by omega)).mono ?_
      rintro r w2 ⟨v2, rfl, O2, k2⟩
      have T2 := hide k2
      have O2 := hide O2
      clear k2
      go_wp2_with fail
      have hrd := read_own O2.out BL.out (by omega)
      cases e : rdT l with
      | none =>
        rw [e] at hrd
        refine hrd.mono ?_
        rintro r w3 ⟨k3, rfl⟩
        have T3 := hide (below_call (w := w) T2.out k3)
        clear k3 hrd O2 e T2
        go_wp2_with fail
        refine (works_any _).mono ?_
        rintro r' w4 ⟨rfl, k4⟩
        have T4 := hide (below_call (w := w) (T3.out.alloc T3.out.size _) k4)
        clear k4 T3
        go_wp2_with fail
        go_returns
        exact ⟨rfl, T4.out⟩
      | some T =>
        rw [e] at hrd
        have HE := hide e
        have hs := rdT_sound BL.out e
        have hwl : wrT T = l := hs.1.symm
        have HWL := hide hwl
        have OKT := hide hs.2
        refine hrd.mono ?_
        rintro r w3 ⟨k3, v3, rfl, TV3⟩
        obtain ⟨na, nc, aa, ac, e3⟩ := TV3.form
        subst e3
        have T3 := hide (below_call (w := w) T2.out k3)
        have TV3 := hide TV3
        clear k3 hrd O2 e T2 hs hwl
        go_upto_region 4 with fail
        obtain ⟨w4, hw4⟩ : ∃ w4, w4 = w3.alloc (.cells #[.slice na T.nodes.length nc, .slice aa T.adv.length ac, .int .i64 T.view] 35) := ⟨_, rfl⟩
        have k4 : Below w3.heap.size w3 w4 := by rw [hw4]; exact (Below.refl _ _).alloc (Nat.le_refl _) _
        have BT4 : Blk w4 w3.heap.size 35 #[.slice na T.nodes.length nc, .slice aa T.adv.length ac, .int .i64 T.view] := by rw [hw4]; exact Blk.new _ _ _
        rw [← hw4]
        have T4 := hide (below_call (w := w) T3.out k4)
        have TV4 := hide (TV3.out.below k4)
        generalize w3.heap.size = tb at BT4 ⊢
        have x0 : w4.cell? ⟨tb, 0, none⟩ = some (.slice na T.nodes.length nc) := BT4.cell 0
        have x1 : w4.cell? ⟨tb, 1, none⟩ = some (.slice aa T.adv.length ac) := BT4.cell 1
        have x2 : w4.cell? ⟨tb, 2, none⟩ = some (.int .i64 T.view) := BT4.cell 2
        clear hw4 k4 BT4 T3 TV3
        go_wp2_with fail
        refine (write_any _ T w4 TV4.out (by rw [HWL.out]; omega)).mono ?_
        rintro r w5 ⟨v5, rfl, O5, k5⟩
        rw [HWL.out] at O5
        obtain ⟨a5, cap5, rfl, _, _, R5⟩ := O5.row
        have T5 := hide (below_call (w := w) T4.out k5)
        have R5 := hide R5
        clear k5 O5 T4 TV4 x0 x1 x2
        go_wp2_with fail
        refine (bsame_any a5 a0 l l cap5 c0 w5 R5.out (R0.out.below T5.out) (by omega) (by omega)).mono ?_
        rintro r w6 ⟨rfl, k6⟩
        rw [decide_eq_true (rfl : l = l)]
        have T6 := hide (below_call (w := w) T5.out k6)
        clear k6 T5 R5
        go_wp2_with fail
        refine (bcopied_any a0 l c0 w6 (R0.out.below T6.out) (by omega)).mono ?_
        rintro r w7 ⟨v7, rfl, O7, k7⟩
        have T7 := hide (below_call (w := w) T6.out k7)
        have O7 := hide O7
        have R17 := hide (R1.out.below T7.out)
        have hsz7 : w6.heap.size ≤ w7.heap.size := k7.size
        have hsz6 : w.heap.size ≤ w6.heap.size := T6.out.size
        clear k7 T6
        go_wp2_with (at_builtin; refine wpList_append_row rfl _ _ 22 rfl w6.heap.size 5 i0 (.int .u8 0) 1 Try.underlying22 hi hz0 hz1 hz2 rfl _ _ _ rfl O7.out a1 m.length c1 (bys m) rfl R17.out (bys_len m) (bys_one m) ?c1a ?c2a ?c3a ?_)
        case c1a => unfold maxLen; omega
        case c2a => omega
        case c3a => omega
        intro v8 w8 hown8 hgrow8 _
        have O8 : Hid (BOwn w8 w6.heap.size v8 (l ++ m)) := hide (by
          unfold BOwn
          rw [List.length_append]
          simpa [bys] using hown8)
        have T8 := hide (below_grown (a := w) T7.out hgrow8 (fun k h => Nat.le_trans hsz6 (own_ge O7.out k h)))
        clear hown8 hgrow8 R17 O7 T7
        go_wp2_with fail
        have hrd2 := read_own O8.out (BL.out.app BM.out) (by rw [List.length_append]; omega)
        by_cases hm0 : m = []
        · subst hm0
          rw [List.append_nil, HE.out] at hrd2
          refine hrd2.mono ?_
          rintro r w9 ⟨k9, v9, rfl, TV9⟩
          obtain ⟨nd, nf, ad, af, e9⟩ := TV9.form
          subst e9
          have T9 := hide (below_call (w := w) T8.out k9)
          clear k9 TV9 hrd2 O8 T8
          go_upto_region 11 with fail
          have T9 := hide (T9.out.alloc T9.out.size (.cells #[.slice nd T.nodes.length nf, .slice ad T.adv.length af, .int .i64 T.view] 35))
          generalize w9.alloc (.cells #[.slice nd T.nodes.length nf, .slice ad T.adv.length af, .int .i64 T.view] 35) = wA at T9 ⊢
          go_wp2_with fail
          go_loopw [9, 10, 11] (fun s9 s10 s11 wr => ∃ i : Nat, i ≤ l.length ∧ s9 = .int .i64 i ∧ Below w.heap.size w wr) (fun s9 _ _ _ => l.length - (intOf s9).toNat)
          case atStart => exact ⟨0, Nat.zero_le _, rfl, T9.out⟩
          case round =>
            obtain ⟨i, hil, rfl, hb⟩ := hrel
            have TR := hide hb
            clear hb
            by_cases hlt : i < l.length
            · obtain ⟨bb, bo, ha0, _, _⟩ := b_at R0.out (by omega)
              subst ha0
              have hti : (l.take i).length = i := by rw [List.length_take]; omega
              have hcop := bcopied_any (some ⟨bb, bo, none⟩) (l.take i) c0 wr ((R0.out.below TR.out).take i) (by omega)
              rw [hti] at hcop
              have HCOP := hide hcop
              have HNO := hide (rdT_less BL.out HE.out hlt)
              clear hcop hti
              go_wp2_with fail
              refine HCOP.out.mono ?_
              rintro r wB ⟨vB, rfl, OB, kB⟩
              have TB := hide (below_call (w := w) TR.out kB)
              have hrd3 := read_own OB (BL.out.take i) (by rw [List.length_take]; omega)
              rw [HNO.out] at hrd3
              have HRD3 := hide hrd3
              clear kB OB TR hrd3
              go_wp2_with fail
              refine HRD3.out.mono ?_
              rintro r wC ⟨kC, rfl⟩
              have TC := hide (below_call (w := w) TB.out kC)
              clear kC TB HRD3
              go_upto_region 15 with fail
              have TC := hide (TC.out.alloc TC.out.size (.cells #[.slice none 0 0, .slice none 0 0, .int .i64 0] 35))
              generalize wC.alloc (.cells #[.slice none 0 0, .slice none 0 0, .int .i64 0] 35) = wD at TC ⊢
              go_wp2_with fail
              go_roundw
              case rel => exact ⟨i + 1, hlt, by go_num, TC.out⟩
              case measure => simp [intOf]; omega
            · obtain rfl : i = l.length := by omega
              go_wp2_with fail
              refine (works_any wr).mono ?_
              rintro r' w2 ⟨rfl, k2⟩
              have T2 := hide (below_call (w := w) TR.out k2)
              clear k2
              go_wp2_with fail
              go_returns
              exact ⟨rfl, T2.out⟩
        · rw [rdT_more BL.out HE.out hm0] at hrd2
          have hmp : 0 < m.length := List.length_pos_iff.2 hm0
          have d3 : decide (0 < (m.length : Int)) = true := by rw [decide_eq_true_eq]; omega
          refine hrd2.mono ?_
          rintro r w9 ⟨k9, rfl⟩
          have T9 := hide (below_call (w := w) T8.out k9)
          clear k9 hrd2 O8 T8
          go_upto_region 11 with fail
          have T9 := hide (T9.out.alloc T9.out.size (.cells #[.slice none 0 0, .slice none 0 0, .int .i64 0] 35))
          generalize w9.alloc (.cells #[.slice none 0 0, .slice none 0 0, .int .i64 0] 35) = wA at T9 ⊢
          go_wp2_with fail
          go_loopw [9, 10, 11] (fun s9 s10 s11 wr => ∃ i : Nat, i ≤ l.length ∧ s9 = .int .i64 i ∧ Below w.heap.size w wr) (fun s9 _ _ _ => l.length - (intOf s9).toNat)
          case atStart => exact ⟨0, Nat.zero_le _, rfl, T9.out⟩
          case round =>
            obtain ⟨i, hil, rfl, hb⟩ := hrel
            have TR := hide hb
            clear hb
            by_cases hlt : i < l.length
            · obtain ⟨bb, bo, ha0, _, _⟩ := b_at R0.out (by omega)
              subst ha0
              have hti : (l.take i).length = i := by rw [List.length_take]; omega
              have hcop := bcopied_any (some ⟨bb, bo, none⟩) (l.take i) c0 wr ((R0.out.below TR.out).take i) (by omega)
              rw [hti] at hcop
              have HCOP := hide hcop
              have HNO := hide (rdT_less BL.out HE.out hlt)
              clear hcop hti
              go_wp2_with fail
              refine HCOP.out.mono ?_
              rintro r wB ⟨vB, rfl, OB, kB⟩
              have TB := hide (below_call (w := w) TR.out kB)
              have hrd3 := read_own OB (BL.out.take i) (by rw [List.length_take]; omega)
              rw [HNO.out] at hrd3
              have HRD3 := hide hrd3
              clear kB OB TR hrd3
              go_wp2_with fail
              refine HRD3.out.mono ?_
              rintro r wC ⟨kC, rfl⟩
              have TC := hide (below_call (w := w) TB.out kC)
              clear kC TB HRD3
              go_upto_region 15 with fail
              have TC := hide (TC.out.alloc TC.out.size (.cells #[.slice none 0 0, .slice none 0 0, .int .i64 0] 35))
              generalize wC.alloc (.cells #[.slice none 0 0, .slice none 0 0, .int .i64 0] 35) = wD at TC ⊢
              go_wp2_with fail
              go_roundw
              case rel => exact ⟨i + 1, hlt, by go_num, TC.out⟩
              case measure => simp [intOf]; omega
            · obtain rfl : i = l.length := by omega
              go_wp2_with fail
              refine (works_any wr).mono ?_
              rintro r' w2 ⟨rfl, k2⟩
              have T2 := hide (below_call (w := w) TR.out k2)
              clear k2
              go_wp2_with fail
              go_returns
              exact ⟨rfl, T2.out⟩
    · have d2 : decide (1024 < (m.length : Int)) = true := by rw [decide_eq_true_eq]; omega
      go_wp2_with fail
      refine (works_any w).mono ?_
      rintro r' w2 ⟨rfl, k2⟩
      have T2 := hide k2
      clear k2
      go_wp2_with fail
      go_returns
      exact ⟨rfl, T2.out⟩
  · have d1 : decide (4096 < (l.length : Int)) = true := by rw [decide_eq_true_eq]; omega
    go_wp2_with fail
    refine (works_any w).mono ?_
    rintro r' w2 ⟨rfl, k2⟩
    have T2 := hide k2
    clear k2
    go_wp2_with fail
    go_returns
    exact ⟨rfl, T2.out⟩
end Go.Proofs.Ytmngndmcidbakaa
