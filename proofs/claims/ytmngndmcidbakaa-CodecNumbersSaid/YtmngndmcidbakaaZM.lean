/- Walk: CodecNumbers. -/
import Derived.Test.YtmngndmcidbakaaZJ
namespace Go.Proofs.Ytmngndmcidbakaa
open Go.RowKit
theorem own_apart {W W' : World} {B : Nat} {e : TypeId} {sz n : Nat} {v u : Value} {xs : List Value} (h : W.ownsRow B e sz v n xs) (hg : W.grownBy W' u.ownBlock) (hne : ∀ k, v.ownBlock = some k → u.ownBlock ≠ some k) : W'.ownsRow B e sz v n xs :=
  own_foot h (foot_row hg) (fun k hk hm => hne k hk (Option.mem_toList.1 hm))
theorem tk_put {l : List Int} {n : Int} (h : I64 n) : tk (l ++ num n) l.length = (n, ((l ++ num n).length : Int), 0) := by
  have := tk_rdN (b := l ++ num n) (p := l.length) (by simp)
  rw [this, List.drop_left]
  have h2 := rdN_num (n := n) (r := []) h
  rw [List.append_nil] at h2
  rw [h2]
  simp
set_option maxRecDepth 100000 in
set_option maxHeartbeats 4000000 in
theorem walk_CodecNumbers (w : World) (a0 : Option Addr) (l : List Int) (c0 : Nat) (hr0 : Row w a0 (l.map (.int .u8))) (hw0 : ∀ n ∈ l, (Lit.int .u8 n).wf = true) (hc0 : l.length ≤ c0) (hm0 : c0 ≤ maxLen)
    (n : Int) (hn : (Lit.int .i64 n).wf = true) (at_ : Int) (hat : (Lit.int .i64 at_).wf = true) :
    Calls Try.prog 3 #[.slice a0 l.length c0, .int .i64 n, .int .i64 at_] w fun e w' => e = .returned (.bool true) ∧ Below w.heap.size w w' := by
  obtain ⟨i0, hi, hz0, hz1, hz2⟩ := info_parts info5
  have bl : Bts l := fun n hn => u8_of (hw0 n hn)
  have hn1 : I64 n := by unfold I64; simpa [Lit.wf, IntKind.min, IntKind.max, IntKind.signed, IntKind.bits] using hn
  have hat1 : I64 at_ := by unfold I64; simpa [Lit.wf, IntKind.min, IntKind.max, IntKind.signed, IntKind.bits] using hat
  have R0 : Hid (BRow w a0 l) := hide hr0
  have hln := hr0.1
  rw [List.length_map] at hln
  have BL := hide bl
  have HN := hide hn1
  have HAT := hide hat1
  clear hr0 hw0 bl hn hat hn1 hat1
  by_cases h1 : l.length ≤ 16384
  · have d1 : decide (16384 < (l.length : Int)) = false := by rw [decide_eq_false_iff_not]; omega
    obtain ⟨N, hN⟩ : ∃ N : Nat, N = l.length + 30 := ⟨_, rfl⟩
    have eN : ((l.length : Int) + 30) = (N : Int) := by omega
    have hmk := fun W => run_make0 (P := Try.prog) 22 5 Try.underlying22 hi hz0 hz1 rfl hz2 N (by omega) (by omega) W
    obtain ⟨w1, hw1⟩ : ∃ w1, w1 = w.alloc (.cells (Array.replicate N (.int .u8 0)) 5) := ⟨_, rfl⟩
    have HO := hide (hw1 ▸ World.ownsRow_made (base := w.heap.size) (e := 5) (size := 1) w (Array.replicate N (.int .u8 0)) N (Nat.le_refl _) (by unfold maxLen; omega) (by simp) : w1.ownsRow w.heap.size 5 1 (.slice (some ⟨w.heap.size, 0, none⟩) 0 N) 0 [])
    have t1 := hide (hw1 ▸ (Below.refl _ _).alloc (Nat.le_refl _) _ : Below w.heap.size w w1)
    have HR := hide (R0.out.below t1.out)
    have HW := hide hw1
    clear hw1 hN
    go_enter Try.func3, Try.ntmps3
    go_wp2_with (at_builtin; (try rw [← HW.out]); refine wpList_append_row rfl _ _ 22 rfl w.heap.size 5 i0 (.int .u8 0) 1 Try.underlying22 hi hz0 hz1 hz2 rfl _ _ _ rfl HO.out a0 l.length c0 (bys l) rfl HR.out (bys_len l) (bys_one l) ?c1 ?c2 t1.out.size ?_)
    case c1 => unfold maxLen; omega
    case c2 => omega
    intro v' w2 hown' hgrow _
    (try simp only [List.nil_append, Nat.zero_add] at hown')
    have H2 : BOwn w2 w.heap.size v' l := hown'
    have T2 := hide (below_grown (a := w) t1.out hgrow (fun k h => by simp [Value.ownBlock] at h; omega))
    obtain ⟨a2, c2, rfl, _, _, hr2⟩ := H2.row
    have H2 := hide H2
    have hr2 := hide hr2
    clear hown' hgrow hmk HO HR HW t1
    go_wp2_with fail
    refine (put_any a2 l c2 n w2 hr2.out (by omega) HN.out).mono ?_
    rintro r w3 ⟨v3, rfl, O3, k3⟩
    obtain ⟨cc, hcc⟩ : ∃ cc, cc = l ++ num n := ⟨_, rfl⟩
    rw [← hcc] at O3
    have HCC := hide hcc
    clear hcc
    obtain ⟨a3, c3, rfl, hcap3, hmax3, _⟩ := O3.row
    have hne0 : ∀ k, (Value.slice a3 cc.length c3).ownBlock = some k → (Value.slice a2 l.length c2).ownBlock ≠ some k := fun k hk h2 => by
      have h3 := own_ge O3 k hk
      obtain ⟨_, _, h4⟩ := own_type H2.out k h2
      have := heap_lt h4
      omega
    have H3 := hide (own_below H2.out k3)
    have T3 := hide (below_call (w := w) T2.out k3)
    have O3 := hide O3
    have HNE := hide hne0
    obtain ⟨B1, hB1⟩ : ∃ B1, B1 = w2.heap.size := ⟨_, rfl⟩
    rw [← hB1] at O3
    clear hne0 k3 H2 hr2 T2 hB1
    go_wp2_with fail
    go_loopw [7, 9] (fun s7 s9 wr => ∃ (i : Nat) (a : Option Addr) (c : Nat), i ≤ 30 ∧ s9 = .int .i64 i ∧ s7 = .slice a (l.length + i) c ∧ wr.ownsRow w.heap.size 5 1 s7 (l.length + i) (bys (l ++ List.replicate i 238)) ∧ BOwn wr B1 (.slice a3 cc.length c3) cc ∧ Hid (∀ k, (Value.slice a3 cc.length c3).ownBlock = some k → s7.ownBlock ≠ some k) ∧ Below w.heap.size w wr) (fun _ s9 _ => 30 - (intOf s9).toNat)
    case atStart => exact ⟨0, a2, c2, Nat.zero_le _, rfl, rfl, by simpa using H3.out, O3.out, HNE, T3.out⟩
    case round =>
      clear H3 O3 HNE T3
      obtain ⟨i, a, c, hi30, rfl, rfl, hO, hC, hNE, hb⟩ := hrel
      have O := hide hO
      have C := hide hC
      have TR := hide hb
      clear hO hC hb
      by_cases hlt : i < 30
      · have b8 : Below wr.heap.size wr (wr.alloc (.cells #[.int .u8 238] 5)) := (Below.refl _ _).alloc (Nat.le_refl _) _
        have O8 := hide (own_below O.out b8)
        have C8 := hide (own_below C.out b8)
        have T8 := hide (below_call (w := w) TR.out b8)
        have N8 := hide (Blk.new wr 5 #[.int .u8 238])
        have hsz8 := T8.out.size
        clear b8
        go_wp2_with (at_builtin; refine wpList_append_lies _ rfl _ _ 22 rfl w.heap.size 5 i0 (.int .u8 0) 1 1 Try.underlying22 hi hz0 hz1 hz2 rfl (by decide) _ _ _ rfl O8.out ⟨wr.heap.size, 0, none⟩ 1 1 [.int .u8 238] rfl rfl ?c1 ?c2 (by decide) ?c3 ?c4 ?c5 _ rfl ?_)
        case c1 => exact N8.out.news
        case c2 => intro z hz; simp at hz; rcases hz with rfl; rfl
        case c3 => unfold maxLen; omega
        case c4 => omega
        case c5 => exact hsz8
        intro g2 cap2 w9 hown hgrow hat hlt9
        have T9 := hide (below_grown (a := w) T8.out hgrow (own_ge O8.out))
        have C9 := hide (own_apart C8.out hgrow hNE.out)
        have NE9 : Hid (∀ k, (Value.slice a3 cc.length c3).ownBlock = some k → (Value.slice (some ⟨g2, 0, none⟩) (l.length + i + 1) cap2).ownBlock ≠ some k) := hide (fun k hk h2 => by
          have hg : g2 = k := by simpa [Value.ownBlock] using h2
          rcases hat with h | h
          · exact hNE.out k hk (by rw [h, hg])
          · obtain ⟨_, _, h4⟩ := own_type C.out k hk
            have h5 := heap_lt h4
            have h6 : g2 = wr.heap.size + 1 := by simpa using h
            omega)
        have O9 : Hid (w9.ownsRow w.heap.size 5 1 (.slice (some ⟨g2, 0, none⟩) (l.length + (i + 1)) cap2) (l.length + (i + 1)) (bys (l ++ List.replicate (i + 1) 238))) := hide (by
          have e : bys (l ++ List.replicate (i + 1) 238) = bys (l ++ List.replicate i 238) ++ [.int .u8 238] := by
            unfold bys
            rw [List.replicate_succ', ← List.append_assoc, List.map_append]
            rfl
          rw [e]
          exact hown)
        clear hown hgrow hat hlt9 O8 C8 T8 N8 hsz8 O C TR hNE
        go_wp2_with fail
        go_roundw
        case rel => exact ⟨i + 1, some ⟨g2, 0, none⟩, cap2, hlt, by go_num, by rw [Nat.add_assoc], by rw [Nat.add_assoc]; exact O9.out, C9.out, by rw [Nat.add_assoc] at NE9; exact NE9, T9.out⟩
        case measure => simp [intOf]; omega
      · obtain rfl : i = 30 := by omega
        have hcapO : l.length + 30 ≤ c := by
          obtain ⟨a', c', e, h1, _⟩ := own_row O.out
          simp only [Value.slice.injEq] at e
          rw [e.2.2]; exact h1
        obtain ⟨g7, cap7, e7, _, _⟩ := O.out.form (by omega)
        simp only [Value.slice.injEq] at e7
        obtain ⟨e7, _, _⟩ := e7
        subst e7
        have hCrow : BRow wr a3 cc := by
          obtain ⟨a', c', e, _, _, hr⟩ := BOwn.row C.out
          simp only [Value.slice.injEq] at e
          rw [e.1]; exact hr
        have hOrow : BRow wr (some ⟨g7, 0, none⟩) (l ++ List.replicate 30 238) := by
          obtain ⟨a', c', e, _, _, _, hr⟩ := own_row O.out
          simp only [Value.slice.injEq] at e
          rw [e.1]; exact hr
        have hOt : BRow wr (some ⟨g7, 0, none⟩) l := by
          have := hOrow.take l.length
          rwa [List.take_left] at this
        have CR := hide hCrow
        have OR := hide hOt
        have hnl : (num n).length ≤ 9 := (num_len HN.out).1
        have hcl : cc.length ≤ 100000 := by rw [HCC.out, List.length_append]; omega
        have bC : Hid (Bts cc) := hide (by rw [HCC.out]; exact BL.out.app (num_bts HN.out))
        have hlc : l.length ≤ cc.length := by rw [HCC.out, List.length_append]; omega
        have TKP : Hid (tk cc l.length = (n, (cc.length : Int), 0)) := hide (by rw [HCC.out]; exact tk_put HN.out)
        obtain ⟨tm, tn, te, htk⟩ : ∃ x y z, tk l at_ = (x, y, z) := ⟨_, _, _, rfl⟩
        have HTK := hide htk
        clear hCrow hOrow hOt O C hNE htk
        go_wp2_with fail
        refine (bcopied_any a0 l c0 wr (R0.out.below TR.out) (by omega)).mono ?_
        rintro r w4 ⟨v4, rfl, O4, k4⟩
        obtain ⟨a4, c4, rfl, hc4, hm4, hr4⟩ := O4.row
        have T4 := hide k4
        have hr4 := hide hr4
        clear k4 O4
        go_wp2_with fail
        refine (take_any a4 l c4 at_ w4 hr4.out BL.out hc4 hm4 (by omega) HAT.out).mono ?_
        rintro r w5 ⟨rfl, k5⟩
        rw [HTK.out]
        have T5 := hide (below_call (w := wr) T4.out k5)
        clear k5 T4 hr4
        go_wp2_with fail
        refine (rtake_any a0 l c0 at_ w5 (R0.out.below (TR.out.trans (T5.out.mono TR.out.size))) BL.out (by omega) HAT.out).mono ?_
        rintro r w6 ⟨rfl, k6⟩
        rw [HTK.out]
        have T6 := hide (below_call (w := wr) T5.out k6)
        clear k6 T5
        go_wp2_with fail
        refine (take_any a3 cc c3 l.length w6 (CR.out.below T6.out) bC.out hcap3 hmax3 (by omega) (by omega)).mono ?_
        rintro r w7 ⟨rfl, k7⟩
        rw [TKP.out]
        have T7 := hide (below_call (w := wr) T6.out k7)
        clear k7 T6
        go_wp2_with fail
        refine (bcopied_any a0 l c0 w7 (R0.out.below (TR.out.trans (T7.out.mono TR.out.size))) (by omega)).mono ?_
        rintro r w8 ⟨v8, rfl, O8, k8⟩
        have T8 := hide (below_call (w := wr) T7.out k8)
        have O8 := hide O8
        have hsz78 := k8.size
        have hszr7 := T7.out.size
        clear k8 T7
        go_wp2_with fail
        refine (rnumber_any n w8 HN.out).mono ?_
        rintro r w9 ⟨v9, rfl, O9, k9⟩
        obtain ⟨a9, c9, rfl, _, _, hr9⟩ := O9.row
        have T9 := hide (below_call (w := wr) T8.out k9)
        have O89 := hide (own_below O8.out k9)
        have hr9 := hide hr9
        have hsz9 : w7.heap.size ≤ w9.heap.size := Nat.le_trans hsz78 k9.size
        clear k9 T8 O8 O9
        obtain ⟨nn, hnn⟩ : ∃ nn, nn = num n := ⟨_, rfl⟩
        rw [← hnn] at hr9 hnl ⊢
        have HNN : Hid (cc = l ++ nn) := hide (by rw [HCC.out, hnn])
        clear hnn
        go_wp2_with (at_builtin; refine wpList_append_row rfl _ _ 22 rfl w7.heap.size 5 i0 (.int .u8 0) 1 Try.underlying22 hi hz0 hz1 hz2 rfl _ _ _ rfl O89.out a9 nn.length c9 (bys nn) rfl hr9.out (bys_len nn) (bys_one nn) ?c1a ?c2a ?c3a ?_)
        case c1a => unfold maxLen; omega
        case c2a => omega
        case c3a => exact hsz9
        intro vA wA hownA hgrowA _
        have OA : BOwn wA w7.heap.size vA cc := by
          unfold BOwn
          rw [HNN.out, List.length_append]
          simpa [bys] using hownA
        obtain ⟨aA, cA, rfl, _, _, hrA⟩ := OA.row
        have TA := hide (below_grown (a := wr) T9.out hgrowA (fun k h => Nat.le_trans hszr7 (own_ge O89.out k h)))
        have hrA := hide hrA
        clear hownA hgrowA OA T9 O89 hr9
        go_wp2_with fail
        refine (bsame_any a3 aA cc cc c3 cA wA (CR.out.below TA.out) hrA.out (by omega) (by omega)).mono ?_
        rintro r wB ⟨rfl, kB⟩
        rw [decide_eq_true (rfl : cc = cc)]
        have TB := hide (below_call (w := wr) TA.out kB)
        clear kB TA hrA
        go_wp2_with fail
        refine (bsame_any (some ⟨g7, 0, none⟩) a0 l l _ c0 wB (OR.out.below TB.out) (R0.out.below (TR.out.trans (TB.out.mono TR.out.size))) (by omega) (by omega)).mono ?_
        rintro r wC ⟨rfl, kC⟩
        rw [decide_eq_true (rfl : l = l)]
        have TC := hide (below_call (w := wr) TB.out kC)
        clear kC TB
        go_wp2_with fail
        refine (works_any wC).mono ?_
        rintro r wD ⟨rfl, kD⟩
        have TD := hide (below_call (w := w) (TR.out.trans (TC.out.mono TR.out.size)) kD)
        clear kD TC
        go_wp2_with fail
        go_returns
        exact ⟨rfl, TD.out⟩
  · have d1 : decide (16384 < (l.length : Int)) = true := by rw [decide_eq_true_eq]; omega
    go_enter Try.func3, Try.ntmps3
    go_wp2_with fail
    refine (works_any w).mono ?_
    rintro r' w2 ⟨rfl, k2⟩
    have T2 := hide k2
    clear k2
    go_wp2_with fail
    go_returns
    exact ⟨rfl, T2.out⟩
end Go.Proofs.Ytmngndmcidbakaa
