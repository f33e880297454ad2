/- Walk: the reader's style. -/
import Derived.Test.YtmngndmcidbakaaYW
import Derived.Laws.Rows
import Derived.Laws.Tables
namespace Go.Proofs.Ytmngndmcidbakaa
open Go.RowKit
theorem st_size (g : Nat → Nat → Int) (uv : Value) : (Try.prog.info? 49).map (·.size) = some (SC g uv).toArray.size := by
  have h : (Try.prog.info? 49).map (·.size) = some 43 := by kernel_rfl
  exact h
theorem SC_one (g : Nat → Nat → Int) {uv : Value} (h : uv.oneCell' = true) : (SC g uv).toArray.all (·.oneCell') = true := by
  refine Array.all_eq_true_iff_forall_mem.2 fun v hv => ?_
  have hv : v ∈ SC g uv := by simpa using hv
  unfold SC at hv
  obtain ⟨p, _, rfl⟩ := List.mem_map.1 hv
  unfold cv
  split <;> first | rfl | exact h
theorem UO.one {W : World} {B : Nat} {uv : Value} {us : List Int} (h : UO W B uv us) : uv.oneCell' = true := by
  rcases h.2 with ⟨rfl, _⟩ | ⟨g, cap', cur, rfl, _⟩ <;> rfl
theorem Blk.setRow {w : World} {g : Nat} {t : TypeId} {cs : Array Value} (h : Blk w g t cs) (cs' : Array Value) : Blk (w.setRow g cs') g t cs' := setRow_heap w g cs cs' t (0, 0) h
theorem Foot.setRow {fs : List Nat} {a w : World} (h : Foot fs a w) {g : Nat} (hg : g ∈ fs ∨ a.heap.size ≤ g) (cs : Array Value) : Foot fs a (w.setRow g cs) := by
  refine ⟨h.os, h.tape, h.output, by rw [show (w.setRow g cs).heap.size = w.heap.size from by simp [World.setRow]]; exact h.size, fun i hi hn => ?_⟩
  refine Eq.trans ?_ (h.block i hi hn)
  have hne : g ≠ i := by
    rintro rfl
    rcases hg with hg | hg
    · exact hn hg
    · omega
  simp [World.setRow, Array.getElem?_modify, hne]
theorem UO.mono {W : World} {B B' : Nat} {uv : Value} {us : List Int} (h : UO W B uv us) (hb : B' ≤ B) : UO W B' uv us := ⟨h.1, by
  rcases h.2 with h | ⟨g, cap', cur, e1, e2, e3⟩
  · exact .inl h
  · exact .inr ⟨g, cap', cur, e1, Nat.le_trans hb e2, e3⟩⟩
theorem foot_drop {a w : World} {rb sb : Nat} (h : Foot [rb, sb] a w) (hs : a.heap.size ≤ sb) : Foot [rb] a w := ⟨h.os, h.tape, h.output, h.size, fun i hi hn => h.block i hi (by
  simp only [List.mem_cons, List.not_mem_nil, or_false] at hn ⊢
  omega)⟩
/-- What the reader's style does, as the plain function says. -/
def ST (W0 : World) (rb : Nat) (ra : Option Addr) (rc : Nat) (b : List Int) (W : World) (o : Option (List (List Int) × List Int)) (r : Ending) (w' : World) : Prop :=
  match o with
  | some (L, q) => L.length = 32 ∧ ∃ uv, r = .returned (.agg (SC (gof L) uv).toArray) ∧ Rd W0 w' rb ra rc b q ∧ Foot [rb] W w' ∧ UO w' W.heap.size uv (L.getD 31 [])
  | none => r = .panicked CH ∧ Below W0.heap.size W0 w'
set_option maxRecDepth 100000 in
set_option maxHeartbeats 2000000 in
theorem style_ok {W0 W : World} {rb rc B fc : Nat} {ra fa : Option Addr} {b rest : List Int} (h : Rd W0 W rb ra rc b rest) (hf : Fs W B fa fc) :
    Calls Try.prog 28 #[.pointer (some ⟨rb, 0, none⟩), .slice fa 32 fc] W (ST W0 rb ra rc b W (rdF KD 1 rest)) := by
  have HR := hide h
  have HF := hide hf
  have hrb : rb < W.heap.size := h.blk.lt
  have hsz0 := h.bel.size
  obtain ⟨W1, hW1⟩ : ∃ W1, W1 = W.alloc (.cells (SC (gof (KD.map zv)) (.slice none 0 0)).toArray 49) := ⟨_, rfl⟩
  obtain ⟨sb, hsb⟩ : ∃ sb, sb = W.heap.size := ⟨_, rfl⟩
  have k1 : Below W.heap.size W W1 := by rw [hW1]; exact (Below.refl _ _).alloc (Nat.le_refl _) _
  have B1 := hide (by rw [hW1, hsb]; exact Blk.new W _ _ : Blk W1 sb 49 (SC (gof (KD.map zv)) (.slice none 0 0)).toArray)
  have R1 := hide (h.below k1)
  have F1 := hide (Foot.of_below [rb] k1)
  have HW1 := hide hW1
  have HSB := hide hsb
  clear h hf k1 hW1
  go_enter Try.func28, Try.ntmps28
  go_upto_region 1 with fail
  change Code.wp _ _ _ _ (W.alloc (.cells (SC (gof (KD.map zv)) (.slice none 0 0)).toArray 49))
  rw [← HW1.out, ← HSB.out]
  have hne : sb ≠ rb := by omega
  have hbs : W0.heap.size ≤ sb := by omega
  have hs1 : W.heap.size ≤ sb := by omega
  clear hsb
  go_wp2_with fail
  go_loopw [5, 6] (fun s5 s6 wr => ∃ (last : Nat) (P : List (List Int)) (q : List Int) (uv : Value), last ≤ 32 ∧ s5 = .int .i64 last ∧ Hid (P.length = last) ∧ Hid (rdF KD 1 rest = (rdF (KD.drop last) (last + 1) q).map fun p => (P ++ p.1, p.2)) ∧ Rd W0 wr rb ra rc b q ∧ Blk wr sb 49 (SC (gof (P ++ (KD.drop last).map zv)) uv).toArray ∧ UO wr W.heap.size uv ((P ++ (KD.drop last).map zv).getD 31 []) ∧ Hid (last < 32 → uv = .slice none 0 0) ∧ Foot [rb] W wr) (fun s5 _ _ => 32 - (intOf s5).toNat)
  case atStart =>
    exact ⟨0, [], rest, .slice none 0 0, Nat.zero_le _, rfl, hide rfl, hide (by
      rw [List.drop_zero]
      cases rdF KD (0 + 1) rest <;> rfl), R1.out, B1.out, World.ownsRow_nil _ _ _ _, hide (fun _ => rfl), F1.out⟩
  case round =>
    clear R1 B1 F1
    obtain ⟨last, P, q, uv, hl32, rfl, hP, hrd, hR, hB, hO, huv, hF⟩ := hrel
    have R := hide hR
    have B := hide hB
    have O := hide hO
    have F := hide hF
    clear hR hB hO hF
    have h1 := one_ok R.out
    cases q with
    | nil =>
      have HN : Hid (∀ w', Below W0.heap.size W0 w' → ST W0 rb ra rc b W (rdF KD 1 rest) (.panicked CH) w') := hide (fun w' hb => by rw [hrd.out, rdF_nil]; exact ⟨rfl, hb⟩)
      have H1 : Hid (Calls Try.prog 60 #[.pointer (some ⟨rb, 0, none⟩)] wr fun r' w' => r' = .panicked CH ∧ Below W0.heap.size W0 w') := hide (h1.mono fun _ _ h => h)
      clear h1
      go_wp2_with fail
      refine H1.out.mono ?_
      rintro r' w5 ⟨rfl, k5⟩
      have K5 := hide k5
      clear k5 H1
      go_wp2_with fail
      exact ⟨rfl, HN.out _ K5.out⟩
    | cons x q1 =>
      have H1 : Hid (Calls Try.prog 60 #[.pointer (some ⟨rb, 0, none⟩)] wr fun r' w' => r' = .returned (.int .u8 x) ∧ Rd W0 w' rb ra rc b q1 ∧ Foot [rb] wr w') := hide (h1.mono fun _ _ h => h)
      have hxb := R.out.byt x (by simp)
      obtain ⟨x', rfl⟩ := Int.eq_ofNat_of_zero_le hxb.1
      have hxb' : x' ≤ 255 := by have := hxb.2; omega
      clear h1 hxb
      have sw : ∀ w5, Rd W0 w5 rb ra rc b q1 → Foot [rb] wr w5 → Blk w5 sb 49 (SC (gof (P ++ (KD.drop last).map zv)) uv).toArray ∧ UO w5 W.heap.size uv ((P ++ (KD.drop last).map zv).getD 31 []) ∧ Foot [rb] W w5 := fun w5 r5 f5 => ⟨B.out.foot f5 (by simpa using hne), O.out.keeps (keeps_rb R.out f5), F.out.trans f5⟩
      have SW := hide sw
      clear sw
      cases x' with
      | zero =>
        have HN : Hid (∀ w', Rd W0 w' rb ra rc b q1 → Foot [rb] W w' → UO w' W.heap.size uv ((P ++ (KD.drop last).map zv).getD 31 []) → ST W0 rb ra rc b W (rdF KD 1 rest) (.returned (.agg (SC (gof (P ++ (KD.drop last).map zv)) uv).toArray)) w') := hide (fun w' h1 h2 h3 => by
          rw [hrd.out, show (((0 : Nat) : Int) :: q1) = 0 :: q1 from rfl, rdF_zero _ _ _ (by omega)]
          exact ⟨sty_len hP.out hl32, uv, rfl, h1, h2, h3⟩)
        go_wp2_with fail
        refine H1.out.mono ?_
        rintro r' w5 ⟨rfl, R5, F5⟩
        obtain ⟨b5, o5, f5⟩ := SW.out w5 R5 F5
        have R5 := hide R5
        have B5 := hide b5
        have O5 := hide o5
        have F5 := hide f5
        clear H1 b5 o5 f5 SW
        go_wp2_with (first | (refine wpList_load_row rfl 49 _ rfl sb rfl 49 _ _ _ B5.out Try.underlying49 rfl (st_size _ _) ?_) | (refine wpList_store_row rfl 49 _ _ rfl sb (SC (gof (P ++ (KD.drop last).map zv)) uv).toArray rfl rfl 49 _ B5.out (st_size _ _) rfl (SC_one _ O5.out.one) ?_))
        have R6 := hide (R5.out.foot ((Foot.refl [sb] w5).setRow (g := sb) (.inl (by simp)) (SC (gof (P ++ (KD.drop last).map zv)) uv).toArray) (by simpa using hbs) (by simpa using Ne.symm hne))
        have F6 := hide (F5.out.setRow (g := sb) (.inr hs1) (SC (gof (P ++ (KD.drop last).map zv)) uv).toArray)
        have O6 := hide (O5.out.keeps (Keeps.of_foot ((Foot.refl [sb] w5).setRow (g := sb) (.inl (by simp)) (SC (gof (P ++ (KD.drop last).map zv)) uv).toArray) (fun k hk => by obtain rfl := List.mem_singleton.1 hk; exact ⟨_, _, B5.out, by decide⟩)))
        refine bodyPost_ret (results_cell_row Try.results28 _ _ sb 49 _ (0, 0) _ rfl (B5.out.setRow _) Try.underlying49 rfl (st_size _ _)) rfl ?_
        exact HN.out _ R6.out F6.out O6.out
      | succ j =>
        have ej : ((j + 1 : Nat) : Int) = (j : Int) + 1 := by omega
        rw [ej] at H1
        have hrd := hide (show rdF KD 1 rest = (rdF (KD.drop last) (last + 1) (((j : Int) + 1) :: q1)).map fun p => (P ++ p.1, p.2) by rw [← ej]; exact hrd.out)
        have hw8 : IntKind.i64.wrap ((j : Int) + 1) = (j : Int) + 1 := by simp only [IntKind.wrap, IntKind.bits, IntKind.signed]; simp; omega
        have hx0 : ((j : Int) + 1 == 0) = false := by simp; omega
        clear ej
        by_cases hj : last ≤ j ∧ j < 32
        · obtain ⟨hj1, hj2⟩ := hj
          have d1 : decide ((last : Int) < (j : Int) + 1) = true := by rw [decide_eq_true_eq]; omega
          have d2 : decide ((j : Int) + 1 ≤ 32) = true := by rw [decide_eq_true_eq]; omega
          have hst := sty_step hP.out hj1 hj2 hrd.out
          have HST := hide hst
          clear hst
          have hnil : uv = .slice none 0 0 := huv.out (by omega)
          subst hnil
          have hle : last < 32 := by omega
          go_wp2_with fail
          refine H1.out.mono ?_
          rintro r' w5 ⟨rfl, R5, F5⟩
          obtain ⟨b5, o5, f5⟩ := SW.out w5 R5 F5
          have R5 := hide R5
          have B5 := hide b5
          have O5 := hide o5
          have F5 := hide f5
          clear H1 b5 o5 f5 SW
          go_wp2_with fail
          refine (must_true rb _).mono ?_
          rintro r' w6 ⟨rfl, k6⟩
          have R6 := R5.out.below k6
          have F6 := F5.out.trans (Foot.of_below _ k6)
          have B6 := B5.out.below k6 B5.out.lt
          obtain ⟨gb, rfl, hgb, _, _, hat⟩ := (HF.out.keeps (keeps_rb HR.out F6)).at_
          obtain ⟨v0, v1, v2, hv, c0, c1, c2⟩ := hat j hj2
          obtain ⟨K, caps, rfl, he, hc⟩ := field_take hj2 hv R6 B6 hbs hne (sty_len hP.out hl32) (sty_units hP.out hle)
          have HC := hide hc
          have R6 := hide R6
          have F6 := hide F6
          have hb6 : sb < w6.heap.size := B6.lt
          clear hc hat hv c0 c1 k6 B6 R5 F5 B5 O5
          go_wp2_with fail
          cases hdec : decF (kd j) q1 with
          | none =>
            have HN : Hid (∀ w', Below W0.heap.size W0 w' → ST W0 rb ra rc b W (rdF KD 1 rest) (.panicked CH) w') := hide (fun w' hb => by
              rw [HST.out.1 hdec]
              exact ⟨rfl, hb⟩)
            rw [hdec] at HC
            refine HC.out.mono ?_
            rintro r' w7 ⟨rfl, k7⟩
            have K7 := hide k7
            clear k7 HC
            go_wp2_with fail
            exact ⟨rfl, HN.out _ K7.out⟩
          | some p =>
            obtain ⟨v, q'⟩ := p
            obtain ⟨P', hP', hrd', hset⟩ := HST.out.2 v q' hdec
            rw [hdec] at HC
            refine HC.out.mono ?_
            rintro r' w7 ⟨rfl, R7, F7, uv7, B7, O7, hu7⟩
            rw [← hset] at B7 O7
            have F8 := hide (foot_drop ((F6.out.mono (gs := [rb, sb]) (by simp)).trans F7) hs1)
            have O8 := hide (O7.mono (Nat.le_trans hs1 (Nat.le_of_lt hb6)))
            have R8 := hide R7
            have B8 := hide B7
            have HP' := hide hP'
            have HRD := hide hrd'
            clear R7 F7 B7 O7 hset HC hP' hrd' hdec HST
            go_wp2_with fail
            go_roundw
            case rel => exact ⟨j + 1, P', q', uv7, hj2, by go_num, HP', HRD, R8.out, B8.out, O8.out, hide (fun h => hu7 (by omega)), F8.out⟩
            case measure => simp [intOf]; omega
        · have HN : Hid (∀ w', Below W0.heap.size W0 w' → ST W0 rb ra rc b W (rdF KD 1 rest) (.panicked CH) w') := hide (fun w' hb => by
            rw [hrd.out, rdF_bad _ _ _ _ (by rw [List.length_drop]; show _ ∨ ((last + 1 + (32 - last) : Nat) : Int) ≤ _; omega) (by omega)]
            exact ⟨rfl, hb⟩)
          clear hrd
          by_cases hj1 : last ≤ j
          · have d1 : decide ((last : Int) < (j : Int) + 1) = true := by rw [decide_eq_true_eq]; omega
            have d2 : decide ((j : Int) + 1 ≤ 32) = false := by rw [decide_eq_false_iff_not]; omega
            go_wp2_with fail
            refine H1.out.mono ?_
            rintro r' w5 ⟨rfl, R5, F5⟩
            have K5 := R5.bel
            clear R5 F5 H1 SW
            go_wp2_with fail
            refine (must_false rb _).mono ?_
            rintro r' w6 ⟨rfl, k6⟩
            have K6 := hide (below_call K5 k6)
            clear k6 K5
            go_wp2_with fail
            exact ⟨rfl, HN.out _ K6.out⟩
          · have d1 : decide ((last : Int) < (j : Int) + 1) = false := by rw [decide_eq_false_iff_not]; omega
            go_wp2_with fail
            refine H1.out.mono ?_
            rintro r' w5 ⟨rfl, R5, F5⟩
            have K5 := R5.bel
            clear R5 F5 H1 SW
            go_wp2_with fail
            refine (must_false rb _).mono ?_
            rintro r' w6 ⟨rfl, k6⟩
            have K6 := hide (below_call K5 k6)
            clear k6 K5
            go_wp2_with fail
            exact ⟨rfl, HN.out _ K6.out⟩
end Go.Proofs.Ytmngndmcidbakaa
