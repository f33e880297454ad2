/- Walks: a field taken from bytes: units. -/
import Derived.Test.YtmngndmcidbakaaYU
import Derived.Test.YtmngndmcidbakaaPs
namespace Go.Proofs.Ytmngndmcidbakaa
open Go.RowKit
theorem Hold.callX {P : Program} {ops : Array Oper} {Q : Exit → Act → World → Prop} {i : Nat} {o : Oper} {f : FuncId} {args : Array Value} {K : Act → World → Prop} {a : Act} {w : World} (hi : ops[i]? = some o) (hw : Region.wanted o (yielded ops a.tmps) = true)
    (hr : (execOp a.eval o).run P w = .ok (.enter f args) w) (h : Calls P f args w fun e w' => ∃ c, e = .panicked c ∧ Q (.panic c) a w') : wpOp P ops Q i K a w := by
  unfold wpOp
  simp only [hi, hw, if_true]
  refine .inl ?_
  unfold Oper.wp
  rw [hr]
  refine Calls.mono h fun e w' hh => ?_
  obtain ⟨v, rfl, hk⟩ := hh
  exact hk
theorem info92 : (Try.prog.info? 92).map (fun i => (i.zero, i.size, i.bytes)) = some (some (.int .u16 0), 1, 2) := by kernel_rfl
/-- Units in a row of their own. -/
def UO (W : World) (B : Nat) (uv : Value) (us : List Int) : Prop := W.ownsRow B 92 1 uv us.length (us.map (.int .u16))
/-- What the take of units does, as the plain function says. -/
def TU (W0 : World) (rb : Nat) (ra : Option Addr) (rc : Nat) (b : List Int) (sb : Nat) (cs : Array Value) (W : World) (o : Option (List Int × List Int)) (r : Ending) (w' : World) : Prop :=
  match o with
  | some (us, q) => r = .returned (.tuple #[]) ∧ Rd W0 w' rb ra rc b q ∧ Foot [rb, sb] W w' ∧ ∃ uv, Blk w' sb 49 (cs.setIfInBounds 42 uv) ∧ UO w' W.heap.size uv us
  | none => r = .panicked CH ∧ Below W0.heap.size W0 w'
theorem set_same {cs : Array Value} {i : Nat} {v : Value} (h : cs[i]? = some v) : cs.setIfInBounds i v = cs := by
  apply Array.ext_getElem?
  intro j
  rw [Array.getElem?_setIfInBounds]
  split
  · rename_i e
    subst e
    have hlt := (Array.getElem?_eq_some_iff.1 h).1
    rw [if_pos hlt, h]
  · rfl
theorem or_u16 {s z : Nat} (hz : z < 256) (hs : s < 256) : bits BinOp.or IntKind.u16 ((s : Int) * 256) (z : Int) = ((s * 256 + z : Nat) : Int) := by
  have e : ((s : Int) * 256) = ((s * 256 : Nat) : Int) := by omega
  rw [e, u16_or_nat (s * 256) z (by omega) (by omega)]
  congr 1
  rw [show s * 256 = s <<< 8 from by rw [Nat.shiftLeft_eq], ← Nat.shiftLeft_add_eq_or_of_lt (by omega)]
theorem w_u16 {z : Int} (h : 0 ≤ z ∧ z ≤ 255) : IntKind.u16.wrap z = z := by simp only [IntKind.wrap, IntKind.bits, IntKind.signed]; simp; omega
theorem Rd.byt {W0 W : World} {rb rc : Nat} {ra : Option Addr} {b rest : List Int} (h : Rd W0 W rb ra rc b rest) : Bts rest := by
  obtain ⟨p, e⟩ := h.suf
  intro x hx
  exact h.bts x (by rw [e]; exact List.mem_append.2 (.inr hx))
theorem UO.keeps {W W' : World} {B : Nat} {uv : Value} {us : List Int} (h : UO W B uv us) (hk : Keeps W W') : UO W' B uv us := ⟨h.1, by
  rcases h.2 with h | ⟨g, cap', cur, e1, e2, e3, e4⟩
  · exact .inl h
  · exact .inr ⟨g, cap', cur, e1, e2, hk.2 _ _ _ _ e3 (by decide), e4⟩⟩
theorem foot_row {W W' : World} {row : Option Nat} (h : W.grownBy W' row) : Foot row.toList W W' := ⟨h.os, h.tape, h.output, h.size, fun i hi hn => h.block i hi (fun e => hn (by rw [← e]; simp))⟩
theorem foot_more {a w w' : World} {fs gs : List Nat} (h : Foot fs a w) (k : Foot gs w w') (hg : ∀ x ∈ gs, a.heap.size ≤ x) : Foot fs a w' :=
  ⟨k.os.trans h.os, k.tape.trans h.tape, k.output.trans h.output, Nat.le_trans h.size k.size, fun i hi hn => (k.block i (Nat.lt_of_lt_of_le hi h.size) (fun hm => absurd (hg i hm) (Nat.not_le_of_lt hi))).trans (h.block i hi hn)⟩
set_option maxRecDepth 100000 in
set_option maxHeartbeats 2000000 in
theorem units_take {W0 W : World} {rb rc sb : Nat} {ra : Option Addr} {b rest : List Int} {cs : Array Value} (h : Rd W0 W rb ra rc b rest) (hs : Blk W sb 49 cs) (hb : W0.heap.size ≤ sb) (hne : sb ≠ rb) (hx : cs[42]? = some (.slice none 0 0)) :
    Calls Try.prog 82 #[.pointer (some ⟨rb, 0, none⟩), .pointer (some ⟨sb, 0, none⟩)] W (TU W0 rb ra rc b sb cs W (decF 5 rest)) := by
  obtain ⟨i0, hi, hz0, hz1, hz2⟩ := info_parts info92
  have hc := count_ok h
  have HR := hide h
  have HS := hide hs
  have HNE := hide hne
  clear h hs hne
  cases e : rdC rest with
  | none =>
    have HE : Hid (decF 5 rest = none) := hide (by unfold decF; simp only [e])
    rw [e] at hc
    rw [HE.out]
    have HC := hide hc
    clear hc e
    go_enter Try.func82, Try.ntmps82
    go_wp2_with fail
    refine HC.out.mono ?_
    rintro r' w2 ⟨rfl, k2⟩
    have K2 := hide k2
    clear k2 HC
    go_wp2_with fail
    exact ⟨rfl, rfl, K2.out⟩
  | some p =>
    obtain ⟨n, r⟩ := p
    rw [e] at hc
    have HC := hide hc
    clear hc
    by_cases h0 : n = 0
    · have HE : Hid (decF 5 rest = none) := hide (by unfold decF; simp only [e]; exact if_pos h0)
      rw [HE.out]
      have d0 : (n != 0) = false := by simp [h0]
      clear e h0
      go_enter Try.func82, Try.ntmps82
      go_wp2_with fail
      refine HC.out.mono ?_
      rintro r' w2 ⟨rfl, R2, F2⟩
      go_wp2_with fail
      refine (must_false rb _).mono ?_
      rintro r' w3 ⟨rfl, k3⟩
      have R3 := hide (R2.below k3)
      clear k3
      go_wp2_with fail
      exact ⟨rfl, rfl, R3.out.bel⟩
    · have HE : Hid (decF 5 rest = rdU n.toNat r) := hide (by unfold decF; simp only [e]; exact if_neg h0)
      rw [HE.out]
      have d0 : (n != 0) = true := by simp [h0]
      obtain ⟨m, rfl, hmr⟩ : ∃ m : Nat, n = m ∧ m ≤ r.length := by
        unfold rdC at e
        cases e' : rdN rest with
        | none => rw [e'] at e; cases e
        | some p =>
          obtain ⟨n', r'⟩ := p
          rw [e'] at e
          dsimp only at e
          by_cases hh : 0 ≤ n' ∧ n' ≤ (r'.length : Int)
          · rw [if_pos hh] at e
            simp only [Option.some.injEq, Prod.mk.injEq] at e
            obtain ⟨rfl, rfl⟩ := e
            exact ⟨n'.toNat, by omega, by omega⟩
          · rw [if_neg hh] at e; cases e
      rw [Int.toNat_natCast]
      clear e h0 HE
      go_enter Try.func82, Try.ntmps82
      go_wp2_with fail
      refine HC.out.mono ?_
      rintro r' w2 ⟨rfl, R2, F2⟩
      go_wp2_with fail
      refine (must_true rb _).mono ?_
      rintro r' w3 ⟨rfl, k3⟩
      have B3 := hide ((HS.out.foot F2 (by simpa using HNE.out)).below k3 (by have := F2.size; exact Nat.lt_of_lt_of_le HS.out.lt this))
      have R3 := hide (R2.below k3)
      have F3 := hide ((F2.mono (gs := [rb, sb]) (by simp)).trans (Foot.of_below _ k3))
      have hml : m ≤ 10000000 := Nat.le_trans hmr (Nat.le_trans R3.out.le R3.out.len)
      clear k3 R2 F2 HC d0
      go_wp2_with fail
      go_loopw [5, 13] (fun s5 s13 wr => ∃ (i : Nat) (us q : List Int) (ua : Option Addr) (uc : Nat), i ≤ m ∧ s13 = .int .i64 i ∧ us.length = i ∧ Hid (rdU m r = (rdU (m - i) q).map fun p => (us ++ p.1, p.2)) ∧ Rd W0 wr rb ra rc b q ∧ Blk wr sb 49 (cs.setIfInBounds 42 (.slice ua i uc)) ∧ UO wr W.heap.size (.slice ua i uc) us ∧ Foot [rb, sb] W wr) (fun _ s13 _ => m - (intOf s13).toNat)
      case atStart =>
        refine ⟨0, [], r, none, 0, Nat.zero_le _, rfl, rfl, hide (by cases rdU (m - 0) r <;> rfl), R3.out, ?_, World.ownsRow_nil _ _ _ _, F3.out⟩
        rw [set_same hx]
        exact B3.out
      case round =>
        clear R3 B3 F3
        obtain ⟨i, us, q, ua, uc, him, rfl, hus, hrd, hR, hB, hO, hF⟩ := hrel
        have R := hide hR
        have HUS := hide hus
        clear hus
        have B := hide hB
        have O := hide hO
        have F := hide hF
        have hrb : rb < wr.heap.size := hR.blk.lt
        clear hR hB hO hF
        by_cases hlt : i < m
        · obtain ⟨j, hj⟩ : ∃ j, m - i = j + 1 := ⟨m - i - 1, by omega⟩
          rw [hj] at hrd
          have h1 := one_ok R.out
          cases q with
          | nil =>
            have HN : Hid (∀ w', Below W0.heap.size W0 w' → TU W0 rb ra rc b sb cs W (rdU m r) (.panicked CH) w') := hide (fun w' hb => by rw [hrd.out]; exact ⟨rfl, hb⟩)
            have H1 : Hid (Calls Try.prog 60 #[.pointer (some ⟨rb, 0, none⟩)] wr fun r' w' => r' = .panicked CH ∧ Below W0.heap.size W0 w') := hide (h1.mono fun _ _ h => h)
            clear h1
            go_wp2_with fail
            refine H1.out.mono ?_
            rintro r' w5 ⟨rfl, k5⟩
            have K5 := hide k5
            clear k5 H1
            go_wp2_with fail
            exact ⟨rfl, HN.out _ K5.out⟩
          | cons x q1 =>
            have H1 : Hid (Calls Try.prog 60 #[.pointer (some ⟨rb, 0, none⟩)] wr fun r' w' => r' = .returned (.int .u8 x) ∧ Rd W0 w' rb ra rc b q1 ∧ Foot [rb] wr w') := hide (h1.mono fun _ _ h => h)
            have hxb := R.out.byt x (by simp)
            obtain ⟨x', rfl⟩ := Int.eq_ofNat_of_zero_le hxb.1
            have hwx : IntKind.u16.wrap (x' : Int) = x' := w_u16 ⟨hxb.1, by have := hxb.2; omega⟩
            clear h1
            go_wp2_with fail
            refine H1.out.mono ?_
            rintro r' w5 ⟨rfl, R5, F5⟩
            have K5 := keeps_rb R.out F5
            have hsz5 : W.heap.size ≤ w5.heap.size := Nat.le_trans F.out.size F5.size
            have B5 := B.out.foot F5 (by simpa using HNE.out)
            have x5 : w5.drew.cell? ⟨sb, 42, none⟩ = some (.slice ua i uc) := at_cell B5 (by rw [Array.getElem?_setIfInBounds_self_of_lt (Array.getElem?_eq_some_iff.1 hx).1])
            have f5 := B5.frozen 42
            have O5 := hide (O.out.keeps K5)
            have FF5 := hide (F.out.trans (F5.mono (gs := [rb, sb]) (by simp)))
            have h2 := one_ok (R5.below (Below.refl _ _).drew)
            have R5 := hide R5
            have B5 := hide B5
            clear H1 K5 F5
            go_upto_region 5 with fail
            cases q1 with
            | nil =>
              have HN : Hid (∀ w', Below W0.heap.size W0 w' → TU W0 rb ra rc b sb cs W (rdU m r) (.panicked CH) w') := hide (fun w' hb => by rw [hrd.out]; exact ⟨rfl, hb⟩)
              have H2 : Hid (Calls Try.prog 60 #[.pointer (some ⟨rb, 0, none⟩)] w5.drew fun r' w' => r' = .panicked CH ∧ Below W0.heap.size W0 w') := hide (h2.mono fun _ _ h => h)
              clear h2
              refine Hold.begin_ 16 (by kernel_rfl) rfl (fun _ : World => True) ?_ trivial
              intro hS
              refine Hold.take (i := 0) (v := ?_) rfl (by kernel_rfl) (fun _ _ _ h => h) rfl ?_ hS ?_
              rotate_left
              · intro w' hS; go_simp; (try go_bits); (first | rfl | rw [if_pos (by omega)])
              simp only [Act.put, List.getElem_toArray, List.getElem_cons_zero, List.getElem_cons_succ, List.setIfInBounds_toArray, List.set_cons_zero, List.set_cons_succ]
              refine Hold.take (i := 1) (v := ?_) rfl (by kernel_rfl) (fun _ _ _ h => h) rfl ?_ hS ?_
              rotate_left
              · intro w' hS; go_simp; (try go_bits); (first | rfl | rw [if_pos (by omega)])
              simp only [Act.put, List.getElem_toArray, List.getElem_cons_zero, List.getElem_cons_succ, List.setIfInBounds_toArray, List.set_cons_zero, List.set_cons_succ]
              refine Hold.take (i := 2) (v := ?_) rfl (by kernel_rfl) (fun _ _ _ h => h) rfl ?_ hS ?_
              rotate_left
              · intro w' hS; go_simp; (try go_bits); (first | rfl | rw [if_pos (by omega)])
              simp only [Act.put, List.getElem_toArray, List.getElem_cons_zero, List.getElem_cons_succ, List.setIfInBounds_toArray, List.set_cons_zero, List.set_cons_succ]
              refine Hold.take (i := 3) (v := ?_) rfl (by kernel_rfl) (fun _ _ _ h => h) rfl ?_ hS ?_
              rotate_left
              · intro w' hS; go_simp; (try go_bits); (first | rfl | rw [if_pos (by omega)])
              simp only [Act.put, List.getElem_toArray, List.getElem_cons_zero, List.getElem_cons_succ, List.setIfInBounds_toArray, List.set_cons_zero, List.set_cons_succ]
              refine Hold.take (i := 5) (v := ?_) rfl (by kernel_rfl) (fun _ _ _ h => h) rfl ?_ hS ?_
              rotate_left
              · intro w' hS; go_simp; (try go_bits); (first | rfl | rw [if_pos (by omega)])
              simp only [Act.put, List.getElem_toArray, List.getElem_cons_zero, List.getElem_cons_succ, List.setIfInBounds_toArray, List.set_cons_zero, List.set_cons_succ]
              refine Hold.take (i := 6) (v := ?_) rfl (by kernel_rfl) (fun _ _ _ h => h) rfl ?_ hS ?_
              rotate_left
              · intro w' hS; go_simp; (try go_bits); (first | rfl | rw [if_pos (by omega)])
              simp only [Act.put, List.getElem_toArray, List.getElem_cons_zero, List.getElem_cons_succ, List.setIfInBounds_toArray, List.set_cons_zero, List.set_cons_succ]
              refine Hold.take (i := 7) (v := ?_) rfl (by kernel_rfl) (fun _ _ _ h => h) rfl ?_ hS ?_
              rotate_left
              · intro w' hS; go_simp; (try go_bits); (first | rfl | rw [if_pos (by omega)])
              simp only [Act.put, List.getElem_toArray, List.getElem_cons_zero, List.getElem_cons_succ, List.setIfInBounds_toArray, List.set_cons_zero, List.set_cons_succ]
              refine Hold.two (i := 4) (j := 8) (by kernel_rfl) ?_ ?_
              · refine Hold.run rfl rfl (by go_simp; exact ⟨rfl, rfl⟩) ?_
                refine ⟨trivial, ?_⟩
                simp only [Act.put, List.getElem_toArray, List.getElem_cons_zero, List.getElem_cons_succ, List.setIfInBounds_toArray, List.set_cons_zero, List.set_cons_succ]
                refine Hold.one (i := 8) (by kernel_rfl) ?_
                refine Hold.callX rfl rfl (by go_simp; exact ⟨rfl, rfl⟩) ?_
                refine H2.out.mono ?_
                rintro r' w7 ⟨rfl, k7⟩
                refine ⟨_, rfl, ?_⟩
                exact ⟨rfl, HN.out _ k7⟩
              · refine Hold.callX rfl rfl (by go_simp; exact ⟨rfl, rfl⟩) ?_
                refine H2.out.mono ?_
                rintro r' w7 ⟨rfl, k7⟩
                refine ⟨_, rfl, ?_⟩
                exact ⟨rfl, HN.out _ k7⟩
            | cons y q2 =>
              have H2 : Hid (Calls Try.prog 60 #[.pointer (some ⟨rb, 0, none⟩)] w5.drew fun r' w' => r' = .returned (.int .u8 y) ∧ Rd W0 w' rb ra rc b q2 ∧ Foot [rb] w5.drew w') := hide (h2.mono fun _ _ h => h)
              have hyb := R5.out.byt y (by simp)
              obtain ⟨y', rfl⟩ := Int.eq_ofNat_of_zero_le hyb.1
              have hxb' : x' < 256 := by have := hxb.2; omega
              have hyb' : y' < 256 := by have := hyb.2; omega
              have hwy : IntKind.u16.wrap (y' : Int) = y' := w_u16 ⟨hyb.1, by omega⟩
              have HO := hide (or_u16 hyb' hxb')
              have HRD : Hid (rdU m r = (rdU (m - (i + 1)) q2).map fun p => ((us ++ [(x' : Int) * 256 + (y' : Int)]) ++ p.1, p.2)) := hide (by
                rw [hrd.out, show m - (i + 1) = j from by omega, rdU]
                cases rdU j q2 with
                | none => rfl
                | some p => simp)
              clear h2 hxb hyb hrd
              refine Hold.begin_ 16 (by kernel_rfl) rfl (fun _ : World => True) ?_ trivial
              intro hS
              refine Hold.take (i := 0) (v := ?_) rfl (by kernel_rfl) (fun _ _ _ h => h) rfl ?_ hS ?_
              rotate_left
              · intro w' hS; go_simp; (try go_bits); (first | rfl | rw [if_pos (by omega)])
              simp only [Act.put, List.getElem_toArray, List.getElem_cons_zero, List.getElem_cons_succ, List.setIfInBounds_toArray, List.set_cons_zero, List.set_cons_succ]
              refine Hold.take (i := 1) (v := ?_) rfl (by kernel_rfl) (fun _ _ _ h => h) rfl ?_ hS ?_
              rotate_left
              · intro w' hS; go_simp; (try go_bits); (first | rfl | rw [if_pos (by omega)])
              simp only [Act.put, List.getElem_toArray, List.getElem_cons_zero, List.getElem_cons_succ, List.setIfInBounds_toArray, List.set_cons_zero, List.set_cons_succ]
              refine Hold.take (i := 2) (v := ?_) rfl (by kernel_rfl) (fun _ _ _ h => h) rfl ?_ hS ?_
              rotate_left
              · intro w' hS; go_simp; (try go_bits); (first | rfl | rw [if_pos (by omega)])
              simp only [Act.put, List.getElem_toArray, List.getElem_cons_zero, List.getElem_cons_succ, List.setIfInBounds_toArray, List.set_cons_zero, List.set_cons_succ]
              refine Hold.take (i := 3) (v := ?_) rfl (by kernel_rfl) (fun _ _ _ h => h) rfl ?_ hS ?_
              rotate_left
              · intro w' hS; go_simp; (try go_bits); (first | rfl | rw [if_pos (by omega)])
              simp only [Act.put, List.getElem_toArray, List.getElem_cons_zero, List.getElem_cons_succ, List.setIfInBounds_toArray, List.set_cons_zero, List.set_cons_succ]
              refine Hold.take (i := 5) (v := ?_) rfl (by kernel_rfl) (fun _ _ _ h => h) rfl ?_ hS ?_
              rotate_left
              · intro w' hS; go_simp; (try go_bits); (first | rfl | rw [if_pos (by omega)])
              simp only [Act.put, List.getElem_toArray, List.getElem_cons_zero, List.getElem_cons_succ, List.setIfInBounds_toArray, List.set_cons_zero, List.set_cons_succ]
              refine Hold.take (i := 6) (v := ?_) rfl (by kernel_rfl) (fun _ _ _ h => h) rfl ?_ hS ?_
              rotate_left
              · intro w' hS; go_simp; (try go_bits); (first | rfl | rw [if_pos (by omega)])
              simp only [Act.put, List.getElem_toArray, List.getElem_cons_zero, List.getElem_cons_succ, List.setIfInBounds_toArray, List.set_cons_zero, List.set_cons_succ]
              refine Hold.take (i := 7) (v := ?_) rfl (by kernel_rfl) (fun _ _ _ h => h) rfl ?_ hS ?_
              rotate_left
              · intro w' hS; go_simp; (try go_bits); (first | rfl | rw [if_pos (by omega)])
              simp only [Act.put, List.getElem_toArray, List.getElem_cons_zero, List.getElem_cons_succ, List.setIfInBounds_toArray, List.set_cons_zero, List.set_cons_succ]
              refine Hold.two (i := 4) (j := 8) (by kernel_rfl) ?_ ?_
              · refine Hold.run rfl rfl (by go_simp; exact ⟨rfl, rfl⟩) ?_
                refine ⟨trivial, ?_⟩
                simp only [Act.put, List.getElem_toArray, List.getElem_cons_zero, List.getElem_cons_succ, List.setIfInBounds_toArray, List.set_cons_zero, List.set_cons_succ]
                refine Hold.one (i := 8) (by kernel_rfl) ?_
                refine Hold.call rfl rfl (by go_simp; exact ⟨rfl, rfl⟩) ?_
                refine H2.out.mono ?_
                rintro r' w7 ⟨rfl, R7, F7⟩
                have K7 := keeps_rb (R5.out.below (Below.refl _ _).drew) F7
                have hsz7 : W.heap.size ≤ w7.heap.size := Nat.le_trans hsz5 F7.size
                have B7 := B5.out.drew.foot F7 (by simpa using HNE.out)
                have x7 : w7.cell? ⟨sb, 42, none⟩ = some (.slice ua i uc) := at_cell B7 (by rw [Array.getElem?_setIfInBounds_self_of_lt (Array.getElem?_eq_some_iff.1 hx).1])
                have f7 := B7.frozen 42
                have O7 := hide (UO.keeps (W := w5.drew) O5.out K7)
                have FF7 := hide (FF5.out.drew.trans (F7.mono (gs := [rb, sb]) (by simp)))
                have R7 := hide R7
                have B7 := hide B7
                clear H2 K7 F7
                refine ⟨_, rfl, trivial, ?_⟩
                simp only [Act.put, List.getElem_toArray, List.getElem_cons_zero, List.getElem_cons_succ, List.setIfInBounds_toArray, List.set_cons_zero, List.set_cons_succ]
                refine Hold.take (i := 9) (v := ?_) rfl (by kernel_rfl) (fun _ _ _ h => h) rfl ?_ hS ?_
                rotate_left
                · intro w' hS; go_simp; (try go_bits); (first | rfl | rw [if_pos (by omega)])
                simp only [Act.put, List.getElem_toArray, List.getElem_cons_zero, List.getElem_cons_succ, List.setIfInBounds_toArray, List.set_cons_zero, List.set_cons_succ]
                refine Hold.take (i := 10) (v := ?_) rfl (by kernel_rfl) (fun _ _ _ h => h) rfl ?_ hS ?_
                rotate_left
                · intro w' hS; go_simp; (try go_bits); (first | rfl | rw [if_pos (by omega)])
                simp only [Act.put, List.getElem_toArray, List.getElem_cons_zero, List.getElem_cons_succ, List.setIfInBounds_toArray, List.set_cons_zero, List.set_cons_succ]
                refine Hold.one (i := 11) (by kernel_rfl) ?_
                refine Hold.run (w' := w7.alloc (.cells #[.int .u16 (bits BinOp.or IntKind.u16 ((x' : Int) * 256) (y' : Int))] 92)) rfl rfl (by go_simp; first | rfl | exact ⟨rfl, rfl⟩) ?_
                refine ⟨trivial, ?_⟩
                simp only [Act.put, List.getElem_toArray, List.getElem_cons_zero, List.getElem_cons_succ, List.setIfInBounds_toArray, List.set_cons_zero, List.set_cons_succ]
                refine Hold.one (i := 12) (by kernel_rfl) ?_
                refine Hold.list1 rfl rfl ?_
                have b8 : Below w7.heap.size w7 (w7.alloc (.cells #[.int .u16 (bits BinOp.or IntKind.u16 ((x' : Int) * 256) (y' : Int))] 92)) := (Below.refl _ _).alloc (Nat.le_refl _) _
                have O8 : Hid ((w7.alloc (.cells #[.int .u16 (bits BinOp.or IntKind.u16 ((x' : Int) * 256) (y' : Int))] 92)).ownsRow W.heap.size 92 1 (.slice ua i uc) i (us.map (.int .u16))) := hide (by
                  have := own_below O7.out b8
                  rwa [HUS.out] at this)
                have N8 := hide (Blk.new w7 92 #[.int .u16 (bits BinOp.or IntKind.u16 ((x' : Int) * 256) (y' : Int))])
                have FF8 := hide (FF7.out.alloc (.cells #[.int .u16 (bits BinOp.or IntKind.u16 ((x' : Int) * 256) (y' : Int))] 92))
                have R8 := hide (R7.out.below b8)
                have B8 := hide (B7.out.below b8 B7.out.lt)
                refine wpList_append_lies _ rfl _ _ 47 rfl W.heap.size 92 i0 (.int .u16 0) 1 2 Try.underlying47 hi hz0 hz1 hz2 rfl (by decide) _ _ _ rfl O8.out ⟨w7.heap.size, 0, none⟩ 1 1 [.int .u16 (bits BinOp.or IntKind.u16 ((x' : Int) * 256) (y' : Int))] rfl rfl ?c1 ?c2 (by decide) ?c3 ?c4 ?c5 _ rfl ?_
                case c1 => exact N8.out.news
                case c2 => intro z hz; simp at hz; rcases hz with rfl; rfl
                case c3 => unfold maxLen; omega
                case c4 => omega
                case c5 => exact Nat.le_trans hsz7 b8.size
                intro g2 cap2 w9 hown hgrow hat hlt9
                have hge := own_ge O8.out
                have FG := foot_row hgrow
                have hg1 : ∀ x ∈ ((Value.slice ua i uc).ownBlock).toList, W.heap.size ≤ x := fun x hx => hge x (by simpa using hx)
                have R9 := hide (R8.out.foot FG (fun x hx => Nat.le_trans HR.out.bel.size (hg1 x hx)) (fun hm => absurd (hg1 _ hm) (Nat.not_le_of_lt HR.out.blk.lt)))
                have B9 := B8.out.foot FG (fun hm => absurd (hg1 _ hm) (Nat.not_le_of_lt HS.out.lt))
                have FF9 := hide (foot_more FF8.out FG hg1)
                have x9 : w9.cell? ⟨sb, 42, none⟩ = some (.slice ua i uc) := at_cell B9 (by rw [Array.getElem?_setIfInBounds_self_of_lt (Array.getElem?_eq_some_iff.1 hx).1])
                have f9 := B9.frozen 42
                show _ ∧ _
                refine ⟨trivial, ?_⟩
                simp only [Act.put, List.getElem_toArray, List.getElem_cons_zero, List.getElem_cons_succ, List.setIfInBounds_toArray, List.set_cons_zero, List.set_cons_succ]
                refine Hold.take (i := 13) (v := ?_) rfl (by kernel_rfl) (fun _ _ _ h => h) rfl ?_ hS ?_
                rotate_left
                · intro w' hS; go_simp; (try go_bits); (first | rfl | rw [if_pos (by omega)])
                simp only [Act.put, List.getElem_toArray, List.getElem_cons_zero, List.getElem_cons_succ, List.setIfInBounds_toArray, List.set_cons_zero, List.set_cons_succ]
                refine Hold.take (i := 14) (v := ?_) rfl (by kernel_rfl) (fun _ _ _ h => h) rfl ?_ hS ?_
                rotate_left
                · intro w' hS; go_simp; (try go_bits); (first | rfl | rw [if_pos (by omega)])
                simp only [Act.put, List.getElem_toArray, List.getElem_cons_zero, List.getElem_cons_succ, List.setIfInBounds_toArray, List.set_cons_zero, List.set_cons_succ]
                refine Hold.one (i := 15) (by kernel_rfl) ?_
                refine Hold.skip rfl rfl (by go_simp; exact rfl) ?_
                refine ⟨trivial, ?_⟩
                simp only [Act.put, List.getElem_toArray, List.getElem_cons_zero, List.getElem_cons_succ, List.setIfInBounds_toArray, List.set_cons_zero, List.set_cons_succ]
                refine Hold.done (by kernel_rfl) ?_
                have BA : Hid (Blk (w9.setCell ⟨sb, 42, none⟩ (.slice (some ⟨g2, 0, none⟩) (i + 1) cap2)) sb 49 (cs.setIfInBounds 42 (.slice (some ⟨g2, 0, none⟩) (i + 1) cap2))) := hide (by
                  have := B9.set_ 42 (.slice (some ⟨g2, 0, none⟩) (i + 1) cap2)
                  rwa [Array.setIfInBounds_setIfInBounds] at this)
                have FS : Foot [sb] w9 (w9.setCell ⟨sb, 42, none⟩ (.slice (some ⟨g2, 0, none⟩) (i + 1) cap2)) := (Foot.refl [sb] _).setCell (.inl (by simp)) _
                have RA := hide (R9.out.foot FS (by simpa using hb) (by simpa using Ne.symm HNE.out))
                have FA := hide (FF9.out.trans (FS.mono (gs := [rb, sb]) (by simp)))
                have OA : Hid (UO (w9.setCell ⟨sb, 42, none⟩ (.slice (some ⟨g2, 0, none⟩) (i + 1) cap2)) W.heap.size (.slice (some ⟨g2, 0, none⟩) (i + 1) cap2) (us ++ [(x' : Int) * 256 + (y' : Int)])) := hide (by
                  refine UO.keeps (W := w9) ?_ (Keeps.of_foot FS (fun k hk => by obtain rfl := List.mem_singleton.1 hk; exact ⟨_, _, B9, by decide⟩))
                  unfold UO
                  rw [List.length_append, HUS.out, List.map_append]
                  have e : bits BinOp.or IntKind.u16 ((x' : Int) * 256) (y' : Int) = (x' : Int) * 256 + (y' : Int) := by rw [HO.out]; omega
                  rw [e] at hown
                  exact hown)
                clear hown hgrow hat hlt9 b8 O8 N8 FF8 R8 B8 hge FG hg1 R9 B9 FF9 x9 f9 FS
                go_wp2_with fail
                go_roundw
                case rel => exact ⟨i + 1, _, q2, some ⟨g2, 0, none⟩, cap2, hlt, by go_num, by rw [List.length_append, HUS.out]; rfl, HRD, RA.out, BA.out, OA.out, FA.out⟩
                case measure => simp [intOf]; omega
              · refine Hold.call rfl rfl (by go_simp; exact ⟨rfl, rfl⟩) ?_
                refine H2.out.mono ?_
                rintro r' w7 ⟨rfl, R7, F7⟩
                have K7 := keeps_rb (R5.out.below (Below.refl _ _).drew) F7
                have hsz7 : W.heap.size ≤ w7.heap.size := Nat.le_trans hsz5 F7.size
                have B7 := B5.out.drew.foot F7 (by simpa using HNE.out)
                have x7 : w7.cell? ⟨sb, 42, none⟩ = some (.slice ua i uc) := at_cell B7 (by rw [Array.getElem?_setIfInBounds_self_of_lt (Array.getElem?_eq_some_iff.1 hx).1])
                have f7 := B7.frozen 42
                have O7 := hide (UO.keeps (W := w5.drew) O5.out K7)
                have FF7 := hide (FF5.out.drew.trans (F7.mono (gs := [rb, sb]) (by simp)))
                have R7 := hide R7
                have B7 := hide B7
                clear H2 K7 F7
                refine ⟨_, rfl, trivial, ?_⟩
                simp only [Act.put, List.getElem_toArray, List.getElem_cons_zero, List.getElem_cons_succ, List.setIfInBounds_toArray, List.set_cons_zero, List.set_cons_succ]
                refine Hold.take (i := 9) (v := ?_) rfl (by kernel_rfl) (fun _ _ _ h => h) rfl ?_ hS ?_
                rotate_left
                · intro w' hS; go_simp; (try go_bits); (first | rfl | rw [if_pos (by omega)])
                simp only [Act.put, List.getElem_toArray, List.getElem_cons_zero, List.getElem_cons_succ, List.setIfInBounds_toArray, List.set_cons_zero, List.set_cons_succ]
                refine Hold.take (i := 10) (v := ?_) rfl (by kernel_rfl) (fun _ _ _ h => h) rfl ?_ hS ?_
                rotate_left
                · intro w' hS; go_simp; (try go_bits); (first | rfl | rw [if_pos (by omega)])
                simp only [Act.put, List.getElem_toArray, List.getElem_cons_zero, List.getElem_cons_succ, List.setIfInBounds_toArray, List.set_cons_zero, List.set_cons_succ]
                refine Hold.two (i := 4) (j := 11) (by kernel_rfl) ?_ ?_
                · refine Hold.run rfl rfl (by go_simp; exact ⟨rfl, rfl⟩) ?_
                  refine ⟨trivial, ?_⟩
                  simp only [Act.put, List.getElem_toArray, List.getElem_cons_zero, List.getElem_cons_succ, List.setIfInBounds_toArray, List.set_cons_zero, List.set_cons_succ]
                  refine Hold.one (i := 11) (by kernel_rfl) ?_
                  refine Hold.run (w' := w7.alloc (.cells #[.int .u16 (bits BinOp.or IntKind.u16 ((x' : Int) * 256) (y' : Int))] 92)) rfl rfl (by go_simp; first | rfl | exact ⟨rfl, rfl⟩) ?_
                  refine ⟨trivial, ?_⟩
                  simp only [Act.put, List.getElem_toArray, List.getElem_cons_zero, List.getElem_cons_succ, List.setIfInBounds_toArray, List.set_cons_zero, List.set_cons_succ]
                  refine Hold.one (i := 12) (by kernel_rfl) ?_
                  refine Hold.list1 rfl rfl ?_
                  have b8 : Below w7.heap.size w7 (w7.alloc (.cells #[.int .u16 (bits BinOp.or IntKind.u16 ((x' : Int) * 256) (y' : Int))] 92)) := (Below.refl _ _).alloc (Nat.le_refl _) _
                  have O8 : Hid ((w7.alloc (.cells #[.int .u16 (bits BinOp.or IntKind.u16 ((x' : Int) * 256) (y' : Int))] 92)).ownsRow W.heap.size 92 1 (.slice ua i uc) i (us.map (.int .u16))) := hide (by
                    have := own_below O7.out b8
                    rwa [HUS.out] at this)
                  have N8 := hide (Blk.new w7 92 #[.int .u16 (bits BinOp.or IntKind.u16 ((x' : Int) * 256) (y' : Int))])
                  have FF8 := hide (FF7.out.alloc (.cells #[.int .u16 (bits BinOp.or IntKind.u16 ((x' : Int) * 256) (y' : Int))] 92))
                  have R8 := hide (R7.out.below b8)
                  have B8 := hide (B7.out.below b8 B7.out.lt)
                  refine wpList_append_lies _ rfl _ _ 47 rfl W.heap.size 92 i0 (.int .u16 0) 1 2 Try.underlying47 hi hz0 hz1 hz2 rfl (by decide) _ _ _ rfl O8.out ⟨w7.heap.size, 0, none⟩ 1 1 [.int .u16 (bits BinOp.or IntKind.u16 ((x' : Int) * 256) (y' : Int))] rfl rfl ?c1 ?c2 (by decide) ?c3 ?c4 ?c5 _ rfl ?_
                  case c1 => exact N8.out.news
                  case c2 => intro z hz; simp at hz; rcases hz with rfl; rfl
                  case c3 => unfold maxLen; omega
                  case c4 => omega
                  case c5 => exact Nat.le_trans hsz7 b8.size
                  intro g2 cap2 w9 hown hgrow hat hlt9
                  have hge := own_ge O8.out
                  have FG := foot_row hgrow
                  have hg1 : ∀ x ∈ ((Value.slice ua i uc).ownBlock).toList, W.heap.size ≤ x := fun x hx => hge x (by simpa using hx)
                  have R9 := hide (R8.out.foot FG (fun x hx => Nat.le_trans HR.out.bel.size (hg1 x hx)) (fun hm => absurd (hg1 _ hm) (Nat.not_le_of_lt HR.out.blk.lt)))
                  have B9 := B8.out.foot FG (fun hm => absurd (hg1 _ hm) (Nat.not_le_of_lt HS.out.lt))
                  have FF9 := hide (foot_more FF8.out FG hg1)
                  have x9 : w9.cell? ⟨sb, 42, none⟩ = some (.slice ua i uc) := at_cell B9 (by rw [Array.getElem?_setIfInBounds_self_of_lt (Array.getElem?_eq_some_iff.1 hx).1])
                  have f9 := B9.frozen 42
                  show _ ∧ _
                  refine ⟨trivial, ?_⟩
                  simp only [Act.put, List.getElem_toArray, List.getElem_cons_zero, List.getElem_cons_succ, List.setIfInBounds_toArray, List.set_cons_zero, List.set_cons_succ]
                  refine Hold.take (i := 13) (v := ?_) rfl (by kernel_rfl) (fun _ _ _ h => h) rfl ?_ hS ?_
                  rotate_left
                  · intro w' hS; go_simp; (try go_bits); (first | rfl | rw [if_pos (by omega)])
                  simp only [Act.put, List.getElem_toArray, List.getElem_cons_zero, List.getElem_cons_succ, List.setIfInBounds_toArray, List.set_cons_zero, List.set_cons_succ]
                  refine Hold.take (i := 14) (v := ?_) rfl (by kernel_rfl) (fun _ _ _ h => h) rfl ?_ hS ?_
                  rotate_left
                  · intro w' hS; go_simp; (try go_bits); (first | rfl | rw [if_pos (by omega)])
                  simp only [Act.put, List.getElem_toArray, List.getElem_cons_zero, List.getElem_cons_succ, List.setIfInBounds_toArray, List.set_cons_zero, List.set_cons_succ]
                  refine Hold.one (i := 15) (by kernel_rfl) ?_
                  refine Hold.skip rfl rfl (by go_simp; exact rfl) ?_
                  refine ⟨trivial, ?_⟩
                  simp only [Act.put, List.getElem_toArray, List.getElem_cons_zero, List.getElem_cons_succ, List.setIfInBounds_toArray, List.set_cons_zero, List.set_cons_succ]
                  refine Hold.done (by kernel_rfl) ?_
                  have BA : Hid (Blk (w9.setCell ⟨sb, 42, none⟩ (.slice (some ⟨g2, 0, none⟩) (i + 1) cap2)) sb 49 (cs.setIfInBounds 42 (.slice (some ⟨g2, 0, none⟩) (i + 1) cap2))) := hide (by
                    have := B9.set_ 42 (.slice (some ⟨g2, 0, none⟩) (i + 1) cap2)
                    rwa [Array.setIfInBounds_setIfInBounds] at this)
                  have FS : Foot [sb] w9 (w9.setCell ⟨sb, 42, none⟩ (.slice (some ⟨g2, 0, none⟩) (i + 1) cap2)) := (Foot.refl [sb] _).setCell (.inl (by simp)) _
                  have RA := hide (R9.out.foot FS (by simpa using hb) (by simpa using Ne.symm HNE.out))
                  have FA := hide (FF9.out.trans (FS.mono (gs := [rb, sb]) (by simp)))
                  have OA : Hid (UO (w9.setCell ⟨sb, 42, none⟩ (.slice (some ⟨g2, 0, none⟩) (i + 1) cap2)) W.heap.size (.slice (some ⟨g2, 0, none⟩) (i + 1) cap2) (us ++ [(x' : Int) * 256 + (y' : Int)])) := hide (by
                    refine UO.keeps (W := w9) ?_ (Keeps.of_foot FS (fun k hk => by obtain rfl := List.mem_singleton.1 hk; exact ⟨_, _, B9, by decide⟩))
                    unfold UO
                    rw [List.length_append, HUS.out, List.map_append]
                    have e : bits BinOp.or IntKind.u16 ((x' : Int) * 256) (y' : Int) = (x' : Int) * 256 + (y' : Int) := by rw [HO.out]; omega
                    rw [e] at hown
                    exact hown)
                  clear hown hgrow hat hlt9 b8 O8 N8 FF8 R8 B8 hge FG hg1 R9 B9 FF9 x9 f9 FS
                  go_wp2_with fail
                  go_roundw
                  case rel => exact ⟨i + 1, _, q2, some ⟨g2, 0, none⟩, cap2, hlt, by go_num, by rw [List.length_append, HUS.out]; rfl, HRD, RA.out, BA.out, OA.out, FA.out⟩
                  case measure => simp [intOf]; omega
                · refine Hold.run (w' := w7.alloc (.cells #[.int .u16 (bits BinOp.or IntKind.u16 ((x' : Int) * 256) (y' : Int))] 92)) rfl rfl (by go_simp; first | rfl | exact ⟨rfl, rfl⟩) ?_
                  refine ⟨trivial, ?_⟩
                  simp only [Act.put, List.getElem_toArray, List.getElem_cons_zero, List.getElem_cons_succ, List.setIfInBounds_toArray, List.set_cons_zero, List.set_cons_succ]
                  refine Hold.one (i := 4) (by kernel_rfl) ?_
                  have x8 : (w7.alloc (.cells #[.int .u16 (bits BinOp.or IntKind.u16 ((x' : Int) * 256) (y' : Int))] 92)).cell? ⟨sb, 42, none⟩ = some (.slice ua i uc) := (((Below.refl _ _).alloc (Nat.le_refl _) _).cell (p := ⟨sb, 42, none⟩) B7.out.lt).trans x7
                  refine Hold.run rfl rfl (by go_simp; exact ⟨rfl, rfl⟩) ?_
                  refine ⟨trivial, ?_⟩
                  simp only [Act.put, List.getElem_toArray, List.getElem_cons_zero, List.getElem_cons_succ, List.setIfInBounds_toArray, List.set_cons_zero, List.set_cons_succ]
                  refine Hold.one (i := 12) (by kernel_rfl) ?_
                  refine Hold.list1 rfl rfl ?_
                  have b8 : Below w7.heap.size w7 (w7.alloc (.cells #[.int .u16 (bits BinOp.or IntKind.u16 ((x' : Int) * 256) (y' : Int))] 92)) := (Below.refl _ _).alloc (Nat.le_refl _) _
                  have O8 : Hid ((w7.alloc (.cells #[.int .u16 (bits BinOp.or IntKind.u16 ((x' : Int) * 256) (y' : Int))] 92)).ownsRow W.heap.size 92 1 (.slice ua i uc) i (us.map (.int .u16))) := hide (by
                    have := own_below O7.out b8
                    rwa [HUS.out] at this)
                  have N8 := hide (Blk.new w7 92 #[.int .u16 (bits BinOp.or IntKind.u16 ((x' : Int) * 256) (y' : Int))])
                  have FF8 := hide (FF7.out.alloc (.cells #[.int .u16 (bits BinOp.or IntKind.u16 ((x' : Int) * 256) (y' : Int))] 92))
                  have R8 := hide (R7.out.below b8)
                  have B8 := hide (B7.out.below b8 B7.out.lt)
                  refine wpList_append_lies _ rfl _ _ 47 rfl W.heap.size 92 i0 (.int .u16 0) 1 2 Try.underlying47 hi hz0 hz1 hz2 rfl (by decide) _ _ _ rfl O8.out ⟨w7.heap.size, 0, none⟩ 1 1 [.int .u16 (bits BinOp.or IntKind.u16 ((x' : Int) * 256) (y' : Int))] rfl rfl ?c1 ?c2 (by decide) ?c3 ?c4 ?c5 _ rfl ?_
                  case c1 => exact N8.out.news
                  case c2 => intro z hz; simp at hz; rcases hz with rfl; rfl
                  case c3 => unfold maxLen; omega
                  case c4 => omega
                  case c5 => exact Nat.le_trans hsz7 b8.size
                  intro g2 cap2 w9 hown hgrow hat hlt9
                  have hge := own_ge O8.out
                  have FG := foot_row hgrow
                  have hg1 : ∀ x ∈ ((Value.slice ua i uc).ownBlock).toList, W.heap.size ≤ x := fun x hx => hge x (by simpa using hx)
                  have R9 := hide (R8.out.foot FG (fun x hx => Nat.le_trans HR.out.bel.size (hg1 x hx)) (fun hm => absurd (hg1 _ hm) (Nat.not_le_of_lt HR.out.blk.lt)))
                  have B9 := B8.out.foot FG (fun hm => absurd (hg1 _ hm) (Nat.not_le_of_lt HS.out.lt))
                  have FF9 := hide (foot_more FF8.out FG hg1)
                  have x9 : w9.cell? ⟨sb, 42, none⟩ = some (.slice ua i uc) := at_cell B9 (by rw [Array.getElem?_setIfInBounds_self_of_lt (Array.getElem?_eq_some_iff.1 hx).1])
                  have f9 := B9.frozen 42
                  show _ ∧ _
                  refine ⟨trivial, ?_⟩
                  simp only [Act.put, List.getElem_toArray, List.getElem_cons_zero, List.getElem_cons_succ, List.setIfInBounds_toArray, List.set_cons_zero, List.set_cons_succ]
                  refine Hold.take (i := 13) (v := ?_) rfl (by kernel_rfl) (fun _ _ _ h => h) rfl ?_ hS ?_
                  rotate_left
                  · intro w' hS; go_simp; (try go_bits); (first | rfl | rw [if_pos (by omega)])
                  simp only [Act.put, List.getElem_toArray, List.getElem_cons_zero, List.getElem_cons_succ, List.setIfInBounds_toArray, List.set_cons_zero, List.set_cons_succ]
                  refine Hold.take (i := 14) (v := ?_) rfl (by kernel_rfl) (fun _ _ _ h => h) rfl ?_ hS ?_
                  rotate_left
                  · intro w' hS; go_simp; (try go_bits); (first | rfl | rw [if_pos (by omega)])
                  simp only [Act.put, List.getElem_toArray, List.getElem_cons_zero, List.getElem_cons_succ, List.setIfInBounds_toArray, List.set_cons_zero, List.set_cons_succ]
                  refine Hold.one (i := 15) (by kernel_rfl) ?_
                  refine Hold.skip rfl rfl (by go_simp; exact rfl) ?_
                  refine ⟨trivial, ?_⟩
                  simp only [Act.put, List.getElem_toArray, List.getElem_cons_zero, List.getElem_cons_succ, List.setIfInBounds_toArray, List.set_cons_zero, List.set_cons_succ]
                  refine Hold.done (by kernel_rfl) ?_
                  have BA : Hid (Blk (w9.setCell ⟨sb, 42, none⟩ (.slice (some ⟨g2, 0, none⟩) (i + 1) cap2)) sb 49 (cs.setIfInBounds 42 (.slice (some ⟨g2, 0, none⟩) (i + 1) cap2))) := hide (by
                    have := B9.set_ 42 (.slice (some ⟨g2, 0, none⟩) (i + 1) cap2)
                    rwa [Array.setIfInBounds_setIfInBounds] at this)
                  have FS : Foot [sb] w9 (w9.setCell ⟨sb, 42, none⟩ (.slice (some ⟨g2, 0, none⟩) (i + 1) cap2)) := (Foot.refl [sb] _).setCell (.inl (by simp)) _
                  have RA := hide (R9.out.foot FS (by simpa using hb) (by simpa using Ne.symm HNE.out))
                  have FA := hide (FF9.out.trans (FS.mono (gs := [rb, sb]) (by simp)))
                  have OA : Hid (UO (w9.setCell ⟨sb, 42, none⟩ (.slice (some ⟨g2, 0, none⟩) (i + 1) cap2)) W.heap.size (.slice (some ⟨g2, 0, none⟩) (i + 1) cap2) (us ++ [(x' : Int) * 256 + (y' : Int)])) := hide (by
                    refine UO.keeps (W := w9) ?_ (Keeps.of_foot FS (fun k hk => by obtain rfl := List.mem_singleton.1 hk; exact ⟨_, _, B9, by decide⟩))
                    unfold UO
                    rw [List.length_append, HUS.out, List.map_append]
                    have e : bits BinOp.or IntKind.u16 ((x' : Int) * 256) (y' : Int) = (x' : Int) * 256 + (y' : Int) := by rw [HO.out]; omega
                    rw [e] at hown
                    exact hown)
                  clear hown hgrow hat hlt9 b8 O8 N8 FF8 R8 B8 hge FG hg1 R9 B9 FF9 x9 f9 FS
                  go_wp2_with fail
                  go_roundw
                  case rel => exact ⟨i + 1, _, q2, some ⟨g2, 0, none⟩, cap2, hlt, by go_num, by rw [List.length_append, HUS.out]; rfl, HRD, RA.out, BA.out, OA.out, FA.out⟩
                  case measure => simp [intOf]; omega
        · obtain rfl : i = m := by omega
          have HN : Hid (TU W0 rb ra rc b sb cs W (rdU i r) (.returned (.tuple #[])) wr) := hide (by
            rw [hrd.out, Nat.sub_self, rdU]
            exact ⟨rfl, by simpa using R.out, F.out, _, B.out, by simpa using O.out⟩)
          clear hrd HUS
          go_wp2_with fail
          go_end0
          exact HN.out
end Go.Proofs.Ytmngndmcidbakaa
