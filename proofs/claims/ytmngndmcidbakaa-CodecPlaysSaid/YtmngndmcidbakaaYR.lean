/- Walks: whole, small, count, one. -/
import Derived.Test.YtmngndmcidbakaaYQ
namespace Go.Proofs.Ytmngndmcidbakaa
open Go.RowKit
theorem Rd.le {W0 W : World} {rb rc : Nat} {ra : Option Addr} {b rest : List Int} (h : Rd W0 W rb ra rc b rest) : rest.length ≤ b.length := by
  obtain ⟨p, e⟩ := h.suf
  rw [e, List.length_append]; omega
theorem whole_ok {W0 W : World} {rb rc : Nat} {ra : Option Addr} {b rest : List Int} (h : Rd W0 W rb ra rc b rest) : Calls Try.prog 27 #[.pointer (some ⟨rb, 0, none⟩)] W (RP W0 rb ra rc b W (rdN rest) (Value.int .i64)) := by
  have hc := number_ok h
  clear h
  cases e : rdN rest with
  | none =>
    rw [e] at hc
    have HC := hide hc
    clear hc e
    go_enter Try.func27, Try.ntmps27
    go_wp2_with fail
    refine HC.out.mono ?_
    rintro r' w2 ⟨rfl, k2⟩
    have K2 := hide k2
    clear k2 HC
    go_wp2_with fail
    exact ⟨rfl, rfl, K2.out⟩
  | some q =>
    obtain ⟨n, r⟩ := q
    rw [e] at hc
    have HC := hide hc
    clear hc e
    go_enter Try.func27, Try.ntmps27
    go_wp2_with fail
    refine HC.out.mono ?_
    rintro r' w2 ⟨rfl, R2, F2⟩
    have R2 := hide R2
    have F2 := hide F2
    go_wp2_with fail
    refine (must_true rb _).mono ?_
    rintro r' w3 ⟨rfl, k3⟩
    have R3 := hide (R2.out.below k3)
    have F3 := hide (F2.out.trans (Foot.of_below _ k3))
    clear k3
    go_wp2_with fail
    go_returns
    exact ⟨rfl, R3.out, F3.out⟩
theorem small_ok {W0 W : World} {rb rc : Nat} {ra : Option Addr} {b rest : List Int} (h : Rd W0 W rb ra rc b rest) : Calls Try.prog 70 #[.pointer (some ⟨rb, 0, none⟩)] W (RP W0 rb ra rc b W (rdSm rest) (Value.int .u8)) := by
  have hc := number_ok h
  clear h
  cases e : rdN rest with
  | none =>
    have HE : Hid (rdSm rest = none) := hide (by unfold rdSm; rw [e])
    rw [e] at hc
    rw [HE.out]
    have HC := hide hc
    clear hc e
    go_enter Try.func70, Try.ntmps70
    go_wp2_with fail
    refine HC.out.mono ?_
    rintro r' w2 ⟨rfl, k2⟩
    have K2 := hide k2
    clear k2 HC
    go_wp2_with fail
    exact ⟨rfl, rfl, K2.out⟩
  | some q =>
    obtain ⟨n, r⟩ := q
    by_cases hn : 0 ≤ n ∧ n ≤ 255
    · have HE : Hid (rdSm rest = some (n, r)) := hide (by unfold rdSm; rw [e]; exact if_pos hn)
      rw [e] at hc
      rw [HE.out]
      have HC := hide hc
      have hw : IntKind.u8.wrap n = n := by simp only [IntKind.wrap, IntKind.bits, IntKind.signed]; simp; omega
      have d0 : decide (0 ≤ n) = true := decide_eq_true hn.1
      have d1 : decide (n ≤ 255) = true := decide_eq_true hn.2
      clear hc e
      go_enter Try.func70, Try.ntmps70
      go_wp2_with fail
      refine HC.out.mono ?_
      rintro r' w2 ⟨rfl, R2, F2⟩
      have R2 := hide R2
      have F2 := hide F2
      go_wp2_with fail
      refine (must_true rb _).mono ?_
      rintro r' w3 ⟨rfl, k3⟩
      have R3 := hide (R2.out.below k3)
      have F3 := hide (F2.out.trans (Foot.of_below _ k3))
      clear k3
      go_wp2_with fail
      go_returns
      exact ⟨rfl, R3.out, F3.out⟩
    · have HE : Hid (rdSm rest = none) := hide (by unfold rdSm; rw [e]; exact if_neg hn)
      rw [e] at hc
      rw [HE.out]
      have HC := hide hc
      clear hc e
      by_cases h0 : 0 ≤ n
      · have d0 : decide (0 ≤ n) = true := decide_eq_true h0
        have d1 : decide (n ≤ 255) = false := decide_eq_false (fun h => hn ⟨h0, h⟩)
        clear hn h0
        go_enter Try.func70, Try.ntmps70
        go_wp2_with fail
        refine HC.out.mono ?_
        rintro r' w2 ⟨rfl, R2, F2⟩
        have R2 := hide R2
        have F2 := hide F2
        go_wp2_with fail
        refine (must_false rb _).mono ?_
        rintro r' w3 ⟨rfl, k3⟩
        have R3 := hide (R2.out.below k3)
        clear k3
        go_wp2_with fail
        exact ⟨rfl, rfl, R3.out.bel⟩
      · have d0 : decide (0 ≤ n) = false := decide_eq_false h0
        clear hn h0
        go_enter Try.func70, Try.ntmps70
        go_wp2_with fail
        refine HC.out.mono ?_
        rintro r' w2 ⟨rfl, R2, F2⟩
        have R2 := hide R2
        have F2 := hide F2
        go_wp2_with fail
        refine (must_false rb _).mono ?_
        rintro r' w3 ⟨rfl, k3⟩
        have R3 := hide (R2.out.below k3)
        clear k3
        go_wp2_with fail
        exact ⟨rfl, rfl, R3.out.bel⟩
theorem count_ok {W0 W : World} {rb rc : Nat} {ra : Option Addr} {b rest : List Int} (h : Rd W0 W rb ra rc b rest) : Calls Try.prog 26 #[.pointer (some ⟨rb, 0, none⟩)] W (RP W0 rb ra rc b W (rdC rest) (Value.int .i64)) := by
  have hc := number_ok h
  clear h
  cases e : rdN rest with
  | none =>
    have HE : Hid (rdC rest = none) := hide (by unfold rdC; rw [e])
    rw [e] at hc
    rw [HE.out]
    have HC := hide hc
    clear hc e
    go_enter Try.func26, Try.ntmps26
    go_wp2_with fail
    refine HC.out.mono ?_
    rintro r' w2 ⟨rfl, k2⟩
    have K2 := hide k2
    clear k2 HC
    go_wp2_with fail
    exact ⟨rfl, rfl, K2.out⟩
  | some q =>
    obtain ⟨n, r⟩ := q
    by_cases hn : 0 ≤ n ∧ n ≤ (r.length : Int)
    · have HE : Hid (rdC rest = some (n, r)) := hide (by unfold rdC; rw [e]; exact if_pos hn)
      rw [e] at hc
      rw [HE.out]
      have HC := hide hc
      have d0 : decide (0 ≤ n) = true := decide_eq_true hn.1
      clear hc e
      go_enter Try.func26, Try.ntmps26
      go_wp2_with fail
      refine HC.out.mono ?_
      rintro r' w2 ⟨rfl, R2, F2⟩
      have R2 := hide R2
      have F2 := hide F2
      have hle := R2.out.le
      have x0 := R2.out.blk.cell 0
      have x1 := R2.out.blk.cell 1
      simp only [List.getElem?_toArray, List.getElem?_cons_zero, List.getElem?_cons_succ] at x0 x1
      obtain ⟨m, hm⟩ : ∃ m, m = b.length - r.length := ⟨_, rfl⟩
      rw [← hm] at x1
      have hlen := R2.out.len
      have hml : m ≤ b.length := by omega
      go_upto_region 2 with fail
      have C0 := keepd x0
      have C1 := keepd x1
      have d1 : decide (n ≤ (b.length : Int) - (m : Int)) = true := decide_eq_true (by omega)
      clear hn hm hle
      refine Reg.region (by kernel_rfl) 17 [] (fun _ w' => w' = w2.drew) (by kernel_rfl) (by kernel_rfl) rfl ?_
      iterate 17
        first
          | refine Reg.WT.idle rfl rfl ?_
          | (refine Reg.WT.yield (v := ?_) rfl rfl ?_ ?_
             rotate_left
             · intro w' _ hS; go_simp; (try go_bits); (first | rfl | rw [if_pos (by omega)]))
        simp only [Act.put, List.setIfInBounds_toArray, List.set_cons_zero, List.set_cons_succ]
      intro w4 hS
      subst hS
      clear C0 C1 d1 d0
      go_wp2_with fail
      have R2 := hide (R2.out.below (Below.refl _ _).drew)
      have F2 := hide (F2.out.drew)
      refine (must_true rb _).mono ?_
      rintro r' w3 ⟨rfl, k3⟩
      have R3 := hide (R2.out.below k3)
      have F3 := hide (F2.out.trans (Foot.of_below _ k3))
      clear k3
      go_wp2_with fail
      go_returns
      exact ⟨rfl, R3.out, F3.out⟩
    · have HE : Hid (rdC rest = none) := hide (by unfold rdC; rw [e]; exact if_neg hn)
      rw [e] at hc
      rw [HE.out]
      have HC := hide hc
      clear hc e
      by_cases h0 : 0 ≤ n
      · have d0 : decide (0 ≤ n) = true := decide_eq_true h0
        go_enter Try.func26, Try.ntmps26
        go_wp2_with fail
        refine HC.out.mono ?_
        rintro r' w2 ⟨rfl, R2, F2⟩
        have R2 := hide R2
        have F2 := hide F2
        have hle := R2.out.le
        have x0 := R2.out.blk.cell 0
        have x1 := R2.out.blk.cell 1
        simp only [List.getElem?_toArray, List.getElem?_cons_zero, List.getElem?_cons_succ] at x0 x1
        obtain ⟨m, hm⟩ : ∃ m, m = b.length - r.length := ⟨_, rfl⟩
        rw [← hm] at x1
        have hlen := R2.out.len
        have hml : m ≤ b.length := by omega
        go_upto_region 2 with fail
        have C0 := keepd x0
        have C1 := keepd x1
        have d1 : decide (n ≤ (b.length : Int) - (m : Int)) = false := decide_eq_false (by omega)
        clear hn h0 hm hle
        refine Reg.region (by kernel_rfl) 17 [] (fun _ w' => w' = w2.drew) (by kernel_rfl) (by kernel_rfl) rfl ?_
        iterate 17
          first
            | refine Reg.WT.idle rfl rfl ?_
            | (refine Reg.WT.yield (v := ?_) rfl rfl ?_ ?_
               rotate_left
               · intro w' _ hS; go_simp; (try go_bits); (first | rfl | rw [if_pos (by omega)]))
          simp only [Act.put, List.setIfInBounds_toArray, List.set_cons_zero, List.set_cons_succ]
        intro w4 hS
        subst hS
        clear C0 C1 d1 d0
        go_wp2_with fail
        have R2 := hide (R2.out.below (Below.refl _ _).drew)
        refine (must_false rb _).mono ?_
        rintro r' w3 ⟨rfl, k3⟩
        have R3 := hide (R2.out.below k3)
        clear k3
        go_wp2_with fail
        exact ⟨rfl, rfl, R3.out.bel⟩
      · have d0 : decide (0 ≤ n) = false := decide_eq_false h0
        clear hn h0
        go_enter Try.func26, Try.ntmps26
        go_wp2_with fail
        refine HC.out.mono ?_
        rintro r' w2 ⟨rfl, R2, F2⟩
        have R2 := hide R2
        have F2 := hide F2
        have hle := R2.out.le
        have x0 := R2.out.blk.cell 0
        have x1 := R2.out.blk.cell 1
        simp only [List.getElem?_toArray, List.getElem?_cons_zero, List.getElem?_cons_succ] at x0 x1
        obtain ⟨m, hm⟩ : ∃ m, m = b.length - r.length := ⟨_, rfl⟩
        rw [← hm] at x1
        have hlen := R2.out.len
        have hml : m ≤ b.length := by omega
        go_upto_region 2 with fail
        have C0 := keepd x0
        have C1 := keepd x1
        clear hm hle
        refine Reg.region (by kernel_rfl) 17 [] (fun _ w' => w' = w2.drew) (by kernel_rfl) (by kernel_rfl) rfl ?_
        iterate 17
          first
            | refine Reg.WT.idle rfl rfl ?_
            | (refine Reg.WT.yield (v := ?_) rfl rfl ?_ ?_
               rotate_left
               · intro w' _ hS; go_simp; (try go_bits); (first | rfl | rw [if_pos (by omega)]))
          simp only [Act.put, List.setIfInBounds_toArray, List.set_cons_zero, List.set_cons_succ]
        intro w4 hS
        subst hS
        clear C0 C1 d0
        go_wp2_with fail
        have R2 := hide (R2.out.below (Below.refl _ _).drew)
        refine (must_false rb _).mono ?_
        rintro r' w3 ⟨rfl, k3⟩
        have R3 := hide (R2.out.below k3)
        clear k3
        go_wp2_with fail
        exact ⟨rfl, rfl, R3.out.bel⟩
end Go.Proofs.Ytmngndmcidbakaa
