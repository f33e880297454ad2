/- Before as a plain relation; the walk of ClockOrder. -/
import Derived.Test.YtffpphnjokmffaaEK
import Derived.Test.YtffpphnjokmffaaOpens
namespace Go.Proofs.Ytffpphnjokmffaa
open Go.RowKit Go.Maps
def bef (e : Nat → Ev) (i j : Nat) : Bool := decide (i < j ∧ stamp e i (e i).w ≤ stamp e j (e i).w)
theorem bef_hb {e : Nat → Ev} {i j : Nat} : bef e i j = true ↔ Hb e i j := by
  unfold bef
  rw [decide_eq_true_eq]
  exact ⟨fun ⟨h1, h2⟩ => (before_iff h1).2 h2, fun h => ⟨hb_lt h, (before_iff (hb_lt h)).1 h⟩⟩
theorem before_nat (a : Option Addr) (l : List Ev) (c : Nat) (A : Option Addr) (d n : Nat) (i j : Nat) (w : World) (hr : ERow w a l) (hok : ∀ x ∈ l, EvOk n x) (hT : TRow w A (gl l) n l.length) (hj : j < l.length) (hL : l.length ≤ 65536) (hn : n ≤ 65) :
    Calls Try.prog 17 #[.slice a l.length c, .slice A l.length d, .int .i64 i, .int .i64 j] w (BPost (bef (gl l) i j) w) := by
  by_cases hij : i < j
  · rw [show bef (gl l) i j = decide (stamp (gl l) i (gl l i).w ≤ stamp (gl l) j (gl l i).w) from by unfold bef; simp [hij]]
    exact before_in a l c A d n i j w hr hok hT hij hj hL hn
  · rw [show bef (gl l) i j = false from by unfold bef; simp [hij]]
    exact before_out a l.length c A d i j w (by omega) hL
set_option maxRecDepth 100000 in
set_option maxHeartbeats 4000000 in
theorem walkP_ClockOrder (x i j k : Int) (a : Option Addr) (l : List Ev) (c : Nat) (w : World) (hx : 0 ≤ x ∧ x ≤ 255) (hi : 0 ≤ i ∧ i ≤ 255) (hj : 0 ≤ j ∧ j ≤ 255) (hk : 0 ≤ k ∧ k ≤ 255) (hr : ERow w a l) (hl : ∀ e ∈ l, EvIn e) (hc1 : l.length ≤ c) (hc2 : c ≤ maxLen) :
    Calls Try.prog 6 #[.int .u8 x, .slice a l.length c, .int .u8 i, .int .u8 j, .int .u8 k] w (BPost true w) := by
  have hlen := hr.len
  have HL := hide hl
  have HR := hide hr
  clear hl hr
  go_enter Try.func6, Try.ntmps6
  obtain ⟨n, hn⟩ : ∃ n : Nat, 1 + x % 8 = (n : Int) := ⟨(1 + x % 8).toNat, by omega⟩
  by_cases hlong : 400 < l.length
  · have b1 : decide (400 < (l.length : Int)) = true := by simp; omega
    go_wp2_with fail
    refine (works_any _).mono ?_
    rintro r w9 ⟨rfl, k9⟩
    have t9 := hide (below_call (w := w) (Below.refl _ _) k9)
    clear k9
    go_wp2_with fail
    go_returns
    exact ⟨rfl, t9.out⟩
  have b1 : decide (400 < (l.length : Int)) = false := by simp; omega
  by_cases hM : LogOk n l
  · have HM := hide hM
    have HCC : Hid (∀ y ∈ l, y.c ≤ 9223372036854775807) := hide (fun y hy => (HL.out y hy).c.2)
    have hn1 := hM.nb
    clear hM
    go_wp2_with fail
    refine (may_yes a l c n _ HR.out HM.out).mono ?_
    rintro r w1 ⟨rfl, k1⟩
    have t1 := hide k1
    clear k1
    by_cases h0 : l.length = 0
    · have b0 : ((l.length : Int) == 0) = true := by rw [beq_iff_eq]; omega
      go_wp2_with fail
      refine (works_any _).mono ?_
      rintro r w9 ⟨rfl, k9⟩
      have t9 := hide (below_call (w := w) t1.out k9)
      clear k9
      go_wp2_with fail
      go_returns
      exact ⟨rfl, t9.out⟩
    have b0 : ((l.length : Int) == 0) = false := by rw [beq_eq_false_iff_ne]; omega
    obtain ⟨A, hA⟩ : ∃ A : Nat, Int.tmod i l.length = (A : Int) := ⟨(Int.tmod i l.length).toNat, by rw [Int.tmod_eq_emod_of_nonneg hi.1]; have := Int.emod_nonneg i (b := (l.length : Int)) (by omega); omega⟩
    obtain ⟨B, hB⟩ : ∃ B : Nat, Int.tmod j l.length = (B : Int) := ⟨(Int.tmod j l.length).toNat, by rw [Int.tmod_eq_emod_of_nonneg hj.1]; have := Int.emod_nonneg j (b := (l.length : Int)) (by omega); omega⟩
    obtain ⟨C, hC⟩ : ∃ C : Nat, Int.tmod k l.length = (C : Int) := ⟨(Int.tmod k l.length).toNat, by rw [Int.tmod_eq_emod_of_nonneg hk.1]; have := Int.emod_nonneg k (b := (l.length : Int)) (by omega); omega⟩
    have hAl : A < l.length := by rw [Int.tmod_eq_emod_of_nonneg hi.1] at hA; have := Int.emod_lt_of_pos i (b := (l.length : Int)) (by omega); omega
    have hBl : B < l.length := by rw [Int.tmod_eq_emod_of_nonneg hj.1] at hB; have := Int.emod_lt_of_pos j (b := (l.length : Int)) (by omega); omega
    have hCl : C < l.length := by rw [Int.tmod_eq_emod_of_nonneg hk.1] at hC; have := Int.emod_lt_of_pos k (b := (l.length : Int)) (by omega); omega
    go_wp2_with fail
    refine (stamps_yes a l c n _ (HR.out.below t1.out) HM.out HCC.out).mono ?_
    rintro r w2 ⟨g, e2, rfl, hT, k2⟩
    have T2 := hide hT
    have t2 := hide (below_call (w := w) t1.out k2)
    clear hT k2 t1
    go_wp2_with fail
    refine (before_nat a l c (some ⟨g, 0, none⟩) e2 n A B _ (HR.out.below t2.out) HM.out.ev T2.out hBl (by omega) (by omega)).mono ?_
    rintro r w3 ⟨rfl, k3⟩
    have T3 := hide (T2.out.below k3)
    have t3 := hide (below_call (w := w) t2.out k3)
    clear k3 t2 T2
    go_wp2_with fail
    refine (before_nat a l c (some ⟨g, 0, none⟩) e2 n B C _ (HR.out.below t3.out) HM.out.ev T3.out hCl (by omega) (by omega)).mono ?_
    rintro r w4 ⟨rfl, k4⟩
    have T4 := hide (T3.out.below k4)
    have t4 := hide (below_call (w := w) t3.out k4)
    clear k4 t3 T3
    have hwA : gl l A = l[A] := gl_at hAl
    have hwB : gl l B = l[B] := gl_at hBl
    cases hab : bef (gl l) A B with
    | true =>
      have hlt : A < B := hb_lt (bef_hb.1 hab)
      have hba : bef (gl l) B A = false := by unfold bef; simp; omega
      have bd : decide (B ≤ A) = false := by simp; omega
      have HAB := hide hab
      have HBA := hide hba
      clear hab hba
      cases hbc : bef (gl l) B C with
      | true =>
        have HAC := hide (bef_hb.2 (hb_trans (bef_hb.1 HAB.out) (bef_hb.1 hbc)))
        clear hbc
        go_wp2_with fail
        refine (before_nat a l c (some ⟨g, 0, none⟩) e2 n B A _ (HR.out.below t4.out) HM.out.ev T4.out hAl (by omega) (by omega)).mono ?_
        rintro r w5 ⟨rfl, k5⟩
        rw [HBA.out]
        have T5 := hide (T4.out.below k5)
        have t5 := hide (below_call (w := w) t4.out k5)
        clear k5
        go_wp2_with fail
        refine (before_nat a l c (some ⟨g, 0, none⟩) e2 n A C _ (HR.out.below t5.out) HM.out.ev T5.out hCl (by omega) (by omega)).mono ?_
        rintro r w6 ⟨rfl, k6⟩
        rw [HAC.out]
        have t6 := hide (below_call (w := w) t5.out k6)
        clear k6 bd
        obtain ⟨p1, o1, rfl, hp1, hcc⟩ := e_at (HR.out.below t6.out) (by omega)
        obtain ⟨x0, _, _⟩ := hcc A hAl
        obtain ⟨y0, _, _⟩ := hcc B hBl
        have x0 := keepc hp1 x0
        have y0 := keepc hp1 y0
        have bd : decide (B ≤ A) = false := by simp; omega
        clear hcc
        by_cases hww : l[A].w = l[B].w
        · rw [hww] at x0
          clear hww
          generalize l[B].w = eB at x0 y0
          go_upto_region 14 with fail
          refine Reg.region (by kernel_rfl) 23 [20] (fun _ w' => Below w6.heap.size w6 w') (by kernel_rfl) (by kernel_rfl) (Below.refl _ _).drew ?_
          iterate 20
            first
              | refine Reg.WT.idle rfl rfl ?_
              | (refine Reg.WT.yield (v := ?_) rfl rfl ?_ ?_
                 rotate_left
                 · intro w' _ hS; go_simp; (try go_bits); (first | rfl | rw [if_pos (by omega)]))
            simp only [Act.put, List.setIfInBounds_toArray, List.set_cons_zero, List.set_cons_succ]
          refine Reg.WT.call (v := ?_) (f := ?_) (args := ?_) rfl rfl ?_ ?_ ?_
          rotate_left 3
          · intro w2; go_simp; exact ⟨by rfl, by rfl⟩
          · intro w2 hS; refine (works_any w2).mono ?_; rintro e w3 ⟨rfl, hb⟩; exact ⟨by rfl, hS.trans (hb.mono hS.size)⟩
          simp only [Act.put, List.setIfInBounds_toArray, List.set_cons_zero, List.set_cons_succ]
          iterate 2
            first
              | refine Reg.WT.idle rfl rfl ?_
              | (refine Reg.WT.yield (v := ?_) rfl rfl ?_ ?_
                 rotate_left
                 · intro w' _ hS; go_simp; (try go_bits); (first | rfl | rw [if_pos (by omega)]))
            simp only [Act.put, List.setIfInBounds_toArray, List.set_cons_zero, List.set_cons_succ]
          intro w8 hS
          have t9 := hide (below_call (w := w) t6.out hS)
          clear hS
          go_wp2_with fail
          go_returns
          exact ⟨rfl, t9.out⟩
        · have bw : (l[A].w == l[B].w) = false := by simpa using hww
          have bw2 : (l[A].w != l[B].w) = true := by simpa using hww
          clear hww
          generalize l[A].w = eA at x0 bw bw2
          generalize l[B].w = eB at y0 bw bw2
          go_upto_region 14 with fail
          refine Reg.region (by kernel_rfl) 23 [20] (fun _ w' => Below w6.heap.size w6 w') (by kernel_rfl) (by kernel_rfl) (Below.refl _ _).drew ?_
          iterate 20
            first
              | refine Reg.WT.idle rfl rfl ?_
              | (refine Reg.WT.yield (v := ?_) rfl rfl ?_ ?_
                 rotate_left
                 · intro w' _ hS; go_simp; (try go_bits); (first | rfl | rw [if_pos (by omega)]))
            simp only [Act.put, List.setIfInBounds_toArray, List.set_cons_zero, List.set_cons_succ]
          refine Reg.WT.call (v := ?_) (f := ?_) (args := ?_) rfl rfl ?_ ?_ ?_
          rotate_left 3
          · intro w2; go_simp; exact ⟨by rfl, by rfl⟩
          · intro w2 hS; refine (works_any w2).mono ?_; rintro e w3 ⟨rfl, hb⟩; exact ⟨by rfl, hS.trans (hb.mono hS.size)⟩
          simp only [Act.put, List.setIfInBounds_toArray, List.set_cons_zero, List.set_cons_succ]
          iterate 2
            first
              | refine Reg.WT.idle rfl rfl ?_
              | (refine Reg.WT.yield (v := ?_) rfl rfl ?_ ?_
                 rotate_left
                 · intro w' _ hS; go_simp; (try go_bits); (first | rfl | rw [if_pos (by omega)]))
            simp only [Act.put, List.setIfInBounds_toArray, List.set_cons_zero, List.set_cons_succ]
          intro w8 hS
          have t9 := hide (below_call (w := w) t6.out hS)
          clear hS
          go_wp2_with fail
          go_returns
          exact ⟨rfl, t9.out⟩
      | false =>
        clear hbc
        go_wp2_with fail
        refine (before_nat a l c (some ⟨g, 0, none⟩) e2 n B A _ (HR.out.below t4.out) HM.out.ev T4.out hAl (by omega) (by omega)).mono ?_
        rintro r w5 ⟨rfl, k5⟩
        rw [HBA.out]
        have t5 := hide (below_call (w := w) t4.out k5)
        clear k5 bd
        obtain ⟨p1, o1, rfl, hp1, hcc⟩ := e_at (HR.out.below t5.out) (by omega)
        obtain ⟨x0, _, _⟩ := hcc A hAl
        obtain ⟨y0, _, _⟩ := hcc B hBl
        have x0 := keepc hp1 x0
        have y0 := keepc hp1 y0
        have bd : decide (B ≤ A) = false := by simp; omega
        clear hcc
        by_cases hww : l[A].w = l[B].w
        · rw [hww] at x0
          clear hww
          generalize l[B].w = eB at x0 y0
          go_upto_region 14 with fail
          refine Reg.region (by kernel_rfl) 23 [20] (fun _ w' => Below w5.heap.size w5 w') (by kernel_rfl) (by kernel_rfl) (Below.refl _ _).drew ?_
          iterate 20
            first
              | refine Reg.WT.idle rfl rfl ?_
              | (refine Reg.WT.yield (v := ?_) rfl rfl ?_ ?_
                 rotate_left
                 · intro w' _ hS; go_simp; (try go_bits); (first | rfl | rw [if_pos (by omega)]))
            simp only [Act.put, List.setIfInBounds_toArray, List.set_cons_zero, List.set_cons_succ]
          refine Reg.WT.call (v := ?_) (f := ?_) (args := ?_) rfl rfl ?_ ?_ ?_
          rotate_left 3
          · intro w2; go_simp; exact ⟨by rfl, by rfl⟩
          · intro w2 hS; refine (works_any w2).mono ?_; rintro e w3 ⟨rfl, hb⟩; exact ⟨by rfl, hS.trans (hb.mono hS.size)⟩
          simp only [Act.put, List.setIfInBounds_toArray, List.set_cons_zero, List.set_cons_succ]
          iterate 2
            first
              | refine Reg.WT.idle rfl rfl ?_
              | (refine Reg.WT.yield (v := ?_) rfl rfl ?_ ?_
                 rotate_left
                 · intro w' _ hS; go_simp; (try go_bits); (first | rfl | rw [if_pos (by omega)]))
            simp only [Act.put, List.setIfInBounds_toArray, List.set_cons_zero, List.set_cons_succ]
          intro w8 hS
          have t9 := hide (below_call (w := w) t5.out hS)
          clear hS
          go_wp2_with fail
          go_returns
          exact ⟨rfl, t9.out⟩
        · have bw : (l[A].w == l[B].w) = false := by simpa using hww
          have bw2 : (l[A].w != l[B].w) = true := by simpa using hww
          clear hww
          generalize l[A].w = eA at x0 bw bw2
          generalize l[B].w = eB at y0 bw bw2
          go_upto_region 14 with fail
          refine Reg.region (by kernel_rfl) 23 [20] (fun _ w' => Below w5.heap.size w5 w') (by kernel_rfl) (by kernel_rfl) (Below.refl _ _).drew ?_
          iterate 20
            first
              | refine Reg.WT.idle rfl rfl ?_
              | (refine Reg.WT.yield (v := ?_) rfl rfl ?_ ?_
                 rotate_left
                 · intro w' _ hS; go_simp; (try go_bits); (first | rfl | rw [if_pos (by omega)]))
            simp only [Act.put, List.setIfInBounds_toArray, List.set_cons_zero, List.set_cons_succ]
          refine Reg.WT.call (v := ?_) (f := ?_) (args := ?_) rfl rfl ?_ ?_ ?_
          rotate_left 3
          · intro w2; go_simp; exact ⟨by rfl, by rfl⟩
          · intro w2 hS; refine (works_any w2).mono ?_; rintro e w3 ⟨rfl, hb⟩; exact ⟨by rfl, hS.trans (hb.mono hS.size)⟩
          simp only [Act.put, List.setIfInBounds_toArray, List.set_cons_zero, List.set_cons_succ]
          iterate 2
            first
              | refine Reg.WT.idle rfl rfl ?_
              | (refine Reg.WT.yield (v := ?_) rfl rfl ?_ ?_
                 rotate_left
                 · intro w' _ hS; go_simp; (try go_bits); (first | rfl | rw [if_pos (by omega)]))
            simp only [Act.put, List.setIfInBounds_toArray, List.set_cons_zero, List.set_cons_succ]
          intro w8 hS
          have t9 := hide (below_call (w := w) t5.out hS)
          clear hS
          go_wp2_with fail
          go_returns
          exact ⟨rfl, t9.out⟩
    | false =>
      by_cases hAB : B ≤ A
      · have bd : decide (B ≤ A) = true := by simpa using hAB
        clear hab
        go_upto_region 14 with fail
        refine Reg.region (by kernel_rfl) 23 [20] (fun _ w' => Below w4.heap.size w4 w') (by kernel_rfl) (by kernel_rfl) (Below.refl _ _).drew ?_
        iterate 20
          first
            | refine Reg.WT.idle rfl rfl ?_
            | (refine Reg.WT.yield (v := ?_) rfl rfl ?_ ?_
               rotate_left
               · intro w' _ hS; go_simp; (try go_bits); (first | rfl | rw [if_pos (by omega)]))
          simp only [Act.put, List.setIfInBounds_toArray, List.set_cons_zero, List.set_cons_succ]
        refine Reg.WT.call (v := ?_) (f := ?_) (args := ?_) rfl rfl ?_ ?_ ?_
        rotate_left 3
        · intro w2; go_simp; exact ⟨by rfl, by rfl⟩
        · intro w2 hS; refine (works_any w2).mono ?_; rintro e w3 ⟨rfl, hb⟩; exact ⟨by rfl, hS.trans (hb.mono hS.size)⟩
        simp only [Act.put, List.setIfInBounds_toArray, List.set_cons_zero, List.set_cons_succ]
        iterate 2
          first
            | refine Reg.WT.idle rfl rfl ?_
            | (refine Reg.WT.yield (v := ?_) rfl rfl ?_ ?_
               rotate_left
               · intro w' _ hS; go_simp; (try go_bits); (first | rfl | rw [if_pos (by omega)]))
          simp only [Act.put, List.setIfInBounds_toArray, List.set_cons_zero, List.set_cons_succ]
        intro w8 hS
        have t9 := hide (below_call (w := w) t4.out hS)
        clear hS
        go_wp2_with fail
        go_returns
        exact ⟨rfl, t9.out⟩
      · have hww : ¬ l[A].w = l[B].w := fun h => by
          have : bef (gl l) A B = true := bef_hb.2 (hb_same (by omega) (by rw [hwA, hwB]; exact h))
          rw [hab] at this; cases this
        have bw : (l[A].w == l[B].w) = false := by simpa using hww
        have bw2 : (l[A].w != l[B].w) = true := by simpa using hww
        obtain ⟨p1, o1, rfl, hp1, hcc⟩ := e_at (HR.out.below t4.out) (by omega)
        obtain ⟨x0, _, _⟩ := hcc A hAl
        obtain ⟨y0, _, _⟩ := hcc B hBl
        have x0 := keepc hp1 x0
        have y0 := keepc hp1 y0
        have bd : decide (B ≤ A) = false := by simp; omega
        clear hcc hww hwA hwB hab
        generalize l[A].w = eA at x0 bw bw2
        generalize l[B].w = eB at y0 bw bw2
        go_upto_region 14 with fail
        refine Reg.region (by kernel_rfl) 23 [20] (fun _ w' => Below w4.heap.size w4 w') (by kernel_rfl) (by kernel_rfl) (Below.refl _ _).drew ?_
        iterate 20
          first
            | refine Reg.WT.idle rfl rfl ?_
            | (refine Reg.WT.yield (v := ?_) rfl rfl ?_ ?_
               rotate_left
               · intro w' _ hS; go_simp; (try go_bits); (first | rfl | rw [if_pos (by omega)]))
          simp only [Act.put, List.setIfInBounds_toArray, List.set_cons_zero, List.set_cons_succ]
        refine Reg.WT.call (v := ?_) (f := ?_) (args := ?_) rfl rfl ?_ ?_ ?_
        rotate_left 3
        · intro w2; go_simp; exact ⟨by rfl, by rfl⟩
        · intro w2 hS; refine (works_any w2).mono ?_; rintro e w3 ⟨rfl, hb⟩; exact ⟨by rfl, hS.trans (hb.mono hS.size)⟩
        simp only [Act.put, List.setIfInBounds_toArray, List.set_cons_zero, List.set_cons_succ]
        iterate 2
          first
            | refine Reg.WT.idle rfl rfl ?_
            | (refine Reg.WT.yield (v := ?_) rfl rfl ?_ ?_
               rotate_left
               · intro w' _ hS; go_simp; (try go_bits); (first | rfl | rw [if_pos (by omega)]))
          simp only [Act.put, List.setIfInBounds_toArray, List.set_cons_zero, List.set_cons_succ]
        intro w8 hS
        have t9 := hide (below_call (w := w) t4.out hS)
        clear hS
        go_wp2_with fail
        go_returns
        exact ⟨rfl, t9.out⟩
  · have HM := hide hM
    clear hM
    go_wp2_with fail
    refine (may_no a l c n _ HR.out (fun y hy => (HL.out y hy).k) HM.out).mono ?_
    rintro r w2 ⟨rfl, k2⟩
    have t2 := hide k2
    clear k2
    go_wp2_with fail
    refine (works_any _).mono ?_
    rintro r w9 ⟨rfl, k9⟩
    have t9 := hide (below_call (w := w) t2.out k9)
    clear k9
    go_wp2_with fail
    go_returns
    exact ⟨rfl, t9.out⟩
theorem walk_ClockOrder (w : World) (x : Int) (hx : (Lit.int .u8 x).wf = true) (a : Option Addr) (l : List Ev) (c : Nat) (hr : ERow w a l) (hl : ∀ e ∈ l, EvIn e) (hc1 : l.length ≤ c) (hc2 : c ≤ maxLen) (i : Int) (hi : (Lit.int .u8 i).wf = true) (j : Int) (hj : (Lit.int .u8 j).wf = true) (k : Int) (hk : (Lit.int .u8 k).wf = true) :
    Calls Try.prog 6 #[.int .u8 x, .slice a l.length c, .int .u8 i, .int .u8 j, .int .u8 k] w (fun e w' => e = .returned (.bool true) ∧ Below w.heap.size w w') :=
  walkP_ClockOrder x i j k a l c w (u8_of hx) (u8_of hi) (u8_of hj) (u8_of hk) hr hl hc1 hc2
end Go.Proofs.Ytffpphnjokmffaa
