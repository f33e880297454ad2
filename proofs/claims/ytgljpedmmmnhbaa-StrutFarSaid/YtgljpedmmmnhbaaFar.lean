/- The walk of StrutFar. -/
import Derived.Test.YtgljpedmmmnhbaaOrder
namespace Go.Proofs.Ytgljpedmmmnhbaa
open Go.RowKit

theorem far_plain (p q : Int × Int) (h1 : 0 ≤ p.1) (h2 : p.2 ≤ 0) (h3 : 0 ≤ q.1) (h4 : q.2 ≤ 0) :
    jn (jn p q.1) q.2 = (max p.1 q.1, min p.2 q.2) ∧ jn (jn q p.1) p.2 = (max p.1 q.1, min p.2 q.2) ∧ jn (jn (max p.1 q.1, min p.2 q.2) p.1) p.2 = (max p.1 q.1, min p.2 q.2) := by
  simp only [jn, Prod.mk.injEq]
  omega

set_option maxHeartbeats 4000000 in
set_option maxRecDepth 100000 in
theorem walk_StrutFar (w : World) (a0 : Option Addr) (l : List Int) (c : Nat) (hr : Row w a0 (ints l)) (hw : ∀ n ∈ l, (Lit.int .i64 n).wf = true) (hc : l.length ≤ c) (hm : c ≤ maxLen)
    (a1 : Option Addr) (m : List Int) (c' : Nat) (hr' : Row w a1 (ints m)) (hw' : ∀ n ∈ m, (Lit.int .i64 n).wf = true) (hc' : m.length ≤ c') (hm' : c' ≤ maxLen) :
    Calls Try.prog 6 #[.slice a0 l.length c, .slice a1 m.length c'] w fun e w' => e = .returned (.bool true) ∧ Below w.heap.size w w' := by
  unfold maxLen at hm hm'
  by_cases hbig : 100 < l.length
  · go_enter Try.func6, Try.ntmps6
    go_wp2_with fail
    refine (works_any _).mono ?_
    rintro e w2 ⟨rfl, k2⟩
    have t2 := below_call (w := w) (by go_grown) k2
    go_wp2
    go_returns
    exact ⟨rfl, t2⟩
  by_cases hbig' : 100 < m.length
  · go_enter Try.func6, Try.ntmps6
    go_wp2_with fail
    refine (works_any _).mono ?_
    rintro e w2 ⟨rfl, k2⟩
    have t2 := below_call (w := w) (by go_grown) k2
    go_wp2
    go_returns
    exact ⟨rfl, t2⟩
  go_enter Try.func6, Try.ntmps6
  go_wp2_with fail
  go_loop [5] (fun i => ∃ (k : Nat), k ≤ l.length + m.length ∧ i = .int .i64 k ∧ (∀ n ∈ (l ++ m).take k, -1125899906842624 ≤ n ∧ n ≤ 1125899906842624)) (fun i => l.length + m.length - (intOf i).toNat)
  case atStart => exact ⟨0, Nat.zero_le _, rfl, by simp⟩
  case round =>
    obtain ⟨k, hk, rfl, hbd⟩ := hrel
    have hbd' := hide hbd; clear hbd
    by_cases hlt : k < l.length + m.length
    · obtain ⟨n, hn⟩ : ∃ n, n = (l ++ m)[k]'(by rw [List.length_append]; exact hlt) := ⟨_, rfl⟩
      by_cases hl : k < l.length
      · obtain ⟨b, off, rfl, hbw, hcell⟩ := hr.2 (by rw [ints_len]; omega)
        have hcA : w.cell? ⟨b, off + k, none⟩ = some (.int .i64 n) := (hcell k (by rw [ints_len]; exact hl)).trans (by rw [ints_get, hn, List.getElem_append_left hl])
        have HN := hide hn
        clear hcell hn
        by_cases q1 : 1125899906842624 < n
        · go_wp2_with fail
          refine (works_any _).mono ?_
          rintro e w2 ⟨rfl, k2⟩
          have t2 := below_call (w := w) (by go_grown) k2
          go_wp2
          go_returns
          exact ⟨rfl, t2⟩
        by_cases q2 : n < -1125899906842624
        · go_wp2_with fail
          refine (works_any _).mono ?_
          rintro e w2 ⟨rfl, k2⟩
          have t2 := below_call (w := w) (by go_grown) k2
          go_wp2
          go_returns
          exact ⟨rfl, t2⟩
        go_wp2
        go_round
        case rel =>
          refine ⟨k + 1, hlt, by go_num, fun n' hn' => ?_⟩
          rw [List.take_succ_eq_append_getElem (by rw [List.length_append]; exact hlt), List.mem_append] at hn'
          rcases hn' with hn' | hn'
          · exact hbd'.out n' hn'
          · rw [List.mem_singleton, ← HN.out] at hn'; subst hn'; omega
        case measure => simp [intOf]; omega
      · obtain ⟨b, off, rfl, hbw, hcell⟩ := hr'.2 (by rw [ints_len]; omega)
        have hcA : w.cell? ⟨b, off + (k - l.length), none⟩ = some (.int .i64 n) := (hcell (k - l.length) (by rw [ints_len]; omega)).trans (by rw [ints_get, hn, List.getElem_append_right (by omega)])
        have HN := hide hn
        clear hcell hn
        by_cases q1 : 1125899906842624 < n
        · go_wp2_with fail
          refine (works_any _).mono ?_
          rintro e w2 ⟨rfl, k2⟩
          have t2 := below_call (w := w) (by go_grown) k2
          go_wp2
          go_returns
          exact ⟨rfl, t2⟩
        by_cases q2 : n < -1125899906842624
        · go_wp2_with fail
          refine (works_any _).mono ?_
          rintro e w2 ⟨rfl, k2⟩
          have t2 := below_call (w := w) (by go_grown) k2
          go_wp2
          go_returns
          exact ⟨rfl, t2⟩
        go_wp2
        go_round
        case rel =>
          refine ⟨k + 1, hlt, by go_num, fun n' hn' => ?_⟩
          rw [List.take_succ_eq_append_getElem (by rw [List.length_append]; exact hlt), List.mem_append] at hn'
          rcases hn' with hn' | hn'
          · exact hbd'.out n' hn'
          · rw [List.mem_singleton, ← HN.out] at hn'; subst hn'; omega
        case measure => simp [intOf]; omega
    · have : k = l.length + m.length := by omega
      subst this
      have hb : ∀ n ∈ l ++ m, -1125899906842624 - 1 ≤ n ∧ n ≤ 1125899906842624 := fun n hn => by
        have := hbd'.out n (by rw [List.take_of_length_le (by rw [List.length_append]; omega)]; exact hn)
        omega
      have ha1 := jn_fold_bd l 1125899906842624 (fun n hn => hb n (List.mem_append_left _ hn)) (0, 0) (by decide) (by decide)
      have ha2 := jn_fold_bd m 1125899906842624 (fun n hn => hb n (List.mem_append_right _ hn)) (0, 0) (by decide) (by decide)
      have ha3 := jn_fold_le l (0, 0)
      have ha4 := jn_fold_le m (0, 0)
      obtain ⟨⟨xa, ya⟩, hpa⟩ : ∃ p, l.foldl jn (0, 0) = p := ⟨_, rfl⟩
      obtain ⟨⟨xb, yb⟩, hpb⟩ : ∃ p, m.foldl jn (0, 0) = p := ⟨_, rfl⟩
      rw [hpa] at ha1 ha3
      rw [hpb] at ha2 ha4
      simp only at ha1 ha2 ha3 ha4
      obtain ⟨f1, f2, f3⟩ := far_plain (xa, ya) (xb, yb) ha3.1 ha3.2 ha4.1 ha4.2
      simp only at f1 f2 f3
      by_cases e1 : xb ≤ xa
      · rw [Int.max_eq_left e1] at f1 f2 f3
        by_cases e2 : ya ≤ yb
        · rw [Int.min_eq_left e2] at f1 f2 f3
          obtain ⟨z1, z2⟩ := ha1
          obtain ⟨z3, z4⟩ := ha3
          obtain ⟨z5, z6⟩ := ha2
          obtain ⟨z7, z8⟩ := ha4
          have H1 := hide f1
          have H2 := hide f2
          have H3 := hide f3
          have HA := hide hpa
          have HB := hide hpb
          have hs0 : jn (0, 0) 0 = (0, 0) := by decide
          clear f1 f2 f3 hpa hpb hb hbd'
          go_wp2_with fail
          refine (joined_eq _ l _ _ hr HA.out).mono ?_
          rintro e w2 ⟨rfl, k2⟩
          have t2 := below_call (w := w) (by go_grown) k2
          have s2 := t2.size
          have B2 := Blk.new w2 24 #[.int .i64 xa, .int .i64 ya]
          go_wp2_with fail
          refine (joined_eq _ m _ _ (hr'.below (by go_grown)) HB.out).mono ?_
          rintro e w3 ⟨rfl, k3⟩
          have t3 := below_call (w := w) (by go_grown) k3
          have s3 := t3.size
          have B2' := B2.below k3 (by simp)
          have B3 := Blk.new w3 24 #[.int .i64 xb, .int .i64 yb]
          have l2 := B2'.lt
          have c0 : (w3.alloc (.cells #[.int .i64 xb, .int .i64 yb] 24)).cell? ⟨w2.heap.size, 0, none⟩ = some (.int .i64 xa) := (B2'.alloc _).cell 0
          have c1 : (w3.alloc (.cells #[.int .i64 xb, .int .i64 yb] 24)).cell? ⟨w2.heap.size, 1, none⟩ = some (.int .i64 ya) := (B2'.alloc _).cell 1
          go_wp2_with fail
          refine (both_eq H1.out).mono ?_
          rintro e w4 ⟨rfl, k4⟩
          have t4 := below_call (w := w) (by go_grown) k4
          have s4 := t4.size
          have e2 := (B2'.alloc (.cells #[.int .i64 xb, .int .i64 yb] 24)).below k4 (by simp; have := B2'.lt; omega)
          have e3 := B3.below k4 (by simp)
          have B4 := Blk.new w4 24 #[.int .i64 xa, .int .i64 ya]
          have D2 := e2.alloc (.cells #[.int .i64 xa, .int .i64 ya] 24)
          have D3 := e3.alloc (.cells #[.int .i64 xa, .int .i64 ya] 24)
          have t5 : Below w.heap.size w (w4.alloc (.cells #[.int .i64 xa, .int .i64 ya] 24)) := by go_grown
          have C0 : (w4.alloc (.cells #[.int .i64 xa, .int .i64 ya] 24)).cell? ⟨w2.heap.size, 0, none⟩ = some (.int .i64 xa) := D2.cell 0
          have C1 : (w4.alloc (.cells #[.int .i64 xa, .int .i64 ya] 24)).cell? ⟨w2.heap.size, 1, none⟩ = some (.int .i64 ya) := D2.cell 1
          have C2 : (w4.alloc (.cells #[.int .i64 xa, .int .i64 ya] 24)).cell? ⟨w3.heap.size, 0, none⟩ = some (.int .i64 xb) := D3.cell 0
          have C3 : (w4.alloc (.cells #[.int .i64 xa, .int .i64 ya] 24)).cell? ⟨w3.heap.size, 1, none⟩ = some (.int .i64 yb) := D3.cell 1
          go_wp2_with fail
          generalize w4.alloc (.cells #[.int .i64 xa, .int .i64 ya] 24) = W5 at *
          have E0 := keepc (p := ⟨w2.heap.size, 0, none⟩) D2.lt C0
          have E1 := keepc (p := ⟨w2.heap.size, 1, none⟩) D2.lt C1
          have E2 := keepc (p := ⟨w3.heap.size, 0, none⟩) D3.lt C2
          have E3 := keepc (p := ⟨w3.heap.size, 1, none⟩) D3.lt C3
          have E4 := keepc (p := ⟨w4.heap.size, 0, none⟩) B4.lt (B4.cell 0)
          have E5 := keepc (p := ⟨w4.heap.size, 1, none⟩) B4.lt (B4.cell 1)
          refine Reg.region (by kernel_rfl) 24 [3, 8, 16, 22] (fun _ w' => Below W5.heap.size W5 w') (by kernel_rfl) (by kernel_rfl) (Below.refl _ _).drew ?_
          iterate 3
            refine Reg.WT.yield (v := ?_) rfl rfl ?_ ?_
            rotate_left
            · intro w' _ hS; go_simp; (try go_bits); (first | rfl | rw [if_pos (by omega)])
            simp only [Act.put, List.setIfInBounds_toArray, List.set_cons_zero, List.set_cons_succ]
          refine Reg.WT.call (v := ?_) (f := ?_) (args := ?_) rfl rfl ?_ ?_ ?_
          rotate_left 3
          · intro w2; go_simp; exact ⟨by rfl, by rfl⟩
          · intro w2 hS; refine (both_eq H2.out).mono ?_; rintro e w3 ⟨rfl, hb⟩; exact ⟨by rfl, hS.trans (hb.mono hS.size)⟩
          simp only [Act.put, List.setIfInBounds_toArray, List.set_cons_zero, List.set_cons_succ]
          iterate 4
            refine Reg.WT.yield (v := ?_) rfl rfl ?_ ?_
            rotate_left
            · intro w' _ hS; go_simp; (try go_bits); (first | rfl | rw [if_pos (by omega)])
            simp only [Act.put, List.setIfInBounds_toArray, List.set_cons_zero, List.set_cons_succ]
          refine Reg.WT.call (v := ?_) (f := ?_) (args := ?_) rfl rfl ?_ ?_ ?_
          rotate_left 3
          · intro w2; go_simp; exact ⟨by rfl, by rfl⟩
          · intro w2 hS; refine (both_eq H3.out).mono ?_; rintro e w3 ⟨rfl, hb⟩; exact ⟨by rfl, hS.trans (hb.mono hS.size)⟩
          simp only [Act.put, List.setIfInBounds_toArray, List.set_cons_zero, List.set_cons_succ]
          iterate 7
            refine Reg.WT.yield (v := ?_) rfl rfl ?_ ?_
            rotate_left
            · intro w' _ hS; go_simp; (try go_bits); (first | rfl | rw [if_pos (by omega)])
            simp only [Act.put, List.setIfInBounds_toArray, List.set_cons_zero, List.set_cons_succ]
          refine Reg.WT.call (v := ?_) (f := ?_) (args := ?_) rfl rfl ?_ ?_ ?_
          rotate_left 3
          · intro w2; go_simp; exact ⟨by rfl, by rfl⟩
          · intro w2 hS; refine (sum_any _ _ _ z3 (by omega) (by omega) (by omega)).mono ?_; rintro e w3 ⟨rfl, hb⟩; exact ⟨by rfl, hS.trans (hb.mono hS.size)⟩
          simp only [Act.put, List.setIfInBounds_toArray, List.set_cons_zero, List.set_cons_succ]
          iterate 5
            refine Reg.WT.yield (v := ?_) rfl rfl ?_ ?_
            rotate_left
            · intro w' _ hS; go_simp; (try go_bits); (first | rfl | rw [if_pos (by omega)])
            simp only [Act.put, List.setIfInBounds_toArray, List.set_cons_zero, List.set_cons_succ]
          refine Reg.WT.call (v := ?_) (f := ?_) (args := ?_) rfl rfl ?_ ?_ ?_
          rotate_left 3
          · intro w2; go_simp; exact ⟨by rfl, by rfl⟩
          · intro w2 hS; refine (works_any _).mono ?_; rintro e w3 ⟨rfl, hb⟩; exact ⟨by rfl, hS.trans (hb.mono hS.size)⟩
          simp only [Act.put, List.setIfInBounds_toArray, List.set_cons_zero, List.set_cons_succ]
          iterate 1
            refine Reg.WT.yield (v := ?_) rfl rfl ?_ ?_
            rotate_left
            · intro w' _ hS; go_simp; (try go_bits); (first | rfl | rw [if_pos (by omega)])
            simp only [Act.put, List.setIfInBounds_toArray, List.set_cons_zero, List.set_cons_succ]
          intro w6 hS
          have t6 := below_call (w := w) t5 hS
          go_wp2
          go_returns
          exact ⟨rfl, t6⟩
        · rw [Int.min_eq_right (by omega)] at f1 f2 f3
          obtain ⟨z1, z2⟩ := ha1
          obtain ⟨z3, z4⟩ := ha3
          obtain ⟨z5, z6⟩ := ha2
          obtain ⟨z7, z8⟩ := ha4
          have H1 := hide f1
          have H2 := hide f2
          have H3 := hide f3
          have HA := hide hpa
          have HB := hide hpb
          have hs0 : jn (0, 0) 0 = (0, 0) := by decide
          clear f1 f2 f3 hpa hpb hb hbd'
          go_wp2_with fail
          refine (joined_eq _ l _ _ hr HA.out).mono ?_
          rintro e w2 ⟨rfl, k2⟩
          have t2 := below_call (w := w) (by go_grown) k2
          have s2 := t2.size
          have B2 := Blk.new w2 24 #[.int .i64 xa, .int .i64 ya]
          go_wp2_with fail
          refine (joined_eq _ m _ _ (hr'.below (by go_grown)) HB.out).mono ?_
          rintro e w3 ⟨rfl, k3⟩
          have t3 := below_call (w := w) (by go_grown) k3
          have s3 := t3.size
          have B2' := B2.below k3 (by simp)
          have B3 := Blk.new w3 24 #[.int .i64 xb, .int .i64 yb]
          have l2 := B2'.lt
          have c0 : (w3.alloc (.cells #[.int .i64 xb, .int .i64 yb] 24)).cell? ⟨w2.heap.size, 0, none⟩ = some (.int .i64 xa) := (B2'.alloc _).cell 0
          have c1 : (w3.alloc (.cells #[.int .i64 xb, .int .i64 yb] 24)).cell? ⟨w2.heap.size, 1, none⟩ = some (.int .i64 ya) := (B2'.alloc _).cell 1
          go_wp2_with fail
          refine (both_eq H1.out).mono ?_
          rintro e w4 ⟨rfl, k4⟩
          have t4 := below_call (w := w) (by go_grown) k4
          have s4 := t4.size
          have e2 := (B2'.alloc (.cells #[.int .i64 xb, .int .i64 yb] 24)).below k4 (by simp; have := B2'.lt; omega)
          have e3 := B3.below k4 (by simp)
          have B4 := Blk.new w4 24 #[.int .i64 xa, .int .i64 yb]
          have D2 := e2.alloc (.cells #[.int .i64 xa, .int .i64 yb] 24)
          have D3 := e3.alloc (.cells #[.int .i64 xa, .int .i64 yb] 24)
          have t5 : Below w.heap.size w (w4.alloc (.cells #[.int .i64 xa, .int .i64 yb] 24)) := by go_grown
          have C0 : (w4.alloc (.cells #[.int .i64 xa, .int .i64 yb] 24)).cell? ⟨w2.heap.size, 0, none⟩ = some (.int .i64 xa) := D2.cell 0
          have C1 : (w4.alloc (.cells #[.int .i64 xa, .int .i64 yb] 24)).cell? ⟨w2.heap.size, 1, none⟩ = some (.int .i64 ya) := D2.cell 1
          have C2 : (w4.alloc (.cells #[.int .i64 xa, .int .i64 yb] 24)).cell? ⟨w3.heap.size, 0, none⟩ = some (.int .i64 xb) := D3.cell 0
          have C3 : (w4.alloc (.cells #[.int .i64 xa, .int .i64 yb] 24)).cell? ⟨w3.heap.size, 1, none⟩ = some (.int .i64 yb) := D3.cell 1
          go_wp2_with fail
          generalize w4.alloc (.cells #[.int .i64 xa, .int .i64 yb] 24) = W5 at *
          have E0 := keepc (p := ⟨w2.heap.size, 0, none⟩) D2.lt C0
          have E1 := keepc (p := ⟨w2.heap.size, 1, none⟩) D2.lt C1
          have E2 := keepc (p := ⟨w3.heap.size, 0, none⟩) D3.lt C2
          have E3 := keepc (p := ⟨w3.heap.size, 1, none⟩) D3.lt C3
          have E4 := keepc (p := ⟨w4.heap.size, 0, none⟩) B4.lt (B4.cell 0)
          have E5 := keepc (p := ⟨w4.heap.size, 1, none⟩) B4.lt (B4.cell 1)
          refine Reg.region (by kernel_rfl) 24 [3, 8, 16, 22] (fun _ w' => Below W5.heap.size W5 w') (by kernel_rfl) (by kernel_rfl) (Below.refl _ _).drew ?_
          iterate 3
            refine Reg.WT.yield (v := ?_) rfl rfl ?_ ?_
            rotate_left
            · intro w' _ hS; go_simp; (try go_bits); (first | rfl | rw [if_pos (by omega)])
            simp only [Act.put, List.setIfInBounds_toArray, List.set_cons_zero, List.set_cons_succ]
          refine Reg.WT.call (v := ?_) (f := ?_) (args := ?_) rfl rfl ?_ ?_ ?_
          rotate_left 3
          · intro w2; go_simp; exact ⟨by rfl, by rfl⟩
          · intro w2 hS; refine (both_eq H2.out).mono ?_; rintro e w3 ⟨rfl, hb⟩; exact ⟨by rfl, hS.trans (hb.mono hS.size)⟩
          simp only [Act.put, List.setIfInBounds_toArray, List.set_cons_zero, List.set_cons_succ]
          iterate 4
            refine Reg.WT.yield (v := ?_) rfl rfl ?_ ?_
            rotate_left
            · intro w' _ hS; go_simp; (try go_bits); (first | rfl | rw [if_pos (by omega)])
            simp only [Act.put, List.setIfInBounds_toArray, List.set_cons_zero, List.set_cons_succ]
          refine Reg.WT.call (v := ?_) (f := ?_) (args := ?_) rfl rfl ?_ ?_ ?_
          rotate_left 3
          · intro w2; go_simp; exact ⟨by rfl, by rfl⟩
          · intro w2 hS; refine (both_eq H3.out).mono ?_; rintro e w3 ⟨rfl, hb⟩; exact ⟨by rfl, hS.trans (hb.mono hS.size)⟩
          simp only [Act.put, List.setIfInBounds_toArray, List.set_cons_zero, List.set_cons_succ]
          iterate 7
            refine Reg.WT.yield (v := ?_) rfl rfl ?_ ?_
            rotate_left
            · intro w' _ hS; go_simp; (try go_bits); (first | rfl | rw [if_pos (by omega)])
            simp only [Act.put, List.setIfInBounds_toArray, List.set_cons_zero, List.set_cons_succ]
          refine Reg.WT.call (v := ?_) (f := ?_) (args := ?_) rfl rfl ?_ ?_ ?_
          rotate_left 3
          · intro w2; go_simp; exact ⟨by rfl, by rfl⟩
          · intro w2 hS; refine (sum_any _ _ _ z3 (by omega) (by omega) (by omega)).mono ?_; rintro e w3 ⟨rfl, hb⟩; exact ⟨by rfl, hS.trans (hb.mono hS.size)⟩
          simp only [Act.put, List.setIfInBounds_toArray, List.set_cons_zero, List.set_cons_succ]
          iterate 5
            refine Reg.WT.yield (v := ?_) rfl rfl ?_ ?_
            rotate_left
            · intro w' _ hS; go_simp; (try go_bits); (first | rfl | rw [if_pos (by omega)])
            simp only [Act.put, List.setIfInBounds_toArray, List.set_cons_zero, List.set_cons_succ]
          refine Reg.WT.call (v := ?_) (f := ?_) (args := ?_) rfl rfl ?_ ?_ ?_
          rotate_left 3
          · intro w2; go_simp; exact ⟨by rfl, by rfl⟩
          · intro w2 hS; refine (works_any _).mono ?_; rintro e w3 ⟨rfl, hb⟩; exact ⟨by rfl, hS.trans (hb.mono hS.size)⟩
          simp only [Act.put, List.setIfInBounds_toArray, List.set_cons_zero, List.set_cons_succ]
          iterate 1
            refine Reg.WT.yield (v := ?_) rfl rfl ?_ ?_
            rotate_left
            · intro w' _ hS; go_simp; (try go_bits); (first | rfl | rw [if_pos (by omega)])
            simp only [Act.put, List.setIfInBounds_toArray, List.set_cons_zero, List.set_cons_succ]
          intro w6 hS
          have t6 := below_call (w := w) t5 hS
          go_wp2
          go_returns
          exact ⟨rfl, t6⟩
      · rw [Int.max_eq_right (by omega)] at f1 f2 f3
        by_cases e2 : ya ≤ yb
        · rw [Int.min_eq_left e2] at f1 f2 f3
          obtain ⟨z1, z2⟩ := ha1
          obtain ⟨z3, z4⟩ := ha3
          obtain ⟨z5, z6⟩ := ha2
          obtain ⟨z7, z8⟩ := ha4
          have H1 := hide f1
          have H2 := hide f2
          have H3 := hide f3
          have HA := hide hpa
          have HB := hide hpb
          have hs0 : jn (0, 0) 0 = (0, 0) := by decide
          clear f1 f2 f3 hpa hpb hb hbd'
          go_wp2_with fail
          refine (joined_eq _ l _ _ hr HA.out).mono ?_
          rintro e w2 ⟨rfl, k2⟩
          have t2 := below_call (w := w) (by go_grown) k2
          have s2 := t2.size
          have B2 := Blk.new w2 24 #[.int .i64 xa, .int .i64 ya]
          go_wp2_with fail
          refine (joined_eq _ m _ _ (hr'.below (by go_grown)) HB.out).mono ?_
          rintro e w3 ⟨rfl, k3⟩
          have t3 := below_call (w := w) (by go_grown) k3
          have s3 := t3.size
          have B2' := B2.below k3 (by simp)
          have B3 := Blk.new w3 24 #[.int .i64 xb, .int .i64 yb]
          have l2 := B2'.lt
          have c0 : (w3.alloc (.cells #[.int .i64 xb, .int .i64 yb] 24)).cell? ⟨w2.heap.size, 0, none⟩ = some (.int .i64 xa) := (B2'.alloc _).cell 0
          have c1 : (w3.alloc (.cells #[.int .i64 xb, .int .i64 yb] 24)).cell? ⟨w2.heap.size, 1, none⟩ = some (.int .i64 ya) := (B2'.alloc _).cell 1
          go_wp2_with fail
          refine (both_eq H1.out).mono ?_
          rintro e w4 ⟨rfl, k4⟩
          have t4 := below_call (w := w) (by go_grown) k4
          have s4 := t4.size
          have e2 := (B2'.alloc (.cells #[.int .i64 xb, .int .i64 yb] 24)).below k4 (by simp; have := B2'.lt; omega)
          have e3 := B3.below k4 (by simp)
          have B4 := Blk.new w4 24 #[.int .i64 xb, .int .i64 ya]
          have D2 := e2.alloc (.cells #[.int .i64 xb, .int .i64 ya] 24)
          have D3 := e3.alloc (.cells #[.int .i64 xb, .int .i64 ya] 24)
          have t5 : Below w.heap.size w (w4.alloc (.cells #[.int .i64 xb, .int .i64 ya] 24)) := by go_grown
          have C0 : (w4.alloc (.cells #[.int .i64 xb, .int .i64 ya] 24)).cell? ⟨w2.heap.size, 0, none⟩ = some (.int .i64 xa) := D2.cell 0
          have C1 : (w4.alloc (.cells #[.int .i64 xb, .int .i64 ya] 24)).cell? ⟨w2.heap.size, 1, none⟩ = some (.int .i64 ya) := D2.cell 1
          have C2 : (w4.alloc (.cells #[.int .i64 xb, .int .i64 ya] 24)).cell? ⟨w3.heap.size, 0, none⟩ = some (.int .i64 xb) := D3.cell 0
          have C3 : (w4.alloc (.cells #[.int .i64 xb, .int .i64 ya] 24)).cell? ⟨w3.heap.size, 1, none⟩ = some (.int .i64 yb) := D3.cell 1
          go_wp2_with fail
          generalize w4.alloc (.cells #[.int .i64 xb, .int .i64 ya] 24) = W5 at *
          have E0 := keepc (p := ⟨w2.heap.size, 0, none⟩) D2.lt C0
          have E1 := keepc (p := ⟨w2.heap.size, 1, none⟩) D2.lt C1
          have E2 := keepc (p := ⟨w3.heap.size, 0, none⟩) D3.lt C2
          have E3 := keepc (p := ⟨w3.heap.size, 1, none⟩) D3.lt C3
          have E4 := keepc (p := ⟨w4.heap.size, 0, none⟩) B4.lt (B4.cell 0)
          have E5 := keepc (p := ⟨w4.heap.size, 1, none⟩) B4.lt (B4.cell 1)
          refine Reg.region (by kernel_rfl) 24 [3, 8, 16, 22] (fun _ w' => Below W5.heap.size W5 w') (by kernel_rfl) (by kernel_rfl) (Below.refl _ _).drew ?_
          iterate 3
            refine Reg.WT.yield (v := ?_) rfl rfl ?_ ?_
            rotate_left
            · intro w' _ hS; go_simp; (try go_bits); (first | rfl | rw [if_pos (by omega)])
            simp only [Act.put, List.setIfInBounds_toArray, List.set_cons_zero, List.set_cons_succ]
          refine Reg.WT.call (v := ?_) (f := ?_) (args := ?_) rfl rfl ?_ ?_ ?_
          rotate_left 3
          · intro w2; go_simp; exact ⟨by rfl, by rfl⟩
          · intro w2 hS; refine (both_eq H2.out).mono ?_; rintro e w3 ⟨rfl, hb⟩; exact ⟨by rfl, hS.trans (hb.mono hS.size)⟩
          simp only [Act.put, List.setIfInBounds_toArray, List.set_cons_zero, List.set_cons_succ]
          iterate 4
            refine Reg.WT.yield (v := ?_) rfl rfl ?_ ?_
            rotate_left
            · intro w' _ hS; go_simp; (try go_bits); (first | rfl | rw [if_pos (by omega)])
            simp only [Act.put, List.setIfInBounds_toArray, List.set_cons_zero, List.set_cons_succ]
          refine Reg.WT.call (v := ?_) (f := ?_) (args := ?_) rfl rfl ?_ ?_ ?_
          rotate_left 3
          · intro w2; go_simp; exact ⟨by rfl, by rfl⟩
          · intro w2 hS; refine (both_eq H3.out).mono ?_; rintro e w3 ⟨rfl, hb⟩; exact ⟨by rfl, hS.trans (hb.mono hS.size)⟩
          simp only [Act.put, List.setIfInBounds_toArray, List.set_cons_zero, List.set_cons_succ]
          iterate 7
            refine Reg.WT.yield (v := ?_) rfl rfl ?_ ?_
            rotate_left
            · intro w' _ hS; go_simp; (try go_bits); (first | rfl | rw [if_pos (by omega)])
            simp only [Act.put, List.setIfInBounds_toArray, List.set_cons_zero, List.set_cons_succ]
          refine Reg.WT.call (v := ?_) (f := ?_) (args := ?_) rfl rfl ?_ ?_ ?_
          rotate_left 3
          · intro w2; go_simp; exact ⟨by rfl, by rfl⟩
          · intro w2 hS; refine (sum_any _ _ _ z3 (by omega) (by omega) (by omega)).mono ?_; rintro e w3 ⟨rfl, hb⟩; exact ⟨by rfl, hS.trans (hb.mono hS.size)⟩
          simp only [Act.put, List.setIfInBounds_toArray, List.set_cons_zero, List.set_cons_succ]
          iterate 5
            refine Reg.WT.yield (v := ?_) rfl rfl ?_ ?_
            rotate_left
            · intro w' _ hS; go_simp; (try go_bits); (first | rfl | rw [if_pos (by omega)])
            simp only [Act.put, List.setIfInBounds_toArray, List.set_cons_zero, List.set_cons_succ]
          refine Reg.WT.call (v := ?_) (f := ?_) (args := ?_) rfl rfl ?_ ?_ ?_
          rotate_left 3
          · intro w2; go_simp; exact ⟨by rfl, by rfl⟩
          · intro w2 hS; refine (works_any _).mono ?_; rintro e w3 ⟨rfl, hb⟩; exact ⟨by rfl, hS.trans (hb.mono hS.size)⟩
          simp only [Act.put, List.setIfInBounds_toArray, List.set_cons_zero, List.set_cons_succ]
          iterate 1
            refine Reg.WT.yield (v := ?_) rfl rfl ?_ ?_
            rotate_left
            · intro w' _ hS; go_simp; (try go_bits); (first | rfl | rw [if_pos (by omega)])
            simp only [Act.put, List.setIfInBounds_toArray, List.set_cons_zero, List.set_cons_succ]
          intro w6 hS
          have t6 := below_call (w := w) t5 hS
          go_wp2
          go_returns
          exact ⟨rfl, t6⟩
        · rw [Int.min_eq_right (by omega)] at f1 f2 f3
          obtain ⟨z1, z2⟩ := ha1
          obtain ⟨z3, z4⟩ := ha3
          obtain ⟨z5, z6⟩ := ha2
          obtain ⟨z7, z8⟩ := ha4
          have H1 := hide f1
          have H2 := hide f2
          have H3 := hide f3
          have HA := hide hpa
          have HB := hide hpb
          have hs0 : jn (0, 0) 0 = (0, 0) := by decide
          clear f1 f2 f3 hpa hpb hb hbd'
          go_wp2_with fail
          refine (joined_eq _ l _ _ hr HA.out).mono ?_
          rintro e w2 ⟨rfl, k2⟩
          have t2 := below_call (w := w) (by go_grown) k2
          have s2 := t2.size
          have B2 := Blk.new w2 24 #[.int .i64 xa, .int .i64 ya]
          go_wp2_with fail
          refine (joined_eq _ m _ _ (hr'.below (by go_grown)) HB.out).mono ?_
          rintro e w3 ⟨rfl, k3⟩
          have t3 := below_call (w := w) (by go_grown) k3
          have s3 := t3.size
          have B2' := B2.below k3 (by simp)
          have B3 := Blk.new w3 24 #[.int .i64 xb, .int .i64 yb]
          have l2 := B2'.lt
          have c0 : (w3.alloc (.cells #[.int .i64 xb, .int .i64 yb] 24)).cell? ⟨w2.heap.size, 0, none⟩ = some (.int .i64 xa) := (B2'.alloc _).cell 0
          have c1 : (w3.alloc (.cells #[.int .i64 xb, .int .i64 yb] 24)).cell? ⟨w2.heap.size, 1, none⟩ = some (.int .i64 ya) := (B2'.alloc _).cell 1
          go_wp2_with fail
          refine (both_eq H1.out).mono ?_
          rintro e w4 ⟨rfl, k4⟩
          have t4 := below_call (w := w) (by go_grown) k4
          have s4 := t4.size
          have e2 := (B2'.alloc (.cells #[.int .i64 xb, .int .i64 yb] 24)).below k4 (by simp; have := B2'.lt; omega)
          have e3 := B3.below k4 (by simp)
          have B4 := Blk.new w4 24 #[.int .i64 xb, .int .i64 yb]
          have D2 := e2.alloc (.cells #[.int .i64 xb, .int .i64 yb] 24)
          have D3 := e3.alloc (.cells #[.int .i64 xb, .int .i64 yb] 24)
          have t5 : Below w.heap.size w (w4.alloc (.cells #[.int .i64 xb, .int .i64 yb] 24)) := by go_grown
          have C0 : (w4.alloc (.cells #[.int .i64 xb, .int .i64 yb] 24)).cell? ⟨w2.heap.size, 0, none⟩ = some (.int .i64 xa) := D2.cell 0
          have C1 : (w4.alloc (.cells #[.int .i64 xb, .int .i64 yb] 24)).cell? ⟨w2.heap.size, 1, none⟩ = some (.int .i64 ya) := D2.cell 1
          have C2 : (w4.alloc (.cells #[.int .i64 xb, .int .i64 yb] 24)).cell? ⟨w3.heap.size, 0, none⟩ = some (.int .i64 xb) := D3.cell 0
          have C3 : (w4.alloc (.cells #[.int .i64 xb, .int .i64 yb] 24)).cell? ⟨w3.heap.size, 1, none⟩ = some (.int .i64 yb) := D3.cell 1
          go_wp2_with fail
          generalize w4.alloc (.cells #[.int .i64 xb, .int .i64 yb] 24) = W5 at *
          have E0 := keepc (p := ⟨w2.heap.size, 0, none⟩) D2.lt C0
          have E1 := keepc (p := ⟨w2.heap.size, 1, none⟩) D2.lt C1
          have E2 := keepc (p := ⟨w3.heap.size, 0, none⟩) D3.lt C2
          have E3 := keepc (p := ⟨w3.heap.size, 1, none⟩) D3.lt C3
          have E4 := keepc (p := ⟨w4.heap.size, 0, none⟩) B4.lt (B4.cell 0)
          have E5 := keepc (p := ⟨w4.heap.size, 1, none⟩) B4.lt (B4.cell 1)
          refine Reg.region (by kernel_rfl) 24 [3, 8, 16, 22] (fun _ w' => Below W5.heap.size W5 w') (by kernel_rfl) (by kernel_rfl) (Below.refl _ _).drew ?_
          iterate 3
            refine Reg.WT.yield (v := ?_) rfl rfl ?_ ?_
            rotate_left
            · intro w' _ hS; go_simp; (try go_bits); (first | rfl | rw [if_pos (by omega)])
            simp only [Act.put, List.setIfInBounds_toArray, List.set_cons_zero, List.set_cons_succ]
          refine Reg.WT.call (v := ?_) (f := ?_) (args := ?_) rfl rfl ?_ ?_ ?_
          rotate_left 3
          · intro w2; go_simp; exact ⟨by rfl, by rfl⟩
          · intro w2 hS; refine (both_eq H2.out).mono ?_; rintro e w3 ⟨rfl, hb⟩; exact ⟨by rfl, hS.trans (hb.mono hS.size)⟩
          simp only [Act.put, List.setIfInBounds_toArray, List.set_cons_zero, List.set_cons_succ]
          iterate 4
            refine Reg.WT.yield (v := ?_) rfl rfl ?_ ?_
            rotate_left
            · intro w' _ hS; go_simp; (try go_bits); (first | rfl | rw [if_pos (by omega)])
            simp only [Act.put, List.setIfInBounds_toArray, List.set_cons_zero, List.set_cons_succ]
          refine Reg.WT.call (v := ?_) (f := ?_) (args := ?_) rfl rfl ?_ ?_ ?_
          rotate_left 3
          · intro w2; go_simp; exact ⟨by rfl, by rfl⟩
          · intro w2 hS; refine (both_eq H3.out).mono ?_; rintro e w3 ⟨rfl, hb⟩; exact ⟨by rfl, hS.trans (hb.mono hS.size)⟩
          simp only [Act.put, List.setIfInBounds_toArray, List.set_cons_zero, List.set_cons_succ]
          iterate 7
            refine Reg.WT.yield (v := ?_) rfl rfl ?_ ?_
            rotate_left
            · intro w' _ hS; go_simp; (try go_bits); (first | rfl | rw [if_pos (by omega)])
            simp only [Act.put, List.setIfInBounds_toArray, List.set_cons_zero, List.set_cons_succ]
          refine Reg.WT.call (v := ?_) (f := ?_) (args := ?_) rfl rfl ?_ ?_ ?_
          rotate_left 3
          · intro w2; go_simp; exact ⟨by rfl, by rfl⟩
          · intro w2 hS; refine (sum_any _ _ _ z3 (by omega) (by omega) (by omega)).mono ?_; rintro e w3 ⟨rfl, hb⟩; exact ⟨by rfl, hS.trans (hb.mono hS.size)⟩
          simp only [Act.put, List.setIfInBounds_toArray, List.set_cons_zero, List.set_cons_succ]
          iterate 5
            refine Reg.WT.yield (v := ?_) rfl rfl ?_ ?_
            rotate_left
            · intro w' _ hS; go_simp; (try go_bits); (first | rfl | rw [if_pos (by omega)])
            simp only [Act.put, List.setIfInBounds_toArray, List.set_cons_zero, List.set_cons_succ]
          refine Reg.WT.call (v := ?_) (f := ?_) (args := ?_) rfl rfl ?_ ?_ ?_
          rotate_left 3
          · intro w2; go_simp; exact ⟨by rfl, by rfl⟩
          · intro w2 hS; refine (works_any _).mono ?_; rintro e w3 ⟨rfl, hb⟩; exact ⟨by rfl, hS.trans (hb.mono hS.size)⟩
          simp only [Act.put, List.setIfInBounds_toArray, List.set_cons_zero, List.set_cons_succ]
          iterate 1
            refine Reg.WT.yield (v := ?_) rfl rfl ?_ ?_
            rotate_left
            · intro w' _ hS; go_simp; (try go_bits); (first | rfl | rw [if_pos (by omega)])
            simp only [Act.put, List.setIfInBounds_toArray, List.set_cons_zero, List.set_cons_succ]
          intro w6 hS
          have t6 := below_call (w := w) t5 hS
          go_wp2
          go_returns
          exact ⟨rfl, t6⟩
end Go.Proofs.Ytgljpedmmmnhbaa
