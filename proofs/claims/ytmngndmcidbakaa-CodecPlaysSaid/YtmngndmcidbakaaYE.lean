/- Walks: Put; same; copied. -/
import Derived.Test.YtmngndmcidbakaaYD
import Derived.Test.YtmngndmcidbakaaYC
namespace Go.Proofs.Ytmngndmcidbakaa
open Go.RowKit

theorem run_make0 {P : Program} (t e : TypeId) {i : TypeInfo} {z z1 : Value} (ht : P.underlying t = some (.slice e)) (hi : P.info? e = some i) (hz : i.zero = some z) (h1 : i.size = 1) (hz1 : z.cells = #[z1])
    {by_ : Nat} (hb : i.bytes = by_) (n : Nat) (hn : by_ * n ≤ 281474976710656) (hn2 : n ≤ 9223372036854775807) (w : World) :
    (Instr.makeSlice t (.int .i64 0) (.int .i64 (n : Int))).run P w = .ok (.slice (some ⟨w.heap.size, 0, none⟩) 0 n) (w.alloc (.cells (List.replicate n z1).toArray e)) := by
  have h2 : (i.bytes : Int) * (n : Int) ≤ 281474976710656 := by
    rw [hb, ← Int.natCast_mul]; omega
  have hr := run_make (P := P) w t e i z ht hi hz .i64 .i64 0 n (by omega) (by omega) h2 (by omega)
  simp only [Int.toNat_natCast] at hr
  rw [hr, h1, hz1, Nat.mul_one]
  have : madeCells #[z1] n = (List.replicate n z1).toArray := by
    apply Array.toList_inj.1
    rw [toList_madeCells_one]
  rw [this]
  rfl
theorem bcopied_any (a : Option Addr) (l : List Int) (c : Nat) (w : World) (hr : BRow w a l) (hL : l.length ≤ 100000000) : Calls Try.prog 11 #[.slice a l.length c] w fun r w' => ∃ v, r = .returned v ∧ BOwn w' w.heap.size v l ∧ Below w.heap.size w w' := by
  obtain ⟨i0, hi, hz0, hz1, hz2⟩ := info_parts info5
  obtain ⟨w1, hw1⟩ : ∃ w1, w1 = w.alloc (.cells #[] 5) := ⟨_, rfl⟩
  have HO := hide (hw1 ▸ World.ownsRow_made (base := w.heap.size) (e := 5) (size := 1) w #[] 0 (Nat.le_refl _) (Nat.zero_le _) rfl : w1.ownsRow w.heap.size 5 1 (.slice (some ⟨w.heap.size, 0, none⟩) 0 0) 0 [])
  have t1 := hide (hw1 ▸ (Below.refl _ _).alloc (Nat.le_refl _) _ : Below w.heap.size w w1)
  have HR := hide (hr.below t1.out)
  have HW := hide hw1
  clear hr hw1
  go_enter Try.func11, Try.ntmps11
  go_wp2_with (at_builtin; (try rw [← HW.out]); refine wpList_append_row rfl _ _ 22 rfl w.heap.size 5 i0 (.int .u8 0) 1 Try.underlying22 hi hz0 hz1 hz2 rfl _ _ _ rfl HO.out a l.length c (bys l) rfl HR.out (bys_len l) (bys_one l) ?c1 ?c2 t1.out.size ?_)
  case c1 => unfold maxLen; omega
  case c2 => omega
  intro v' w2 hown' hgrow _
  (try simp only [List.nil_append, Nat.zero_add] at hown')
  have H2 : Hid (BOwn w2 w.heap.size v' l) := hide hown'
  have HB := hide (below_grown (a := w) t1.out hgrow (fun k h => by simp [Value.ownBlock] at h; omega))
  clear hown' hgrow
  go_wp2_with fail
  go_returns
  exact ⟨_, rfl, H2.out, HB.out⟩
set_option maxRecDepth 100000 in
set_option maxHeartbeats 2000000 in
/-- The same bytes? -/
theorem bsame_any (a b : Option Addr) (l m : List Int) (c d : Nat) (w : World) (ha : BRow w a l) (hb : BRow w b m) (hl : l.length ≤ 100000000) (hm : m.length ≤ 100000000) :
    Calls Try.prog 13 #[.slice a l.length c, .slice b m.length d] w fun r w' => r = .returned (.bool (decide (l = m))) ∧ Below w.heap.size w w' := by
  have HA := hide ha
  have HB := hide hb
  clear ha hb
  go_enter Try.func13, Try.ntmps13
  by_cases hlm : l.length = m.length
  · have d0 : ((l.length : Int) == (m.length : Int)) = true := by rw [beq_iff_eq]; omega
    have d1 : ((l.length : Int) != (m.length : Int)) = false := by simp [bne, d0]
    have HLM := hide hlm
    clear hlm
    go_wp2_with fail
    clear d0 d1
    go_loopw [5] (fun iv wr => ∃ i : Nat, i ≤ l.length ∧ iv = .int .i64 i ∧ Hid (∀ j (h1 : j < l.length) (h2 : j < m.length), j < i → l[j] = m[j]) ∧ Below w.heap.size w wr) (fun iv _ => l.length - (intOf iv).toNat)
    case atStart => exact ⟨0, Nat.zero_le _, rfl, hide (fun j h1 h2 h3 => by omega), Below.refl _ _⟩
    case round =>
      obtain ⟨i, hi, rfl, HE, hb⟩ := hrel
      have t := hide hb
      clear hb
      by_cases hlt : i < l.length
      · have hltm : i < m.length := by have := HLM.out; omega
        obtain ⟨b1, o1, rfl, hb1, hc1⟩ := b_at (HA.out.below t.out) (by omega)
        obtain ⟨b2, o2, rfl, hb2, hc2⟩ := b_at (HB.out.below t.out) (by omega)
        have x0 := hc1 i hlt
        have y0 := hc2 i hltm
        have HN : Hid (l[i] = m[i] → ∀ j (h1 : j < l.length) (h2 : j < m.length), j < i + 1 → l[j] = m[j]) := hide (fun e j h1 h2 h3 => by
          by_cases hj : j = i
          · subst hj; exact e
          · exact HE.out j h1 h2 (by omega))
        have HX : Hid (l[i] ≠ m[i] → l ≠ m) := hide (fun h e => by subst e; exact h rfl)
        clear hc1 hc2 HE
        generalize l[i] = x at x0 HN HX
        generalize m[i] = y at y0 HN HX
        go_upto_region 6 with fail
        have r0 := keepd x0
        have r1 := keepd y0
        clear x0 y0
        by_cases hxy : x = y
        · have HN2 := hide (HN.out hxy)
          subst hxy
          refine Reg.region (by kernel_rfl) 9 [] (fun _ w' => w' = wr.drew) (by kernel_rfl) (by kernel_rfl) rfl ?_
          iterate 9
            refine Reg.WT.yield (v := ?_) rfl rfl ?_ ?_
            rotate_left
            · intro w' _ hS; go_simp; (try go_bits); (first | rfl | rw [if_pos (by omega)])
            simp only [Act.put, List.setIfInBounds_toArray, List.set_cons_zero, List.set_cons_succ]
          intro w2 hS
          subst hS
          clear r0 r1
          go_wp2_with fail
          go_roundw
          case rel => exact ⟨i + 1, hlt, by go_num, HN2, t.out.drew⟩
          case measure => simp [intOf]; omega
        · have d0 : (x == y) = false := by simpa using hxy
          have d1 : (x != y) = true := by simpa using hxy
          have HD : Hid (decide (l = m) = false) := hide (decide_eq_false (HX.out hxy))
          clear hxy
          refine Reg.region (by kernel_rfl) 9 [] (fun _ w' => w' = wr.drew) (by kernel_rfl) (by kernel_rfl) rfl ?_
          iterate 9
            refine Reg.WT.yield (v := ?_) rfl rfl ?_ ?_
            rotate_left
            · intro w' _ hS; go_simp; (try go_bits); (first | rfl | rw [if_pos (by omega)])
            simp only [Act.put, List.setIfInBounds_toArray, List.set_cons_zero, List.set_cons_succ]
          intro w2 hS
          subst hS
          clear r0 r1
          go_wp2_with fail
          go_returns
          exact ⟨by rw [HD.out]; rfl, t.out.drew⟩
      · have HD : Hid (decide (l = m) = true) := hide (decide_eq_true (List.ext_getElem HLM.out fun j h1 h2 => HE.out j h1 h2 (by omega)))
        go_wp2_with fail
        go_returns
        exact ⟨by rw [HD.out]; rfl, t.out⟩
  · have d0 : ((l.length : Int) == (m.length : Int)) = false := by rw [beq_eq_false_iff_ne]; omega
    have d1 : ((l.length : Int) != (m.length : Int)) = true := by simp [bne, d0]
    have HD : Hid (decide (l = m) = false) := hide (decide_eq_false (fun e => hlm (by rw [e])))
    clear hlm
    go_wp2_with fail
    go_returns
    exact ⟨by rw [HD.out]; rfl, Below.refl _ _⟩
set_option maxRecDepth 100000 in
set_option maxHeartbeats 2000000 in
theorem put_any (a : Option Addr) (l : List Int) (c : Nat) (n : Int) (w : World) (hr : BRow w a l) (hL : l.length ≤ 10000000) (hn : -9223372036854775808 ≤ n ∧ n ≤ 9223372036854775807) :
    Calls Try.prog 9 #[.slice a l.length c, .int .i64 n] w fun r w' => ∃ v, r = .returned v ∧ BOwn w' w.heap.size v (l ++ num n) ∧ Below w.heap.size w w' := by
  obtain ⟨i0, hi, hz0, hz1, hz2⟩ := info_parts info5
  obtain ⟨N, hN⟩ : ∃ N : Nat, N = l.length + 9 := ⟨_, rfl⟩
  have eN : ((l.length : Int) + 9) = (N : Int) := by omega
  have hmk := fun W => run_make0 (P := Try.prog) 22 5 Try.underlying22 hi hz0 hz1 rfl hz2 N (by omega) (by omega) W
  obtain ⟨w1, hw1⟩ : ∃ w1, w1 = w.alloc (.cells (Array.replicate N (.int .u8 0)) 5) := ⟨_, rfl⟩
  have HO := hide (hw1 ▸ World.ownsRow_made (base := w.heap.size) (e := 5) (size := 1) w (Array.replicate N (.int .u8 0)) N (Nat.le_refl _) (by unfold maxLen; omega) (by simp) : w1.ownsRow w.heap.size 5 1 (.slice (some ⟨w.heap.size, 0, none⟩) 0 N) 0 [])
  have t1 := hide (hw1 ▸ (Below.refl _ _).alloc (Nat.le_refl _) _ : Below w.heap.size w w1)
  have HR := hide (hr.below t1.out)
  have HW := hide hw1
  clear hr hw1 hN
  go_enter Try.func9, Try.ntmps9
  go_wp2_with (at_builtin; (try rw [← HW.out]); refine wpList_append_row rfl _ _ 22 rfl w.heap.size 5 i0 (.int .u8 0) 1 Try.underlying22 hi hz0 hz1 hz2 rfl _ _ _ rfl HO.out a l.length c (bys l) rfl HR.out (bys_len l) (bys_one l) ?c1 ?c2 t1.out.size ?_)
  case c1 => unfold maxLen; omega
  case c2 => omega
  intro v' w2 hown' hgrow _
  (try simp only [List.nil_append, Nat.zero_add] at hown')
  have H2 : BOwn w2 w.heap.size v' l := hown'
  have HB := hide (below_grown (a := w) t1.out hgrow (fun k h => by simp [Value.ownBlock] at h; omega))
  obtain ⟨a2, c2, rfl, _, _, _⟩ := H2.row
  have H2 := hide H2
  clear hown' hgrow hmk
  go_wp2_with fail
  refine (number_any w.heap.size l a2 c2 n w2 H2.out HB.out.size (by omega) hn).mono ?_
  rintro r w3 ⟨v3, rfl, hO3, hg3, _⟩
  have t3 := hide (below_grown (a := w) HB.out hg3 (fun k h => (H2.out.lt k h).1))
  have O3 := hide hO3
  clear hO3 hg3
  go_wp2_with fail
  go_returns
  exact ⟨_, rfl, O3.out, t3.out⟩
end Go.Proofs.Ytmngndmcidbakaa
