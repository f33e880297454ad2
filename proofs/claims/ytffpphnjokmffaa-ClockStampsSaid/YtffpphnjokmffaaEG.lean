/- Walk: first. -/
import Derived.Test.YtffpphnjokmffaaEF
namespace Go.Proofs.Ytffpphnjokmffaa
open Go.RowKit Go.Maps

theorem racy_of {e : Nat → Ev} {i j : Nat} (hij : i < j) (hpi : 5 ≤ (e i).k) (hpj : 5 ≤ (e j).k) (hc : (e i).c = (e j).c) (hw : (e i).k = 6 ∨ (e j).k = 6) (hb : ¬ stamp e i (e i).w ≤ stamp e j (e i).w) : Racy e i j := by
  refine ⟨hij, ?_, fun h => hb ((before_iff hij).1 h)⟩
  unfold meetE plE
  rcases hw with h | h <;> simp [hc, h, hpi, hpj] <;> omega
theorem racy_parts {e : Nat → Ev} {i j : Nat} (h : Racy e i j) : i < j ∧ 5 ≤ (e i).k ∧ 5 ≤ (e j).k ∧ (e i).c = (e j).c ∧ ((e i).k = 6 ∨ (e j).k = 6) ∧ ¬ stamp e i (e i).w ≤ stamp e j (e i).w := by
  obtain ⟨hij, hm, hn⟩ := h
  unfold meetE plE at hm
  simp only [Bool.and_eq_true, Bool.or_eq_true, beq_iff_eq, decide_eq_true_eq] at hm
  obtain ⟨⟨⟨h1, h2⟩, h3⟩, h4⟩ := hm
  exact ⟨hij, h1, h2, h3, h4, fun h => hn ((before_iff hij).2 h)⟩
set_option maxRecDepth 100000 in
set_option maxHeartbeats 4000000 in
theorem first_any (a : Option Addr) (l : List Ev) (c : Nat) (A : Option Addr) (d n : Nat) (j : Nat) (w : World) (hr : ERow w a l) (hok : ∀ x ∈ l, EvOk n x) (hT : TRow w A (gl l) n l.length) (hj : j < l.length) (hL : l.length ≤ 65536) (hn : n ≤ 65) (hex : ∃ i, Racy (gl l) i j) :
    Calls Try.prog 28 #[.slice a l.length c, .slice A l.length d, .int .i64 j] w fun r w' => ∃ i : Nat, r = .returned (.int .i64 i) ∧ Racy (gl l) i j ∧ (∀ i', i' < i → ¬ Racy (gl l) i' j) ∧ Below w.heap.size w w' := by
  obtain ⟨b, off, rfl, hb, hc⟩ := e_at hr (by omega)
  obtain ⟨x0, x1, x2⟩ := hc j hj
  have hgj := gl_at hj
  have HGJ := hide hgj
  have HOK := hide hok
  have HEX := hide hex
  have HR := hide hr
  have HT := hide hT
  have hpj : 5 ≤ (gl l j).k := by obtain ⟨i, hi⟩ := hex; exact (racy_parts hi).2.2.1
  rw [hgj] at hpj
  obtain ⟨_, _, q1, q2⟩ := hok _ (List.getElem_mem hj)
  clear hc hok hex hgj hr hT
  generalize l[j] = z at x0 x1 x2 HGJ hpj q1 q2
  obtain ⟨bw, bk, bc⟩ := z
  dsimp only at x0 x1 x2 hpj q1 q2
  obtain ⟨w1, hw1⟩ : ∃ w1, w1 = w.alloc (.cells #[.int .u8 bk, .int .i64 bc] 46) := ⟨_, rfl⟩
  have B1 := hide (hw1 ▸ Blk.new w _ _ : Blk w1 w.heap.size 46 #[.int .u8 bk, .int .i64 bc])
  have t1 := hide (hw1 ▸ (Below.refl _ _).alloc (Nat.le_refl _) _ : Below w.heap.size w w1)
  have HW1 := hide hw1
  clear hw1
  go_enter Try.func28, Try.ntmps28
  go_upto_region 2 with fail
  rw [← HW1.out]
  clear HW1 x0 x1 x2
  go_wp2_with fail
  go_loopw [16] (fun iv wr => ∃ i : Nat, i ≤ j ∧ iv = .int .i64 i ∧ (Blk wr w.heap.size 46 #[.int .u8 bk, .int .i64 bc] ∧ Below w.heap.size w wr) ∧ Hid (∀ i', i' < i → ¬ Racy (gl l) i' j)) (fun iv _ => j - (intOf iv).toNat)
  case atStart => exact ⟨0, Nat.zero_le _, rfl, ⟨B1.out, t1.out⟩, hide (fun i' h => by omega)⟩
  case round =>
    clear B1 t1
    obtain ⟨i, hi, rfl, ⟨hB, hbel⟩, hno⟩ := hrel
    have t := hide hbel
    have B := hide hB
    clear hbel hB
    by_cases hlt : i < j
    · have hil : i < l.length := by omega
      obtain ⟨b', off', hab, hbw, hc⟩ := e_at (HR.out.below t.out) (by omega)
      obtain ⟨rfl, rfl⟩ : b = b' ∧ off = off' := by simpa using hab
      obtain ⟨x0, x1, x2⟩ := hc i hil
      have HGI := hide (gl_at hil)
      obtain ⟨_, _, k1, k2⟩ := HOK.out _ (List.getElem_mem hil)
      clear hc hab
      generalize l[i] = z at x0 x1 x2 HGI k1 k2
      obtain ⟨zw, zk, zc⟩ := z
      dsimp only at x0 x1 x2 k1 k2
      obtain ⟨w3, hw3⟩ : ∃ w3, w3 = wr.alloc (.cells #[.int .u8 zk, .int .i64 zc] 46) := ⟨_, rfl⟩
      have a3 : Below wr.heap.size wr w3 := hw3 ▸ (Below.refl _ _).alloc (Nat.le_refl _) _
      have B3 := hide (B.out.below a3 B.out.lt)
      have B4 := hide (hw3 ▸ Blk.new wr _ _ : Blk w3 wr.heap.size 46 #[.int .u8 zk, .int .i64 zc])
      have t3 := hide (below_call (w := w) t.out a3)
      obtain ⟨ab, hab⟩ : ∃ ab, ab = wr.heap.size := ⟨_, rfl⟩
      go_upto_region 6 with fail
      rw [← hw3]
      rw [← hab] at B4 ⊢
      clear hw3 hab a3 B t x0 x1 x2
      have y4 : w3.cell? ⟨ab, 0, none⟩ = some (.int .u8 zk) := B4.out.cell 0
      have y5 : w3.cell? ⟨ab, 1, none⟩ = some (.int .i64 zc) := B4.out.cell 1
      by_cases hp : 5 ≤ zk
      · by_cases hcc : zc = bc
        · have bcc : (zc == bc) = true := by rw [beq_iff_eq]; exact hcc
          have HCC := hide hcc
          clear hcc
          by_cases hww : zk = 6 ∨ bk = 6
          · have HB := hide (fun W hb => before_in (some ⟨b, off, none⟩) l c A d n i j W (HR.out.below hb) HOK.out (HT.out.below hb) hlt hj hL hn)
            by_cases hst : stamp (gl l) i (gl l i).w ≤ stamp (gl l) j (gl l i).w
            · have HNO : Hid (¬ (5 ≤ (gl l i).k ∧ (gl l i).c = (gl l j).c ∧ ((gl l i).k = 6 ∨ (gl l j).k = 6) ∧ ¬ stamp (gl l) i (gl l i).w ≤ stamp (gl l) j (gl l i).w)) := hide (fun h => h.2.2.2 hst)
              rw [decide_eq_true hst] at HB
              clear hst
              have bp : decide (5 ≤ zk) = true := decide_eq_true hp
              have HWWW := hide hww
              clear hww
              by_cases h6 : zk = 6
              · have b6 : (zk == 6) = true := by rw [beq_iff_eq]; exact h6
                clear h6
                go_wp2_with fail
                refine (plain_any zk zc _ ⟨k1, k2⟩).mono ?_
                rintro r w4 ⟨rfl, k4⟩
                have a4 := hide (B3.out.below k4 B3.out.lt)
                have e4 := hide (B4.out.below k4 B4.out.lt)
                have t4 := hide (below_call (w := w) t3.out k4)
                clear k4 B3 B4 t3
                have y0 : w4.cell? ⟨w.heap.size, 0, none⟩ = some (.int .u8 bk) := a4.out.cell 0
                have y1 : w4.cell? ⟨w.heap.size, 1, none⟩ = some (.int .i64 bc) := a4.out.cell 1
                have y2 : w4.cell? ⟨ab, 0, none⟩ = some (.int .u8 zk) := e4.out.cell 0
                have y3 : w4.cell? ⟨ab, 1, none⟩ = some (.int .i64 zc) := e4.out.cell 1
                go_wp2_with fail
                refine (HB.out w4 t4.out).mono ?_
                rintro r w5 ⟨rfl, k5⟩
                clear y0 y1 y2 y3
                have t5 := hide (below_call (w := w) t4.out k5)
                have a5 := hide (a4.out.below k5 a4.out.lt)
                clear k5
                go_wp2_with fail
                go_roundw
                case rel => exact ⟨i + 1, by omega, by go_num, ⟨a5.out, t5.out⟩, hide (fun i' hi' hr' => by
                  by_cases hie : i' = i
                  · subst hie
                    obtain ⟨_, g1, g2, g3, g4, g5⟩ := racy_parts hr'
                    exact HNO.out ⟨g1, g3, g4, g5⟩
                  · exact hno.out i' (by omega) hr')⟩
                case measure => simp [intOf]; omega
              · have b6 : (zk == 6) = false := by rw [beq_eq_false_iff_ne]; exact h6
                have c6 : (bk == 6) = true := by rw [beq_iff_eq]; exact HWWW.out.resolve_left h6
                clear h6
                go_wp2_with fail
                refine (plain_any zk zc _ ⟨k1, k2⟩).mono ?_
                rintro r w4 ⟨rfl, k4⟩
                have a4 := hide (B3.out.below k4 B3.out.lt)
                have e4 := hide (B4.out.below k4 B4.out.lt)
                have t4 := hide (below_call (w := w) t3.out k4)
                clear k4 B3 B4 t3
                have y0 : w4.cell? ⟨w.heap.size, 0, none⟩ = some (.int .u8 bk) := a4.out.cell 0
                have y1 : w4.cell? ⟨w.heap.size, 1, none⟩ = some (.int .i64 bc) := a4.out.cell 1
                have y2 : w4.cell? ⟨ab, 0, none⟩ = some (.int .u8 zk) := e4.out.cell 0
                have y3 : w4.cell? ⟨ab, 1, none⟩ = some (.int .i64 zc) := e4.out.cell 1
                go_wp2_with fail
                refine (HB.out w4 t4.out).mono ?_
                rintro r w5 ⟨rfl, k5⟩
                clear y0 y1 y2 y3
                have t5 := hide (below_call (w := w) t4.out k5)
                have a5 := hide (a4.out.below k5 a4.out.lt)
                clear k5
                go_wp2_with fail
                go_roundw
                case rel => exact ⟨i + 1, by omega, by go_num, ⟨a5.out, t5.out⟩, hide (fun i' hi' hr' => by
                  by_cases hie : i' = i
                  · subst hie
                    obtain ⟨_, g1, g2, g3, g4, g5⟩ := racy_parts hr'
                    exact HNO.out ⟨g1, g3, g4, g5⟩
                  · exact hno.out i' (by omega) hr')⟩
                case measure => simp [intOf]; omega
            · have HRC := hide (racy_of (e := gl l) hlt (by rw [HGI.out]; exact hp) (by rw [HGJ.out]; exact hpj) (by rw [HGI.out, HGJ.out]; exact HCC.out) (by rw [HGI.out, HGJ.out]; exact hww) hst)
              rw [decide_eq_false hst] at HB
              clear hst
              have bp : decide (5 ≤ zk) = true := decide_eq_true hp
              have HWWW := hide hww
              clear hww
              by_cases h6 : zk = 6
              · have b6 : (zk == 6) = true := by rw [beq_iff_eq]; exact h6
                clear h6
                go_wp2_with fail
                refine (plain_any zk zc _ ⟨k1, k2⟩).mono ?_
                rintro r w4 ⟨rfl, k4⟩
                have a4 := hide (B3.out.below k4 B3.out.lt)
                have e4 := hide (B4.out.below k4 B4.out.lt)
                have t4 := hide (below_call (w := w) t3.out k4)
                clear k4 B3 B4 t3
                have y0 : w4.cell? ⟨w.heap.size, 0, none⟩ = some (.int .u8 bk) := a4.out.cell 0
                have y1 : w4.cell? ⟨w.heap.size, 1, none⟩ = some (.int .i64 bc) := a4.out.cell 1
                have y2 : w4.cell? ⟨ab, 0, none⟩ = some (.int .u8 zk) := e4.out.cell 0
                have y3 : w4.cell? ⟨ab, 1, none⟩ = some (.int .i64 zc) := e4.out.cell 1
                go_wp2_with fail
                refine (HB.out w4 t4.out).mono ?_
                rintro r w5 ⟨rfl, k5⟩
                clear y0 y1 y2 y3
                have t5 := hide (below_call (w := w) t4.out k5)
                clear k5
                go_wp2_with fail
                go_returns
                exact ⟨i, rfl, HRC.out, hno.out, t5.out⟩
              · have b6 : (zk == 6) = false := by rw [beq_eq_false_iff_ne]; exact h6
                have c6 : (bk == 6) = true := by rw [beq_iff_eq]; exact HWWW.out.resolve_left h6
                clear h6
                go_wp2_with fail
                refine (plain_any zk zc _ ⟨k1, k2⟩).mono ?_
                rintro r w4 ⟨rfl, k4⟩
                have a4 := hide (B3.out.below k4 B3.out.lt)
                have e4 := hide (B4.out.below k4 B4.out.lt)
                have t4 := hide (below_call (w := w) t3.out k4)
                clear k4 B3 B4 t3
                have y0 : w4.cell? ⟨w.heap.size, 0, none⟩ = some (.int .u8 bk) := a4.out.cell 0
                have y1 : w4.cell? ⟨w.heap.size, 1, none⟩ = some (.int .i64 bc) := a4.out.cell 1
                have y2 : w4.cell? ⟨ab, 0, none⟩ = some (.int .u8 zk) := e4.out.cell 0
                have y3 : w4.cell? ⟨ab, 1, none⟩ = some (.int .i64 zc) := e4.out.cell 1
                go_wp2_with fail
                refine (HB.out w4 t4.out).mono ?_
                rintro r w5 ⟨rfl, k5⟩
                clear y0 y1 y2 y3
                have t5 := hide (below_call (w := w) t4.out k5)
                clear k5
                go_wp2_with fail
                go_returns
                exact ⟨i, rfl, HRC.out, hno.out, t5.out⟩
          · have HNO : Hid (¬ (5 ≤ (gl l i).k ∧ (gl l i).c = (gl l j).c ∧ ((gl l i).k = 6 ∨ (gl l j).k = 6) ∧ ¬ stamp (gl l) i (gl l i).w ≤ stamp (gl l) j (gl l i).w)) := hide (fun h => hww (by have := h.2.2.1; rw [HGI.out, HGJ.out] at this; exact this))
            have b6 : (zk == 6) = false := by rw [beq_eq_false_iff_ne]; exact fun h => hww (.inl h)
            have c6 : (bk == 6) = false := by rw [beq_eq_false_iff_ne]; exact fun h => hww (.inr h)
            have bp : decide (5 ≤ zk) = true := decide_eq_true hp
            clear hww
            go_wp2_with fail
            refine (plain_any zk zc _ ⟨k1, k2⟩).mono ?_
            rintro r w4 ⟨rfl, k4⟩
            have a4 := hide (B3.out.below k4 B3.out.lt)
            have e4 := hide (B4.out.below k4 B4.out.lt)
            have t4 := hide (below_call (w := w) t3.out k4)
            clear k4 B3 B4 t3
            have y0 : w4.cell? ⟨w.heap.size, 0, none⟩ = some (.int .u8 bk) := a4.out.cell 0
            have y1 : w4.cell? ⟨w.heap.size, 1, none⟩ = some (.int .i64 bc) := a4.out.cell 1
            have y2 : w4.cell? ⟨ab, 0, none⟩ = some (.int .u8 zk) := e4.out.cell 0
            have y3 : w4.cell? ⟨ab, 1, none⟩ = some (.int .i64 zc) := e4.out.cell 1
            go_wp2_with fail
            go_roundw
            case rel => exact ⟨i + 1, by omega, by go_num, ⟨a4.out, t4.out⟩, hide (fun i' hi' hr' => by
              by_cases hie : i' = i
              · subst hie
                obtain ⟨_, g1, g2, g3, g4, g5⟩ := racy_parts hr'
                exact HNO.out ⟨g1, g3, g4, g5⟩
              · exact hno.out i' (by omega) hr')⟩
            case measure => simp [intOf]; omega
        · have HNO : Hid (¬ (5 ≤ (gl l i).k ∧ (gl l i).c = (gl l j).c ∧ ((gl l i).k = 6 ∨ (gl l j).k = 6) ∧ ¬ stamp (gl l) i (gl l i).w ≤ stamp (gl l) j (gl l i).w)) := hide (fun h => hcc (by have := h.2.1; rw [HGI.out, HGJ.out] at this; exact this))
          have bcc : (zc == bc) = false := by rw [beq_eq_false_iff_ne]; exact hcc
          have bp : decide (5 ≤ zk) = true := decide_eq_true hp
          clear hcc
          go_wp2_with fail
          refine (plain_any zk zc _ ⟨k1, k2⟩).mono ?_
          rintro r w4 ⟨rfl, k4⟩
          have a4 := hide (B3.out.below k4 B3.out.lt)
          have e4 := hide (B4.out.below k4 B4.out.lt)
          have t4 := hide (below_call (w := w) t3.out k4)
          clear k4 B3 B4 t3
          have y0 : w4.cell? ⟨w.heap.size, 0, none⟩ = some (.int .u8 bk) := a4.out.cell 0
          have y1 : w4.cell? ⟨w.heap.size, 1, none⟩ = some (.int .i64 bc) := a4.out.cell 1
          have y2 : w4.cell? ⟨ab, 0, none⟩ = some (.int .u8 zk) := e4.out.cell 0
          have y3 : w4.cell? ⟨ab, 1, none⟩ = some (.int .i64 zc) := e4.out.cell 1
          go_wp2_with fail
          go_roundw
          case rel => exact ⟨i + 1, by omega, by go_num, ⟨a4.out, t4.out⟩, hide (fun i' hi' hr' => by
            by_cases hie : i' = i
            · subst hie
              obtain ⟨_, g1, g2, g3, g4, g5⟩ := racy_parts hr'
              exact HNO.out ⟨g1, g3, g4, g5⟩
            · exact hno.out i' (by omega) hr')⟩
          case measure => simp [intOf]; omega
      · have HNO : Hid (¬ (5 ≤ (gl l i).k ∧ (gl l i).c = (gl l j).c ∧ ((gl l i).k = 6 ∨ (gl l j).k = 6) ∧ ¬ stamp (gl l) i (gl l i).w ≤ stamp (gl l) j (gl l i).w)) := hide (fun h => hp (by have := h.1; rw [HGI.out] at this; exact this))
        have bp : decide (5 ≤ zk) = false := decide_eq_false hp
        go_wp2_with fail
        refine (plain_any zk zc _ ⟨k1, k2⟩).mono ?_
        rintro r w4 ⟨rfl, k4⟩
        have a4 := hide (B3.out.below k4 B3.out.lt)
        have e4 := hide (B4.out.below k4 B4.out.lt)
        have t4 := hide (below_call (w := w) t3.out k4)
        clear k4 B3 B4 t3
        have y0 : w4.cell? ⟨w.heap.size, 0, none⟩ = some (.int .u8 bk) := a4.out.cell 0
        have y1 : w4.cell? ⟨w.heap.size, 1, none⟩ = some (.int .i64 bc) := a4.out.cell 1
        have y2 : w4.cell? ⟨ab, 0, none⟩ = some (.int .u8 zk) := e4.out.cell 0
        have y3 : w4.cell? ⟨ab, 1, none⟩ = some (.int .i64 zc) := e4.out.cell 1
        go_wp2_with fail
        go_roundw
        case rel => exact ⟨i + 1, by omega, by go_num, ⟨a4.out, t4.out⟩, hide (fun i' hi' hr' => by
          by_cases hie : i' = i
          · subst hie
            obtain ⟨_, g1, g2, g3, g4, g5⟩ := racy_parts hr'
            exact HNO.out ⟨g1, g3, g4, g5⟩
          · exact hno.out i' (by omega) hr')⟩
        case measure => simp [intOf]; omega
    · exfalso
      obtain ⟨i0, hi0⟩ := HEX.out
      exact hno.out i0 (by have := hi0.1; omega) hi0
end Go.Proofs.Ytffpphnjokmffaa
