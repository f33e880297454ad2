/- Walk: the reference's Stamps. -/
import Derived.Test.YtffpphnjokmffaaEY
namespace Go.Proofs.Ytffpphnjokmffaa
open Go.RowKit Go.Maps

theorem cntH_le (e : Nat → Ev) (j : Nat) (w : Int) : ∀ m, cntH e j w m ≤ m
  | 0 => Nat.le_refl _
  | m + 1 => by rw [cntH]; have := cntH_le e j w m; split <;> omega
noncomputable def cntRow (e : Nat → Ev) (n j i : Nat) : List Int := (List.range n).map fun (v : Nat) => ((cntH e j (v : Int) i : Nat) : Int)
theorem cntRow_len (e : Nat → Ev) (n j i : Nat) : (cntRow e n j i).length = n := by simp [cntRow]
theorem cntRow_zero (e : Nat → Ev) (n j : Nat) : cntRow e n j 0 = List.replicate n 0 := by
  unfold cntRow
  rw [show (fun (v : Nat) => ((cntH e j (v : Int) 0 : Nat) : Int)) = fun _ => 0 from by funext v; rfl, List.map_const', List.length_range]
theorem cntRow_full (e : Nat → Ev) (n j : Nat) : cntRow e n j (j + 1) = stRow e n j := by
  unfold cntRow stRow
  apply List.map_congr_left
  intro v _
  rw [cntH_stamp]
theorem cntRow_no {e : Nat → Ev} {n j i : Nat} (h : ¬ Le e i j) : cntRow e n j (i + 1) = cntRow e n j i := by
  unfold cntRow
  apply List.map_congr_left
  intro v _
  rw [cntH, if_neg (fun hc => h hc.2)]; rfl
theorem cntRow_at {e : Nat → Ev} {n j i v : Nat} (h : v < (cntRow e n j i).length) : (cntRow e n j i)[v] = ((cntH e j (v : Int) i : Nat) : Int) := by
  simp [cntRow]
theorem cntRow_yes {e : Nat → Ev} {n j i v : Nat} (h : Le e i j) (hv : (e i).w = (v : Int)) (hl : v < (cntRow e n j i).length) : (cntRow e n j i).set v ((cntRow e n j i)[v] + 1) = cntRow e n j (i + 1) := by
  apply List.ext_getElem
  · rw [List.length_set, cntRow_len, cntRow_len]
  · intro u h1 h2
    rw [List.getElem_set]
    split
    · next e1 =>
      subst e1
      rw [cntRow_at, cntRow_at, cntH, if_pos ⟨hv, h⟩]; rfl
    · next e1 =>
      rw [cntRow_at, cntRow_at, cntH, if_neg (fun hc => e1 (by have := hc.1; omega))]; rfl
def obsS (O0 n j : Nat) : List (Nat × Nat) := (List.range j).map fun v => (O0 + 1 + v, n)
theorem obsS_len (O0 n j : Nat) : (obsS O0 n j).length = j := by simp [obsS]
theorem obsS_succ (O0 n j : Nat) : obsS O0 n (j + 1) = obsS O0 n j ++ [(O0 + 1 + j, n)] := by simp [obsS, List.range_succ]
theorem obsS_at {O0 n j v : Nat} (h : v < (obsS O0 n j).length) : (obsS O0 n j)[v] = (O0 + 1 + v, n) := by simp [obsS]
theorem outS_set {O0 n L j : Nat} (h : j < L) : (outCells n L (obsS O0 n j)).set j (.slice (some ⟨O0 + 1 + j, 0, none⟩) n n) = outCells n L (obsS O0 n (j + 1)) := by
  have := out_set (n := n) (L := L) (obs := obsS O0 n j) (by rw [obsS_len]; exact h) (O0 + 1 + j, n)
  rw [obsS_len, ← obsS_succ] at this
  exact this
theorem outS_next {O0 n L j : Nat} (h : j < L) : (outCells n L (obsS O0 n j))[j]? = some (.slice none 0 0) := by
  unfold outCells
  rw [List.getElem?_append_right (by rw [List.length_map, obsS_len]; exact Nat.le_refl _), List.length_map, obsS_len, Nat.sub_self, List.getElem?_replicate, if_pos (by omega)]
theorem outS_at {O0 n L j v : Nat} (h : v < j) : (outCells n L (obsS O0 n j))[v]? = some (.slice (some ⟨O0 + 1 + v, 0, none⟩) n n) := by
  unfold outCells
  rw [List.getElem?_append_left (by rw [List.length_map, obsS_len]; exact h), List.getElem?_map, List.getElem?_eq_getElem (by rw [obsS_len]; exact h), obsS_at]
  rfl
/-- The rows of stamps so far. -/
structure RS (W : World) (O0 n L j : Nat) (e : Nat → Ev) : Prop where
  nb : Blk W O0 34 (outCells n L (obsS O0 n j)).toArray
  nr : ∀ v, v < j → Blk W (O0 + 1 + v) 3 (ints (stRow e n v)).toArray
theorem info34r : (Try.prog.info? 34).map (fun i => (i.zero, i.size, i.bytes)) = some (some (.slice none 0 0), 1, 24) := by kernel_rfl
set_option maxRecDepth 100000 in
set_option maxHeartbeats 4000000 in
theorem rstamps_any (a : Option Addr) (l : List Ev) (c n : Nat) (w : World) (hr : ERow w a l) (hM : LogOk n l) (hL : l.length ≤ 400) :
    Calls Try.prog 14 #[.int .i64 n, .slice a l.length c] w fun r w' => ∃ g, r = .returned (.slice (some ⟨g, 0, none⟩) l.length l.length) ∧ TRow w' (some ⟨g, 0, none⟩) (gl l) n l.length ∧ Below w.heap.size w w' := by
  obtain ⟨i1, hi1, hz1, hs1, hb1⟩ := info_parts info34r
  obtain ⟨i4, hi4, hz4, hs4, hb4⟩ := info_parts info3
  have hn := hM.nb
  have HE := hide hM.ev
  have HR := hide hr
  clear hr hM
  have hmk := fun W => run_make1 (P := Try.prog) 25 34 Try.underlying25 hi1 hz1 hs1 rfl hb1 l.length (by omega) (by omega) W
  have hmk2 := fun W => run_make1 (P := Try.prog) 34 3 Try.underlying34 hi4 hz4 hs4 rfl hb4 n (by omega) (by omega) W
  clear hi1 hz1 hs1 hb1 hi4 hz4 hs4 hb4
  go_enter Try.func14, Try.ntmps14
  go_wp2_with fail
  refine (table_any a l c w HR.out hL).mono ?_
  rintro r w1 ⟨N0, rfl, hT, hN0, k1⟩
  obtain ⟨O0, hO0⟩ : ∃ g, g = w1.heap.size := ⟨_, rfl⟩
  obtain ⟨w2, hw2⟩ : ∃ w2, w2 = w1.alloc (.cells (Array.replicate l.length (.slice none 0 0)) 34) := ⟨_, rfl⟩
  have B2 : Hid (RS w2 O0 n l.length 0 (gl l)) := hide ⟨by
    have := Blk.new w1 34 (Array.replicate l.length (.slice none 0 0))
    rw [← hw2, ← hO0] at this
    unfold outCells obsS
    simpa using this, fun v h => by omega⟩
  have a2 : Below w1.heap.size w1 w2 := hw2 ▸ (Below.refl _ _).alloc (Nat.le_refl _) _
  have T := hide hT
  have t1 := hide k1
  have s2 : w2.heap.size = O0 + 1 := by rw [hw2, hO0]; simp
  have A2 := hide a2
  have HW2 := hide hw2
  have HO0 := hide hO0
  have HN0 := hide hN0
  clear hT k1 hw2 hO0 a2 hN0
  go_wp2_with fail
  rw [← HW2.out, ← HO0.out]
  clear HW2 hmk
  go_loopw [7] (fun jv wr => ∃ j : Nat, j ≤ l.length ∧ jv = .int .i64 j ∧ RS wr O0 n l.length j (gl l) ∧ wr.heap.size = O0 + 1 + j ∧ Below w1.heap.size w1 wr) (fun jv _ => l.length - (intOf jv).toNat)
  case atStart => exact ⟨0, Nat.zero_le _, rfl, B2.out, by omega, A2.out⟩
  case round =>
    clear B2 A2 s2
    obtain ⟨j, hj, rfl, hS, hs, hb⟩ := hrel
    have S := hide hS
    have u := hide hb
    clear hS hb
    by_cases hjt : j < l.length
    · have hBl := S.out.nb.lt
      have m1 : wr.cell? ⟨O0, j, none⟩ = some (.slice none 0 0) := by rw [S.out.nb.cell, List.getElem?_toArray, outS_next hjt]
      have f1 := S.out.nb.frozen j
      obtain ⟨w3, hw3⟩ : ∃ w3, w3 = (wr.setCell ⟨O0, j, none⟩ (.slice (some ⟨O0 + 1 + j, 0, none⟩) n n)).alloc (.cells (Array.replicate n (.int .i64 0)) 3) := ⟨_, rfl⟩
      have S3 : Hid (RS w3 O0 n l.length (j + 1) (fun i => gl l i) ∨ True) := hide (.inr trivial)
      have NB3 : Hid (Blk w3 O0 34 (outCells n l.length (obsS O0 n (j + 1))).toArray) := hide (by
        rw [hw3]
        have := S.out.nb.set_ j (.slice (some ⟨O0 + 1 + j, 0, none⟩) n n)
        rw [List.setIfInBounds_toArray, outS_set hjt] at this
        exact this.alloc _)
      have NR3 : Hid (∀ v, v < j → Blk w3 (O0 + 1 + v) 3 (ints (stRow (gl l) n v)).toArray) := hide (fun v hv => by
        rw [hw3]
        exact ((S.out.nr v hv).far (p := ⟨O0, j, none⟩) (by show O0 + 1 + v ≠ O0; omega) _).alloc _)
      have NJ3 : Hid (Blk w3 (O0 + 1 + j) 3 (ints (cntRow (gl l) n j 0)).toArray) := hide (by
        have := Blk.new (wr.setCell ⟨O0, j, none⟩ (.slice (some ⟨O0 + 1 + j, 0, none⟩) n n)) 3 (Array.replicate n (.int .i64 0))
        rw [← hw3, World.size_setCell, hs] at this
        rw [cntRow_zero]
        simpa [ints] using this)
      have u3 : Hid (Below w1.heap.size w1 w3) := hide (by
        rw [hw3]
        exact (u.out.setCell (p := ⟨O0, j, none⟩) (Nat.le_of_eq HO0.out.symm) _).alloc (by rw [World.size_setCell]; exact u.out.size) _)
      have s3 : w3.heap.size = O0 + 1 + (j + 1) := by rw [hw3]; simp; omega
      have HS := hide hs
      have HW3 := hide hw3
      clear hw3 hs S S3
      go_upto_region 7 with fail
      rw [HS.out, ← HW3.out]
      clear HW3 m1 f1 u hBl HS
      go_wp2_with fail
      go_loopw [8] (fun iv wr => ∃ i : Nat, i ≤ j + 1 ∧ iv = .int .i64 i ∧ Blk wr O0 34 (outCells n l.length (obsS O0 n (j + 1))).toArray ∧ (∀ v, v < j → Blk wr (O0 + 1 + v) 3 (ints (stRow (gl l) n v)).toArray) ∧ Blk wr (O0 + 1 + j) 3 (ints (cntRow (gl l) n j i)).toArray ∧ wr.heap.size = O0 + 1 + (j + 1) ∧ Below w1.heap.size w1 wr) (fun iv _ => j + 1 - (intOf iv).toNat)
      case atStart => exact ⟨0, Nat.zero_le _, rfl, NB3.out, NR3.out, NJ3.out, s3, u3.out⟩
      case round =>
        clear NB3 NR3 NJ3 u3 s3
        obtain ⟨i, hi, rfl, hB, hR, hJ, hs, hb⟩ := hrel
        have NB := hide hB
        have NR := hide hR
        have NJ := hide hJ
        have u := hide hb
        have HS := hide hs
        clear hB hR hJ hb hs
        by_cases hij : i < j + 1
        · have hil : i < l.length := by omega
          have bij : decide (i ≤ j) = true := by rw [decide_eq_true_eq]; omega
          have bij2 : decide ((i : Int) ≤ (j : Int)) = true := by rw [decide_eq_true_eq]; omega
          obtain ⟨b, off, rfl, hb, hcell⟩ := e_at (HR.out.below (below_call (w := w) t1.out u.out)) (by omega)
          obtain ⟨x0, _, _⟩ := hcell i hil
          have HV := HE.out _ (List.getElem_mem hil)
          have hgw : (gl l i).w = l[i].w := by rw [gl_at hil]
          obtain ⟨hv1, hv2⟩ := HV.w
          clear hcell HV
          generalize l[i].w = ew at x0 hv1 hv2 hgw
          obtain ⟨v, rfl⟩ := Int.eq_ofNat_of_zero_le hv1
          have hvn : v < n := by omega
          have m1 : wr.cell? ⟨O0, j, none⟩ = some (.slice (some ⟨O0 + 1 + j, 0, none⟩) n n) := by rw [NB.out.cell, List.getElem?_toArray, outS_at (Nat.lt_succ_self j)]
          have hvc : v < (cntRow (gl l) n j i).length := by rw [cntRow_len]; exact hvn
          have m2 := blk_int NJ.out (i := v) hvc
          have f2 := NJ.out.frozen v
          have hbO := NB.out.lt
          have hbJ := NJ.out.lt
          have hle := cntH_le (gl l) j (v : Int) i
          have hca := cntRow_at (e := gl l) (n := n) (j := j) (i := i) hvc
          have HYes := hide (fun (h : Le (gl l) i j) => cntRow_yes (n := n) h hgw hvc)
          have HNo := hide (fun (h : ¬ Le (gl l) i j) => cntRow_no (n := n) h)
          have hx0 : 0 ≤ (cntRow (gl l) n j i)[v] ∧ (cntRow (gl l) n j i)[v] ≤ 401 := by rw [hca]; omega
          generalize (cntRow (gl l) n j i)[v] = x at m2 HYes hx0
          clear hca hle hgw hv1 hv2
          obtain ⟨w5, hw5⟩ : ∃ w5, w5 = (wr.setCell ⟨O0 + 1 + j, v, none⟩ (.int .i64 (x + 1))).drew := ⟨_, rfl⟩
          have NB5 : Hid (Blk w5 O0 34 (outCells n l.length (obsS O0 n (j + 1))).toArray) := hide (by rw [hw5]; exact (NB.out.far (p := ⟨O0 + 1 + j, v, none⟩) (by show O0 ≠ O0 + 1 + j; omega) _).drew)
          have NR5 : Hid (∀ v', v' < j → Blk w5 (O0 + 1 + v') 3 (ints (stRow (gl l) n v')).toArray) := hide (fun v' hv' => by rw [hw5]; exact ((NR.out v' hv').far (p := ⟨O0 + 1 + j, v, none⟩) (by show O0 + 1 + v' ≠ O0 + 1 + j; omega) _).drew)
          have NJ5 : Hid (Le (gl l) i j → Blk w5 (O0 + 1 + j) 3 (ints (cntRow (gl l) n j (i + 1))).toArray) := hide (fun h => by rw [hw5, ← HYes.out h]; exact (blk_int_set NJ.out v (x + 1)).drew)
          have u5 : Hid (Below w1.heap.size w1 w5) := hide (by rw [hw5]; exact (u.out.setCell (p := ⟨O0 + 1 + j, v, none⟩) (by show _ ≤ O0 + 1 + j; have := HO0.out; omega) _).drew)
          have s5 : Hid (w5.heap.size = O0 + 1 + (j + 1)) := hide (by rw [hw5]; simp; have := HS.out; omega)
          have HW5 := hide hw5
          clear hw5
          by_cases he : i = j
          · have be : ((i : Int) == (j : Int)) = true := by rw [beq_iff_eq]; omega
            have NJ6 := hide (NJ5.out (.inl he))
            clear NJ5 NJ NB NR HYes HNo
            subst he
            go_upto_region 11 with fail
            go_region
            rw [← HW5.out]
            clear HW5 m1 m2 f2 x0
            go_wp2_with fail
            go_roundw
            case rel => exact ⟨i + 1, by omega, by go_num, NB5.out, NR5.out, NJ6.out, s5.out, u5.out⟩
            case measure => simp [intOf] <;> omega
          · have be : ((i : Int) == (j : Int)) = false := by rw [beq_eq_false_iff_ne]; omega
            have n1 := (T.out.below u.out).row hil
            have n2 := (T.out.below u.out).at_ hil hjt
            cases hbf : bef (gl l) i j with
            | true =>
              have NJ6 := hide (NJ5.out (.inr (bef_hb.1 hbf)))
              rw [hbf] at n2
              clear NJ5 NJ NB NR HYes HNo hbf
              go_upto_region 11 with fail
              go_region
              rw [← HW5.out]
              clear HW5 m1 m2 f2 x0 n1 n2
              go_wp2_with fail
              go_roundw
              case rel => exact ⟨i + 1, by omega, by go_num, NB5.out, NR5.out, NJ6.out, s5.out, u5.out⟩
              case measure => simp [intOf]; omega
            | false =>
              have NJ6 : Hid (Blk wr (O0 + 1 + j) 3 (ints (cntRow (gl l) n j (i + 1))).toArray) := hide (by
                rw [HNo.out (fun h => by
                  rcases h with h | h
                  · exact he h
                  · have := bef_hb.2 h; rw [hbf] at this; cases this)]
                exact NJ.out)
              rw [hbf] at n2
              clear NJ5 NJ HYes HNo hbf NB5 NR5 u5 s5 HW5
              go_wp2_with fail
              go_roundw
              case rel => exact ⟨i + 1, by omega, by go_num, NB.out, NR.out, NJ6.out, HS.out, u.out⟩
              case measure => simp [intOf]; omega
        · obtain rfl : i = j + 1 := by omega
          rw [cntRow_full] at NJ
          have SN : Hid (RS wr O0 n l.length (j + 1) (gl l)) := hide ⟨NB.out, fun v hv => by
            by_cases he : v = j
            · subst he; exact NJ.out
            · exact NR.out v (by omega)⟩
          have bij : decide (j + 1 ≤ j) = false := by simp
          have bij2 : decide ((j : Int) + 1 ≤ (j : Int)) = false := by rw [decide_eq_false_iff_not]; omega
          clear NB NR NJ
          go_wp2_with fail
          go_roundw
          case rel => exact ⟨j + 1, hjt, by go_num, SN.out, HS.out, u.out⟩
          case measure => simp [intOf]; omega
    · obtain rfl : j = l.length := by omega
      have TR : Hid (TRow wr (some ⟨O0, 0, none⟩) (gl l) n l.length) := hide (by
        refine ⟨obsS O0 n l.length, obsS_len _ _ _, ?_, fun v hv => ?_⟩
        · have := S.out.nb.row (by simp [outCells, obsS]; omega)
          have e : outCells n l.length (obsS O0 n l.length) = (obsS O0 n l.length).map (outV n) := by unfold outCells; rw [obsS_len]; simp
          rw [e] at this
          simpa using this
        · rw [obsS_at]
          rw [obsS_len] at hv
          refine ⟨Nat.le_refl _, by unfold maxLen; omega, ?_⟩
          have := (S.out.nr v hv).row (by simp [ints_len, stRow_len]; omega)
          simpa using this)
      have t2 := hide (below_call (w := w) t1.out u.out)
      clear S
      go_wp2_with fail
      go_returns
      exact ⟨O0, rfl, TR.out, t2.out⟩
end Go.Proofs.Ytffpphnjokmffaa
