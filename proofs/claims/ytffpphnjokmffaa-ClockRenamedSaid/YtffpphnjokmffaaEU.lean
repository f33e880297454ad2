/- The walk of ClockRenamed. -/
import Derived.Test.YtffpphnjokmffaaEK
import Derived.Test.YtffpphnjokmffaaET
import Derived.Test.YtffpphnjokmffaaOpens
namespace Go.Proofs.Ytffpphnjokmffaa
open Go.RowKit Go.Maps
def renL (n : Nat) (y z : Int) (l : List Ev) (i : Nat) : List Ev := (l.take i).map (renE n y z)
theorem renL_len {n : Nat} {y z : Int} {l : List Ev} {i : Nat} (h : i ≤ l.length) : (renL n y z l i).length = i := by unfold renL; rw [List.length_map, List.length_take]; omega
theorem renL_succ {n : Nat} {y z : Int} {l : List Ev} {i : Nat} (h : i < l.length) : renL n y z l (i + 1) = renL n y z l i ++ [renE n y z l[i]] := by
  unfold renL; rw [List.take_succ_eq_append_getElem h, List.map_append]; rfl
set_option maxRecDepth 100000 in
set_option maxHeartbeats 4000000 in
theorem walkP_ClockRenamed (x y z : Int) (a : Option Addr) (l : List Ev) (c : Nat) (w : World) (hx : 0 ≤ x ∧ x ≤ 255) (hy : 0 ≤ y ∧ y ≤ 255) (hz : 0 ≤ z ∧ z ≤ 65535) (hr : ERow w a l) (hl : ∀ e ∈ l, EvIn e) (hc1 : l.length ≤ c) (hc2 : c ≤ maxLen) :
    Calls Try.prog 9 #[.int .u8 x, .slice a l.length c, .int .u8 y, .int .u16 z] w (BPost true w) := by
  obtain ⟨i0, hi, hz0, hz1, hz2⟩ := info_parts info48
  have hlen := hr.len
  have HL := hide hl
  have HR := hide hr
  clear hl hr
  go_enter Try.func9, Try.ntmps9
  by_cases hlong : 120 < l.length
  · have b1 : decide (120 < (l.length : Int)) = true := by simp; omega
    go_wp2_with fail
    refine (works_any _).mono ?_
    rintro r w9 ⟨rfl, k9⟩
    have t9 := hide (below_call (w := w) (Below.refl _ _) k9)
    clear k9
    go_wp2_with fail
    go_returns
    exact ⟨rfl, t9.out⟩
  have b1 : decide (120 < (l.length : Int)) = false := by simp; omega
  obtain ⟨n, hn⟩ : ∃ n : Nat, x % 64 + 1 = (n : Int) := ⟨(x % 64 + 1).toNat, by omega⟩
  have hn1 : 1 ≤ n ∧ n ≤ 64 := by omega
  go_wp2_with fail
  go_loopw [10, 11] (fun s10 iv wr => ∃ i : Nat, i ≤ l.length ∧ iv = .int .i64 i ∧ (∃ a3 c3, s10 = .slice a3 (renL n y z l i).length c3) ∧ wr.ownsRow w.heap.size 48 3 s10 (renL n y z l i).length ((renL n y z l i).map ecell).flatten ∧ Hid (∀ j (h : j < l.length), j < i → Near n l[j]) ∧ Below w.heap.size w wr) (fun _ iv _ => l.length - (intOf iv).toNat)
  case atStart => exact ⟨0, Nat.zero_le _, rfl, ⟨none, 0, rfl⟩, World.ownsRow_nil _ _ _ _, hide (fun j h hj => by omega), Below.refl _ _⟩
  case round =>
    obtain ⟨i, hi2, rfl, ⟨a3, c3, rfl⟩, hown, hnear, hbel⟩ := hrel
    have t := hide hbel
    have O := hide hown
    clear hbel hown
    by_cases hlt : i < l.length
    · obtain ⟨b, off, rfl, hb, hcell⟩ := e_at (HR.out.below t.out) (by omega)
      obtain ⟨x0, x1, x2⟩ := hcell i hlt
      have HI := HL.out _ (List.getElem_mem hlt)
      obtain ⟨p1, p2, p3⟩ := HI
      have HS := hide (renL_succ (n := n) (y := y) (z := z) hlt)
      have hrl := hide (renL_len (n := n) (y := y) (z := z) hi2)
      have HN : Hid (Near n l[i] → ∀ j (h : j < l.length), j < i + 1 → Near n l[j]) := hide (fun h j hj hji => by
        by_cases he : j = i
        · subst he; exact h
        · exact hnear.out j hj (by omega))
      clear hcell hnear
      generalize l[i] = e at x0 x1 x2 p1 p2 p3 HS HN
      obtain ⟨ew, ek, ec⟩ := e
      dsimp only at x0 x1 x2 p1 p2 p3
      obtain ⟨g, hg⟩ : ∃ g, g = wr.heap.size := ⟨_, rfl⟩
      obtain ⟨w5, hw5⟩ : ∃ w5, w5 = wr.alloc (.cells #[.int .i64 ew, .int .u8 ek, .int .i64 ec] 48) := ⟨_, rfl⟩
      have E5 := hide (hg ▸ hw5 ▸ Blk.new wr _ _ : Blk w5 g 48 #[.int .i64 ew, .int .u8 ek, .int .i64 ec])
      have t5 : Hid (Below w.heap.size w w5) := hide (hw5 ▸ t.out.alloc t.out.size _)
      have O5 := hide (hw5 ▸ O.out.alloc _ : w5.ownsRow w.heap.size 48 3 (.slice a3 (renL n y z l i).length c3) (renL n y z l i).length ((renL n y z l i).map ecell).flatten)
      have hob : ∀ k, (Value.slice a3 (renL n y z l i).length c3).ownBlock = some k → w.heap.size ≤ k ∧ k < g := fun k hk => by have := O.out.lt k hk; omega
      have hgs : w.heap.size ≤ g := by have := t.out.size; omega
      have HW5 := hide hw5
      have HG := hide hg
      clear hw5 hg O t
      go_upto_region 9 with fail
      rw [← HW5.out, ← HG.out]
      clear HW5 HG x0 x1 x2 hb
      have e0 : w5.cell? ⟨g, 0, none⟩ = some (.int .i64 ew) := E5.out.cell 0
      have e1 : w5.cell? ⟨g, 1, none⟩ = some (.int .u8 ek) := E5.out.cell 1
      have e2 : w5.cell? ⟨g, 2, none⟩ = some (.int .i64 ec) := E5.out.cell 2
      by_cases q1 : ew < 0
      · go_wp2_with fail
        refine (works_any _).mono ?_
        rintro r w9 ⟨rfl, k9⟩
        have t9 := hide (below_call (w := w) t5.out k9)
        clear k9
        go_wp2_with fail
        go_returns
        exact ⟨rfl, t9.out⟩
      have b1 : decide (ew < 0) = false := by simpa using q1
      by_cases q2 : (n : Int) ≤ ew
      · go_wp2_with fail
        refine (works_any _).mono ?_
        rintro r w9 ⟨rfl, k9⟩
        have t9 := hide (below_call (w := w) t5.out k9)
        clear k9
        go_wp2_with fail
        go_returns
        exact ⟨rfl, t9.out⟩
      have b2 : decide ((n : Int) ≤ ew) = false := by simpa using q2
      by_cases q3 : ec < 0
      · go_wp2_with fail
        refine (works_any _).mono ?_
        rintro r w9 ⟨rfl, k9⟩
        have t9 := hide (below_call (w := w) t5.out k9)
        clear k9
        go_wp2_with fail
        go_returns
        exact ⟨rfl, t9.out⟩
      have b3 : decide (ec < 0) = false := by simpa using q3
      by_cases q4 : 1099511627776 < ec
      · go_wp2_with fail
        refine (works_any _).mono ?_
        rintro r w9 ⟨rfl, k9⟩
        have t9 := hide (below_call (w := w) t5.out k9)
        clear k9
        go_wp2_with fail
        go_returns
        exact ⟨rfl, t9.out⟩
      have b4 : decide (1099511627776 < ec) = false := by simpa using q4
      have HN := hide (HN.out ⟨⟨by show 0 ≤ ew; omega, by show ew < n; omega⟩, ⟨by show 0 ≤ ec; omega, by show ec ≤ _; omega⟩⟩)
      obtain ⟨q, hq⟩ : ∃ q : Nat, Int.tmod (ew + y) n = (q : Int) := ⟨(Int.tmod (ew + y) n).toNat, by rw [Int.tmod_eq_emod_of_nonneg (by omega)]; have := Int.emod_nonneg (ew + y) (b := (n : Int)) (by omega); omega⟩
      have hq2 : (ew + y) % n = (q : Int) := by rw [← hq, Int.tmod_eq_emod_of_nonneg (by omega)]
      have HS2 : Hid (renL n y z l (i + 1) = renL n y z l i ++ [⟨(q : Int), ek, ec * 2 + z⟩]) := hide (by rw [HS.out]; unfold renE; dsimp only; rw [hq2])
      have hqn : (q : Int) < n := by rw [← hq2]; exact Int.emod_lt_of_pos _ (by omega)
      clear hq2 HS
      have f0 := E5.out.frozen 0
      have f2 := E5.out.frozen 2
      obtain ⟨w7, hw7⟩ : ∃ w7, w7 = (w5.setCell ⟨g, 0, none⟩ (.int .i64 (q : Int))).setCell ⟨g, 2, none⟩ (.int .i64 (ec * 2 + z)) := ⟨_, rfl⟩
      have E7 := hide (hw7 ▸ (E5.out.set_ 0 (.int .i64 (q : Int))).set_ 2 (.int .i64 (ec * 2 + z)) : Blk w7 g 48 #[.int .i64 (q : Int), .int .u8 ek, .int .i64 (ec * 2 + z)])
      have t7 : Hid (Below w.heap.size w w7) := hide (hw7 ▸ (t5.out.setCell (p := ⟨g, 0, none⟩) hgs _).setCell (p := ⟨g, 2, none⟩) hgs _)
      have O7 : Hid (w7.ownsRow w.heap.size 48 3 (.slice a3 (renL n y z l i).length c3) (renL n y z l i).length ((renL n y z l i).map ecell).flatten) := hide (hw7 ▸ ownsRow_setCell_other (ownsRow_setCell_other O5.out (a := ⟨g, 0, none⟩) (fun h => by have := (hob _ h).2; simp at this) _) (a := ⟨g, 2, none⟩) (fun h => by have := (hob _ h).2; simp at this) _)
      have HW7 := hide hw7
      clear hw7 O5 t5
      go_upto_region 13 with fail
      rw [← HW7.out]
      clear HW7 e0 e1 e2 f0 f2 E5
      have e0 : w7.cell? ⟨g, 0, none⟩ = some (.int .i64 (q : Int)) := E7.out.cell 0
      have e1 : w7.cell? ⟨g, 1, none⟩ = some (.int .u8 ek) := E7.out.cell 1
      have e2 : w7.cell? ⟨g, 2, none⟩ = some (.int .i64 (ec * 2 + z)) := E7.out.cell 2
      have O8 := hide (O7.out.alloc (.cells #[.int .i64 (q : Int), .int .u8 ek, .int .i64 (ec * 2 + z)] 48))
      have N8 := hide (Blk.new w7 48 #[.int .i64 (q : Int), .int .u8 ek, .int .i64 (ec * 2 + z)])
      have hs7 := t7.out.size
      go_wp2_with (at_builtin; refine wpList_append_own _ rfl _ _ 22 rfl w.heap.size 48 i0 (.agg #[.int .i64 0, .int .u8 0, .int .i64 0]) 3 24 Try.underlying22 hi hz0 hz1 hz2 rfl (by decide) _ _ _ rfl O8.out ⟨w7.heap.size, 0, none⟩ 1 1 [.int .i64 (q : Int), .int .u8 ek, .int .i64 (ec * 2 + z)] rfl rfl ?c1 ?c2 ?c3 ?c4 ?c5 ?_)
      case c2 => exact ⟨rfl, rfl, rfl⟩
      case c3 => have := hrl.out; unfold maxLen; omega
      case c4 => have := hrl.out; omega
      case c5 => omega
      intro v' w9 hown' hgrow _
      obtain ⟨g', cap', rfl, _, _⟩ := hown'.form (by omega)
      have t9 := hide (below_grown (a := w) (t7.out.alloc t7.out.size (.cells #[.int .i64 (q : Int), .int .u8 ek, .int .i64 (ec * 2 + z)] 48)) hgrow (fun k h => (hob k h).1))
      have O9 : Hid (w9.ownsRow w.heap.size 48 3 (.slice (some ⟨g', 0, none⟩) ((renL n y z l i).length + 1) cap') (renL n y z l (i + 1)).length ((renL n y z l (i + 1)).map ecell).flatten) := hide (by
        rw [HS2.out, List.length_append, List.map_append, List.flatten_append]; exact hown')
      have HE : Hid ((renL n y z l (i + 1)).length = (renL n y z l i).length + 1) := hide (by rw [HS2.out, List.length_append]; rfl)
      clear hown' hgrow e0 e1 e2 O8 N8
      go_wp2_with fail
      go_roundw
      case rel => exact ⟨i + 1, hlt, by go_num, ⟨some ⟨g', 0, none⟩, cap', by rw [HE.out]⟩, O9.out, HN, t9.out⟩
      case measure => simp [intOf]; omega
    · obtain rfl : i = l.length := by omega
      have HF : Hid (renL n y z l l.length = l.map (renE n y z)) := hide (by unfold renL; rw [List.take_length])
      obtain ⟨m, hm⟩ : ∃ m, m = l.map (renE n y z) := ⟨_, rfl⟩
      have hml : m.length = l.length := by rw [hm, List.length_map]
      have HNr : Hid (∀ x ∈ l, Near n x) := hide (fun x hx => by
        obtain ⟨j, hj, rfl⟩ := List.mem_iff_getElem.1 hx
        exact hnear.out j hj hj)
      have Q3 : Hid (ERow wr a3 m) := hide (by
        obtain ⟨A, C, e, _, _, _, h, _⟩ := own_rowS (ecell_len _) (by decide) O.out
        simp only [Value.slice.injEq] at e
        rw [HF.out, ← hm] at h
        rw [e.1]; exact h)
      have HLM : Hid (LogOk n m ↔ LogOk n l) := hide (by rw [hm]; exact log_ren HNr.out hn1.1 hz.1)
      have HRC : Hid (∀ a b c d is so, RaceIs (gl l) l.length a b is → RaceIs (gl m) l.length c d so → a = c ∧ b = d ∧ is = so) := hide (fun a b c d is so h1 h2 => ren_race HNr.out h1 (by rw [hm] at h2; exact h2))
      have HST : Hid (∀ j v q : Nat, j < l.length → v < n → ((v : Int) + y) % n = (q : Int) → stamp (gl m) j (q : Int) = stamp (gl l) j (v : Int)) := hide (fun j v q h1 h2 h3 => by rw [hm]; exact ren_st HNr.out h1 h2 h3)
      have HBF : Hid (∀ i j, i < l.length → j < l.length → bef (gl m) i j = bef (gl l) i j) := hide (fun i j h1 h2 => by rw [hm]; exact ren_bef HNr.out h1 h2)
      have HCC : Hid (∀ y ∈ l, y.c ≤ 9223372036854775807) := hide (fun y hy => (HL.out y hy).c.2)
      have HCM : Hid (∀ y ∈ m, y.c ≤ 9223372036854775807) := hide (fun y hy => by
        rw [hm, List.mem_map] at hy
        obtain ⟨x, hx, rfl⟩ := hy
        have := (HNr.out x hx).c
        show x.c * 2 + z ≤ _
        omega)
      have HKM0 : Hid (∀ y ∈ m, 0 ≤ y.k ∧ y.k ≤ 255) := hide (fun y hy => by
        rw [hm, List.mem_map] at hy
        obtain ⟨x, hx, rfl⟩ := hy
        exact (HL.out x hx).k)
      rw [HF.out, ← hm]
      clear O hnear HF HNr hm
      have HK : Hid (∀ y ∈ l, 0 ≤ y.k ∧ y.k ≤ 255) := hide (fun y hy => (HL.out y hy).k)
      by_cases hM : LogOk n l
      · have HM := hide hM
        have HMM := hide (HLM.out.2 hM)
        have S2 := hide (fun W h => stamps_yes a3 m c3 n W h HMM.out HCM.out)
        have R2 := hide (fun W h => race_yes a3 m c3 n W h HMM.out HCM.out)
        rw [hml] at S2 R2
        clear hM HLM HL
        go_wp2_with fail
        refine (stamps_yes a l c n _ (HR.out.below t.out) HM.out HCC.out).mono ?_
        rintro r w2 ⟨g1, e1, rfl, hT1, k2⟩
        have T1 := hide hT1
        have t2 := hide (below_call (w := w) t.out k2)
        have Q3 := hide (Q3.out.below k2)
        clear hT1 k2 t
        go_wp2_with fail
        refine (S2.out _ Q3.out).mono ?_
        rintro r w3 ⟨g2, e2, rfl, hT2, k3⟩
        have T2 := hide hT2
        have T1 := hide (T1.out.below k3)
        have t3 := hide (below_call (w := w) t2.out k3)
        have Q3 := hide (Q3.out.below k3)
        clear hT2 k3 t2
        go_wp2_with fail
        refine (race_yes a l c n _ (HR.out.below t3.out) HM.out HCC.out).mono ?_
        rintro r w4 ⟨ia, ib, is1, rfl, hR1, k4⟩
        have HR1 := hide hR1
        have T1 := hide (T1.out.below k4)
        have T2 := hide (T2.out.below k4)
        have t4 := hide (below_call (w := w) t3.out k4)
        have Q3 := hide (Q3.out.below k4)
        clear hR1 k4 t3
        go_wp2_with fail
        refine (R2.out _ Q3.out).mono ?_
        rintro r w5 ⟨ic, ie, is2, rfl, hR2, k5⟩
        obtain ⟨rfl, rfl, rfl⟩ := HRC.out _ _ _ _ _ _ HR1.out hR2
        have T1 := hide (T1.out.below k5)
        have T2 := hide (T2.out.below k5)
        have t5 := hide (below_call (w := w) t4.out k5)
        have Q3 := hide (Q3.out.below k5)
        have B1 : Hid (∀ W i j, ERow W a l → TRow W (some ⟨g1, 0, none⟩) (gl l) n l.length → j < l.length → Calls Try.prog 17 #[.slice a l.length c, .slice (some ⟨g1, 0, none⟩) l.length e1, .int .i64 (i : Nat), .int .i64 (j : Nat)] W (BPost (bef (gl l) i j) W)) := hide (fun W i j h1 h2 h3 => before_nat a l c (some ⟨g1, 0, none⟩) e1 n i j W h1 HM.out.ev h2 h3 (by omega) (by omega))
        have B2 : Hid (∀ W i j, ERow W a3 m → TRow W (some ⟨g2, 0, none⟩) (gl m) n l.length → j < l.length → Calls Try.prog 17 #[.slice a3 l.length c3, .slice (some ⟨g2, 0, none⟩) l.length e2, .int .i64 (i : Nat), .int .i64 (j : Nat)] W (BPost (bef (gl m) i j) W)) := hide (fun W i j h1 h2 h3 => by
          have := before_nat a3 m c3 (some ⟨g2, 0, none⟩) e2 n i j W h1 HMM.out.ev (by rw [hml]; exact h2) (by rw [hml]; exact h3) (by omega) (by omega)
          rw [hml] at this
          exact this)
        clear hR2 k5 t4 HRC HR1 HM HMM HCC HCM hml S2 R2 hi hz0 hz1 hz2
        go_wp2_with fail
        go_loopw [25] (fun iv wr => ∃ i : Nat, i ≤ l.length ∧ iv = .int .i64 i ∧ Below w5.heap.size w5 wr) (fun iv _ => l.length - (intOf iv).toNat)
        case atStart => exact ⟨0, Nat.zero_le _, rfl, Below.refl _ _⟩
        case round =>
          obtain ⟨i, hi, rfl, hb⟩ := hrel
          have b4 := hide hb
          clear hb
          by_cases hlt : i < l.length
          · obtain ⟨p1, o1, hS1, hp1, hcc1⟩ := t_at (T1.out.below b4.out) (by omega)
            obtain ⟨p2, o2, hS2, hp2, hcc2⟩ := t_at (T2.out.below b4.out) (by omega)
            simp only [Option.some.injEq, Addr.mk.injEq, and_true] at hS1 hS2
            obtain ⟨e11, e12⟩ := hS1
            obtain ⟨e21, e22⟩ := hS2
            subst e11 e12 e21 e22
            obtain ⟨q1, d1, x1, m1, n1, f1, s1⟩ := hcc1 i hlt
            obtain ⟨q2, d2, x2, m2, n2, f2, s2⟩ := hcc2 i hlt
            simp only [Nat.zero_add] at x1 x2
            unfold maxLen at n1 n2
            clear hcc1 hcc2
            have f1 := f1 (by omega)
            have f2 := f2 (by omega)
            have S1 := hide s1
            have S2 := hide s2
            have X1 := hide x1
            have X2 := hide x2
            clear s1 s2
            go_wp2_with fail
            clear x1 x2
            go_loopw [26] (fun vv wq => ∃ v : Nat, v ≤ n ∧ vv = .int .i64 v ∧ Below wr.heap.size wr wq) (fun vv _ => n - (intOf vv).toNat)
            case atStart => exact ⟨0, Nat.zero_le _, rfl, Below.refl _ _⟩
            case round =>
              obtain ⟨v, hv, rfl, hbq⟩ := hrel
              have c4 := hide hbq
              clear hbq
              by_cases hvn : v < n
              · obtain ⟨q, hq⟩ : ∃ q : Nat, Int.tmod ((v : Int) + y) n = (q : Int) := ⟨(Int.tmod ((v : Int) + y) n).toNat, by rw [Int.tmod_eq_emod_of_nonneg (by omega)]; have := Int.emod_nonneg ((v : Int) + y) (b := (n : Int)) (by omega); omega⟩
                have hq2 : ((v : Int) + y) % n = (q : Int) := by rw [← hq, Int.tmod_eq_emod_of_nonneg (by omega)]
                have hqn : q < n := by have := Int.emod_lt_of_pos ((v : Int) + y) (b := (n : Int)) (by omega); omega
                have y1 := (c4.out.cell (p := ⟨g1, i, none⟩) hp1).trans X1.out
                have y2 := (c4.out.cell (p := ⟨g2, i, none⟩) hp2).trans X2.out
                have z1 := (c4.out.cell (p := ⟨q1, v, none⟩) f1).trans (S1.out v hvn)
                have z2 := (c4.out.cell (p := ⟨q2, q, none⟩) f2).trans (S2.out q hqn)
                rw [HST.out i v q hlt hvn hq2] at z2
                have hle := stamp_le (e := gl l) i (v : Int)
                generalize stamp (gl l) i (v : Int) = st at z1 z2 hle
                clear hq2
                go_upto_region 32 with fail
                have bn : ((n : Int) == 0) = false := by rw [beq_eq_false_iff_ne]; omega
                have bn2 : ¬ (n : Int) = 0 := by omega
                have bn3 : ¬ n = 0 := by omega
                have r1 := keepd y1
                have r2 := keepd y2
                have u1 := keepd z1
                have u2 := keepd z2
                refine Reg.region (by kernel_rfl) 20 [] (fun _ w' => w' = wr.drew) (by kernel_rfl) (by kernel_rfl) rfl ?_
                iterate 20
                  first
                    | refine Reg.WT.idle rfl rfl ?_
                    | (refine Reg.WT.yield (v := ?_) rfl rfl ?_ ?_
                       rotate_left
                       · intro w' _ hS; go_simp; (try go_bits); (first | rfl | rw [if_pos (by omega)]))
                  simp only [Act.put, List.setIfInBounds_toArray, List.set_cons_zero, List.set_cons_succ]
                intro w6 hS
                subst hS
                clear r1 r2 u1 u2 y1 y2 z1 z2 bn bn2 bn3
                go_wp2_with fail
                go_roundw
                case rel => exact ⟨v + 1, hvn, by go_num, c4.out.drew⟩
                case measure => simp [intOf]; omega
              · have b5 := hide (b4.out.trans (c4.out.mono b4.out.size))
                go_wp2_with fail
                go_loopw [27] (fun jv wq => ∃ j : Nat, j ≤ l.length ∧ jv = .int .i64 j ∧ Below w5.heap.size w5 wq) (fun jv _ => l.length - (intOf jv).toNat)
                case atStart => exact ⟨0, Nat.zero_le _, rfl, b5.out⟩
                case round =>
                  obtain ⟨j, hj, rfl, hbq⟩ := hrel
                  have c5 := hide hbq
                  clear hbq
                  by_cases hjt : j < l.length
                  · go_wp2_with fail
                    refine (B1.out _ i j (HR.out.below (t5.out.trans (c5.out.mono t5.out.size))) (T1.out.below c5.out) hjt).mono ?_
                    rintro r w6 ⟨rfl, k6⟩
                    have c6 := hide (c5.out.trans (k6.mono c5.out.size))
                    clear k6
                    go_wp2_with fail
                    refine (B2.out _ i j (Q3.out.below c6.out) (T2.out.below c6.out) hjt).mono ?_
                    rintro r w7 ⟨rfl, k7⟩
                    have c7 := hide (c6.out.trans (k7.mono c6.out.size))
                    clear k7
                    rw [HBF.out i j hlt hjt]
                    generalize bef (gl l) i j = B
                    cases B with
                    | true =>
                      go_wp2_with fail
                      go_roundw
                      case rel => exact ⟨j + 1, hjt, by go_num, c7.out⟩
                      case measure => simp [intOf]; omega
                    | false =>
                      go_wp2_with fail
                      go_roundw
                      case rel => exact ⟨j + 1, hjt, by go_num, c7.out⟩
                      case measure => simp [intOf]; omega
                  · go_wp2_with fail
                    go_roundw
                    case rel => exact ⟨i + 1, hlt, by go_num, c5.out⟩
                    case measure => simp [intOf]; omega
          · have t6 := hide (below_call (w := w) t5.out b4.out)
            go_wp2_with fail
            refine (works_any _).mono ?_
            rintro r w9 ⟨rfl, k9⟩
            have t9 := hide (below_call (w := w) t6.out k9)
            clear k9
            go_wp2_with fail
            go_returns
            exact ⟨rfl, t9.out⟩
      · have HM := hide hM
        have HMM := hide (fun h => hM (HLM.out.1 h))
        have S2 := hide (fun W h => stamps_no a3 m c3 n W h HKM0.out HMM.out)
        have R2 := hide (fun W h => race_no a3 m c3 n W h HKM0.out HMM.out)
        rw [hml] at S2 R2
        clear hM HLM HL HCC HCM HBF HST HRC
        go_wp2_with fail
        refine (stamps_no a l c n _ (HR.out.below t.out) HK.out HM.out).mono ?_
        rintro r w2 ⟨rfl, k2⟩
        have t2 := hide (below_call (w := w) t.out k2)
        have Q3 := hide (Q3.out.below k2)
        clear k2 t
        go_wp2_with fail
        refine (S2.out _ Q3.out).mono ?_
        rintro r w3 ⟨rfl, k3⟩
        have t3 := hide (below_call (w := w) t2.out k3)
        have Q3 := hide (Q3.out.below k3)
        clear k3 t2
        go_wp2_with fail
        refine (race_no a l c n _ (HR.out.below t3.out) HK.out HM.out).mono ?_
        rintro r w4 ⟨rfl, k4⟩
        have t4 := hide (below_call (w := w) t3.out k4)
        have Q3 := hide (Q3.out.below k4)
        clear k4 t3
        go_wp2_with fail
        refine (R2.out _ Q3.out).mono ?_
        rintro r w5 ⟨rfl, k5⟩
        have t5 := hide (below_call (w := w) t4.out k5)
        clear k5 t4
        go_wp2_with fail
        refine (works_any _).mono ?_
        rintro r w9 ⟨rfl, k9⟩
        have t9 := hide (below_call (w := w) t5.out k9)
        clear k9
        go_wp2_with fail
        go_returns
        exact ⟨rfl, t9.out⟩
theorem walk_ClockRenamed (w : World) (x : Int) (hx : (Lit.int .u8 x).wf = true) (a : Option Addr) (l : List Ev) (c : Nat) (hr : ERow w a l) (hl : ∀ e ∈ l, EvIn e) (hc1 : l.length ≤ c) (hc2 : c ≤ maxLen) (y : Int) (hy : (Lit.int .u8 y).wf = true) (z : Int) (hz : (Lit.int .u16 z).wf = true) :
    Calls Try.prog 9 #[.int .u8 x, .slice a l.length c, .int .u8 y, .int .u16 z] w (fun e w' => e = .returned (.bool true) ∧ Below w.heap.size w w') :=
  walkP_ClockRenamed x y z a l c w (u8_of hx) (u8_of hy) (u16_of hz) hr hl hc1 hc2
end Go.Proofs.Ytffpphnjokmffaa
