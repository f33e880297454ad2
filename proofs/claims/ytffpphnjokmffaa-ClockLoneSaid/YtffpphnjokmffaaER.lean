/- The walk of ClockLone. -/
import Derived.Test.YtffpphnjokmffaaEK
import Derived.Test.YtffpphnjokmffaaEQ
import Derived.Test.YtffpphnjokmffaaOpens
namespace Go.Proofs.Ytffpphnjokmffaa
open Go.RowKit Go.Maps
/-- What the first loop keeps: the three logs. -/
structure LI (W : World) (v1 v2 v3 : Value) (l : List Ev) (i M0 B2 B3 : Nat) : Prop where
  o1 : W.ownsRow M0 48 3 v1 l.length ((mid zW l i).map ecell).flatten
  o2 : W.ownsRow B2 48 3 v2 l.length ((mid oC l i).map ecell).flatten
  o3 : W.ownsRow B3 48 3 v3 (plL l i).length ((plL l i).map ecell).flatten
set_option maxRecDepth 100000 in
set_option maxHeartbeats 4000000 in
theorem walkP_ClockLone (x : Int) (a : Option Addr) (l : List Ev) (c : Nat) (w : World) (hx : 0 ≤ x ∧ x ≤ 255) (hr : ERow w a l) (hl : ∀ e ∈ l, EvIn e) (hc1 : l.length ≤ c) (hc2 : c ≤ maxLen) :
    Calls Try.prog 7 #[.int .u8 x, .slice a l.length c] w (BPost true w) := by
  obtain ⟨i0, hi, hz0, hz1, hz2⟩ := info_parts info48
  have hlen := hr.len
  have HL := hide hl
  have HR := hide hr
  clear hl hr
  go_enter Try.func7, Try.ntmps7
  obtain ⟨n, hn⟩ : ∃ n : Nat, 1 + x % 8 = (n : Int) := ⟨(1 + x % 8).toNat, by omega⟩
  by_cases hlong : 400 < l.length
  · have b1 : decide (400 < (l.length : Int)) = true := by simp; omega
    go_wp2_with fail
    refine (works_any _).mono ?_
    rintro r w9 ⟨rfl, k9⟩
    have t9 := hide (below_call (w := w) (Below.refl _ _) k9)
    clear k9
    go_wp2_with fail
    go_returns
    exact ⟨rfl, t9.out⟩
  have b1 : decide (400 < (l.length : Int)) = false := by simp; omega
  by_cases hM : LogOk n l
  · have HM := hide hM
    have HCC : Hid (∀ y ∈ l, y.c ≤ 9223372036854775807) := hide (fun y hy => (HL.out y hy).c.2)
    have hn1 := hM.nb
    clear hM
    go_wp2_with fail
    refine (may_yes a l c n _ HR.out HM.out).mono ?_
    rintro r w1 ⟨rfl, k1⟩
    have t1 := hide k1
    clear k1
    go_wp2_with fail
    refine (copied_any a l c w1 (HR.out.below t1.out) (by omega)).mono ?_
    rintro r w2 ⟨v1, rfl, ho1, k2⟩
    obtain ⟨a1, c1, rfl, _, hf1⟩ := ho1.row
    have t2 := hide (below_call (w := w) t1.out k2)
    have O1 := hide ho1
    clear ho1 k2
    go_wp2_with fail
    refine (copied_any a l c w2 (HR.out.below t2.out) (by omega)).mono ?_
    rintro r w3 ⟨v2, rfl, ho2, k3⟩
    obtain ⟨a2, c2, rfl, _, hf2⟩ := ho2.row
    have t3 := hide (below_call (w := w) t2.out k3)
    have s13 := t1.out.size
    have s12 : w1.heap.size ≤ w2.heap.size ∨ True := .inr trivial
    have L3 : Hid (LI w3 (.slice a1 l.length c1) (.slice a2 l.length c2) (.slice none 0 0) l 0 w1.heap.size w2.heap.size w3.heap.size) := hide ⟨by
      rw [mid_zero]; exact own_below O1.out k3, by rw [mid_zero]; exact ho2, World.ownsRow_nil _ _ _ _⟩
    have S13 : Hid (w.heap.size ≤ w1.heap.size ∧ w.heap.size ≤ w2.heap.size ∧ w.heap.size ≤ w3.heap.size) := hide ⟨t1.out.size, t2.out.size, t3.out.size⟩
    have K1 : Hid (∀ g, a1 = some ⟨g, 0, none⟩ → w1.heap.size ≤ g ∧ g < w2.heap.size) := hide (fun g hg => by
      rcases hf1 with h | ⟨g', h, h1, h2, _⟩
      · rw [h] at hg; cases hg
      · rw [h] at hg; simp only [Option.some.injEq, Addr.mk.injEq, and_true] at hg; omega)
    have K2 : Hid (∀ g, a2 = some ⟨g, 0, none⟩ → w2.heap.size ≤ g ∧ g < w3.heap.size) := hide (fun g hg => by
      rcases hf2 with h | ⟨g', h, h1, h2, _⟩
      · rw [h] at hg; cases hg
      · rw [h] at hg; simp only [Option.some.injEq, Addr.mk.injEq, and_true] at hg; omega)
    clear ho2 k3 hf1 hf2 t1 t2 O1 s12 s13
    obtain ⟨M0, hM0⟩ : ∃ m, m = w1.heap.size := ⟨_, rfl⟩
    obtain ⟨B2, hB2⟩ : ∃ m, m = w2.heap.size := ⟨_, rfl⟩
    obtain ⟨B3, hB3⟩ : ∃ m, m = w3.heap.size := ⟨_, rfl⟩
    rw [← hM0, ← hB2, ← hB3] at L3 S13
    rw [← hM0, ← hB2] at K1
    rw [← hB2, ← hB3] at K2
    clear hM0 hB2
    have HB3 : Hid (B3 ≤ w3.heap.size) := hide (by omega)
    clear hB3
    go_wp2_with fail
    go_loopw [8, 9] (fun s8 iv wr => ∃ i : Nat, i ≤ l.length ∧ iv = .int .i64 i ∧ (∃ a3 c3, s8 = .slice a3 (plL l i).length c3) ∧ LI wr (.slice a1 l.length c1) (.slice a2 l.length c2) s8 l i M0 B2 B3 ∧ Below w.heap.size w wr ∧ B3 ≤ wr.heap.size) (fun _ iv _ => l.length - (intOf iv).toNat)
    case atStart => exact ⟨0, Nat.zero_le _, rfl, ⟨none, 0, rfl⟩, L3.out, t3.out, HB3.out⟩
    case round =>
      clear L3 t3
      obtain ⟨i, hi2, rfl, ⟨a3, c3, rfl⟩, hLI, hbel, hb3⟩ := hrel
      have t := hide hbel
      have LL := hide hLI
      clear hbel hLI
      by_cases hlt : i < l.length
      · have hmz := mid_len zW (l := l) hi2
        have hmo := mid_len oC (l := l) hi2
        obtain ⟨g1, q1, e1, hg1, hg1l⟩ := LL.out.o1.form (by omega)
        obtain ⟨g2, q2, e2, hg2, hg2l⟩ := LL.out.o2.form (by omega)
        simp only [Value.slice.injEq] at e1 e2
        obtain ⟨e1, _, e1c⟩ := e1
        obtain ⟨e2, _, e2c⟩ := e2
        subst e1 e1c e2 e2c
        obtain ⟨k11, k12⟩ := K1.out g1 rfl
        obtain ⟨k21, k22⟩ := K2.out g2 rfl
        obtain ⟨b, off, rfl, hb, hcell⟩ := e_at (HR.out.below t.out) (by omega)
        have m1 : wr.cell? ⟨g1, i * 3, none⟩ = some (.int .i64 l[i].w) := by
          have := LL.out.o1.cellAt (i * 3) (by omega)
          rw [(eflat_at _ i (by omega)).1, mid_at zW hlt] at this
          exact this
        have f1 := LL.out.o1.frozenAt (i * 3)
        have S1 := hide (LL.out.o1.stored (i * 3) (.int .i64 0))
        rw [(eflat_set _ i (by omega) 0).1, mid_at zW hlt, show (⟨0, l[i].k, l[i].c⟩ : Ev) = zW l[i] from rfl, mid_set zW hlt] at S1
        obtain ⟨w5, hw5⟩ : ∃ w5, w5 = wr.setCell ⟨g1, i * 3, none⟩ (.int .i64 0) := ⟨_, rfl⟩
        rw [← hw5] at S1
        have t5 := hide (below_grown (a := w) t.out S1.out.2 (fun k h => by injection h with h; have := S13.out; omega))
        have O2 := hide (LL.out.o2.kept S1.out.2 (.inr (by simp [Value.ownBlock]; omega)))
        have h3 : ∀ k, (Value.slice a3 (plL l i).length c3).ownBlock = some k → B3 ≤ k := fun k hk => (LL.out.o3.lt k hk).1
        have O3 := hide (LL.out.o3.kept S1.out.2 (by
          by_cases hk : (Value.slice a3 (plL l i).length c3).ownBlock = some g1
          · have := h3 _ hk; omega
          · exact .inr hk))
        have hs5 : wr.heap.size ≤ w5.heap.size := S1.out.2.size
        have O1 := hide S1.out.1
        have hb3' : B3 ≤ w5.heap.size := by omega
        clear S1 LL
        have HW5 := hide hw5
        clear hw5
        go_upto_region 11 with fail
        rw [← HW5.out]
        clear m1 f1 HW5 hcell t
        obtain ⟨_, _, rb, _, hcell⟩ := e_at (HR.out.below t5.out) (by omega)
        simp only [Option.some.injEq, Addr.mk.injEq, and_true] at rb
        obtain ⟨rb1, rb2⟩ := rb
        subst rb1 rb2
        obtain ⟨x0, x1, x2⟩ := hcell i hlt
        clear hcell
        cases hp : plE l[i] with
        | true =>
          have P1 := hide (plL_yes hlt hp)
          have hoc : oC l[i] = ⟨l[i].w, l[i].k, l[i].w⟩ := by unfold oC; rw [if_pos hp]
          have HP := hide (fun W => hp ▸ rplain_any l[i] W)
          go_wp2_with fail
          refine (HP.out _).mono ?_
          rintro r w6 ⟨rfl, k6⟩
          have t6 := hide (below_call (w := w) t5.out k6)
          have O1 := hide (own_below O1.out k6)
          have O2 := hide (own_below O2.out k6)
          have O3 := hide (own_below O3.out k6)
          have hs6 : w5.heap.size ≤ w6.heap.size := k6.size
          clear k6 x0 x1 x2 hp
          obtain ⟨_, _, rb, hb6, hcell⟩ := e_at (HR.out.below t6.out) (by omega)
          simp only [Option.some.injEq, Addr.mk.injEq, and_true] at rb
          obtain ⟨rb1, rb2⟩ := rb
          subst rb1 rb2
          obtain ⟨x0, _, _⟩ := hcell i hlt
          clear hcell
          have m2 : w6.cell? ⟨g2, i * 3 + 2, none⟩ = some (.int .i64 l[i].c) := by
            have := O2.out.cellAt (i * 3 + 2) (by omega)
            rw [(eflat_at _ i (by omega)).2.2, mid_at oC hlt] at this
            exact this
          have f2 := O2.out.frozenAt (i * 3 + 2)
          have S2 := hide (O2.out.stored (i * 3 + 2) (.int .i64 l[i].w))
          rw [(eflat_set _ i (by omega) l[i].w).2, mid_at oC hlt, ← hoc, mid_set oC hlt] at S2
          clear hoc
          obtain ⟨w7, hw7⟩ : ∃ w7, w7 = w6.setCell ⟨g2, i * 3 + 2, none⟩ (.int .i64 l[i].w) := ⟨_, rfl⟩
          rw [← hw7] at S2
          have t7 := hide (below_grown (a := w) t6.out S2.out.2 (fun k h => by injection h with h; have := S13.out; omega))
          have O1 := hide (O1.out.kept S2.out.2 (.inr (by simp [Value.ownBlock]; omega)))
          have O3 := hide (O3.out.kept S2.out.2 (by
            by_cases hk : (Value.slice a3 (plL l i).length c3).ownBlock = some g2
            · have := h3 _ hk; omega
            · exact .inr hk))
          have O2 := hide S2.out.1
          have hs7 : w6.heap.size ≤ w7.heap.size := S2.out.2.size
          have HW7 := hide hw7
          clear S2 hw7
          go_upto_region 13 with fail
          rw [← HW7.out]
          clear x0 m2 f2 HW7
          obtain ⟨_, _, rb, hb7, hcell⟩ := e_at (HR.out.below t7.out) (by omega)
          simp only [Option.some.injEq, Addr.mk.injEq, and_true] at rb
          obtain ⟨rb1, rb2⟩ := rb
          subst rb1 rb2
          obtain ⟨x0, x1, x2⟩ := hcell i hlt
          clear hcell
          have O8 := hide (O3.out.alloc (.cells #[.int .i64 l[i].w, .int .u8 l[i].k, .int .i64 l[i].c] 48))
          have N8 := hide (Blk.new w7 48 #[.int .i64 l[i].w, .int .u8 l[i].k, .int .i64 l[i].c])
          have hpl := plL_le l i
          go_wp2_with (at_builtin; refine wpList_append_own _ rfl _ _ 22 rfl B3 48 i0 (.agg #[.int .i64 0, .int .u8 0, .int .i64 0]) 3 24 Try.underlying22 hi hz0 hz1 hz2 rfl (by decide) _ _ _ rfl O8.out ⟨w7.heap.size, 0, none⟩ 1 1 [.int .i64 l[i].w, .int .u8 l[i].k, .int .i64 l[i].c] rfl rfl ?c1 ?c2 ?c3 ?c4 ?c5 ?_)
          case c1 => exact N8.out.news
          case c2 => intro z hz; simp at hz; rcases hz with rfl | rfl | rfl <;> rfl
          case c3 => unfold maxLen; omega
          case c4 => omega
          case c5 => simp; omega
          intro v' w9 hown' hgrow _
          obtain ⟨g', cap', rfl, _, _⟩ := hown'.form (by omega)
          have t9 := hide (below_grown (a := w) (t7.out.alloc t7.out.size (.cells #[.int .i64 l[i].w, .int .u8 l[i].k, .int .i64 l[i].c] 48)) hgrow (fun k h => by have := h3 _ h; have := S13.out; omega))
          have hn : ∀ (q : Nat), q < B3 → (Value.slice a3 (plL l i).length c3).ownBlock ≠ some q := fun q hq h => by have := h3 _ h; omega
          have L9 : Hid (LI w9 (.slice (some ⟨g1, 0, none⟩) l.length c1) (.slice (some ⟨g2, 0, none⟩) l.length c2) (.slice (some ⟨g', 0, none⟩) ((plL l i).length + 1) cap') l (i + 1) M0 B2 B3) := hide ⟨
            (O1.out.alloc _).kept hgrow (.inr (fun h => hn g1 (by omega) h.symm)),
            (O2.out.alloc _).kept hgrow (.inr (fun h => hn g2 (by omega) h.symm)),
            by rw [P1.out, List.length_append, List.map_append, List.flatten_append]; exact hown'⟩
          have hs9 := hgrow.size
          rw [World.size_alloc] at hs9
          have HE : Hid ((plL l (i + 1)).length = (plL l i).length + 1) := hide (by rw [P1.out, List.length_append]; rfl)
          clear hown' hgrow x0 x1 x2 O8 N8 hn
          go_wp2_with fail
          go_roundw
          case rel => exact ⟨i + 1, hlt, by go_num, ⟨some ⟨g', 0, none⟩, cap', by rw [HE.out]⟩, L9.out, t9.out, by omega⟩
          case measure => simp [intOf]; omega
        | false =>
          have P1 := hide (plL_no hlt hp)
          have hoc : oC l[i] = l[i] := by unfold oC; rw [if_neg (by simp [hp])]
          have HO := hide (mid_same oC hlt hoc)
          have HP := hide (fun W => hp ▸ rplain_any l[i] W)
          clear hp hoc
          go_wp2_with fail
          refine (HP.out _).mono ?_
          rintro r w6 ⟨rfl, k6⟩
          have t6 := hide (below_call (w := w) t5.out k6)
          have L6 : Hid (LI w6 (.slice (some ⟨g1, 0, none⟩) l.length c1) (.slice (some ⟨g2, 0, none⟩) l.length c2) (.slice a3 (plL l i).length c3) l (i + 1) M0 B2 B3) := hide ⟨own_below O1.out k6, by rw [HO.out]; exact own_below O2.out k6, by rw [P1.out]; exact own_below O3.out k6⟩
          have hs6 := k6.size
          have HE : Hid ((plL l (i + 1)).length = (plL l i).length) := hide (by rw [P1.out])
          clear k6 x0 x1 x2
          go_wp2_with fail
          go_roundw
          case rel => exact ⟨i + 1, hlt, by go_num, ⟨a3, c3, by rw [HE.out]⟩, L6.out, t6.out, by omega⟩
          case measure => simp [intOf]; omega
      · obtain rfl : i = l.length := by omega
        have P1 : Hid (plL l l.length = l.filter plE) := hide (by unfold plL; rw [List.take_length])
        have Q1 : Hid (ERow wr a1 (l.map zW)) := hide (by
          obtain ⟨A, C, e, _, _, _, h, _⟩ := own_rowS (ecell_len _) (by decide) LL.out.o1
          simp only [Value.slice.injEq] at e
          rw [mid_full] at h
          rw [e.1]; exact h)
        have Q2 : Hid (ERow wr a2 (l.map oC)) := hide (by
          obtain ⟨A, C, e, _, _, _, h, _⟩ := own_rowS (ecell_len _) (by decide) LL.out.o2
          simp only [Value.slice.injEq] at e
          rw [mid_full] at h
          rw [e.1]; exact h)
        have Q3 : Hid (ERow wr a3 (plL l l.length)) := hide (by
          obtain ⟨A, C, e, _, _, _, h, _⟩ := own_rowS (ecell_len _) (by decide) LL.out.o3
          simp only [Value.slice.injEq] at e
          rw [e.1]; exact h)
        have l1 : Hid ((l.map zW).length = l.length) := hide (List.length_map _)
        have l2 : Hid ((l.map oC).length = l.length) := hide (List.length_map _)
        have R1 := hide (fun W h => race_yes a1 (l.map zW) c1 n W h (log_one HM.out) (far_one HCC.out))
        have R2 := hide (fun W h => race_yes a2 (l.map oC) c2 n W h (log_own HM.out) (far_own HM.out HCC.out))
        have R3 := hide (fun W h => race_yes a3 (plL l l.length) c3 n W h (log_pl HM.out _) (fun x hx => HCC.out x (plL_mem x hx).1))
        have PP : Hid (∀ x ∈ plL l l.length, plE x = true) := hide (fun x hx => (plL_mem x hx).2)
        have hpl := plL_le l l.length
        rw [l1.out] at R1
        rw [l2.out] at R2
        generalize plL l l.length = p at *
        clear LL P1 K1 K2 HL HM HCC l1 l2 hi hz0 hz1 hz2
        have R1 : Hid (∀ W, ERow W a1 (l.map zW) → Calls Try.prog 18 #[.int .i64 n, .slice a1 l.length c1] W fun r w' => (∃ i j : Nat, r = .returned (.tuple #[.int .i64 i, .int .i64 j, .bool false, .int .i64 0])) ∧ Below W.heap.size W w') := hide (fun W h => (R1.out W h).mono fun r w' ⟨i, j, is, e, hR, k⟩ => by
          have h0 := norace_one (l := l) (i := i) (j := j) (is := is) (by rw [List.length_map]; exact hR)
          subst h0
          exact ⟨⟨i, j, e⟩, k⟩)
        have R2 : Hid (∀ W, ERow W a2 (l.map oC) → Calls Try.prog 18 #[.int .i64 n, .slice a2 l.length c2] W fun r w' => (∃ i j : Nat, r = .returned (.tuple #[.int .i64 i, .int .i64 j, .bool false, .int .i64 0])) ∧ Below W.heap.size W w') := hide (fun W h => (R2.out W h).mono fun r w' ⟨i, j, is, e, hR, k⟩ => by
          have h0 := norace_own (l := l) (i := i) (j := j) (is := is) (by rw [List.length_map]; exact hR)
          subst h0
          exact ⟨⟨i, j, e⟩, k⟩)
        have R3 : Hid (∀ W, ERow W a3 p → Calls Try.prog 18 #[.int .i64 n, .slice a3 p.length c3] W fun r w' => (∃ i j : Nat, r = .returned (.tuple #[.int .i64 i, .int .i64 j, .bool (totM p p.length), .int .i64 0])) ∧ Below W.heap.size W w') := hide (fun W h => (R3.out W h).mono fun r w' ⟨i, j, is, e, hR, k⟩ => ⟨⟨i, j, by rw [meets_race PP.out hR] at e; exact e⟩, k⟩)
        go_wp2_with fail
        refine (R1.out _ Q1.out).mono ?_
        rintro r w4 ⟨⟨i1, j1, rfl⟩, k4⟩
        have Q2 := hide (Q2.out.below k4)
        have Q3 := hide (Q3.out.below k4)
        have t4 := hide (below_call (w := w) t.out k4)
        clear k4 Q1 R1 t
        go_wp2_with fail
        refine (R2.out _ Q2.out).mono ?_
        rintro r w5 ⟨⟨i2, j2, rfl⟩, k5⟩
        have Q3 := hide (Q3.out.below k5)
        have t5 := hide (below_call (w := w) t4.out k5)
        clear k5 Q2 R2 t4
        go_wp2_with fail
        refine (R3.out _ Q3.out).mono ?_
        rintro r w6 ⟨⟨i3, j3, rfl⟩, k6⟩
        have Q3 := hide (Q3.out.below k6)
        have t6 := hide (below_call (w := w) t5.out k6)
        clear k6 R3 t5
        generalize hT : totM p p.length = T
        have HT := hide hT
        clear hT
        go_wp2_with fail
        go_loopw [22, 23] (fun mv iv wr => ∃ i : Nat, i ≤ p.length ∧ iv = .int .i64 i ∧ mv = .bool (totM p i) ∧ Below w6.heap.size w6 wr) (fun _ iv _ => p.length - (intOf iv).toNat)
        case atStart => exact ⟨0, Nat.zero_le _, rfl, rfl, Below.refl _ _⟩
        case round =>
          obtain ⟨i, hi, rfl, rfl, hbel⟩ := hrel
          have b6 := hide hbel
          clear hbel
          by_cases hlt : i < p.length
          · go_wp2_with fail
            go_loopw [22, 24] (fun mv jv wq => ∃ j : Nat, j ≤ i ∧ jv = .int .i64 j ∧ mv = .bool (totM p i || rowM p i j) ∧ Below w6.heap.size w6 wq) (fun _ jv _ => i - (intOf jv).toNat)
            case atStart => exact ⟨0, Nat.zero_le _, rfl, by simp [rowM], b6.out⟩
            case round =>
              obtain ⟨j, hj, rfl, rfl, hbel⟩ := hrel
              have b7 := hide hbel
              clear hbel
              by_cases hjt : j < i
              · obtain ⟨b, off, rfl, hb, hcell⟩ := e_at (Q3.out.below b7.out) (by omega)
                obtain ⟨x0, x1, x2⟩ := hcell i hlt
                obtain ⟨y0, y1, y2⟩ := hcell j (by omega)
                have HMT : Hid (mt p i j = (!(p[i].w == p[j].w) && (p[i].c == p[j].c && (p[i].k == 6 || p[j].k == 6)))) := hide (by unfold mt; rw [gl_at hlt, gl_at (show j < p.length by omega)])
                have HRM : Hid ((totM p i || rowM p i (j + 1)) = ((totM p i || rowM p i j) || mt p i j)) := hide (by rw [rowM, Bool.or_assoc])
                rw [HMT.out] at HRM
                clear hcell HMT
                generalize p[i] = eA at x0 x1 x2 HRM
                generalize p[j] = eB at y0 y1 y2 HRM
                generalize (totM p i || rowM p i j) = M at HRM ⊢
                obtain ⟨aw, ak, ac⟩ := eA
                obtain ⟨bw, bk, bc⟩ := eB
                dsimp only at x0 x1 x2 y0 y1 y2 HRM
                generalize hKK : (ak == 6 || bk == 6) = KK at HRM
                have HKK := hide hKK
                clear hKK
                have r0 := keepd x0
                have r1 := keepd x1
                have r2 := keepd x2
                have s0 := keepd y0
                have s1 := keepd y1
                have s2 := keepd y2
                cases hak : (ak == 6) with
                | true =>
                  cases M with
                  | true =>
                    go_upto_region 25 with fail
                    refine Reg.region (by kernel_rfl) 33 [] (fun _ w' => w' = wr.drew) (by kernel_rfl) (by kernel_rfl) rfl ?_
                    iterate 33
                      first
                        | refine Reg.WT.idle rfl rfl ?_
                        | (refine Reg.WT.yield (v := ?_) rfl rfl ?_ ?_
                           rotate_left
                           · intro w' _ hS; go_simp; (try go_bits); (first | rfl | rw [if_pos (by omega)]))
                      simp only [Act.put, List.setIfInBounds_toArray, List.set_cons_zero, List.set_cons_succ]
                    intro w8 hS
                    subst hS
                    clear r0 r1 r2 s0 s1 s2 x0 x1 x2 y0 y1 y2
                    go_wp2_with fail
                    go_roundw
                    case rel => exact ⟨j + 1, hjt, by go_num, by rw [HRM.out]; simp [← HKK.out, *], b7.out.drew⟩
                    case measure => simp [intOf]; omega
                  | false =>
                    cases haw : (aw == bw) with
                    | true =>
                      have haw2 : (aw != bw) = false := by simp [bne, haw]
                      go_upto_region 25 with fail
                      refine Reg.region (by kernel_rfl) 33 [] (fun _ w' => w' = wr.drew) (by kernel_rfl) (by kernel_rfl) rfl ?_
                      iterate 33
                        first
                          | refine Reg.WT.idle rfl rfl ?_
                          | (refine Reg.WT.yield (v := ?_) rfl rfl ?_ ?_
                             rotate_left
                             · intro w' _ hS; go_simp; (try go_bits); (first | rfl | rw [if_pos (by omega)]))
                        simp only [Act.put, List.setIfInBounds_toArray, List.set_cons_zero, List.set_cons_succ]
                      intro w8 hS
                      subst hS
                      clear r0 r1 r2 s0 s1 s2 x0 x1 x2 y0 y1 y2
                      go_wp2_with fail
                      go_roundw
                      case rel => exact ⟨j + 1, hjt, by go_num, by rw [HRM.out]; simp [← HKK.out, *], b7.out.drew⟩
                      case measure => simp [intOf]; omega
                    | false =>
                      have haw2 : (aw != bw) = true := by simp [bne, haw]
                      cases hac : (ac == bc) with
                      | true =>
                        go_upto_region 25 with fail
                        refine Reg.region (by kernel_rfl) 33 [] (fun _ w' => w' = wr.drew) (by kernel_rfl) (by kernel_rfl) rfl ?_
                        iterate 33
                          first
                            | refine Reg.WT.idle rfl rfl ?_
                            | (refine Reg.WT.yield (v := ?_) rfl rfl ?_ ?_
                               rotate_left
                               · intro w' _ hS; go_simp; (try go_bits); (first | rfl | rw [if_pos (by omega)]))
                          simp only [Act.put, List.setIfInBounds_toArray, List.set_cons_zero, List.set_cons_succ]
                        intro w8 hS
                        subst hS
                        clear r0 r1 r2 s0 s1 s2 x0 x1 x2 y0 y1 y2
                        go_wp2_with fail
                        go_roundw
                        case rel => exact ⟨j + 1, hjt, by go_num, by rw [HRM.out]; simp [← HKK.out, *], b7.out.drew⟩
                        case measure => simp [intOf]; omega
                      | false =>
                        go_upto_region 25 with fail
                        refine Reg.region (by kernel_rfl) 33 [] (fun _ w' => w' = wr.drew) (by kernel_rfl) (by kernel_rfl) rfl ?_
                        iterate 33
                          first
                            | refine Reg.WT.idle rfl rfl ?_
                            | (refine Reg.WT.yield (v := ?_) rfl rfl ?_ ?_
                               rotate_left
                               · intro w' _ hS; go_simp; (try go_bits); (first | rfl | rw [if_pos (by omega)]))
                          simp only [Act.put, List.setIfInBounds_toArray, List.set_cons_zero, List.set_cons_succ]
                        intro w8 hS
                        subst hS
                        clear r0 r1 r2 s0 s1 s2 x0 x1 x2 y0 y1 y2
                        go_wp2_with fail
                        go_roundw
                        case rel => exact ⟨j + 1, hjt, by go_num, by rw [HRM.out]; simp [← HKK.out, *], b7.out.drew⟩
                        case measure => simp [intOf]; omega
                | false =>
                  cases hbk : (bk == 6) with
                  | true =>
                    cases M with
                    | true =>
                      go_upto_region 25 with fail
                      refine Reg.region (by kernel_rfl) 33 [] (fun _ w' => w' = wr.drew) (by kernel_rfl) (by kernel_rfl) rfl ?_
                      iterate 33
                        first
                          | refine Reg.WT.idle rfl rfl ?_
                          | (refine Reg.WT.yield (v := ?_) rfl rfl ?_ ?_
                             rotate_left
                             · intro w' _ hS; go_simp; (try go_bits); (first | rfl | rw [if_pos (by omega)]))
                        simp only [Act.put, List.setIfInBounds_toArray, List.set_cons_zero, List.set_cons_succ]
                      intro w8 hS
                      subst hS
                      clear r0 r1 r2 s0 s1 s2 x0 x1 x2 y0 y1 y2
                      go_wp2_with fail
                      go_roundw
                      case rel => exact ⟨j + 1, hjt, by go_num, by rw [HRM.out]; simp [← HKK.out, *], b7.out.drew⟩
                      case measure => simp [intOf]; omega
                    | false =>
                      cases haw : (aw == bw) with
                      | true =>
                        have haw2 : (aw != bw) = false := by simp [bne, haw]
                        go_upto_region 25 with fail
                        refine Reg.region (by kernel_rfl) 33 [] (fun _ w' => w' = wr.drew) (by kernel_rfl) (by kernel_rfl) rfl ?_
                        iterate 33
                          first
                            | refine Reg.WT.idle rfl rfl ?_
                            | (refine Reg.WT.yield (v := ?_) rfl rfl ?_ ?_
                               rotate_left
                               · intro w' _ hS; go_simp; (try go_bits); (first | rfl | rw [if_pos (by omega)]))
                          simp only [Act.put, List.setIfInBounds_toArray, List.set_cons_zero, List.set_cons_succ]
                        intro w8 hS
                        subst hS
                        clear r0 r1 r2 s0 s1 s2 x0 x1 x2 y0 y1 y2
                        go_wp2_with fail
                        go_roundw
                        case rel => exact ⟨j + 1, hjt, by go_num, by rw [HRM.out]; simp [← HKK.out, *], b7.out.drew⟩
                        case measure => simp [intOf]; omega
                      | false =>
                        have haw2 : (aw != bw) = true := by simp [bne, haw]
                        cases hac : (ac == bc) with
                        | true =>
                          go_upto_region 25 with fail
                          refine Reg.region (by kernel_rfl) 33 [] (fun _ w' => w' = wr.drew) (by kernel_rfl) (by kernel_rfl) rfl ?_
                          iterate 33
                            first
                              | refine Reg.WT.idle rfl rfl ?_
                              | (refine Reg.WT.yield (v := ?_) rfl rfl ?_ ?_
                                 rotate_left
                                 · intro w' _ hS; go_simp; (try go_bits); (first | rfl | rw [if_pos (by omega)]))
                            simp only [Act.put, List.setIfInBounds_toArray, List.set_cons_zero, List.set_cons_succ]
                          intro w8 hS
                          subst hS
                          clear r0 r1 r2 s0 s1 s2 x0 x1 x2 y0 y1 y2
                          go_wp2_with fail
                          go_roundw
                          case rel => exact ⟨j + 1, hjt, by go_num, by rw [HRM.out]; simp [← HKK.out, *], b7.out.drew⟩
                          case measure => simp [intOf]; omega
                        | false =>
                          go_upto_region 25 with fail
                          refine Reg.region (by kernel_rfl) 33 [] (fun _ w' => w' = wr.drew) (by kernel_rfl) (by kernel_rfl) rfl ?_
                          iterate 33
                            first
                              | refine Reg.WT.idle rfl rfl ?_
                              | (refine Reg.WT.yield (v := ?_) rfl rfl ?_ ?_
                                 rotate_left
                                 · intro w' _ hS; go_simp; (try go_bits); (first | rfl | rw [if_pos (by omega)]))
                            simp only [Act.put, List.setIfInBounds_toArray, List.set_cons_zero, List.set_cons_succ]
                          intro w8 hS
                          subst hS
                          clear r0 r1 r2 s0 s1 s2 x0 x1 x2 y0 y1 y2
                          go_wp2_with fail
                          go_roundw
                          case rel => exact ⟨j + 1, hjt, by go_num, by rw [HRM.out]; simp [← HKK.out, *], b7.out.drew⟩
                          case measure => simp [intOf]; omega
                  | false =>
                    cases M with
                    | true =>
                      go_upto_region 25 with fail
                      refine Reg.region (by kernel_rfl) 33 [] (fun _ w' => w' = wr.drew) (by kernel_rfl) (by kernel_rfl) rfl ?_
                      iterate 33
                        first
                          | refine Reg.WT.idle rfl rfl ?_
                          | (refine Reg.WT.yield (v := ?_) rfl rfl ?_ ?_
                             rotate_left
                             · intro w' _ hS; go_simp; (try go_bits); (first | rfl | rw [if_pos (by omega)]))
                        simp only [Act.put, List.setIfInBounds_toArray, List.set_cons_zero, List.set_cons_succ]
                      intro w8 hS
                      subst hS
                      clear r0 r1 r2 s0 s1 s2 x0 x1 x2 y0 y1 y2
                      go_wp2_with fail
                      go_roundw
                      case rel => exact ⟨j + 1, hjt, by go_num, by rw [HRM.out]; simp [← HKK.out, *], b7.out.drew⟩
                      case measure => simp [intOf]; omega
                    | false =>
                      cases haw : (aw == bw) with
                      | true =>
                        have haw2 : (aw != bw) = false := by simp [bne, haw]
                        go_upto_region 25 with fail
                        refine Reg.region (by kernel_rfl) 33 [] (fun _ w' => w' = wr.drew) (by kernel_rfl) (by kernel_rfl) rfl ?_
                        iterate 33
                          first
                            | refine Reg.WT.idle rfl rfl ?_
                            | (refine Reg.WT.yield (v := ?_) rfl rfl ?_ ?_
                               rotate_left
                               · intro w' _ hS; go_simp; (try go_bits); (first | rfl | rw [if_pos (by omega)]))
                          simp only [Act.put, List.setIfInBounds_toArray, List.set_cons_zero, List.set_cons_succ]
                        intro w8 hS
                        subst hS
                        clear r0 r1 r2 s0 s1 s2 x0 x1 x2 y0 y1 y2
                        go_wp2_with fail
                        go_roundw
                        case rel => exact ⟨j + 1, hjt, by go_num, by rw [HRM.out]; simp [← HKK.out, *], b7.out.drew⟩
                        case measure => simp [intOf]; omega
                      | false =>
                        have haw2 : (aw != bw) = true := by simp [bne, haw]
                        cases hac : (ac == bc) with
                        | true =>
                          go_upto_region 25 with fail
                          refine Reg.region (by kernel_rfl) 33 [] (fun _ w' => w' = wr.drew) (by kernel_rfl) (by kernel_rfl) rfl ?_
                          iterate 33
                            first
                              | refine Reg.WT.idle rfl rfl ?_
                              | (refine Reg.WT.yield (v := ?_) rfl rfl ?_ ?_
                                 rotate_left
                                 · intro w' _ hS; go_simp; (try go_bits); (first | rfl | rw [if_pos (by omega)]))
                            simp only [Act.put, List.setIfInBounds_toArray, List.set_cons_zero, List.set_cons_succ]
                          intro w8 hS
                          subst hS
                          clear r0 r1 r2 s0 s1 s2 x0 x1 x2 y0 y1 y2
                          go_wp2_with fail
                          go_roundw
                          case rel => exact ⟨j + 1, hjt, by go_num, by rw [HRM.out]; simp [← HKK.out, *], b7.out.drew⟩
                          case measure => simp [intOf]; omega
                        | false =>
                          go_upto_region 25 with fail
                          refine Reg.region (by kernel_rfl) 33 [] (fun _ w' => w' = wr.drew) (by kernel_rfl) (by kernel_rfl) rfl ?_
                          iterate 33
                            first
                              | refine Reg.WT.idle rfl rfl ?_
                              | (refine Reg.WT.yield (v := ?_) rfl rfl ?_ ?_
                                 rotate_left
                                 · intro w' _ hS; go_simp; (try go_bits); (first | rfl | rw [if_pos (by omega)]))
                            simp only [Act.put, List.setIfInBounds_toArray, List.set_cons_zero, List.set_cons_succ]
                          intro w8 hS
                          subst hS
                          clear r0 r1 r2 s0 s1 s2 x0 x1 x2 y0 y1 y2
                          go_wp2_with fail
                          go_roundw
                          case rel => exact ⟨j + 1, hjt, by go_num, by rw [HRM.out]; simp [← HKK.out, *], b7.out.drew⟩
                          case measure => simp [intOf]; omega
              · obtain rfl : j = i := by omega
                go_wp2_with fail
                go_roundw
                case rel => exact ⟨j + 1, hlt, by go_num, by rw [totM], b7.out⟩
                case measure => simp [intOf]; omega
          · obtain rfl : i = p.length := by omega
            have t7 := hide (below_call (w := w) t6.out b6.out)
            rw [HT.out]
            cases T with
            | true =>
              go_wp2_with fail
              refine (works_any _).mono ?_
              rintro r w9 ⟨rfl, k9⟩
              have t9 := hide (below_call (w := w) t7.out k9)
              clear k9
              go_wp2_with fail
              go_returns
              exact ⟨rfl, t9.out⟩
            | false =>
              go_wp2_with fail
              refine (works_any _).mono ?_
              rintro r w9 ⟨rfl, k9⟩
              have t9 := hide (below_call (w := w) t7.out k9)
              clear k9
              go_wp2_with fail
              go_returns
              exact ⟨rfl, t9.out⟩
  · have HM := hide hM
    clear hM
    go_wp2_with fail
    refine (may_no a l c n _ HR.out (fun y hy => (HL.out y hy).k) HM.out).mono ?_
    rintro r w2 ⟨rfl, k2⟩
    have t2 := hide k2
    clear k2
    go_wp2_with fail
    refine (works_any _).mono ?_
    rintro r w9 ⟨rfl, k9⟩
    have t9 := hide (below_call (w := w) t2.out k9)
    clear k9
    go_wp2_with fail
    go_returns
    exact ⟨rfl, t9.out⟩
end Go.Proofs.Ytffpphnjokmffaa
