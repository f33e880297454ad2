/- Walk: a row. -/
import Derived.Test.YtpdfeifnbeojcaaWA
import Derived.Test.YtpdfeifnbeojcaaRegA
import Derived.OwnWalk
import Derived.Deep.AppendLies
import Derived.Deep.CutBlock
import Derived.Deep.LoopGhost
import Derived.Deep.Onto
import Derived.Laws.Rows
namespace Go.Proofs.Ytpdfeifnbeojcaa
open Go.RowKit

/-- All that the filler looks at. -/
structure FE (W : World) (bf : Nat) (wa : Option Addr) (ws : List Wd) (wc : Nat) (fa : Option Addr) (fc : Nat) (c : Rm) : Prop where
  bl : Blk W bf 43 (filc wa ws.length wc c.h c.al c.a c.b fa c.fl.length fc)
  wr : WRow W wa ws
  fr : FRow W fa c.fl
theorem FE.below {W W' : World} {bf : Nat} {wa : Option Addr} {ws : List Wd} {wc : Nat} {fa : Option Addr} {fc : Nat} {c : Rm} (h : FE W bf wa ws wc fa fc c) (hb : Below W.heap.size W W') : FE W' bf wa ws wc fa fc c :=
  ⟨h.bl.below hb h.bl.lt, h.wr.below hb, h.fr.below hb⟩
structure RmOk (c : Rm) : Prop where
  a : Far c.a
  b : Far c.b
  h : 0 ≤ c.h ∧ c.h ≤ 1125899906842624
  fl : ∀ f ∈ c.fl, Fit f
theorem RmOk.at_far {c : Rm} (h : RmOk c) (y : Int) : Far (c.at_ y).1 ∧ Far (c.at_ y).2 := tall_far h.fl h.a h.b
theorem Blk.not_row {W : World} {B : Nat} {t e : TypeId} {cs : Array Value} (h : Blk W B t cs) (hte : t ≠ e) {base size k : Nat} {v : Value} {xs : List Value} (hr : W.ownsRow base e size v k xs) : some B ≠ v.ownBlock := by
  rcases hr.2 with ⟨rfl, _⟩ | ⟨g, cap, cur, rfl, _, hgb, _⟩
  · simp [Value.ownBlock]
  · intro e'
    obtain rfl : B = g := by simpa [Value.ownBlock] using e'
    have := (show W.heap[B]? = _ from h).symm.trans hgb
    simp at this
    exact hte this.2
theorem Blk.grown {W W' : World} {B : Nat} {t : TypeId} {cs : Array Value} {row : Option Nat} (h : Blk W B t cs) (hg : W.grownBy W' row) (hne : some B ≠ row) : Blk W' B t cs := (hg.block B h.lt hne).trans h
theorem info2 : (Try.prog.info? 2).map (fun i => (i.zero, i.size, i.bytes)) = some (some (.int .i64 0), 1, 8) := by kernel_rfl

theorem ok_yes {c : Rm} {w y : Int} (h : c.at_ y = (c.a, c.b) ∨ w ≤ (c.at_ y).2 - (c.at_ y).1 ∨ (nxt c.fl y).2 = false) : okD c w y = true := by
  unfold okD
  rcases h with h | h | h <;> simp [h]
theorem ok_no {c : Rm} {w y : Int} (h1 : ¬ c.at_ y = (c.a, c.b)) (h2 : ¬ w ≤ (c.at_ y).2 - (c.at_ y).1) (h3 : (nxt c.fl y).2 = true) : okD c w y = false := by
  unfold okD; simp [h1, h2, h3] <;> omega
theorem dwn_fay {c : Rm} (hc : RmOk c) {w : Int} : ∀ (n : Nat) {y : Int}, cntB c.fl y ≤ n → Fay y → Fay (dwn c w y) := by
  intro n
  induction n with
  | zero =>
    intro y h hy
    cases ho : okD c w y
    · have := cnt_lt (okD_nxt ho); omega
    · rw [dwn_ok ho]; exact hy
  | succ n ih =>
    intro y h hy
    cases ho : okD c w y
    · have h1 := cnt_lt (okD_nxt ho)
      have h2 := nxt_far hc.fl (okD_nxt ho)
      rw [dwn_no ho]
      exact ih (by omega) (by unfold Fay; omega)
    · rw [dwn_ok ho]; exact hy

theorem grow_on {te : Int} {l : List Wd} {j : Nat} {e e0 : Int} {pre : List Int} {nw : Wd} (h : grow te l e0 = (pre ++ (grow te (l.drop j) e).1, (grow te (l.drop j) e).2)) (hj : j < l.length) (hnw : l[j] = nw) (hc : nw.n = 0 ∧ e + nw.g + nw.w ≤ te) :
    grow te l e0 = ((pre ++ [e + nw.g]) ++ (grow te (l.drop (j + 1)) (e + nw.g + nw.w)).1, (grow te (l.drop (j + 1)) (e + nw.g + nw.w)).2) := by
  rw [h, List.drop_eq_getElem_cons hj, hnw, grow, if_pos hc]
  simp
theorem grow_off {te : Int} {l : List Wd} {j : Nat} {e e0 : Int} {pre : List Int} {nw : Wd} (h : grow te l e0 = (pre ++ (grow te (l.drop j) e).1, (grow te (l.drop j) e).2)) (hj : j < l.length) (hnw : l[j] = nw) (hc : ¬ (nw.n = 0 ∧ e + nw.g + nw.w ≤ te)) :
    grow te l e0 = (pre, e) := by
  rw [h, List.drop_eq_getElem_cons hj, hnw, grow, if_neg hc]
  simp
theorem grow_end {te : Int} {l : List Wd} {j : Nat} {e e0 : Int} {pre : List Int} (h : grow te l e0 = (pre ++ (grow te (l.drop j) e).1, (grow te (l.drop j) e).2)) (hj : l.length ≤ j) : grow te l e0 = (pre, e) := by
  rw [h, List.drop_eq_nil_of_le hj, grow]; simp
/-- The row under way. -/
structure GW (W : World) (B0 R : Nat) (yd : Int) (k j g cap : Nat) (xs : List Int) : Prop where
  bl : Blk W R 38 #[.int .i64 yd, .int .i64 k, .int .i64 ((k + 1 + j : Nat) : Int), .slice (some ⟨g, 0, none⟩) (j + 1) cap]
  own : W.ownsRow B0 2 1 (.slice (some ⟨g, 0, none⟩) (j + 1) cap) (j + 1) (ints xs)
theorem GW.below {W W' : World} {B0 R : Nat} {yd : Int} {k j g cap : Nat} {xs : List Int} (h : GW W B0 R yd k j g cap xs) (hb : Below W.heap.size W W') : GW W' B0 R yd k j g cap xs :=
  ⟨h.bl.below hb h.bl.lt, own_below h.own hb⟩
theorem GW.drew {W : World} {B0 R : Nat} {yd : Int} {k j g cap : Nat} {xs : List Int} (h : GW W B0 R yd k j g cap xs) : GW W.drew B0 R yd k j g cap xs := ⟨h.bl.drew, h.own.drew⟩
/-- The first j moved by m. -/
def mid_ (xs : List Int) (m : Int) (j : Nat) : List Int := (xs.take j).map (· + m) ++ xs.drop j
theorem mid_at {xs : List Int} {j : Nat} (m : Int) (h : j < xs.length) : (ints (mid_ xs m j))[j]? = some (.int .i64 xs[j]) := by
  simp [ints, mid_, List.getElem?_append, Nat.min_eq_left (Nat.le_of_lt h), h]
theorem mid_set {xs : List Int} {j : Nat} (m : Int) (h : j < xs.length) : (ints (mid_ xs m j)).set j (.int .i64 (xs[j] + m)) = ints (mid_ xs m (j + 1)) := by
  unfold ints mid_
  rw [← List.map_set]
  congr 1
  have hl : ((xs.take j).map (· + m)).length = j := by simp; omega
  rw [List.set_append_right _ _ (by omega), hl, Nat.sub_self, List.drop_eq_getElem_cons h, List.set_cons_zero, List.take_succ_eq_append_getElem h, List.map_append, List.append_assoc]
  rfl
theorem mid_end {xs : List Int} {j : Nat} (m : Int) (h : xs.length ≤ j) : mid_ xs m j = xs.map (· + m) := by
  simp [mid_, List.take_of_length_le h, List.drop_eq_nil_of_le h]
/-- Where words may stand. -/
def Fur (x : Int) : Prop := -4503599627370496 ≤ x ∧ x ≤ 4503599627370496 + 2199023255552 * 201
def R1Post (c : Rm) (w y : Int) (W : World) (s2 s7 s8 : Value) (wx : World) : Prop :=
  s2 = .int .i64 (dwn c w y) ∧ s7 = .int .i64 (c.at_ (dwn c w y)).1 ∧ s8 = .int .i64 (c.at_ (dwn c w y)).2 ∧ Below W.heap.size W wx
set_option maxHeartbeats 4000000 in
set_option maxRecDepth 100000 in
theorem row_any (bf : Nat) (wa : Option Addr) (ws : List Wd) (wq : Nat) (fa : Option Addr) (fc : Nat) (c : Rm) (hc : RmOk c) (w : World) (he : FE w bf wa ws wq fa fc c) (hok : ∀ x ∈ ws, WdOk x) (hn : ws.length ≤ 200)
    (k : Nat) (wd : Wd) (l : List Wd) (hd : ws.drop k = wd :: l) (y : Int) (hy : Fay y) :
    Calls Try.prog 21 #[.pointer (some ⟨bf, 0, none⟩), .int .i64 k, .int .i64 y] w fun r w' => ∃ g cap, r = .returned (.agg #[.int .i64 (rowOf c k wd l y).y, .int .i64 k, .int .i64 (rowOf c k wd l y).t, .slice (some ⟨g, 0, none⟩) (rowOf c k wd l y).xs.length cap]) ∧
      w'.ownsRow w.heap.size 2 1 (.slice (some ⟨g, 0, none⟩) (rowOf c k wd l y).xs.length cap) (rowOf c k wd l y).xs.length (ints (rowOf c k wd l y).xs) ∧ Below w.heap.size w w' := by
  obtain ⟨i0, hi, hz0, hz1, hz2⟩ := info_parts info2
  obtain ⟨hk, hwk, hll, _, hl2⟩ := drop_at (j := 0) hd
  have hwk := hwk hk
  have hwo := hok _ (List.getElem_mem hk)
  rw [hwk] at hwo
  obtain ⟨hw1, hw2⟩ := hwo.w
  have HC := hide hc
  have HL := hide hl2
  have HWK := hide hwk
  have HOK := hide hok
  have hlen : Hid (l.length = ws.length - (k + 1)) := hide hll
  have HY := hide hy
  clear hd hl2 hwk hok hll hwo hy hc
  obtain ⟨w1, hw1e⟩ : ∃ w1, w1 = w.alloc (.cells #[.int .i64 0, .int .i64 0, .int .i64 0, .slice none 0 0] 38) := ⟨_, rfl⟩
  have B1 : Hid (Blk w1 w.heap.size 38 #[.int .i64 0, .int .i64 0, .int .i64 0, .slice none 0 0]) := hide (hw1e ▸ Blk.new w _ _)
  have t1 : Hid (Below w.heap.size w w1) := hide (hw1e ▸ (Below.refl _ _).alloc (Nat.le_refl _) _)
  have E1 : Hid (FE w1 bf wa ws wq fa fc c) := hide (he.below t1.out)
  have s1 : Hid (w1.heap.size = w.heap.size + 1) := hide (by rw [hw1e]; simp)
  go_enter Try.func21, Try.ntmps21
  go_upto_region 1 with fail
  rw [← hw1e]
  have HW1 := hide hw1e
  clear hw1e
  have hblt := E1.out.bl.lt
  have y1 : w1.cell? ⟨bf, 1, none⟩ = some (.int .i64 c.h) := E1.out.bl.cell 1
  have y3 : w1.cell? ⟨bf, 3, none⟩ = some (.int .i64 c.a) := E1.out.bl.cell 3
  have y4 : w1.cell? ⟨bf, 4, none⟩ = some (.int .i64 c.b) := E1.out.bl.cell 4
  have y5 : w1.cell? ⟨bf, 5, none⟩ = some (.slice fa c.fl.length fc) := E1.out.bl.cell 5
  have z1 := keepc (p := ⟨bf, 1, none⟩) hblt y1
  have z3 := keepc (p := ⟨bf, 3, none⟩) hblt y3
  have z4 := keepc (p := ⟨bf, 4, none⟩) hblt y4
  have z5 := keepc (p := ⟨bf, 5, none⟩) hblt y5
  clear y1 y3 y4 y5
  refine Reg.region (by kernel_rfl) 23 [17] (fun _ w' => Below w1.heap.size w1 w') (by kernel_rfl) (by kernel_rfl) (Below.refl _ _).drew ?_
  iterate 17
    refine Reg.WT.yield (v := ?_) rfl rfl ?_ ?_
    rotate_left
    · intro w' _ hS; go_simp; (try go_bits); (first | rfl | rw [if_pos (by omega)])
    simp only [Act.put, List.setIfInBounds_toArray, List.set_cons_zero, List.set_cons_succ]
  refine Reg.WT.call (v := ?_) (f := ?_) (args := ?_) rfl rfl ?_ ?_ ?_
  rotate_left 3
  · intro w2; go_simp; exact ⟨by rfl, by rfl⟩
  · intro w2 hS; refine (tall_any fa c.fl c.fl.length fc y c.h c.a c.b w2 (E1.out.fr.below hS) rfl HC.out.fl HY.out HC.out.a HC.out.b (by have := HC.out.h; omega) (by have := HC.out.h; omega)).mono ?_; rintro e w3 ⟨rfl, hb⟩; exact ⟨by rfl, hS.trans (hb.mono hS.size)⟩
  simp only [Act.put, List.setIfInBounds_toArray, List.set_cons_zero, List.set_cons_succ]
  iterate 5
    refine Reg.WT.yield (v := ?_) rfl rfl ?_ ?_
    rotate_left
    · intro w' _ hS; go_simp; (try go_bits); (first | rfl | rw [if_pos (by omega)])
    simp only [Act.put, List.setIfInBounds_toArray, List.set_cons_zero, List.set_cons_succ]
  intro w2 hS
  have t2 := hide hS
  clear z1 z3 z4 z5 hS
  go_upto_block 0 with fail
  go_cut [2, 7, 8] from 38 to 98 (R1Post c wd.w y w1)
  case first =>
    as_aux_lemma =>
      go_wp2_with fail
      go_loopg [2, 7, 8] (cntB c.fl y + 1) (fun gk s2 s7 s8 wr => ∃ yv, s2 = .int .i64 yv ∧ s7 = .int .i64 (c.at_ yv).1 ∧ s8 = .int .i64 (c.at_ yv).2 ∧ Hid (dwn c wd.w yv = dwn c wd.w y) ∧ Hid (Fay yv) ∧ cntB c.fl yv < gk ∧ Below w1.heap.size w1 wr)
      case atStart => exact ⟨y, rfl, rfl, rfl, rfl, HY, Nat.lt_succ_self _, t2.out⟩
      case round =>
        obtain ⟨yv, rfl, rfl, rfl, hdw, hfy, hcn, hbel⟩ := hrel
        have t := hide hbel
        have E := hide (E1.out.below hbel)
        clear t2
        have y0 : wr.cell? ⟨bf, 0, none⟩ = some (.slice wa ws.length wq) := E.out.bl.cell 0
        have y1 : wr.cell? ⟨bf, 1, none⟩ = some (.int .i64 c.h) := E.out.bl.cell 1
        have y3 : wr.cell? ⟨bf, 3, none⟩ = some (.int .i64 c.a) := E.out.bl.cell 3
        have y4 : wr.cell? ⟨bf, 4, none⟩ = some (.int .i64 c.b) := E.out.bl.cell 4
        have y5 : wr.cell? ⟨bf, 5, none⟩ = some (.slice fa c.fl.length fc) := E.out.bl.cell 5
        obtain ⟨b0, off, rfl, hb0, hcw⟩ := w_at E.out.wr (by omega)
        obtain ⟨_, _, x2, _, _⟩ := hcw k hk
        rw [HWK.out] at x2
        obtain ⟨⟨f1, f2⟩, f3, f4⟩ := HC.out.at_far yv
        have hP : Hid (c.at_ yv = ((c.at_ yv).1, (c.at_ yv).2)) := hide rfl
        clear hcw hbel
        generalize (c.at_ yv).1 = pf at hP f1 f2 ⊢
        generalize (c.at_ yv).2 = pt at hP f3 f4 ⊢
        obtain ⟨⟨a1, a2⟩, b1, b2⟩ := And.intro HC.out.a HC.out.b
        by_cases hs : pf = c.a ∧ pt = c.b
        · obtain ⟨q1, q2⟩ := hs
          have HD : Hid (dwn c wd.w yv = yv) := hide (dwn_ok (ok_yes (.inl (by rw [hP.out, q1, q2]))))
          subst q1 q2
          go_wp2_with fail
          go_meet
          exact ⟨by rw [← hdw.out, HD.out], by rw [← hdw.out, HD.out, hP.out], by rw [← hdw.out, HD.out, hP.out], t.out⟩
        · have HS := hide hs
          clear hs
          by_cases hp : pf = c.a
          · have hq : ¬ pt = c.b := fun h => HS.out ⟨hp, h⟩
            have bp : (pf != c.a) = false := by simpa using hp
            have bq : (pt != c.b) = true := by simpa using hq
            clear hp hq
            by_cases hw : wd.w ≤ pt - pf
            · have HD : Hid (dwn c wd.w yv = yv) := hide (dwn_ok (ok_yes (.inr (.inl (by rw [hP.out]; exact hw)))))
              have bw : decide (pt - pf < wd.w) = false := by simp; omega
              go_wp2_with fail
              go_meet
              exact ⟨by rw [← hdw.out, HD.out], by rw [← hdw.out, HD.out, hP.out], by rw [← hdw.out, HD.out, hP.out], t.out⟩
            · have hw : pt - pf < wd.w := by omega
              have HN := hide (next_any fa c.fl c.fl.length fc yv wr E.out.fr rfl HC.out.fl hfy.out)
              go_wp2_with fail
              refine HN.out.mono ?_
              rintro r w3 ⟨rfl, k3⟩
              have t3 := hide (below_call (w := w1) t.out k3)
              have E3 := hide (E.out.below k3)
              cases hnx : (nxt c.fl yv).2 with
              | false =>
                have HD : Hid (dwn c wd.w yv = yv) := hide (dwn_ok (ok_yes (.inr (.inr hnx))))
                clear hnx k3
                go_wp2_with fail
                go_meet
                exact ⟨by rw [← hdw.out, HD.out], by rw [← hdw.out, HD.out, hP.out], by rw [← hdw.out, HD.out, hP.out], t3.out⟩
              | true =>
                have HD : Hid (dwn c wd.w yv = dwn c wd.w (nxt c.fl yv).1) := hide (dwn_no (ok_no (by rw [hP.out]; intro h; simp only [Prod.mk.injEq] at h; exact HS.out h) (by rw [hP.out]; show ¬ wd.w ≤ pt - pf; omega) hnx))
                have HCN := hide (cnt_lt hnx)
                have HNF : Hid (Fay (nxt c.fl yv).1) := hide (by have := nxt_far HC.out.fl hnx; unfold Fay; omega)
                clear hnx k3
                generalize (nxt c.fl yv).1 = yn at HD HCN HNF ⊢
                go_wp2_with fail
                have y1 : w3.cell? ⟨bf, 1, none⟩ = some (.int .i64 c.h) := E3.out.bl.cell 1
                have y3 : w3.cell? ⟨bf, 3, none⟩ = some (.int .i64 c.a) := E3.out.bl.cell 3
                have y4 : w3.cell? ⟨bf, 4, none⟩ = some (.int .i64 c.b) := E3.out.bl.cell 4
                have y5 : w3.cell? ⟨bf, 5, none⟩ = some (.slice fa c.fl.length fc) := E3.out.bl.cell 5
                have z1 := keepc (p := ⟨bf, 1, none⟩) E3.out.bl.lt y1
                have z3 := keepc (p := ⟨bf, 3, none⟩) E3.out.bl.lt y3
                have z4 := keepc (p := ⟨bf, 4, none⟩) E3.out.bl.lt y4
                have z5 := keepc (p := ⟨bf, 5, none⟩) E3.out.bl.lt y5
                clear y1 y3 y4 y5 y0 x2
                refine Reg.region (by kernel_rfl) 23 [17] (fun _ w' => Below w3.heap.size w3 w') (by kernel_rfl) (by kernel_rfl) (Below.refl _ _).drew ?_
                iterate 17
                  refine Reg.WT.yield (v := ?_) rfl rfl ?_ ?_
                  rotate_left
                  · intro w' _ hS; go_simp; (try go_bits); (first | rfl | rw [if_pos (by omega)])
                  simp only [Act.put, List.setIfInBounds_toArray, List.set_cons_zero, List.set_cons_succ]
                refine Reg.WT.call (v := ?_) (f := ?_) (args := ?_) rfl rfl ?_ ?_ ?_
                rotate_left 3
                · intro w2; go_simp; exact ⟨by rfl, by rfl⟩
                · intro w2 hS; refine (tall_any fa c.fl c.fl.length fc yn c.h c.a c.b w2 (E3.out.fr.below hS) rfl HC.out.fl HNF.out HC.out.a HC.out.b (by have := HC.out.h; omega) (by have := HC.out.h; omega)).mono ?_; rintro e w3 ⟨rfl, hb⟩; exact ⟨by rfl, hS.trans (hb.mono hS.size)⟩
                simp only [Act.put, List.setIfInBounds_toArray, List.set_cons_zero, List.set_cons_succ]
                iterate 5
                  refine Reg.WT.yield (v := ?_) rfl rfl ?_ ?_
                  rotate_left
                  · intro w' _ hS; go_simp; (try go_bits); (first | rfl | rw [if_pos (by omega)])
                  simp only [Act.put, List.setIfInBounds_toArray, List.set_cons_zero, List.set_cons_succ]
                intro w4 hS
                have t4 := hide (below_call (w := w1) t3.out hS)
                clear z1 z3 z4 z5 hS
                go_wp2_with fail
                go_roundg (cntB c.fl yv)
                case measure => exact hcn
                case rel => exact ⟨yn, rfl, rfl, rfl, hide (by rw [← HD.out, hdw.out]), HNF, HCN.out, t4.out⟩
          · have bp : (pf != c.a) = true := by simpa using hp
            clear hp
            by_cases hw : wd.w ≤ pt - pf
            · have HD : Hid (dwn c wd.w yv = yv) := hide (dwn_ok (ok_yes (.inr (.inl (by rw [hP.out]; exact hw)))))
              have bw : decide (pt - pf < wd.w) = false := by simp; omega
              go_wp2_with fail
              go_meet
              exact ⟨by rw [← hdw.out, HD.out], by rw [← hdw.out, HD.out, hP.out], by rw [← hdw.out, HD.out, hP.out], t.out⟩
            · have hw : pt - pf < wd.w := by omega
              have HN := hide (next_any fa c.fl c.fl.length fc yv wr E.out.fr rfl HC.out.fl hfy.out)
              go_wp2_with fail
              refine HN.out.mono ?_
              rintro r w3 ⟨rfl, k3⟩
              have t3 := hide (below_call (w := w1) t.out k3)
              have E3 := hide (E.out.below k3)
              cases hnx : (nxt c.fl yv).2 with
              | false =>
                have HD : Hid (dwn c wd.w yv = yv) := hide (dwn_ok (ok_yes (.inr (.inr hnx))))
                clear hnx k3
                go_wp2_with fail
                go_meet
                exact ⟨by rw [← hdw.out, HD.out], by rw [← hdw.out, HD.out, hP.out], by rw [← hdw.out, HD.out, hP.out], t3.out⟩
              | true =>
                have HD : Hid (dwn c wd.w yv = dwn c wd.w (nxt c.fl yv).1) := hide (dwn_no (ok_no (by rw [hP.out]; intro h; simp only [Prod.mk.injEq] at h; exact HS.out h) (by rw [hP.out]; show ¬ wd.w ≤ pt - pf; omega) hnx))
                have HCN := hide (cnt_lt hnx)
                have HNF : Hid (Fay (nxt c.fl yv).1) := hide (by have := nxt_far HC.out.fl hnx; unfold Fay; omega)
                clear hnx k3
                generalize (nxt c.fl yv).1 = yn at HD HCN HNF ⊢
                go_wp2_with fail
                have y1 : w3.cell? ⟨bf, 1, none⟩ = some (.int .i64 c.h) := E3.out.bl.cell 1
                have y3 : w3.cell? ⟨bf, 3, none⟩ = some (.int .i64 c.a) := E3.out.bl.cell 3
                have y4 : w3.cell? ⟨bf, 4, none⟩ = some (.int .i64 c.b) := E3.out.bl.cell 4
                have y5 : w3.cell? ⟨bf, 5, none⟩ = some (.slice fa c.fl.length fc) := E3.out.bl.cell 5
                have z1 := keepc (p := ⟨bf, 1, none⟩) E3.out.bl.lt y1
                have z3 := keepc (p := ⟨bf, 3, none⟩) E3.out.bl.lt y3
                have z4 := keepc (p := ⟨bf, 4, none⟩) E3.out.bl.lt y4
                have z5 := keepc (p := ⟨bf, 5, none⟩) E3.out.bl.lt y5
                clear y1 y3 y4 y5 y0 x2
                refine Reg.region (by kernel_rfl) 23 [17] (fun _ w' => Below w3.heap.size w3 w') (by kernel_rfl) (by kernel_rfl) (Below.refl _ _).drew ?_
                iterate 17
                  refine Reg.WT.yield (v := ?_) rfl rfl ?_ ?_
                  rotate_left
                  · intro w' _ hS; go_simp; (try go_bits); (first | rfl | rw [if_pos (by omega)])
                  simp only [Act.put, List.setIfInBounds_toArray, List.set_cons_zero, List.set_cons_succ]
                refine Reg.WT.call (v := ?_) (f := ?_) (args := ?_) rfl rfl ?_ ?_ ?_
                rotate_left 3
                · intro w2; go_simp; exact ⟨by rfl, by rfl⟩
                · intro w2 hS; refine (tall_any fa c.fl c.fl.length fc yn c.h c.a c.b w2 (E3.out.fr.below hS) rfl HC.out.fl HNF.out HC.out.a HC.out.b (by have := HC.out.h; omega) (by have := HC.out.h; omega)).mono ?_; rintro e w3 ⟨rfl, hb⟩; exact ⟨by rfl, hS.trans (hb.mono hS.size)⟩
                simp only [Act.put, List.setIfInBounds_toArray, List.set_cons_zero, List.set_cons_succ]
                iterate 5
                  refine Reg.WT.yield (v := ?_) rfl rfl ?_ ?_
                  rotate_left
                  · intro w' _ hS; go_simp; (try go_bits); (first | rfl | rw [if_pos (by omega)])
                  simp only [Act.put, List.setIfInBounds_toArray, List.set_cons_zero, List.set_cons_succ]
                intro w4 hS
                have t4 := hide (below_call (w := w1) t3.out hS)
                clear z1 z3 z4 z5 hS
                go_wp2_with fail
                go_roundg (cntB c.fl yv)
                case measure => exact hcn
                case rel => exact ⟨yn, rfl, rfl, rfl, hide (by rw [← HD.out, hdw.out]), HNF, HCN.out, t4.out⟩
  case rest =>
    obtain ⟨rfl, rfl, rfl, tc⟩ := hcut
    obtain ⟨wB, rfl⟩ : ∃ x, x = wc := ⟨_, rfl⟩
    have hyd := dwn_fay HC.out (w := wd.w) (cntB c.fl y) (Nat.le_refl _) HY.out
    obtain ⟨yd, hyde⟩ : ∃ yd, yd = dwn c wd.w y := ⟨_, rfl⟩
    rw [← hyde] at hyd ⊢
    have HYD := hide hyde
    have HYF := hide hyd
    obtain ⟨⟨f1, f2⟩, f3, f4⟩ := HC.out.at_far yd
    have hP : Hid (c.at_ yd = ((c.at_ yd).1, (c.at_ yd).2)) := hide rfl
    generalize (c.at_ yd).1 = pf at hP f1 f2 ⊢
    generalize (c.at_ yd).2 = pt at hP f3 f4 ⊢
    have TC := hide tc
    have EC := hide (E1.out.below tc)
    have BC := hide (B1.out.below tc (by have := s1.out; omega))
    clear hyde hyd tc t2
    have y0 : wB.cell? ⟨bf, 0, none⟩ = some (.slice wa ws.length wq) := EC.out.bl.cell 0
    obtain ⟨b0, off, rfl, hb0, hcw⟩ := w_at EC.out.wr (by omega)
    obtain ⟨_, _, x2, _, _⟩ := hcw k hk
    rw [HWK.out] at x2
    clear hcw
    have hbc := EC.out.bl.lt
    go_upto_block 2 with fail
    obtain ⟨w3, hw3⟩ : ∃ w3, w3 = (wB.alloc (.cells #[.int .i64 pf] 2)).alloc (.cells #[.int .i64 yd, .int .i64 k, .int .i64 ((k : Int) + 1), .slice (some ⟨wB.heap.size, 0, none⟩) 1 1] 38) := ⟨_, rfl⟩
    obtain ⟨R, hR⟩ : ∃ R, R = wB.heap.size + 1 := ⟨_, rfl⟩
    have hwc : w.heap.size < wB.heap.size := by have := TC.out.size; have := s1.out; omega
    have T3 : Hid (Below wB.heap.size wB w3) := hide (by rw [hw3]; exact ((Below.refl _ _).alloc (Nat.le_refl _) _).alloc (by simp) _)
    have G3 : Hid (GW w3 wB.heap.size R yd k 0 wB.heap.size 1 [pf]) := hide (by
      have nb := Blk.new (wB.alloc (.cells #[.int .i64 pf] 2)) 38 #[.int .i64 yd, .int .i64 k, .int .i64 ((k : Int) + 1), .slice (some ⟨wB.heap.size, 0, none⟩) 1 1]
      rw [World.size_alloc] at nb
      rw [hw3, hR]
      exact ⟨nb, (World.ownsRow_lit (base := wB.heap.size) (e := 2) (size := 1) wB #[.int .i64 pf] 1 (Nat.le_refl _) (by decide) rfl).alloc _⟩)
    have HRs : Hid (R < w3.heap.size ∧ wB.heap.size < R) := hide (by rw [hw3, hR]; simp)
    rw [← hw3, ← hR]
    clear hw3 hR hwc B1 y0 x2
    obtain ⟨e0, he0⟩ : ∃ e0, e0 = pf + wd.w := ⟨_, rfl⟩
    have he1 : -4503599627370496 ≤ e0 := by omega
    have he2 : e0 ≤ 4503599627370496 + 2199023255552 := by omega
    rw [← he0]
    have HE0 := hide he0
    clear he0
    go_cut [12] from 116 to 160 (fun s12 wx => ∃ g cap, s12 = .int .i64 (grow pt l e0).2 ∧ GW wx wB.heap.size R yd k (grow pt l e0).1.length g cap (pf :: (grow pt l e0).1) ∧ Below wB.heap.size wB wx ∧ Hid (∀ x ∈ pf :: (grow pt l e0).1, Fur x) ∧ Fur (grow pt l e0).2)
    case first =>
      as_aux_lemma =>
        go_wp2_with fail
        go_loopg [12] (l.length + 1) (fun gk s12 wr => ∃ (j : Nat) (e : Int) (pre : List Int) (g cap : Nat), s12 = .int .i64 e ∧ Hid (grow pt l e0 = (pre ++ (grow pt (l.drop j) e).1, (grow pt (l.drop j) e).2)) ∧ Hid (pre.length = j) ∧ j ≤ l.length ∧
          -4503599627370496 ≤ e ∧ e ≤ 4503599627370496 + 2199023255552 * ((j : Int) + 1) ∧ l.length - j < gk ∧ GW wr wB.heap.size R yd k j g cap (pf :: pre) ∧ Below wB.heap.size wB wr ∧ Hid (∀ x ∈ pf :: pre, Fur x))
        case atStart => exact ⟨0, e0, [], _, _, rfl, rfl, rfl, Nat.zero_le _, he1, by omega, by omega, G3.out, T3.out, hide (fun x hx => by simp at hx; subst hx; unfold Fur; omega)⟩
        case round =>
          obtain ⟨j, e, pre, g, cap, rfl, hgr, hpre, hj, h1, h2, hgk, hG, hbel, hfx⟩ := hrel
          have hFe : Fur e := by unfold Fur; have := hlen.out; omega
          have t := hide hbel
          have E := hide (EC.out.below hbel)
          have G := hide hG
          have y0 : wr.cell? ⟨bf, 0, none⟩ = some (.slice (some ⟨b0, off, none⟩) ws.length wq) := E.out.bl.cell 0
          have x2 : wr.cell? ⟨R, 2, none⟩ = some (.int .i64 ((k + 1 + j : Nat) : Int)) := hG.bl.cell 2
          obtain ⟨q, hq⟩ : ∃ q, q = k + 1 + j := ⟨_, rfl⟩
          rw [← hq] at x2
          have HQ := hide hq
          have hRl := hG.bl.lt
          clear hbel hG he1 he2 hq
          have hlen' := hlen.out
          have hbl := E.out.bl.lt
          have z0 := keepd y0
          have z2 := keepd x2
          clear y0 x2
          go_upto_region 9 with fail
          refine Reg.region (by kernel_rfl) 8 [] (fun _ w' => w' = wr.drew) (by kernel_rfl) (by kernel_rfl) rfl ?_
          iterate 8
            refine Reg.WT.yield (v := ?_) rfl rfl ?_ ?_
            rotate_left
            · intro w' _ hS; go_simp; (try go_bits); (first | rfl | rw [if_pos (by omega)])
            simp only [Act.put, List.setIfInBounds_toArray, List.set_cons_zero, List.set_cons_succ]
          intro w4 hS
          subst hS
          clear z0 z2
          have E4 := hide (E.out.below (Below.refl _ _).drew)
          have y0 : wr.drew.cell? ⟨bf, 0, none⟩ = some (.slice (some ⟨b0, off, none⟩) ws.length wq) := E4.out.bl.cell 0
          have x2 : wr.drew.cell? ⟨R, 2, none⟩ = some (.int .i64 (q : Int)) := by rw [HQ.out]; exact G.out.bl.cell 2
          by_cases hlt : q < ws.length
          · obtain ⟨b1, off1, hb1, hb1lt, hcw⟩ := w_at E4.out.wr (by omega)
            obtain ⟨rfl, rfl⟩ : b0 = b1 ∧ off = off1 := by simpa using hb1
            obtain ⟨v0, v1, v2, v3, v4⟩ := hcw q hlt
            have hjl : j < l.length := by have := HQ.out; omega
            have hnw : Hid (l[j] = ws[q]) := hide (by have := HQ.out; have hh := HL.out; simp only [hh, List.getElem_drop, this])
            obtain ⟨⟨nw1, nw2⟩, ⟨ng1, ng2⟩, nn1, nn2⟩ := HOK.out _ (List.getElem_mem hlt)
            clear hcw
            generalize ws[q] = nw at v0 v1 v2 v3 v4 hnw nw1 nw2 ng1 ng2 nn1 nn2
            have z0 := as_cell (o := .cells #[.int .i64 0, .int .i64 0, .int .i64 0, .int .i64 0, .int .i64 0] 33) hbl y0
            have z2 := as_cell (o := .cells #[.int .i64 0, .int .i64 0, .int .i64 0, .int .i64 0, .int .i64 0] 33) hRl x2
            have r0 := as_cell (o := .cells #[.int .i64 0, .int .i64 0, .int .i64 0, .int .i64 0, .int .i64 0] 33) hb1lt v0
            have r1 := as_cell (o := .cells #[.int .i64 0, .int .i64 0, .int .i64 0, .int .i64 0, .int .i64 0] 33) hb1lt v1
            have r2 := as_cell (o := .cells #[.int .i64 0, .int .i64 0, .int .i64 0, .int .i64 0, .int .i64 0] 33) hb1lt v2
            have r3 := as_cell (o := .cells #[.int .i64 0, .int .i64 0, .int .i64 0, .int .i64 0, .int .i64 0] 33) hb1lt v3
            have r4 := as_cell (o := .cells #[.int .i64 0, .int .i64 0, .int .i64 0, .int .i64 0, .int .i64 0] 33) hb1lt v4
            clear y0 x2 v0 v1 v2 v3 v4
            go_upto_region 10 with fail
            refine Reg.region (by kernel_rfl) 9 [8] (AS wr.drew (.cells #[.int .i64 0, .int .i64 0, .int .i64 0, .int .i64 0, .int .i64 0] 33)) (by kernel_rfl) (by kernel_rfl) (rfl) ?_
            iterate 8
              refine Reg.WT.yield (v := ?_) rfl rfl ?_ ?_
              rotate_left
              · intro w' _ hS; have z0_ := z0 _ _ hS; have z1_ := z2 _ _ hS; have z2_ := r0 _ _ hS; have z3_ := r1 _ _ hS; have z4_ := r2 _ _ hS; have z5_ := r3 _ _ hS; have z6_ := r4 _ _ hS; go_simp; (try go_bits); (first | rfl | rw [if_pos (by omega)])
              simp only [Act.put, List.setIfInBounds_toArray, List.set_cons_zero, List.set_cons_succ]
            refine Reg.WT.make (v := .pointer (some ⟨wr.heap.size, 0, none⟩)) rfl rfl ?_ ?_
            · intro w2 hS
              obtain rfl := as_make hS
              exact ⟨_, by go_simp, rfl⟩
            simp only [Act.put, List.setIfInBounds_toArray, List.set_cons_zero, List.set_cons_succ]
            intro w2 hS
            obtain rfl := as_end hS
            clear z0 z2 r0 r1 r2 r3 r4
            obtain ⟨wo, hwo⟩ : ∃ wo, wo = wr.alloc (.cells #[.int .i64 nw.f, .int .i64 nw.t, .int .i64 nw.w, .int .i64 nw.g, .int .i64 nw.n] 33) := ⟨_, rfl⟩
            have hsz : wr.heap.size ≤ wo.heap.size := by rw [hwo]; simp
            have W5 : Hid (Blk wo wr.heap.size 33 #[.int .i64 nw.f, .int .i64 nw.t, .int .i64 nw.w, .int .i64 nw.g, .int .i64 nw.n]) := hide (hwo ▸ Blk.new wr _ _)
            have G5 : Hid (GW wo wB.heap.size R yd k j g cap (pf :: pre)) := hide (G.out.below (hwo ▸ (Below.refl _ _).alloc (Nat.le_refl _) _))
            have t5 : Hid (Below wB.heap.size wB wo) := hide (hwo ▸ t.out.alloc t.out.size _)
            by_cases c1 : nw.n = 0
            · have bn : (nw.n != 0) = false := by simpa using c1
              by_cases c2 : e + nw.g + nw.w ≤ pt
              · have HON := hide (grow_on hgr.out hjl hnw.out ⟨c1, c2⟩)
                clear c1
                have HFX : Hid (∀ x ∈ pf :: (pre ++ [e + nw.g]), Fur x) := hide (fun x hx => by
                  rw [← List.cons_append, List.mem_append] at hx
                  rcases hx with hx | hx
                  · exact hfx.out x hx
                  · simp at hx; subst hx; unfold Fur; omega)
                have bc : decide (pt < e + nw.g + nw.w) = false := by simp; omega
                go_upto_if 146 with fail
                rw [← hwo]
                clear hwo bn bc
                have x2 : wo.cell? ⟨R, 2, none⟩ = some (.int .i64 (q : Int)) := by rw [HQ.out]; exact G5.out.bl.cell 2
                have x3 : wo.cell? ⟨R, 3, none⟩ = some (.slice (some ⟨g, 0, none⟩) (j + 1) cap) := G5.out.bl.cell 3
                have hLs := t5.out.size
                have HN6 := hide (Blk.new wo 2 #[.int .i64 (e + nw.g)])
                have HO6 := hide (((G5.out.own.alloc (.cells #[.int .i64 (e + nw.g)] 2)).drew).drew)
                have BR6 := hide (((G5.out.bl.alloc (.cells #[.int .i64 (e + nw.g)] 2)).drew).drew)
                have BW6 := hide (((W5.out.alloc (.cells #[.int .i64 (e + nw.g)] 2)).drew).drew)
                have t6 : Hid (Below wB.heap.size wB ((wo.alloc (.cells #[.int .i64 (e + nw.g)] 2)).drew.drew)) := hide ((t5.out.alloc t5.out.size _).drew.drew)
                go_wp2_with (at_builtin; refine wpList_append_lies _ rfl _ _ 36 rfl wB.heap.size 2 i0 (.int .i64 0) 1 8 Try.underlying36 hi hz0 hz1 hz2 rfl (by decide) _ _ _ rfl HO6.out ⟨wo.heap.size, 0, none⟩ 1 1 [.int .i64 (e + nw.g)] rfl rfl ?c1 ?c2 (by decide) ?c3 ?c4 ?c5 _ rfl ?_)
                case c2 => rfl
                case c3 => unfold maxLen; omega
                case c4 => omega
                case c5 => have := t5.out.size; omega
                intro g' cap' w7 hown' hgrow hat hlt'
                have hne1 := BR6.out.not_row (by decide) HO6.out
                have hne2 := BW6.out.not_row (by decide) HO6.out
                have BR7 := hide (BR6.out.grown hgrow hne1)
                have BW7 := hide (BW6.out.grown hgrow hne2)
                have O7 : Hid (w7.ownsRow wB.heap.size 2 1 (.slice (some ⟨g', 0, none⟩) (j + 1 + 1) cap') (j + 1 + 1) (ints ((pf :: pre) ++ [e + nw.g]))) := hide (by
                  simpa [ints] using hown')
                have hg' : Hid (wB.heap.size ≤ g') := hide ((hown'.lt g' rfl).1)
                have t7 : Hid (Below wB.heap.size wB w7) := hide (below_grown (a := wB) t6.out hgrow (fun k' hk' => (HO6.out.lt k' hk').1))
                have O7b : Hid (∀ u, ((w7.setCell ⟨R, 3, none⟩ u)).ownsRow wB.heap.size 2 1 (.slice (some ⟨g', 0, none⟩) (j + 1 + 1) cap') (j + 1 + 1) (ints ((pf :: pre) ++ [e + nw.g]))) := hide (fun u => ownsRow_setCell_other O7.out (fun h => BR7.out.not_row (by decide) O7.out h.symm) u)
                have W7b : Hid (∀ u, Blk (w7.setCell ⟨R, 3, none⟩ u) wr.heap.size 33 #[.int .i64 nw.f, .int .i64 nw.t, .int .i64 nw.w, .int .i64 nw.g, .int .i64 nw.n]) := hide (fun u => BW7.out.far (by show wr.heap.size ≠ R; omega) u)
                clear hown' hgrow hat hlt' hne1 hne2 BR6 BW6 HO6 HN6 x2 x3
                have x2 : w7.cell? ⟨R, 2, none⟩ = some (.int .i64 (q : Int)) := by rw [HQ.out]; exact BR7.out.cell 2
                have x3 : w7.cell? ⟨R, 3, none⟩ = some (.slice (some ⟨g, 0, none⟩) (j + 1) cap) := BR7.out.cell 3
                have f2 : w7.frozen? ⟨R, 2, none⟩ = false := BR7.out.frozen 2
                have f3 : w7.frozen? ⟨R, 3, none⟩ = false := BR7.out.frozen 3
                have x5 : w7.cell? ⟨wr.heap.size, 2, none⟩ = some (.int .i64 nw.w) := BW7.out.cell 2
                have BR9 : Hid (Blk ((w7.setCell ⟨R, 3, none⟩ (.slice (some ⟨g', 0, none⟩) (j + 1 + 1) cap')).setCell ⟨R, 2, none⟩ (.int .i64 ((q : Int) + 1))) R 38 #[.int .i64 yd, .int .i64 k, .int .i64 ((k + 1 + (j + 1) : Nat) : Int), .slice (some ⟨g', 0, none⟩) (j + 1 + 1) cap']) := hide (by
                  have := (BR7.out.set_ 3 (.slice (some ⟨g', 0, none⟩) (j + 1 + 1) cap')).set_ 2 (.int .i64 ((q : Int) + 1))
                  have e1 : ((k + 1 + (j + 1) : Nat) : Int) = (q : Int) + 1 := by have := HQ.out; omega
                  rw [e1]
                  simpa using this)
                have O9 : Hid (((w7.setCell ⟨R, 3, none⟩ (.slice (some ⟨g', 0, none⟩) (j + 1 + 1) cap')).setCell ⟨R, 2, none⟩ (.int .i64 ((q : Int) + 1))).ownsRow wB.heap.size 2 1 (.slice (some ⟨g', 0, none⟩) (j + 1 + 1) cap') (j + 1 + 1) (ints (pf :: (pre ++ [e + nw.g])))) := hide (by
                  have := ownsRow_setCell_other (O7b.out (.slice (some ⟨g', 0, none⟩) (j + 1 + 1) cap')) (a := ⟨R, 2, none⟩) (fun h => BR7.out.not_row (by decide) O7.out h.symm) (.int .i64 ((q : Int) + 1))
                  exact this)
                have t9 : Hid (Below wB.heap.size wB ((w7.setCell ⟨R, 3, none⟩ (.slice (some ⟨g', 0, none⟩) (j + 1 + 1) cap')).setCell ⟨R, 2, none⟩ (.int .i64 ((q : Int) + 1)))) := hide ((t7.out.setCell (p := ⟨R, 3, none⟩) (by have := HRs.out; show wB.heap.size ≤ R; omega) _).setCell (p := ⟨R, 2, none⟩) (by have := HRs.out; show wB.heap.size ≤ R; omega) _)
                go_wp2_with fail
                go_roundg (l.length - j)
                case measure => omega
                case rel => exact ⟨j + 1, e + nw.g + nw.w, pre ++ [e + nw.g], g', cap', rfl, HON, hide (by rw [List.length_append, hpre.out]; rfl), hjl, by omega, by omega, by omega, ⟨BR9.out, O9.out⟩, t9.out, HFX⟩
              · have HOFF := hide (grow_off hgr.out hjl hnw.out (fun h => c2 h.2))
                clear c1
                have bc : decide (pt < e + nw.g + nw.w) = true := by simp; omega
                go_wp2_with fail
                rw [← hwo]
                go_meet
                rw [HOFF.out]
                exact ⟨g, cap, rfl, by have := hpre.out; subst this; exact G5.out.drew.drew, t5.out.drew.drew, hfx, hFe⟩
            · have HOFF := hide (grow_off hgr.out hjl hnw.out (fun h => c1 h.1))
              have bc : (nw.n != 0) = true := by simpa using c1
              clear c1
              go_wp2_with fail
              rw [← hwo]
              go_meet
              rw [HOFF.out]
              exact ⟨g, cap, rfl, by have := hpre.out; subst this; exact G5.out.drew.drew, t5.out.drew.drew, hfx, hFe⟩
          · have HEND := hide (grow_end hgr.out (by have := HQ.out; omega))
            go_wp2_with fail
            go_meet
            rw [HEND.out]
            exact ⟨g, cap, rfl, by have := hpre.out; subst this; exact G.out.drew, t.out.drew, hfx, hFe⟩
    case rest =>
      obtain ⟨g, cap, rfl, hG, tb, hfx, hFe⟩ := hcut
      have HR : Hid (rowOf c k wd l y = ⟨yd, k, k + 1 + (grow pt l e0).1.length, (pf :: (grow pt l e0).1).map (· + moveOf c.al (max (pt - (grow pt l e0).2) 0))⟩) := hide (by
        unfold rowOf
        dsimp only
        rw [← HYD.out, hP.out, HE0.out])
      obtain ⟨q, hq⟩ : ∃ q, q = grow pt l e0 := ⟨_, rfl⟩
      have hql := grow_len pt l e0
      rw [← hq] at hG hfx hFe HR hql ⊢
      obtain ⟨q1, q2⟩ := q
      dsimp only at hG hfx hFe HR hql ⊢
      have E := hide (EC.out.below tb)
      have BC9 := hide (BC.out.below tb (by have := s1.out; have := TC.out.size; omega))
      have tb' := hide (below_call (below_call t1.out TC.out) (tb))
      have G := hide hG
      unfold Fur at hFe
      obtain ⟨m, hm⟩ : ∃ m, m = moveOf c.al (max (pt - q2) 0) := ⟨_, rfl⟩
      have hm1 : 0 ≤ m ∧ m ≤ 18014398509481984 := by
        rw [hm]; unfold moveOf
        split
        · omega
        · split <;> omega
      rw [← hm] at HR
      have HM := hide hm
      clear hq hG tb hm G3 T3 EC BC
      have HV := hide (move_any bf _ c.h c.al c.a c.b _ (max (pt - q2) 0) wc E.out.bl (by omega) (by omega))
      go_wp2_with fail
      refine HV.out.mono ?_
      rintro r w9 ⟨rfl, hw9⟩
      subst hw9
      rw [← HM.out]
      clear HV
      obtain ⟨N, hN⟩ : ∃ N, N = q1.length + 1 := ⟨_, rfl⟩
      have hG := G.out
      obtain ⟨hGb, hGo⟩ := hG
      rw [← hN] at hGb hGo
      have HN := hide hN
      have hN2 : N ≤ 200 := by have := hlen.out; omega
      have hL : Hid ((pf :: q1).length = N) := hide (by rw [hN]; rfl)
      have x3 : wc.cell? ⟨R, 3, none⟩ = some (.slice (some ⟨g, 0, none⟩) N cap) := hGb.cell 3
      have GB := hide hGb
      have GO : Hid (wc.ownsRow wB.heap.size 2 1 (.slice (some ⟨g, 0, none⟩) N cap) N (ints (mid_ (pf :: q1) m 0))) := hide (by simpa [mid_] using hGo)
      have HFX := hfx
      clear hGb hGo hN hql G hfx
      go_wp2_with fail
      go_loopw [170] (fun i wr => ∃ j : Nat, j ≤ N ∧ i = .int .i64 j ∧ Blk wr R 38 #[.int .i64 yd, .int .i64 k, .int .i64 ((k + 1 + q1.length : Nat) : Int), .slice (some ⟨g, 0, none⟩) N cap] ∧
        wr.ownsRow wB.heap.size 2 1 (.slice (some ⟨g, 0, none⟩) N cap) N (ints (mid_ (pf :: q1) m j)) ∧ Blk wr w.heap.size 38 #[.int .i64 0, .int .i64 0, .int .i64 0, .slice none 0 0] ∧ Below w.heap.size w wr) (fun i _ => N - (intOf i).toNat)
      case atStart => exact ⟨0, Nat.zero_le _, rfl, by have := GB.out; rw [← HN.out] at *; exact this, GO.out, BC9.out, tb'.out⟩
      case round =>
        obtain ⟨j, hj, rfl, hB, hO, hZ, hbel⟩ := hrel
        have t := hide hbel
        have B := hide hB
        have O := hide hO
        have Z := hide hZ
        clear GB GO BC9 tb' x3
        by_cases hlt : j < N
        · have hjl : j < (pf :: q1).length := by have := hL.out; omega
          have x0 : wr.cell? ⟨g, j, none⟩ = some (.int .i64 (pf :: q1)[j]) := by
            rw [hO.cellAt j (by omega)]; exact mid_at m hjl
          have f0 : wr.frozen? ⟨g, j, none⟩ = false := hO.frozenAt j
          have hfx := HFX.out _ (List.getElem_mem hjl)
          have HS : Hid ((ints (mid_ (pf :: q1) m j)).set j (.int .i64 ((pf :: q1)[j] + m)) = ints (mid_ (pf :: q1) m (j + 1))) := hide (mid_set m hjl)
          have x3 : wr.cell? ⟨R, 3, none⟩ = some (.slice (some ⟨g, 0, none⟩) N cap) := hB.cell 3
          have hgR : g ≠ R := fun h => hB.not_row (by decide) hO (by rw [h]; rfl)
          have hgZ : g ≠ w.heap.size := fun h => hZ.not_row (by decide) hO (by rw [h]; rfl)
          have hgb : w.heap.size ≤ g := by have := (hO.lt g rfl).1; have := s1.out; have := TC.out.size; omega
          generalize (pf :: q1)[j] = x at x0 hfx HS
          obtain ⟨u1, u2⟩ := hfx
          have S1 := hide (hO.stored j (.int .i64 (x + m))).1
          rw [HS.out] at S1
          have S2 : Hid (Blk (wr.setCell ⟨g, j, none⟩ (.int .i64 (x + m))) R 38 _) := hide (hB.far (by exact fun h => hgR h.symm) _)
          have S3 : Hid (Blk (wr.setCell ⟨g, j, none⟩ (.int .i64 (x + m))) w.heap.size 38 _) := hide (hZ.far (by exact fun h => hgZ h.symm) _)
          have S4 := hide (hbel.setCell (p := ⟨g, j, none⟩) (by exact hgb) (.int .i64 (x + m)))
          clear hB hO hZ hbel hgR hgZ hgb
          go_wp2_with fail
          go_roundw
          case rel => exact ⟨j + 1, hlt, by go_num, S2.out, S1.out, S3.out, S4.out⟩
          case measure => simp [intOf]; omega
        · obtain rfl : j = N := by omega
          have hE : Hid (mid_ (pf :: q1) m j = (pf :: q1).map (· + m)) := hide (mid_end m (by have := hL.out; omega))
          rw [hE.out] at O
          have x0 : wr.cell? ⟨R, 0, none⟩ = some (.int .i64 yd) := hB.cell 0
          have x1 : wr.cell? ⟨R, 1, none⟩ = some (.int .i64 k) := hB.cell 1
          have x2 : wr.cell? ⟨R, 2, none⟩ = some (.int .i64 ((k + 1 + q1.length : Nat) : Int)) := hB.cell 2
          have x3 : wr.cell? ⟨R, 3, none⟩ = some (.slice (some ⟨g, 0, none⟩) j cap) := hB.cell 3
          have c0 : wr.cell? ⟨w.heap.size, 0, none⟩ = some (.int .i64 0) := hZ.cell 0
          have c1 : wr.cell? ⟨w.heap.size, 1, none⟩ = some (.int .i64 0) := hZ.cell 1
          have c2 : wr.cell? ⟨w.heap.size, 2, none⟩ = some (.int .i64 0) := hZ.cell 2
          have c3 : wr.cell? ⟨w.heap.size, 3, none⟩ = some (.slice none 0 0) := hZ.cell 3
          have f0 := hZ.frozen 0
          have f1 := hZ.frozen 1
          have f2 := hZ.frozen 2
          have f3 := hZ.frozen 3
          obtain ⟨T, hT⟩ : ∃ T, T = k + 1 + q1.length := ⟨_, rfl⟩
          rw [← hT] at x2 HR
          clear hT
          have Z4 : Hid (Blk ((((wr.setCell ⟨w.heap.size, 0, none⟩ (.int .i64 yd)).setCell ⟨w.heap.size, 1, none⟩ (.int .i64 k)).setCell ⟨w.heap.size, 2, none⟩ (.int .i64 T)).setCell ⟨w.heap.size, 3, none⟩ (.slice (some ⟨g, 0, none⟩) j cap)) w.heap.size 38
            #[.int .i64 yd, .int .i64 k, .int .i64 T, .slice (some ⟨g, 0, none⟩) j cap]) := hide (by
              have := (((hZ.set_ 0 (.int .i64 yd)).set_ 1 (.int .i64 k)).set_ 2 (.int .i64 T)).set_ 3 (.slice (some ⟨g, 0, none⟩) j cap)
              simpa using this)
          have hgz : ∀ o, (Value.slice (some ⟨g, 0, none⟩) j cap).ownBlock ≠ some (⟨w.heap.size, o, none⟩ : Addr).block := fun o h => hZ.not_row (by decide) hO h.symm
          have O4 : Hid (((((wr.setCell ⟨w.heap.size, 0, none⟩ (.int .i64 yd)).setCell ⟨w.heap.size, 1, none⟩ (.int .i64 k)).setCell ⟨w.heap.size, 2, none⟩ (.int .i64 T)).setCell ⟨w.heap.size, 3, none⟩ (.slice (some ⟨g, 0, none⟩) j cap)).ownsRow wB.heap.size 2 1 (.slice (some ⟨g, 0, none⟩) j cap) j (ints ((pf :: q1).map (· + m)))) := hide
            (ownsRow_setCell_other (ownsRow_setCell_other (ownsRow_setCell_other (ownsRow_setCell_other O.out (hgz 0) _) (hgz 1) _) (hgz 2) _) (hgz 3) _)
          have T4 : Hid (Below w.heap.size w ((((wr.setCell ⟨w.heap.size, 0, none⟩ (.int .i64 yd)).setCell ⟨w.heap.size, 1, none⟩ (.int .i64 k)).setCell ⟨w.heap.size, 2, none⟩ (.int .i64 T)).setCell ⟨w.heap.size, 3, none⟩ (.slice (some ⟨g, 0, none⟩) j cap))) := hide
            ((((hbel.setCell (p := ⟨w.heap.size, 0, none⟩) (Nat.le_refl _) _).setCell (p := ⟨w.heap.size, 1, none⟩) (Nat.le_refl _) _).setCell (p := ⟨w.heap.size, 2, none⟩) (Nat.le_refl _) _).setCell (p := ⟨w.heap.size, 3, none⟩) (Nat.le_refl _) _)
          clear hB hO hZ hbel hgz
          go_wp2
          refine bodyPost_ret (results_cell_row Try.results21 _ _ w.heap.size 38 _ (0, 0) _ rfl Z4.out Try.underlying38 rfl (by kernel_rfl)) rfl ?_
          rw [HR.out]
          dsimp only
          have hln : ((pf :: q1).map (· + m)).length = j := by rw [List.length_map]; exact hL.out
          rw [hln]
          exact ⟨g, cap, rfl, O4.out.mono (by have := TC.out.size; have := s1.out; omega), T4.out⟩
end Go.Proofs.Ytpdfeifnbeojcaa
