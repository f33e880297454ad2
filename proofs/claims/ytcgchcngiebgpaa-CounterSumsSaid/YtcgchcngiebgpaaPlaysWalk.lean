/- The walk of CounterPlays. -/
import Derived.Test.YtcgchcngiebgpaaBoth
namespace Go.Proofs.Ytcgchcngiebgpaa
open Go.RowKit

theorem nil_neg (l : List Int) : (∃ j, ∃ h : j < l.length, l[j] < 0) ∨ ∀ x ∈ l, 0 ≤ x := by
  by_cases h : ∀ x ∈ l, 0 ≤ x
  · exact .inr h
  · left
    refine Classical.byContradiction fun hn => h fun x hx => ?_
    obtain ⟨j, hj, rfl⟩ := List.getElem_of_mem hx
    have : ¬ l[j] < 0 := fun hlt => hn ⟨j, hj, hlt⟩
    omega

/-- The law's own list while it is written over. -/
structure Own (w : World) (g : Nat) (l : List Int) (k : Nat) : Prop where
  ex : ∃ cur, Blk w g 3 cur ∧ cur.toList.take l.length = ints (List.replicate k 77 ++ l.drop k)
theorem row_of_take {w : World} {g : Nat} {t : TypeId} {cur : Array Value} {n : Nat} {xs : List Value} (h : Blk w g t cur) (ht : cur.toList.take n = xs) (hn : xs.length = n) (hl : xs.length ≤ 9223372036854775807) : Row w (some ⟨g, 0, none⟩) xs :=
  ⟨hl, fun _ => ⟨g, 0, rfl, h.lt, fun i hi => by
    rw [Nat.zero_add, h.cell, ← Array.getElem?_toList]
    have := congrArg (fun m => m[i]?) ht
    rw [List.getElem?_take_of_lt (by omega)] at this
    rw [this, List.getElem?_eq_getElem hi]⟩⟩
theorem Own.cell {w : World} {g : Nat} {l : List Int} {k : Nat} (h : Own w g l k) (hk : k < l.length) : w.cell? ⟨g, k, none⟩ = some (.int .i64 l[k]) := by
  obtain ⟨cur, hb, ht⟩ := h.ex
  rw [hb.cell]
  have := congrArg (fun m => m[k]?) ht
  simp only [List.getElem?_take_of_lt hk] at this
  rw [← Array.getElem?_toList, this]
  simp [ints, List.getElem?_append_right, hk]
theorem Own.frozen {w : World} {g : Nat} {l : List Int} {k : Nat} (h : Own w g l k) (i : Nat) : w.frozen? ⟨g, i, none⟩ = false := by
  obtain ⟨cur, hb, _⟩ := h.ex
  exact hb.frozen i
theorem Own.lt {w : World} {g : Nat} {l : List Int} {k : Nat} (h : Own w g l k) : g < w.heap.size := by
  obtain ⟨cur, hb, _⟩ := h.ex
  exact hb.lt
theorem Own.set_ {w : World} {g : Nat} {l : List Int} {k : Nat} (h : Own w g l k) (hk : k < l.length) : Own (w.setCell ⟨g, k, none⟩ (.int .i64 77)) g l (k + 1) := by
  obtain ⟨cur, hb, ht⟩ := h.ex
  refine ⟨_, hb.set_ k _, ?_⟩
  rw [Array.toList_setIfInBounds, List.take_set, ht]
  apply List.ext_getElem
  · simp [ints]; omega
  · intro i h1 h2
    rw [List.getElem_set]
    split
    · rename_i e; subst e
      simp [ints, List.getElem_append]
    · rename_i e
      simp only [ints, List.getElem_map, List.getElem_append, List.length_replicate, List.getElem_replicate, List.getElem_drop]
      split <;> split <;> first | rfl | (exfalso; omega) | (congr 2; omega)
theorem Own.drew {w : World} {g : Nat} {l : List Int} {k : Nat} (h : Own w g l k) : Own w.drew g l k := ⟨h.ex⟩
theorem Own.below {w w' : World} {g : Nat} {l : List Int} {k : Nat} (h : Own w g l k) (hb : Below w.heap.size w w') : Own w' g l k := by
  obtain ⟨cur, h1, h2⟩ := h.ex
  exact ⟨cur, h1.below hb h1.lt, h2⟩
theorem Cnt.drew {w : World} {gc gn : Nat} {l : List Int} (h : Cnt w gc gn l) : Cnt w.drew gc gn l := ⟨h.box, h.row, h.ne⟩
theorem Cnt.far {w w' : World} {gc gn g : Nat} {l : List Int} (h : Cnt w gc gn l) (hb : w.grownBy w' (some g)) (h1 : gc ≠ g) (h2 : gn ≠ g) : Cnt w' gc gn l :=
  ⟨h.box.grown hb (by simpa using h1), h.row.grown hb (by simpa using h2), h.ne⟩

set_option maxHeartbeats 2000000 in
set_option maxRecDepth 100000 in
theorem walk_CounterPlays (w : World) (a0 : Option Addr) (l : List Int) (cap : Nat) (hr : Row w a0 (ints l)) (hw : ∀ n ∈ l, (Lit.int .i64 n).wf = true) (hcap : l.length ≤ cap) (hm : cap ≤ maxLen) (hsz0 : cap * 8 ≤ 140737488351232)
    (a1 : Option Addr) (m : List Int) (cap' : Nat) (hr1 : Row w a1 (ints m)) (hw1 : ∀ n ∈ m, (Lit.int .i64 n).wf = true) (hcap' : m.length ≤ cap') (hm' : cap' ≤ maxLen) (_hsz1 : cap' * 8 ≤ 140737488351232) :
    Calls Try.prog 5 #[.slice a0 l.length cap, .slice a1 m.length cap'] w fun e w' => e = .returned (.bool true) ∧ Below w.heap.size w w' := by
  unfold maxLen at hm hm'
  obtain ⟨i0, hi, hz0, hz1, hz2⟩ := info_parts info3
  by_cases hbig : 1000 < l.length ∧ l.length ≤ 65536
  · obtain ⟨q1, q2⟩ := hbig
    go_enter Try.func5, Try.ntmps5
    go_wp2_with fail
    refine (works_any _).mono ?_
    rintro e w9 ⟨rfl, k9⟩
    have t9 := below_call (w := w) (by go_grown) k9
    go_wp2
    go_returns
    exact ⟨rfl, t9⟩
  by_cases hbig' : 1000 < m.length
  · by_cases q1 : 1000 < l.length
    · have q2 : 65536 < l.length := by omega
      clear hbig
      go_enter Try.func5, Try.ntmps5
      go_wp2_with fail
      refine (works_any _).mono ?_
      rintro e w9 ⟨rfl, k9⟩
      have t9 := below_call (w := w) (by go_grown) k9
      go_wp2
      go_returns
      exact ⟨rfl, t9⟩
    · clear hbig
      go_enter Try.func5, Try.ntmps5
      go_wp2_with fail
      refine (works_any _).mono ?_
      rintro e w9 ⟨rfl, k9⟩
      have t9 := below_call (w := w) (by go_grown) k9
      go_wp2
      go_returns
      exact ⟨rfl, t9⟩
  have hown : (w.alloc (.cells #[] 3)).ownsRow w.heap.size 3 1 (.slice (some ⟨w.heap.size, 0, none⟩) 0 0) 0 [] := World.ownsRow_made w #[] 0 (Nat.le_refl _) (by simp) rfl
  have HO := hide hown
  clear hown
  by_cases q1 : 1000 < l.length
  · have q2 : 65536 < l.length := by omega
    clear hbig
    go_enter Try.func5, Try.ntmps5
    go_wp2_with (at_builtin; refine wpList_append_row rfl _ _ 43 rfl w.heap.size 3 i0 (.int .i64 0) 8 Try.underlying43 hi hz0 hz1 hz2 rfl _ _ _ rfl HO.out a0 l.length cap (ints l) rfl (hr.below ((Below.refl _ _).alloc (Nat.le_refl _) _)) (ints_len l) (ints_one l) ?c1a ?c2a ?c3a ?_)
    case c1a => unfold maxLen; omega
    case c2a => omega
    (try case c3a => simp)
    intro v' w1 hown' hgrow hnil
    have t1 : Below w.heap.size w w1 := below_grown (a := w) (by go_grown) hgrow (own_ge HO.out)
    have hv : ∃ g c cur, v' = .slice (some ⟨g, 0, none⟩) l.length c ∧ w.heap.size ≤ g ∧ Blk w1 g 3 cur ∧ l.length ≤ c ∧ c ≤ maxLen ∧ cur.toList.take l.length = ints l := by
      rcases hown'.2 with ⟨h1, _⟩ | ⟨g, c, cur, h1, h2, h3, h4, h5, _, h6⟩
      · exact absurd h1 (by first | exact hnil | (intro hh; exact absurd (hnil.1 hh).1 (by simp)))
      · exact ⟨g, c, cur, by simpa using h1, h2, h3, by omega, h5, by simpa using h6⟩
    obtain ⟨g, c, cur, hv, hg, hB, hc1, hc2, htk⟩ := hv
    have Hm := hide hc2
    have Ht := hide htk
    clear hown' hgrow hnil hc2 htk
    rw [hv]
    have s1 := t1.size
    have hgl := hB.lt
    go_wp2_with fail
    refine (new_many _ _ _ _ q2).mono ?_
    rintro e w2 ⟨rfl, rfl⟩
    go_wp2_with fail
    refine (ref_new_many _ _ _ _ q2).mono ?_
    rintro e w2 ⟨rfl, rfl⟩
    go_wp2_with fail
    refine (works_any _).mono ?_
    rintro e w9 ⟨rfl, k9⟩
    have t9 := below_call (w := w) (by go_grown) k9
    go_wp2
    go_returns
    exact ⟨rfl, t9⟩
  clear hbig
  rcases nil_neg l with ⟨j, hj, hneg⟩ | hpos
  · have HJ := hide hneg
    clear hneg
    go_enter Try.func5, Try.ntmps5
    go_wp2_with (at_builtin; refine wpList_append_row rfl _ _ 43 rfl w.heap.size 3 i0 (.int .i64 0) 8 Try.underlying43 hi hz0 hz1 hz2 rfl _ _ _ rfl HO.out a0 l.length cap (ints l) rfl (hr.below ((Below.refl _ _).alloc (Nat.le_refl _) _)) (ints_len l) (ints_one l) ?c1b ?c2b ?c3b ?_)
    case c1b => unfold maxLen; omega
    case c2b => omega
    (try case c3b => simp)
    intro v' w1 hown' hgrow hnil
    have t1 : Below w.heap.size w w1 := below_grown (a := w) (by go_grown) hgrow (own_ge HO.out)
    have hv : ∃ g c cur, v' = .slice (some ⟨g, 0, none⟩) l.length c ∧ w.heap.size ≤ g ∧ Blk w1 g 3 cur ∧ l.length ≤ c ∧ c ≤ maxLen ∧ cur.toList.take l.length = ints l := by
      rcases hown'.2 with ⟨h1, _⟩ | ⟨g, c, cur, h1, h2, h3, h4, h5, _, h6⟩
      · exact absurd h1 (by first | exact hnil | (intro hh; exact absurd (hnil.1 hh).1 (by simp)))
      · exact ⟨g, c, cur, by simpa using h1, h2, h3, by omega, h5, by simpa using h6⟩
    obtain ⟨g, c, cur, hv, hg, hB, hc1, hc2, htk⟩ := hv
    have Hm := hide hc2
    have Ht := hide htk
    clear hown' hgrow hnil hc2 htk
    rw [hv]
    have s1 := t1.size
    have hgl := hB.lt
    have hro : Row w1 (some ⟨g, 0, none⟩) (ints l) := row_of_take hB Ht.out (ints_len l) (by rw [ints_len]; omega)
    go_wp2_with fail
    refine (new_neg _ l _ _ _ hro rfl (by omega) j hj HJ.out).mono ?_
    rintro e w2 ⟨rfl, rfl⟩
    go_wp2_with fail
    refine (ref_new_neg _ l _ _ _ (hr.below t1) rfl (by omega) j hj HJ.out).mono ?_
    rintro e w2 ⟨rfl, rfl⟩
    go_wp2_with fail
    refine (works_any _).mono ?_
    rintro e w9 ⟨rfl, k9⟩
    have t9 := below_call (w := w) (by go_grown) k9
    go_wp2
    go_returns
    exact ⟨rfl, t9⟩
  have hfit : Fit l := ⟨by omega, fun x hx => ⟨hpos x hx, by
    have := hw x hx
    simp [Lit.wf, IntKind.min, IntKind.max, IntKind.signed, IntKind.bits] at this
    omega⟩⟩
  have HFit := hide hfit
  have HP := hide hpos
  clear hfit hpos
  go_enter Try.func5, Try.ntmps5
  go_wp2_with (at_builtin; refine wpList_append_row rfl _ _ 43 rfl w.heap.size 3 i0 (.int .i64 0) 8 Try.underlying43 hi hz0 hz1 hz2 rfl _ _ _ rfl HO.out a0 l.length cap (ints l) rfl (hr.below ((Below.refl _ _).alloc (Nat.le_refl _) _)) (ints_len l) (ints_one l) ?c1z ?c2z ?c3z ?_)
  case c1z => unfold maxLen; omega
  case c2z => omega
  (try case c3z => simp)
  intro v' w1 hown' hgrow hnil
  have t1 : Below w.heap.size w w1 := below_grown (a := w) (by go_grown) hgrow (own_ge HO.out)
  have hv : ∃ g c cur, v' = .slice (some ⟨g, 0, none⟩) l.length c ∧ w.heap.size ≤ g ∧ Blk w1 g 3 cur ∧ l.length ≤ c ∧ c ≤ maxLen ∧ cur.toList.take l.length = ints l := by
    rcases hown'.2 with ⟨h1, _⟩ | ⟨g, c, cur, h1, h2, h3, h4, h5, _, h6⟩
    · exact absurd h1 (by first | exact hnil | (intro hh; exact absurd (hnil.1 hh).1 (by simp)))
    · exact ⟨g, c, cur, by simpa using h1, h2, h3, by omega, h5, by simpa using h6⟩
  obtain ⟨g, c, cur, hv, hg, hB, hc1, hc2, htk⟩ := hv
  have Hm := hide hc2
  have Ht := hide htk
  clear hown' hgrow hnil hc2 htk
  rw [hv]
  have s1 := t1.size
  have hgl := hB.lt
  have hro : Row w1 (some ⟨g, 0, none⟩) (ints l) := row_of_take hB Ht.out (ints_len l) (by rw [ints_len]; omega)
  go_wp2_with fail
  refine (new_ok _ l _ _ _ hro rfl (by omega) HP.out).mono ?_
  rintro e w2 ⟨rfl, C2, k2⟩
  have t2 := below_call (w := w) t1 k2
  have O2 : Own w2 g l 0 := ⟨cur, hB.below k2 hgl, by simpa using Ht.out⟩
  have s2 := t2.size
  have l2 := C2.box.lt
  go_wp2_with fail
  refine (ref_new_ok _ l _ _ _ (hr.below t2) rfl (by omega) HP.out).mono ?_
  rintro e w3 ⟨gr, gs, rfl, R3, u1, u2, k3⟩
  have t3 := below_call (w := w) t2 k3
  have O3 := O2.below k3
  have C3 := C2.below k3
  obtain ⟨gn, hgn⟩ : ∃ gn, gn = w1.heap.size := ⟨_, rfl⟩
  obtain ⟨gc, hgc⟩ : ∃ gc, gc = w1.heap.size + 1 := ⟨_, rfl⟩
  have v1 : g < gn := by omega
  have v2 : gn < gc := by omega
  have v3 : gc < gr := by omega
  have v4 : gc < gs := by omega
  rw [← hgc, ← hgn] at C3
  rw [← hgc]
  clear hB Ht Hm C2 O2 hgn hgc u1 u2 l2
  go_wp2_with fail
  go_loopw [10] (fun i wr => ∃ k : Nat, k ≤ l.length ∧ i = .int .i64 k ∧ Own wr g l k ∧ Cnt wr gc gn l ∧ RC wr gr gs l ∧ Below w.heap.size w wr) (fun i _ => l.length - (intOf i).toNat)
  case atStart => exact ⟨0, Nat.zero_le _, rfl, O3, C3, R3, t3⟩
  case round =>
    obtain ⟨k, hk, rfl, O, C, R, hbel⟩ := hrel
    have sz := hbel.size
    by_cases hlt : k < l.length
    · obtain ⟨b, off, rfl, hbw, hcell⟩ := row_int hr (by omega)
      have hA := (hbel.cell (p := ⟨b, off + k, none⟩) hbw).trans (hcell k hlt)
      have hB := O.cell hlt
      have hF := O.frozen k
      clear hcell
      go_wp2_with fail
      refine Reg.region (by kernel_rfl) 9 [] (fun _ w' => w' = wr.drew) (by kernel_rfl) (by kernel_rfl) rfl ?_
      iterate 9
        refine Reg.WT.yield (v := ?_) rfl rfl ?_ ?_
        rotate_left
        · intro w' _ hS; go_simp; (try go_bits); (first | rfl | rw [if_pos (by omega)])
        simp only [Act.put, List.setIfInBounds_toArray, List.set_cons_zero, List.set_cons_succ]
      intro w7 hS
      subst hS
      have O' := O.set_ hlt
      have hgr := grownBy_set (w := wr) (g := g) ⟨g, k, none⟩ rfl (.int .i64 77)
      have C' := C.far hgr (by omega) (by omega)
      have R' := R.grown hgr (by omega) (by omega)
      clear hgr
      have hbel' := hbel.setCell (p := ⟨g, k, none⟩) hg (.int .i64 77)
      go_wp2
      go_roundw
      case rel => exact ⟨k + 1, hlt, by go_num, O'.drew, C'.drew, R', hbel'.drew⟩
      case measure => simp [intOf]; omega
    · have : k = l.length := by omega
      subst this
      go_wp2_with fail
      go_loopw [11] (fun i wr => ∃ (k : Nat) (s : List Int), k ≤ m.length ∧ i = .int .i64 k ∧ Fit s ∧ Cnt wr gc gn s ∧ RC wr gr gs s ∧ Below w.heap.size w wr) (fun i _ => m.length - (intOf i).toNat)
      case atStart => exact ⟨0, l, Nat.zero_le _, rfl, HFit.out, C, R, hbel⟩
      case round =>
        obtain ⟨k, s, hk, rfl, hfit, C, R, hbel⟩ := hrel
        have sz := hbel.size
        by_cases hlt : k < m.length
        · obtain ⟨b1, off1, rfl, hbw1, hcell⟩ := row_int hr1 (by omega)
          have hA := (hbel.cell (p := ⟨b1, off1 + k, none⟩) hbw1).trans (hcell k hlt)
          obtain ⟨x, hx⟩ : ∃ x, m[k] = x := ⟨_, rfl⟩
          rw [hx] at hA
          have HF := hide hfit
          clear hcell hx hfit
          go_wp2_with fail
          refine (down_any gc gn s x _ C HF.out).mono ?_
          rintro e wa ⟨rfl, Ca, ka⟩
          have ta := below_grown1 (a := w) hbel ka (by omega)
          have Ra := R.grown ka (by omega) (by omega)
          have hA1 := (ta.cell (p := ⟨b1, off1 + k, none⟩) hbw1).trans ((hbel.cell (p := ⟨b1, off1 + k, none⟩) hbw1).symm.trans hA)
          go_wp2_with fail
          refine (rdown_any gr gs s x _ Ra HF.out).mono ?_
          rintro e wb ⟨rfl, Rb, kb⟩
          have tb := below_grown1 (a := w) ta kb (by omega)
          have Cb := Ca.far kb (by omega) (by omega)
          have hA2 := (tb.cell (p := ⟨b1, off1 + k, none⟩) hbw1).trans ((hbel.cell (p := ⟨b1, off1 + k, none⟩) hbw1).symm.trans hA)
          have HF' := hide (HF.out.dn x)
          go_wp2_with fail
          refine (left_any gc gn _ x _ Cb HF'.out).mono ?_
          rintro e wc ⟨rfl, rfl⟩
          go_wp2_with fail
          refine (rleft_any gr gs _ x _ Rb HF'.out).mono ?_
          rintro e wc ⟨rfl, rfl⟩
          go_wp2
          go_roundw
          case rel => exact ⟨k + 1, _, hlt, by go_num, HF'.out, Cb, Rb, tb⟩
          case measure => simp [intOf]; omega
        · have : k = m.length := by omega
          subst this
          go_wp2_with fail
          refine (works_any _).mono ?_
          rintro e w9 ⟨rfl, k9⟩
          have t9 := below_call (w := w) (by go_grown) k9
          go_wp2
          go_returns
          exact ⟨rfl, t9⟩
end Go.Proofs.Ytcgchcngiebgpaa
