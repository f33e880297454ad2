/- The walk of PicksNext. -/
import Derived.Test.YtkjmknmcadloaaaPMoreW
namespace Go.Proofs.Ytkjmknmcadloaaa
open Go.RowKit

/-- A block of the call's own whose elements from i on are a list's. -/
def OwnB (w : World) (g : Nat) (l : List Pk) (i : Nat) : Prop := ∃ cs : Array Value, Blk w g 29 cs ∧ ∀ j (h : j < l.length), i ≤ j → cs[j * 2]? = some (.int .i64 l[j].w) ∧ cs[j * 2 + 1]? = some (.int .i64 l[j].v)
theorem OwnB.cell {w : World} {g : Nat} {l : List Pk} {i : Nat} (h : OwnB w g l i) (hi : i < l.length) : w.cell? ⟨g, i * 2, none⟩ = some (.int .i64 l[i].w) ∧ w.cell? ⟨g, i * 2 + 1, none⟩ = some (.int .i64 l[i].v) := by
  obtain ⟨cs, hb, hc⟩ := h
  obtain ⟨h1, h2⟩ := hc i hi (Nat.le_refl _)
  exact ⟨by rw [hb.cell]; exact h1, by rw [hb.cell]; exact h2⟩
theorem OwnB.frozen {w : World} {g : Nat} {l : List Pk} {i : Nat} (h : OwnB w g l i) (o : Nat) : w.frozen? ⟨g, o, none⟩ = false := by obtain ⟨cs, hb, _⟩ := h; exact hb.frozen o
theorem OwnB.lt {w : World} {g : Nat} {l : List Pk} {i : Nat} (h : OwnB w g l i) : g < w.heap.size := by obtain ⟨cs, hb, _⟩ := h; exact hb.lt
theorem OwnB.below {w w' : World} {g : Nat} {l : List Pk} {i : Nat} (h : OwnB w g l i) (hb : Below w.heap.size w w') : OwnB w' g l i := by obtain ⟨cs, h1, h2⟩ := h; exact ⟨cs, h1.below hb h1.lt, h2⟩
theorem OwnB.store {w : World} {g : Nat} {l : List Pk} {i : Nat} (h : OwnB w g l i) (u v : Value) : OwnB ((w.setCell ⟨g, i * 2, none⟩ u).setCell ⟨g, i * 2 + 1, none⟩ v) g l (i + 1) := by
  obtain ⟨cs, h1, h2⟩ := h
  refine ⟨_, (h1.set_ (i * 2) u).set_ (i * 2 + 1) v, fun j hj hij => ?_⟩
  obtain ⟨e1, e2⟩ := h2 j hj (by omega)
  rw [Array.getElem?_setIfInBounds_ne (by omega), Array.getElem?_setIfInBounds_ne (by omega), Array.getElem?_setIfInBounds_ne (by omega), Array.getElem?_setIfInBounds_ne (by omega)]
  exact ⟨e1, e2⟩
theorem own_blk {w : World} {base : Nat} {v : Value} {l : List Pk} (h : w.ownsRow base 29 2 v l.length (l.map pcell).flatten) (hp : 0 < l.length) : ∃ g cap, v = .slice (some ⟨g, 0, none⟩) l.length cap ∧ base ≤ g ∧ OwnB w g l 0 := by
  rcases h.2 with ⟨_, h2⟩ | ⟨g, cap, cur, rfl, hbg, hh, hnc, hcap, _, htake⟩
  · omega
  · refine ⟨g, cap, rfl, hbg, cur, hh, fun j hj _ => ?_⟩
    have hf : ∀ k (hk : k < 2), cur[j * 2 + k]? = some ((pcell l[j])[k]'(by simpa [pcell] using hk)) := fun k hk => by
      have e1 := flat_get (l.map pcell) (pcell_len l) j (by simpa using hj) k (by simpa [pcell] using hk)
      have e2 := h.cells (g := g) rfl (j * 2 + k) _ e1
      rw [add_eq, Nat.zero_add] at e2
      rw [← (show Blk w g 29 cur from hh).cell, e2]
      simp
    exact ⟨hf 0 (by omega), hf 1 (by omega)⟩
theorem prow_foot {w w' : World} {a : Option Addr} {l : List Pk} {fs : List Nat} (h : PRow w a l) (hf : Foot fs w w') (hn : ∀ b off, a = some ⟨b, off, none⟩ → 0 < l.length → b ∉ fs) : PRow w' a l := by
  refine ⟨h.1, fun hp => ?_⟩
  obtain ⟨b, off, ha, hb, hc⟩ := h.2 hp
  exact ⟨b, off, ha, Nat.lt_of_lt_of_le hb hf.size, fun i hi j hj => (hf.cell (p := ⟨b, off + i * 2 + j, none⟩) hb (hn b off ha (by simpa using hp))).trans (hc i hi j hj)⟩

set_option maxHeartbeats 4000000 in
set_option maxRecDepth 100000 in
theorem walk_PicksNext (w : World) (a0 : Option Addr) (l : List Pk) (cap : Nat) (hr : PRow w a0 l) (hl : ∀ p ∈ l, PkOk p) (hcap : l.length ≤ cap) (hm : cap ≤ maxLen) (n : Int) (wn : (Lit.int .i64 n).wf = true) (mo : Int) (wmo : (Lit.int .u8 mo).wf = true) :
    Calls Try.prog 3 #[.slice a0 l.length cap, .int .i64 n, .int .u8 mo] w fun e w' => e = .returned (.bool true) ∧ Below w.heap.size w w' := by
  have HL := hide hl
  obtain ⟨m0, m1⟩ := u8_of wmo
  obtain ⟨mo, rfl⟩ := Int.eq_ofNat_of_zero_le m0
  clear wn wmo hl
  by_cases hlen : l.length ≤ 1000
  · obtain ⟨i0, hi, hz0, hz1, hz2⟩ := info_parts info29
    have hown := hide (World.ownsRow_made (base := w.heap.size) (e := 29) (size := 2) w #[] 0 (Nat.le_refl _) (by simp) rfl)
    go_enter Try.func3, Try.ntmps3
    go_wp2_with (at_builtin; refine wpList_append_rows rfl _ _ 22 rfl w.heap.size 29 i0 (.agg #[.int .i64 0, .int .i64 0]) 2 16 Try.underlying22 hi hz0 hz1 hz2 rfl (by decide) _ _ _ rfl hown.out a0 l.length cap (l.map pcell) rfl (hr.below ((Below.refl _ _).alloc (Nat.le_refl _) _)) (by simp) (pcell_len l) (pcell_one l) ?c1 ?c2 ?c3 ?_)
    case c1 => unfold maxLen; omega
    case c2 => omega
    case c3 => simp
    intro v' w1 hown' hgrow _
    (try simp only [List.nil_append, Nat.zero_add] at hown')
    obtain ⟨a5, c5, hv, hc5, hm5, _, G5⟩ := own_rowG (pcell_len l) (by decide) hown'
    have hG : ∃ g, w.heap.size ≤ g ∧ g < w1.heap.size ∧ Hid (0 < l.length → a5 = some ⟨g, 0, none⟩ ∧ OwnB w1 g l 0) := by
      rcases Nat.eq_zero_or_pos l.length with h0 | h0
      · exact ⟨w.heap.size, Nat.le_refl _, by have := hgrow.size; simp at this; omega, hide (fun h => by omega)⟩
      · obtain ⟨g, cap', hv', hg, hO⟩ := own_blk hown' h0
        rw [hv] at hv'
        exact ⟨g, hg, hO.lt, hide (fun _ => ⟨by cases hv'; rfl, hO⟩)⟩
    obtain ⟨g, hg1, hg2, hO⟩ := hG
    subst hv
    have t1 : Hid (Below w.heap.size w w1) := hide (below_grown (a := w) ((Below.refl _ _).alloc (Nat.le_refl _) _) hgrow (fun q hq => own_ge hown.out q hq))
    have G5 := hide G5
    clear hown' hgrow hown
    unfold maxLen at hm5
    by_cases hn : 1 ≤ n ∧ n ≤ 64
    · obtain ⟨hn1, hn2⟩ := hn
      go_wp2_with fail
      refine (new_any a5 l c5 n w1 G5.out.1 (by omega) hn1 hn2).mono ?_
      rintro r w2 ⟨gs, a, c, rfl, S2, hgs, G2, k2⟩
      have S2 := hide S2
      have G2 := hide G2
      have t2 := hide (below_call (w := w) t1.out k2)
      have hO2 : Hid (0 < l.length → a5 = some ⟨g, 0, none⟩ ∧ OwnB w2 g l 0) := hide (fun h => ⟨(hO.out h).1, (hO.out h).2.below k2⟩)
      clear k2 hO
      go_wp2
      go_loopw [11] (fun i wr => ∃ k : Nat, k ≤ l.length ∧ i = .int .i64 k ∧ Foot [g] w2 wr ∧ Hid (0 < l.length → OwnB wr g l k)) (fun i _ => l.length - (intOf i).toNat)
      case atStart => exact ⟨0, by omega, rfl, Foot.refl _ _, hide (fun h => (hO2.out h).2)⟩
      case round =>
        obtain ⟨k, hk, rfl, hF, hOk⟩ := hrel
        have hF := hide hF
        by_cases hkl : k < l.length
        · obtain ⟨rfl, _⟩ := hO2.out (by omega)
          have hOk := hide (hOk.out (by omega))
          have hbr := below_foot t2.out hF.out (by simpa using hg1)
          obtain ⟨b, off, rfl, hb, hc⟩ := p_at (hr.below hbr) (by omega)
          obtain ⟨x0, x1⟩ := hc k hkl
          obtain ⟨y0, y1⟩ := hOk.out.cell hkl
          clear hc hbr
          generalize l[k] = p at x0 x1 y0 y1
          have z0 := keepd x0
          have z1 := keepd x1
          have z2 := keepd y0
          have z3 := keepd y1
          have f0 := hOk.out.frozen (k * 2)
          have f1 := hOk.out.frozen (k * 2 + 1)
          go_wp2_with fail
          refine Reg.region (by kernel_rfl) 9 [] (fun _ w' => w' = wr.drew) (by kernel_rfl) (by kernel_rfl) rfl ?_
          iterate 9
            refine Reg.WT.yield (v := ?_) rfl rfl ?_ ?_
            rotate_left
            · intro w' _ hS; go_simp; (try go_bits); (first | rfl | rw [if_pos (by omega)])
            simp only [Act.put, List.setIfInBounds_toArray, List.set_cons_zero, List.set_cons_succ]
          intro W2 hS
          subst hS
          clear z0 z1 z2 z3
          have O2 := hide ((hOk.out.store (.int .i64 99) (.int .i64 0)).below (Below.refl _ _).drew)
          have F2 := hide (((hF.out.setCell (p := ⟨g, k * 2, none⟩) (.inl (by simp)) (.int .i64 99)).setCell (p := ⟨g, k * 2 + 1, none⟩) (.inl (by simp)) (.int .i64 0)).drew)
          go_wp2
          go_roundw
          case rel => exact ⟨k + 1, by omega, by go_num, F2.out, hide (fun _ => O2.out)⟩
          case measure => simp [intOf]; omega
        · have hgs2 : gs ≠ g := by omega
          have S3 : Hid (Scr wr gs a c l n 0 w1.heap.size) := hide ⟨S2.out.box.foot hF.out (by simp; omega), (G2.out.keep hF.out.size (fun q hq hq2 => hF.out.block q hq2 (by simp; omega))).1, S2.out.blk⟩
          have t3 := hide (below_foot t2.out hF.out (by simpa using hg1))
          have hgw : Hid (w.heap.size ≤ gs) := hide (by have := t1.out.size; omega)
          clear hOk hF
          go_wp2
          go_loopw [12] (fun i w5 => ∃ k : Nat, k ≤ l.length + mo ∧ i = .int .i64 k ∧ Scr w5 gs a c l n k w1.heap.size ∧ Below w.heap.size w w5) (fun i _ => l.length + mo - (intOf i).toNat)
          case atStart => exact ⟨0, by omega, rfl, S3.out, t3.out⟩
          case round =>
            obtain ⟨q, hq, rfl, hS, hB⟩ := hrel
            have hS := hide hS
            have hB := hide hB
            by_cases hqm : q < l.length + mo
            · go_wp2_with fail
              refine (made_any gs a c l n q w1.heap.size _ hS.out).mono ?_
              rintro r w6 ⟨rfl, rfl⟩
              go_wp2_with fail
              refine (next_any gs a c l n q w1.heap.size _ hS.out HL.out hn1 hn2 (by omega) (by omega)).mono ?_
              rintro r w6 ⟨rfl, hS6, hF6⟩
              have hS6 := hide hS6
              have t6 := hide (below_foot hB.out hF6 (by have := hgw.out; simpa using this))
              clear hF6
              go_wp2_with fail
              refine (rat_any a0 l l.length cap n q w6 (hr.below t6.out) rfl HL.out hn1 hn2 (by omega) (by omega)).mono ?_
              rintro r w7 ⟨rfl, k7⟩
              have hS7 := hide (hS6.out.below k7)
              have t7 := hide (below_call (w := w) t6.out k7)
              clear k7
              generalize at_ l n q = p
              go_wp2
              go_roundw
              case rel => exact ⟨q + 1, by omega, by go_num, hS7.out, t7.out⟩
              case measure => simp [intOf]; omega
            · go_wp2_with fail
              refine (next_nil _).mono ?_
              rintro r w6 ⟨rfl, k6⟩
              have t6 := hide (below_call (w := w) hB.out k6)
              clear k6
              go_wp2_with fail
              refine (made_nil _).mono ?_
              rintro r w7 ⟨rfl, rfl⟩
              go_wp2_with fail
              refine (works_any _).mono ?_
              rintro r w9 ⟨rfl, k9⟩
              have t9 := hide (below_call (w := w) t6.out k9)
              clear k9
              go_wp2
              go_returns
              exact ⟨rfl, t9.out⟩
    · have HN := hide (new_bad a5 l.length c5 n w1 hn)
      have HB : Hid (decide (1 ≤ n) = false ∨ (decide (1 ≤ n) = true ∧ decide (n ≤ 64) = false)) := hide (by
        by_cases h1 : 1 ≤ n
        · exact .inr ⟨by simpa using h1, by simp; omega⟩
        · exact .inl (by simpa using h1))
      clear hn
      go_wp2_with fail
      refine HN.out.mono ?_
      rintro r w2 ⟨rfl, rfl⟩
      rcases HB.out with b1 | ⟨b1, b2⟩
      · go_wp2_with fail
        refine (works_any _).mono ?_
        rintro r w9 ⟨rfl, k9⟩
        have t9 := hide (below_call (w := w) t1.out k9)
        clear k9
        go_wp2
        go_returns
        exact ⟨rfl, t9.out⟩
      · go_wp2_with fail
        refine (works_any _).mono ?_
        rintro r w9 ⟨rfl, k9⟩
        have t9 := hide (below_call (w := w) t1.out k9)
        clear k9
        go_wp2
        go_returns
        exact ⟨rfl, t9.out⟩
  · go_enter Try.func3, Try.ntmps3
    go_wp2_with fail
    refine (works_any w).mono ?_
    rintro r w2 ⟨rfl, k2⟩
    go_wp2
    go_returns
    exact ⟨rfl, k2⟩
end Go.Proofs.Ytkjmknmcadloaaa
