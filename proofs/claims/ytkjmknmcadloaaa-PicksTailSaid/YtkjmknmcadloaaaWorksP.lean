/- Walk: the anchor. -/
import Derived.Test.YtkjmknmcadloaaaFairW
namespace Go.Proofs.Ytkjmknmcadloaaa
open Go.RowKit

theorem prow_blk {w : World} {g : Nat} {l : List Pk} (h : Blk w g 29 (l.map pcell).flatten.toArray) (hl : l.length ≤ 1000000) : PRow w (some ⟨g, 0, none⟩) l := by
  refine ⟨by rw [List.length_map]; omega, fun _ => ⟨g, 0, rfl, h.lt, fun i hi j hj => ?_⟩⟩
  have := flat_get (l.map pcell) (pcell_len l) i hi j hj
  rw [show 0 + i * 2 + j = i * 2 + j from by omega, h.cell]
  simpa using this
theorem row_blk {w : World} {g : Nat} {t : TypeId} {l : List Value} (h : Blk w g t l.toArray) (hl : l.length ≤ 1000000) : Row w (some ⟨g, 0, none⟩) l := by
  refine ⟨by omega, fun _ => ⟨g, 0, rfl, h.lt, fun i hi => ?_⟩⟩
  rw [h.cell]; simp [hi]
def wl0 : List Pk := [⟨5, 5⟩, ⟨-1, 9⟩]
def wants : List Pk := [⟨2, 0⟩, ⟨2, 0⟩, ⟨0, 1⟩, ⟨1, 2⟩, ⟨2, 0⟩, ⟨0, 2⟩, ⟨1, 0⟩, ⟨2, 1⟩, ⟨0, 1⟩]
theorem pk_ext {p q : Pk} (h1 : p.w = q.w) (h2 : p.v = q.v) : p = q := by cases p; cases q; simp_all
theorem wants_at : ∀ k (h : k < wants.length), wants[k] = at_ wl0 3 k := by
  intro k h
  have h9 : k < 9 := h
  match k, h9 with
  | 0, _ => exact pk_ext rfl rfl
  | 1, _ => exact pk_ext rfl rfl
  | 2, _ => exact pk_ext rfl rfl
  | 3, _ => exact pk_ext rfl rfl
  | 4, _ => exact pk_ext rfl rfl
  | 5, _ => exact pk_ext rfl rfl
  | 6, _ => exact pk_ext rfl rfl
  | 7, _ => exact pk_ext rfl rfl
  | 8, _ => exact pk_ext rfl rfl
theorem wl0_ok : ∀ p ∈ wl0, PkOk p := by
  intro p hp
  simp [wl0] at hp
  rcases hp with rfl | rfl <;> exact ⟨by decide, by decide⟩
def fl0 : List Pk := [⟨0, 0⟩, ⟨1, 0⟩, ⟨0, 0⟩]
theorem fl0_ok : ∀ p ∈ fl0, PkOk p := by
  intro p hp
  simp [fl0] at hp
  rcases hp with rfl | rfl | rfl <;> exact ⟨by decide, by decide⟩
theorem fl0_fair : fair 2 fl0 2 = true := by decide
theorem Scr.below {w w' : World} {gs : Nat} {a : Option Addr} {c : Nat} {l : List Pk} {n : Int} {m base : Nat} (h : Scr w gs a c l n m base) (hb : Below w.heap.size w w') : Scr w' gs a c l n m base :=
  ⟨h.box.below hb h.box.lt, PRow.below h.row hb, h.blk⟩
def SLc (W : World) (gs : Nat) (a : Option Addr) (c : Nat) (l : List Pk) (n : Int) (m base : Nat) (k : Nat) (w' : World) : Prop := Foot [gs] W w' ∧ Scr w' gs a c l n (m + k) base
theorem sl_cell {W : World} {gs : Nat} {a : Option Addr} {c : Nat} {l : List Pk} {n : Int} {m base : Nat} {p : Addr} {v : Value} (h : W.cell? p = some v) (hp : p.block < W.heap.size) (hn : p.block ≠ gs) : ∀ w' k, SLc W gs a c l n m base k w' → w'.cell? p = some v :=
  fun w' k hS => (hS.1.cell hp (by simpa using hn)).trans h

set_option maxHeartbeats 2000000 in
theorem works_any (w : World) : Calls Try.prog 8 #[] w fun e w' => e = .returned (.bool true) ∧ Below w.heap.size w w' := by
  have P0 := hide (prow_blk (l := wl0) (Blk.new w 29 _) (by decide))
  go_enter Try.func8, Try.ntmps8
  go_wp2_with fail
  obtain ⟨w1, hw1⟩ : ∃ w1, w1 = w.alloc (.cells #[.int .i64 5, .int .i64 5, .int .i64 (-1), .int .i64 9] 29) := ⟨_, rfl⟩
  have P1 : Hid (PRow w1 (some ⟨w.heap.size, 0, none⟩) wl0) := hide (hw1 ▸ P0.out)
  have t1 : Hid (Below w.heap.size w w1) := hide (by rw [hw1]; go_grown)
  rw [← hw1]
  clear hw1 P0
  refine (new_any _ wl0 2 3 w1 P1.out (by decide) (by decide) (by decide)).mono ?_
  rintro r w2 ⟨gs, a, c, rfl, S2, hgs, G2, k2⟩
  have S2 := hide S2
  have t2 := hide (below_call (w := w) t1.out k2)
  have hg1 := t1.out.size
  clear k2 G2
  go_wp2_with fail
  have B3 := hide (Blk.new w2 29 (wants.map pcell).flatten.toArray)
  obtain ⟨w3, hw3⟩ : ∃ w3, w3 = w2.alloc (.cells (wants.map pcell).flatten.toArray 29) := ⟨_, rfl⟩
  have P3 : Hid (PRow w3 (some ⟨w2.heap.size, 0, none⟩) wants) := hide (hw3 ▸ prow_blk B3.out (by decide))
  have b3 : Below w2.heap.size w2 w3 := by rw [hw3]; exact (Below.refl _ _).alloc (Nat.le_refl _) _
  have S3 := hide (S2.out.below b3)
  have t3 := hide (below_call (w := w) t2.out b3)
  have HW3 : Hid (w2.alloc (.cells #[.int .i64 2, .int .i64 0, .int .i64 2, .int .i64 0, .int .i64 0, .int .i64 1, .int .i64 1, .int .i64 2, .int .i64 2, .int .i64 0, .int .i64 0, .int .i64 2, .int .i64 1, .int .i64 0, .int .i64 2, .int .i64 1, .int .i64 0, .int .i64 1] 29) = w3) := hide hw3.symm
  have hg2 : Hid (gs < w2.heap.size) := hide S2.out.box.lt
  have hg3 : Hid (w2.heap.size < w3.heap.size) := hide (by rw [hw3]; simp)
  clear hw3 b3 B3
  rw [HW3.out]
  go_loopw [4] (fun i wr => ∃ k : Nat, k ≤ 9 ∧ i = .int .i64 k ∧ Scr wr gs a c wl0 3 k w1.heap.size ∧ Foot [gs] w3 wr) (fun i _ => 9 - (intOf i).toNat)
  case atStart => exact ⟨0, by omega, rfl, S3.out, Foot.refl _ _⟩
  case round =>
    obtain ⟨k, hk, rfl, hS, hF⟩ := hrel
    have hS := hide hS
    have hF := hide hF
    by_cases hk9 : k < 9
    · obtain ⟨b', off', hab, _, hcell⟩ := p_at P3.out (by decide)
      obtain ⟨x0, x1⟩ := hcell k hk9
      obtain ⟨hb', ho'⟩ : b' = w2.heap.size ∧ off' = 0 := by
        have : w2.heap.size = b' ∧ 0 = off' := by simpa using hab
        omega
      subst hb' ho'
      rw [wants_at k hk9] at x0 x1
      simp only [Nat.zero_add] at x0 x1
      have hbw : w2.heap.size < wr.heap.size := Nat.lt_of_lt_of_le hg3.out hF.out.size
      have y0 := (hF.out.cell (p := ⟨w2.heap.size, k * 2, none⟩) hg3.out (by have := hg2.out; simp; omega)).trans x0
      have y1 := (hF.out.cell (p := ⟨w2.heap.size, k * 2 + 1, none⟩) hg3.out (by have := hg2.out; simp; omega)).trans x1
      clear hcell hab x0 x1
      have z0 := sl_cell (gs := gs) (a := a) (c := c) (l := wl0) (n := 3) (m := k) (base := w1.heap.size) y0 hbw (by have := hg2.out; show w2.heap.size ≠ _; omega)
      have z1 := sl_cell (gs := gs) (a := a) (c := c) (l := wl0) (n := 3) (m := k) (base := w1.heap.size) y1 hbw (by have := hg2.out; show w2.heap.size ≠ _; omega)
      clear y0 y1
      go_wp2_with fail
      refine Reg.region (by kernel_rfl) 7 [1] (fun c' w' => SLc wr gs a c wl0 3 k w1.heap.size c' w') (by kernel_rfl) (by kernel_rfl) ⟨(Foot.refl _ _).drew, hS.out.below (Below.refl _ _).drew⟩ ?_
      iterate 1
        refine Reg.WT.yield (v := ?_) rfl rfl ?_ ?_
        rotate_left
        · intro w' _ hS; have z0_ := z0 _ _ hS; have z1_ := z1 _ _ hS; go_simp; (try go_bits); (first | rfl | rw [if_pos (by omega)])
        simp only [Act.put, List.setIfInBounds_toArray, List.set_cons_zero, List.set_cons_succ]
      refine Reg.WT.call (v := ?_) (f := ?_) (args := ?_) rfl rfl ?_ ?_ ?_
      rotate_left 3
      · intro w2; go_simp; exact ⟨by rfl, by rfl⟩
      · intro w2 hS; refine (next_any gs a c wl0 3 k w1.heap.size w2 hS.2 wl0_ok (by decide) (by decide) (by decide) (by omega)).mono ?_; rintro e w3 ⟨rfl, hs, hf⟩; exact ⟨by rfl, hS.1.trans hf, hs⟩
      simp only [Act.put, List.setIfInBounds_toArray, List.set_cons_zero, List.set_cons_succ]
      iterate 5
        refine Reg.WT.yield (v := ?_) rfl rfl ?_ ?_
        rotate_left
        · intro w' _ hS; have z0_ := z0 _ _ hS; have z1_ := z1 _ _ hS; go_simp; (try go_bits); (first | rfl | rw [if_pos (by omega)])
        simp only [Act.put, List.setIfInBounds_toArray, List.set_cons_zero, List.set_cons_succ]
      intro W2 hS2
      clear z0 z1
      obtain ⟨f2, s2⟩ := hS2
      have f2 := hide (hF.out.trans f2)
      have s2 := hide s2
      generalize at_ wl0 3 k = p
      go_wp2
      go_roundw
      case rel => exact ⟨k + 1, by omega, by go_num, s2.out, f2.out⟩
      case measure => simp [intOf]; omega
    · obtain rfl : k = 9 := by omega
      go_wp2_with fail
      obtain ⟨w4, hw4⟩ : ∃ w4, w4 = wr.alloc (.cells #[.int .u8 7, .int .u8 1, .int .u8 5] 5) := ⟨_, rfl⟩
      have B4 : Hid (Blk w4 wr.heap.size 5 (u8s [7, 1, 5]).toArray) := hide (hw4 ▸ Blk.new wr 5 _)
      have b4 : Below wr.heap.size wr w4 := by rw [hw4]; exact (Below.refl _ _).alloc (Nat.le_refl _) _
      rw [← hw4]
      have S4 := hide (hS.out.below b4)
      have F4 := hide (hF.out.trans (Foot.of_below [gs] b4))
      clear hw4 b4
      refine (draw_any _ [7, 1, 5] 3 3 w4 (row_blk B4.out (by decide)) rfl (by decide) (by decide)).mono ?_
      rintro r w5 ⟨v, rfl, hown, k5⟩
      obtain ⟨a5, c5, rfl, _, _, _, R5, _⟩ := own_rowS (pcell_len _) (by decide) hown
      obtain ⟨b5, o5, rfl, hb5, hc5⟩ := p_at R5 (by decide)
      obtain ⟨x0, x1⟩ := hc5 0 (by decide)
      have S5 := hide (S4.out.below k5)
      have F5 := hide (F4.out.trans (Foot.of_below [gs] k5))
      clear hown k5 hc5 R5
      have x0 : w5.cell? ⟨b5, o5, none⟩ = some (.int .i64 7) := x0
      have x1 : w5.cell? ⟨b5, o5 + 1, none⟩ = some (.int .i64 1) := x1
      go_wp2_with fail
      refine (made_any gs a c wl0 3 9 w1.heap.size w5 S5.out).mono ?_
      rintro r w6 ⟨rfl, rfl⟩
      go_wp2_with fail
      have B6 := hide (Blk.new w5 29 (fl0.map pcell).flatten.toArray)
      refine (fair_ok _ 3 3 fl0 2 2 _ (prow_blk B6.out (by decide)) rfl fl0_ok (by decide) (by decide) (by decide) (by decide) (by decide) (by decide) (by decide)).mono ?_
      rintro r w7 ⟨rfl, k7⟩
      rw [fl0_fair]
      have F7 := hide (F5.out.trans (Foot.of_below [gs] ((Below.refl w5.heap.size w5).alloc (Nat.le_refl _) (.cells (fl0.map pcell).flatten.toArray 29)) |>.trans (Foot.of_below [gs] k7)))
      go_wp2
      go_returns
      exact ⟨rfl, below_foot t3.out F7.out (by simp; have := hgs; omega)⟩
end Go.Proofs.Ytkjmknmcadloaaa
