/- Walk: the law's apart. -/
import Derived.Test.YtffpphnjokmffaaEI
namespace Go.Proofs.Ytffpphnjokmffaa
open Go.RowKit Go.Maps
def apE (a b : Ev) : Bool := !(a.w == b.w) && (plE a || (plE b || (!(a.c == b.c) || (!wrE a && !wrE b))))
theorem apE_apart {a b : Ev} (h : apE a b = true) : Apart a b := by
  unfold apE at h
  simp only [Bool.and_eq_true, Bool.or_eq_true, Bool.not_eq_true', beq_eq_false_iff_ne] at h
  exact ⟨h.1, h.2⟩
set_option maxHeartbeats 1000000 in
theorem apart_any (a b : Ev) (w : World) : Calls Try.prog 20 #[eagg a, eagg b] w (BPost (apE a b) w) := by
  have P1 := hide (fun W => rplain_any a W)
  have P2 := hide (fun W => rplain_any b W)
  have W1 := hide (fun W => rwrites_any a W)
  have W2 := hide (fun W => rwrites_any b W)
  unfold eagg at P1 P2 W1 W2 ⊢
  obtain ⟨g, hg⟩ : ∃ g, g = w.heap.size := ⟨_, rfl⟩
  obtain ⟨w0, hw0⟩ : ∃ w0, w0 = (w.alloc (.cells #[.int .i64 a.w, .int .u8 a.k, .int .i64 a.c] 48)).alloc (.cells #[.int .i64 b.w, .int .u8 b.k, .int .i64 b.c] 48) := ⟨_, rfl⟩
  have B1 := hide (hg ▸ hw0 ▸ (Blk.new w 48 #[.int .i64 a.w, .int .u8 a.k, .int .i64 a.c]).alloc _ : Blk w0 g 48 #[.int .i64 a.w, .int .u8 a.k, .int .i64 a.c])
  have B2 : Hid (Blk w0 (g + 1) 48 #[.int .i64 b.w, .int .u8 b.k, .int .i64 b.c]) := hide (by
    have := Blk.new (w.alloc (.cells #[.int .i64 a.w, .int .u8 a.k, .int .i64 a.c] 48)) 48 #[.int .i64 b.w, .int .u8 b.k, .int .i64 b.c]
    rw [World.size_alloc, ← hw0, ← hg] at this
    exact this)
  have t : Hid (Below w.heap.size w w0) := hide (hw0 ▸ ((Below.refl _ _).alloc (Nat.le_refl _) _).alloc (by simp) _)
  have HW0 := hide hw0
  have HG := hide hg
  clear hw0 hg
  go_enter Try.func20, Try.ntmps20
  go_upto_region 1 with fail
  rw [← HW0.out, ← HG.out]
  have x0 : w0.cell? ⟨g, 0, none⟩ = some (.int .i64 a.w) := B1.out.cell 0
  have x1 : w0.cell? ⟨g, 1, none⟩ = some (.int .u8 a.k) := B1.out.cell 1
  have x2 : w0.cell? ⟨g, 2, none⟩ = some (.int .i64 a.c) := B1.out.cell 2
  have y0 : w0.cell? ⟨g + 1, 0, none⟩ = some (.int .i64 b.w) := B2.out.cell 0
  have y1 : w0.cell? ⟨g + 1, 1, none⟩ = some (.int .u8 b.k) := B2.out.cell 1
  have y2 : w0.cell? ⟨g + 1, 2, none⟩ = some (.int .i64 b.c) := B2.out.cell 2
  cases hw : (a.w == b.w) with
  | true =>
    have HD : Hid (apE a b = false) := hide (by unfold apE; rw [hw]; rfl)
    rw [HD.out]
    go_wp2_with fail
    go_returns
    exact ⟨by simp [apE, *], t.out⟩
  | false =>
    go_wp2_with fail
    refine (P1.out _).mono ?_
    rintro r w1 ⟨rfl, k1⟩
    have B1 := hide (B1.out.below k1 B1.out.lt)
    have B2 := hide (B2.out.below k1 B2.out.lt)
    have t := hide (below_call (w := w) t.out k1)
    clear k1 x0 x1 x2 y0 y1 y2
    have x0 : w1.cell? ⟨g, 0, none⟩ = some (.int .i64 a.w) := B1.out.cell 0
    have x1 : w1.cell? ⟨g, 1, none⟩ = some (.int .u8 a.k) := B1.out.cell 1
    have x2 : w1.cell? ⟨g, 2, none⟩ = some (.int .i64 a.c) := B1.out.cell 2
    have y0 : w1.cell? ⟨g + 1, 0, none⟩ = some (.int .i64 b.w) := B2.out.cell 0
    have y1 : w1.cell? ⟨g + 1, 1, none⟩ = some (.int .u8 b.k) := B2.out.cell 1
    have y2 : w1.cell? ⟨g + 1, 2, none⟩ = some (.int .i64 b.c) := B2.out.cell 2
    cases h1 : plE a with
    | true =>
      have HD : Hid (apE a b = true) := hide (by unfold apE; rw [hw, h1]; rfl)
      rw [HD.out]
      go_wp2_with fail
      go_returns
      exact ⟨by simp [apE, *], t.out⟩
    | false =>
      go_wp2_with fail
      refine (P2.out _).mono ?_
      rintro r w2 ⟨rfl, k1⟩
      have B1 := hide (B1.out.below k1 B1.out.lt)
      have B2 := hide (B2.out.below k1 B2.out.lt)
      have t := hide (below_call (w := w) t.out k1)
      clear k1 x0 x1 x2 y0 y1 y2
      have x0 : w2.cell? ⟨g, 0, none⟩ = some (.int .i64 a.w) := B1.out.cell 0
      have x1 : w2.cell? ⟨g, 1, none⟩ = some (.int .u8 a.k) := B1.out.cell 1
      have x2 : w2.cell? ⟨g, 2, none⟩ = some (.int .i64 a.c) := B1.out.cell 2
      have y0 : w2.cell? ⟨g + 1, 0, none⟩ = some (.int .i64 b.w) := B2.out.cell 0
      have y1 : w2.cell? ⟨g + 1, 1, none⟩ = some (.int .u8 b.k) := B2.out.cell 1
      have y2 : w2.cell? ⟨g + 1, 2, none⟩ = some (.int .i64 b.c) := B2.out.cell 2
      cases h2 : plE b with
      | true =>
        have HD : Hid (apE a b = true) := hide (by unfold apE; rw [hw, h1, h2]; rfl)
        rw [HD.out]
        go_wp2_with fail
        go_returns
        exact ⟨by simp [apE, *], t.out⟩
      | false =>
        cases h3 : (a.c == b.c) with
        | false =>
          have HD : Hid (apE a b = true) := hide (by unfold apE; rw [hw, h1, h2, h3]; rfl)
          rw [HD.out]
          go_wp2_with fail
          go_returns
          exact ⟨by simp [apE, *], t.out⟩
        | true =>
          go_wp2_with fail
          refine (W1.out _).mono ?_
          rintro r w3 ⟨rfl, k1⟩
          have B1 := hide (B1.out.below k1 B1.out.lt)
          have B2 := hide (B2.out.below k1 B2.out.lt)
          have t := hide (below_call (w := w) t.out k1)
          clear k1 x0 x1 x2 y0 y1 y2
          have x0 : w3.cell? ⟨g, 0, none⟩ = some (.int .i64 a.w) := B1.out.cell 0
          have x1 : w3.cell? ⟨g, 1, none⟩ = some (.int .u8 a.k) := B1.out.cell 1
          have x2 : w3.cell? ⟨g, 2, none⟩ = some (.int .i64 a.c) := B1.out.cell 2
          have y0 : w3.cell? ⟨g + 1, 0, none⟩ = some (.int .i64 b.w) := B2.out.cell 0
          have y1 : w3.cell? ⟨g + 1, 1, none⟩ = some (.int .u8 b.k) := B2.out.cell 1
          have y2 : w3.cell? ⟨g + 1, 2, none⟩ = some (.int .i64 b.c) := B2.out.cell 2
          cases h4 : wrE a with
          | true =>
            have HD : Hid (apE a b = false) := hide (by unfold apE; rw [hw, h1, h2, h3, h4]; rfl)
            rw [HD.out]
            go_wp2_with fail
            go_returns
            exact ⟨by simp [apE, *], t.out⟩
          | false =>
            have HD : Hid (apE a b = !wrE b) := hide (by unfold apE; rw [hw, h1, h2, h3, h4]; simp)
            rw [HD.out]
            go_wp2_with fail
            refine (W2.out _).mono ?_
            rintro r w4 ⟨rfl, k1⟩
            have B1 := hide (B1.out.below k1 B1.out.lt)
            have B2 := hide (B2.out.below k1 B2.out.lt)
            have t := hide (below_call (w := w) t.out k1)
            clear k1 x0 x1 x2 y0 y1 y2
            have x0 : w4.cell? ⟨g, 0, none⟩ = some (.int .i64 a.w) := B1.out.cell 0
            have x1 : w4.cell? ⟨g, 1, none⟩ = some (.int .u8 a.k) := B1.out.cell 1
            have x2 : w4.cell? ⟨g, 2, none⟩ = some (.int .i64 a.c) := B1.out.cell 2
            have y0 : w4.cell? ⟨g + 1, 0, none⟩ = some (.int .i64 b.w) := B2.out.cell 0
            have y1 : w4.cell? ⟨g + 1, 1, none⟩ = some (.int .u8 b.k) := B2.out.cell 1
            have y2 : w4.cell? ⟨g + 1, 2, none⟩ = some (.int .i64 b.c) := B2.out.cell 2
            go_wp2_with fail
            go_returns
            exact ⟨by simp [apE, *], t.out⟩
end Go.Proofs.Ytffpphnjokmffaa
