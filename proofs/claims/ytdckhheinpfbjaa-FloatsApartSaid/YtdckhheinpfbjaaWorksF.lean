/- The anchor; meet. -/
import Derived.Test.YtdckhheinpfbjaaMay
namespace Go.Proofs.Ytdckhheinpfbjaa
open Go.RowKit

theorem fcell_len (l : List Flt) : ∀ x ∈ l.map fcell, x.length = 5 := by
  intro x hx; rw [List.mem_map] at hx; obtain ⟨y, _, rfl⟩ := hx; rfl
theorem fcell_one (l : List Flt) : ∀ u ∈ l.map fcell, ∀ z ∈ u, z.oneCell' = true := by
  intro x hx; rw [List.mem_map] at hx; obtain ⟨y, _, rfl⟩ := hx; intro z hz; simp [fcell] at hz; rcases hz with rfl | rfl | rfl | rfl | rfl <;> rfl
theorem frow_blk {w : World} {g : Nat} {t : TypeId} {l : List Flt} (h : Blk w g t (l.map fcell).flatten.toArray) (hn : l.length ≤ 9223372036854775807) : FRow w (some ⟨g, 0, none⟩) l := by
  refine ⟨by simpa using hn, fun _ => ⟨g, 0, rfl, h.lt, fun i hi j hj => ?_⟩⟩
  have := flat_get (l.map fcell) (fcell_len l) i hi j hj
  rw [show 0 + i * 5 + j = i * 5 + j from by omega, h.cell]
  simpa using this

def fa : Flt := ⟨1, 0, 0, 40, 30⟩
def fb : Flt := ⟨2, 50, 0, 50, 10⟩
def fc : Flt := ⟨1, 40, 10, 20, 5⟩
theorem fits : Fit fa ∧ Fit fb ∧ Fit fc := by
  refine ⟨⟨.inl rfl, ?_, ?_, ?_, ?_⟩, ⟨.inr rfl, ?_, ?_, ?_, ?_⟩, ⟨.inl rfl, ?_, ?_, ?_, ?_⟩⟩ <;> decide
theorem pl_a : place [] 1 40 30 0 100 0 = fa := by
  unfold place
  rw [plc_ok (by decide)]
  rfl
theorem pl_b : place [fa] 2 50 10 0 100 0 = fb := by
  unfold place
  rw [plc_ok (by decide)]
  rfl
theorem pl_c : place [fa, fb] 1 20 5 0 100 0 = fc := by
  unfold place
  rw [plc_no (by decide), plc_ok (by decide)]
  rfl
theorem row1 (w : World) : FRow (w.alloc (.cells #[.int .u8 1, .int .i64 0, .int .i64 0, .int .i64 40, .int .i64 30] 34)) (some ⟨w.heap.size, 0, none⟩) [fa] := frow_blk (l := [fa]) (Blk.new w 34 _) (by decide)
theorem row2 (w : World) : FRow (w.alloc (.cells #[.int .u8 1, .int .i64 0, .int .i64 0, .int .i64 40, .int .i64 30, .int .u8 2, .int .i64 50, .int .i64 0, .int .i64 50, .int .i64 10] 34)) (some ⟨w.heap.size, 0, none⟩) [fa, fb] := frow_blk (l := [fa, fb]) (Blk.new w 34 _) (by decide)
theorem row3 (w : World) : FRow (w.alloc (.cells #[.int .u8 1, .int .i64 0, .int .i64 0, .int .i64 40, .int .i64 30, .int .u8 2, .int .i64 50, .int .i64 0, .int .i64 50, .int .i64 10, .int .u8 1, .int .i64 40, .int .i64 10, .int .i64 20, .int .i64 5] 34)) (some ⟨w.heap.size, 0, none⟩) [fa, fb, fc] := frow_blk (l := [fa, fb, fc]) (Blk.new w 34 _) (by decide)
theorem hin0 : Hin 0 ∧ Hin 100 := ⟨⟨by decide, by decide⟩, ⟨by decide, by decide⟩⟩

set_option maxHeartbeats 1000000 in
theorem works_any (w : World) : Calls Try.prog 9 #[] w fun r w' => r = .returned (.bool true) ∧ Below w.heap.size w w' := by
  obtain ⟨fA, fB, fC⟩ := fits
  have hA : ∀ f ∈ [fa], Fit f := by intro f hf; simp at hf; subst hf; exact fA
  have hB : ∀ f ∈ [fa, fb], Fit f := by intro f hf; simp at hf; rcases hf with rfl | rfl <;> assumption
  have hC : ∀ f ∈ [fa, fb, fc], Fit f := by intro f hf; simp at hf; rcases hf with rfl | rfl | rfl <;> assumption
  have P1 := hide (fun W => place_any none [] 0 0 1 40 30 0 100 0 W ⟨by simp, fun h => by simp at h⟩ rfl (by simp) (by omega) hin0.1 hin0.2 hin0.1)
  have P2 := hide (fun W a c hr => place_any a [fa] 1 c 2 50 10 0 100 0 W hr rfl hA (by omega) hin0.1 hin0.2 hin0.1)
  have P3 := hide (fun W a c hr => place_any a [fa, fb] 2 c 1 20 5 0 100 0 W hr rfl hB (by omega) hin0.1 hin0.2 hin0.1)
  have P4 := hide (fun W a c hr => clear_any a [fa, fb, fc] 3 c 2 3 W hr rfl hC)
  rw [pl_a] at P1
  rw [pl_b] at P2
  rw [pl_c] at P3
  clear fA fB fC hA hB hC
  go_enter Try.func9, Try.ntmps9
  go_wp2_with fail
  refine (P1.out _).mono ?_
  rintro r w1 ⟨rfl, k1⟩
  simp only [fa]
  have t1 := hide k1
  clear k1
  go_wp2_with fail
  obtain ⟨w2, hw2⟩ : ∃ w2, w2 = w1.alloc (.cells #[.int .u8 1, .int .i64 0, .int .i64 0, .int .i64 40, .int .i64 30] 34) := ⟨_, rfl⟩
  have A2 : Hid (Blk w2 w1.heap.size 34 #[.int .u8 1, .int .i64 0, .int .i64 0, .int .i64 40, .int .i64 30]) := hide (hw2 ▸ Blk.new w1 34 _)
  have t2 : Hid (Below w.heap.size w w2) := hide (hw2 ▸ t1.out.alloc t1.out.size _)
  have e2 : w1.heap.size + 1 = w2.heap.size := by rw [hw2]; simp
  rw [← hw2, e2]
  clear hw2 e2
  refine (P2.out _ _ _ (row1 w2)).mono ?_
  rintro r w3 ⟨rfl, k3⟩
  simp only [fb]
  have t3 := hide (below_call (w := w) (t2.out.alloc t2.out.size _) k3)
  have A3 := hide ((A2.out.alloc _).below k3 (A2.out.alloc _).lt)
  have s3 := A3.out.lt
  have a0 := A3.out.cell 0
  have a1 := A3.out.cell 1
  have a2 := A3.out.cell 2
  have a3 := A3.out.cell 3
  have a4 := A3.out.cell 4
  clear k3
  go_wp2_with fail
  clear a0 a1 a2 a3 a4
  obtain ⟨w4, hw4⟩ : ∃ w4, w4 = w3.alloc (.cells #[.int .u8 2, .int .i64 50, .int .i64 0, .int .i64 50, .int .i64 10] 34) := ⟨_, rfl⟩
  have A4 : Hid (Blk w4 w1.heap.size 34 #[.int .u8 1, .int .i64 0, .int .i64 0, .int .i64 40, .int .i64 30]) := hide (hw4 ▸ A3.out.alloc _)
  have B4 : Hid (Blk w4 w3.heap.size 34 #[.int .u8 2, .int .i64 50, .int .i64 0, .int .i64 50, .int .i64 10]) := hide (hw4 ▸ Blk.new w3 34 _)
  have t4 : Hid (Below w.heap.size w w4) := hide (hw4 ▸ t3.out.alloc t3.out.size _)
  have e4 : w3.heap.size + 1 = w4.heap.size := by rw [hw4]; simp
  rw [← hw4, e4]
  clear hw4 e4
  refine (P3.out _ _ _ (row2 w4)).mono ?_
  rintro r w5 ⟨rfl, k5⟩
  simp only [fc]
  have t5 := hide (below_call (w := w) (t4.out.alloc t4.out.size _) k5)
  have A5 := hide ((A4.out.alloc _).below k5 (A4.out.alloc _).lt)
  have B5 := hide ((B4.out.alloc _).below k5 (B4.out.alloc _).lt)
  have s4 := A5.out.lt
  have s5 := B5.out.lt
  have a0 := A5.out.cell 0
  have a1 := A5.out.cell 1
  have a2 := A5.out.cell 2
  have a3 := A5.out.cell 3
  have a4 := A5.out.cell 4
  have b0 := B5.out.cell 0
  have b1 := B5.out.cell 1
  have b2 := B5.out.cell 2
  have b3 := B5.out.cell 3
  have b4 := B5.out.cell 4
  clear k5
  go_wp2_with fail
  obtain ⟨w7, hw7⟩ : ∃ w7, w7 = w5.alloc (.cells #[.int .u8 1, .int .i64 40, .int .i64 10, .int .i64 20, .int .i64 5] 34) := ⟨_, rfl⟩
  have t7 : Hid (Below w.heap.size w w7) := hide (hw7 ▸ t5.out.alloc t5.out.size _)
  have e7 : w5.heap.size + 1 = w7.heap.size := by rw [hw7]; simp
  rw [← hw7, e7]
  clear hw7 e7
  refine (P4.out _ _ _ (row3 _)).mono ?_
  rintro r w6 ⟨rfl, k6⟩
  have hc : clr [fa, fb, fc] 2 3 = 10 := by decide
  rw [hc]
  have t6 := hide (below_call (w := w) (t7.out.alloc t7.out.size _) k6)
  clear k6 a0 a1 a2 a3 a4 b0 b1 b2 b3 b4
  go_wp2_with fail
  go_returns
  exact ⟨rfl, t6.out⟩

def meetB (a b : Flt) : Bool := decide (a.x < b.x + b.w ∧ b.x < a.x + a.w ∧ a.y < b.y + b.h ∧ b.y < a.y + a.h)
theorem meet_any (a b : Flt) (w : World) (ha : Fit a) (hb : Fit b) : Calls Try.prog 20 #[.agg #[.int .u8 a.s, .int .i64 a.x, .int .i64 a.y, .int .i64 a.w, .int .i64 a.h], .agg #[.int .u8 b.s, .int .i64 b.x, .int .i64 b.y, .int .i64 b.w, .int .i64 b.h]] w fun r w' => r = .returned (.bool (meetB a b)) ∧ Below w.heap.size w w' := by
  obtain ⟨_, ax, ay, aw, ah⟩ := ha
  obtain ⟨_, bx, by_, bw, bh⟩ := hb
  by_cases h1 : a.x < b.x + b.w
  · by_cases h2 : b.x < a.x + a.w
    · by_cases h3 : a.y < b.y + b.h
      · by_cases h4 : b.y < a.y + a.h
        · have HB : Hid (meetB a b = true) := hide (by unfold meetB; simp; omega)
          go_enter Try.func20, Try.ntmps20
          go_wp2
          go_returns
          exact ⟨by rw [HB.out]; rfl, by go_grown⟩
        · have HB : Hid (meetB a b = false) := hide (by unfold meetB; simp; omega)
          have b3 : decide (b.y < a.y + a.h) = false := by simp; omega
          go_enter Try.func20, Try.ntmps20
          go_wp2
          go_returns
          exact ⟨by rw [HB.out]; rfl, by go_grown⟩
      · have HB : Hid (meetB a b = false) := hide (by unfold meetB; simp; omega)
        have b3 : decide (a.y < b.y + b.h) = false := by simp; omega
        go_enter Try.func20, Try.ntmps20
        go_wp2
        go_returns
        exact ⟨by rw [HB.out]; rfl, by go_grown⟩
    · have HB : Hid (meetB a b = false) := hide (by unfold meetB; simp; omega)
      have b3 : decide (b.x < a.x + a.w) = false := by simp; omega
      go_enter Try.func20, Try.ntmps20
      go_wp2
      go_returns
      exact ⟨by rw [HB.out]; rfl, by go_grown⟩
  · have HB : Hid (meetB a b = false) := hide (by unfold meetB; simp; omega)
    have b3 : decide (a.x < b.x + b.w) = false := by simp; omega
    go_enter Try.func20, Try.ntmps20
    go_wp2
    go_returns
    exact ⟨by rw [HB.out]; rfl, by go_grown⟩
end Go.Proofs.Ytdckhheinpfbjaa
