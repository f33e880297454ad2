/- Rows as cells; the anchor. -/
import Derived.Test.YtpdfeifnbeojcaaWD
import Derived.Test.YtpdfeifnbeojcaaMW
namespace Go.Proofs.Ytpdfeifnbeojcaa
open Go.RowKit

theorem XB.row {W : World} {x : RV} (h : XB W x) : Row W x.a (ints x.r.xs) ∧ x.r.xs.length ≤ x.c ∧ x.c ≤ maxLen := by
  rcases h with ⟨h1, h2, h3⟩ | ⟨g, cs, h1, h2, h3, h4, h5⟩
  · rw [h1, h2, h3]; exact ⟨⟨by simp [ints], fun h => by simp [ints] at h⟩, by simp, by simp⟩
  · refine ⟨⟨by rw [ints_len]; unfold maxLen at h4; omega, fun _ => ⟨g, 0, h1, h2.lt, fun i hi => ?_⟩⟩, h3, h4⟩
    rw [ints_len] at hi
    rw [h2.cell, Nat.zero_add]
    have e : (ints x.r.xs)[i]? = cs[i]? := by
      rw [← h5, List.getElem?_take, if_pos hi]; simp
    rw [← e, List.getElem?_eq_getElem (by rw [ints_len]; exact hi)]
theorem lrow_at {W : World} {A : Option Addr} {l : List Rw} (h : LRow W A l) (hp : 0 < l.length) : ∃ b off, A = some ⟨b, off, none⟩ ∧ b < W.heap.size ∧ ∀ i (hi : i < l.length), ∃ a c,
    W.cell? ⟨b, off + i * 4, none⟩ = some (.int .i64 l[i].y) ∧ W.cell? ⟨b, off + i * 4 + 1, none⟩ = some (.int .i64 l[i].f) ∧ W.cell? ⟨b, off + i * 4 + 2, none⟩ = some (.int .i64 l[i].t) ∧
      W.cell? ⟨b, off + i * 4 + 3, none⟩ = some (.slice a l[i].xs.length c) ∧ Row W a (ints l[i].xs) ∧ l[i].xs.length ≤ c ∧ c ≤ maxLen := by
  obtain ⟨xs, rfl, hR, hX⟩ := h
  rw [List.length_map] at hp
  obtain ⟨b, off, ha, hb, hc⟩ := RowS.at_ hR (by simpa using hp)
  refine ⟨b, off, ha, hb, fun i hi => ?_⟩
  rw [List.length_map] at hi
  simp only [List.getElem_map]
  obtain ⟨r1, r2, r3⟩ := (hX _ (List.getElem_mem hi)).row
  refine ⟨xs[i].a, xs[i].c, ?_, ?_, ?_, ?_, r1, r2, r3⟩
  · have := hc i (by simpa using hi) 0 (by simp [rcell]); simpa [rcell] using this
  · have := hc i (by simpa using hi) 1 (by simp [rcell]); simpa [rcell] using this
  · have := hc i (by simpa using hi) 2 (by simp [rcell]); simpa [rcell] using this
  · have := hc i (by simpa using hi) 3 (by simp [rcell]); simpa [rcell] using this
theorem wcell_len (l : List Wd) : ∀ x ∈ l.map wcell, x.length = 5 := by
  intro x hx; rw [List.mem_map] at hx; obtain ⟨y, _, rfl⟩ := hx; rfl
theorem wrow_blk {w : World} {g : Nat} {t : TypeId} {l : List Wd} (h : Blk w g t (l.map wcell).flatten.toArray) (hn : l.length ≤ 9223372036854775807) : WRow w (some ⟨g, 0, none⟩) l := by
  refine ⟨by simpa using hn, fun _ => ⟨g, 0, rfl, h.lt, fun i hi j hj => ?_⟩⟩
  have := flat_get (l.map wcell) (wcell_len l) i hi j hj
  rw [show 0 + i * 5 + j = i * 5 + j from by omega, h.cell]
  simpa using this
theorem fcell_len (l : List Flt) : ∀ x ∈ l.map fcell, x.length = 5 := by
  intro x hx; rw [List.mem_map] at hx; obtain ⟨y, _, rfl⟩ := hx; rfl
theorem frow_blk {w : World} {g : Nat} {t : TypeId} {l : List Flt} (h : Blk w g t (l.map fcell).flatten.toArray) (hn : l.length ≤ 9223372036854775807) : FRow w (some ⟨g, 0, none⟩) l := by
  refine ⟨by simpa using hn, fun _ => ⟨g, 0, rfl, h.lt, fun i hi j hj => ?_⟩⟩
  have := flat_get (l.map fcell) (fcell_len l) i hi j hj
  rw [show 0 + i * 5 + j = i * 5 + j from by omega, h.cell]
  simpa using this

def wA : Wd := ⟨0, 0, 30, 0, 0⟩
def wB : Wd := ⟨0, 0, 40, 5, 0⟩
def wC : Wd := ⟨0, 0, 50, 5, 0⟩
def fX : Flt := ⟨1, 0, 0, 60, 10⟩
def c1 : Rm := ⟨10, 0, 0, 80, []⟩
def c2 : Rm := ⟨10, 1, 0, 80, []⟩
def c3 : Rm := ⟨10, 0, 0, 80, [fX]⟩
theorem f1_ : fill c1 0 [wA, wB, wC] 0 = ([⟨0, 0, 2, [0, 35]⟩, ⟨10, 2, 3, [0]⟩], 20) := by
  have r1 : rowOf c1 0 wA [wB, wC] 0 = ⟨0, 0, 2, [0, 35]⟩ := by unfold rowOf; rw [dwn_ok (by decide)]; rfl
  have r2 : rowOf c1 2 wC [] 10 = ⟨10, 2, 3, [0]⟩ := by unfold rowOf; rw [dwn_ok (by decide)]; rfl
  rw [fill_cons]
  rw [show (0 : Int) + (ends 0 wA : Int) * c1.h = 0 from rfl, r1]
  dsimp only
  rw [show List.drop (2 - (0 + 1)) [wB, wC] = [wC] from rfl, show (0 : Int) + c1.h = 10 from rfl, fill_cons, show (10 : Int) + (ends 2 wC : Int) * c1.h = 10 from rfl, r2]
  dsimp only
  rw [show List.drop (3 - (2 + 1)) ([] : List Wd) = [] from rfl, fill_nil]
  rfl
theorem f2_ : fill c2 0 [wA, wB, wC] 0 = ([⟨0, 0, 2, [5, 40]⟩, ⟨10, 2, 3, [30]⟩], 20) := by
  have r1 : rowOf c2 0 wA [wB, wC] 0 = ⟨0, 0, 2, [5, 40]⟩ := by unfold rowOf; rw [dwn_ok (by decide)]; rfl
  have r2 : rowOf c2 2 wC [] 10 = ⟨10, 2, 3, [30]⟩ := by unfold rowOf; rw [dwn_ok (by decide)]; rfl
  rw [fill_cons]
  rw [show (0 : Int) + (ends 0 wA : Int) * c2.h = 0 from rfl, r1]
  dsimp only
  rw [show List.drop (2 - (0 + 1)) [wB, wC] = [wC] from rfl, show (0 : Int) + c2.h = 10 from rfl, fill_cons, show (10 : Int) + (ends 2 wC : Int) * c2.h = 10 from rfl, r2]
  dsimp only
  rw [show List.drop (3 - (2 + 1)) ([] : List Wd) = [] from rfl, fill_nil]
  rfl
theorem f3_ : fill c3 0 [wA, wB, wC] 0 = ([⟨10, 0, 2, [0, 35]⟩, ⟨20, 2, 3, [0]⟩], 30) := by
  have r1 : rowOf c3 0 wA [wB, wC] 0 = ⟨10, 0, 2, [0, 35]⟩ := by unfold rowOf; rw [dwn_no (by decide), dwn_ok (by decide)]; rfl
  have r2 : rowOf c3 2 wC [] 20 = ⟨20, 2, 3, [0]⟩ := by unfold rowOf; rw [dwn_ok (by decide)]; rfl
  rw [fill_cons]
  rw [show (0 : Int) + (ends 0 wA : Int) * c3.h = 0 from rfl, r1]
  dsimp only
  rw [show List.drop (2 - (0 + 1)) [wB, wC] = [wC] from rfl, show (10 : Int) + c3.h = 20 from rfl, fill_cons, show (20 : Int) + (ends 2 wC : Int) * c3.h = 20 from rfl, r2]
  dsimp only
  rw [show List.drop (3 - (2 + 1)) ([] : List Wd) = [] from rfl, fill_nil]
  rfl
theorem wok : ∀ x ∈ [wA, wB, wC], WdOk x := by
  intro x hx
  simp at hx
  rcases hx with rfl | rfl | rfl <;> exact ⟨by decide, by decide, by decide⟩
theorem cok1 : RmOk c1 := ⟨by unfold Far; decide, by unfold Far; decide, by decide, fun f hf => absurd hf (by simp [c1])⟩
theorem cok2 : RmOk c2 := ⟨by unfold Far; decide, by unfold Far; decide, by decide, fun f hf => absurd hf (by simp [c2])⟩
theorem cok3 : RmOk c3 := ⟨by unfold Far; decide, by unfold Far; decide, by decide, fun f hf => by simp [c3] at hf; subst hf; exact ⟨.inl rfl, by decide, by decide, by decide, by decide⟩⟩
def WkPost (w : World) (r : Ending) (w' : World) : Prop := r = .returned (.bool true) ∧ Below w.heap.size w w'

set_option maxRecDepth 100000 in
set_option maxHeartbeats 2000000 in
theorem works_any (w : World) : Calls Try.prog 8 #[] w (WkPost w) := by
  have y0 : Yb 0 0 := by unfold Yb; decide
  have P1 := fun W a c hr => fill_any a [wA, wB, wC] c none [] 0 10 0 0 80 0 W hr wok (by decide) ⟨by simp, fun h => by simp at h⟩ cok1 y0 (by omega)
  have P2 := fun W a c hr => fill_any a [wA, wB, wC] c none [] 0 10 1 0 80 0 W hr wok (by decide) ⟨by simp, fun h => by simp at h⟩ cok2 y0 (by omega)
  have P3 := fun W a c b d hr hf => fill_any a [wA, wB, wC] c b [fX] d 10 0 0 80 0 W hr wok (by decide) hf cok3 y0 (by omega)
  have P1 := hide P1
  have P2 := hide P2
  have P3 := hide P3
  clear y0
  go_enter Try.func8, Try.ntmps8
  go_wp2_with fail
  obtain ⟨w1, hw1⟩ : ∃ w1, w1 = w.alloc (.cells #[.int .i64 0, .int .i64 0, .int .i64 30, .int .i64 0, .int .i64 0, .int .i64 0, .int .i64 0, .int .i64 40, .int .i64 5, .int .i64 0, .int .i64 0, .int .i64 0, .int .i64 50, .int .i64 5, .int .i64 0] 33) := ⟨_, rfl⟩
  have WR1 : Hid (WRow w1 (some ⟨w.heap.size, 0, none⟩) [wA, wB, wC]) := hide (hw1 ▸ wrow_blk (l := [wA, wB, wC]) (Blk.new w _ _) (by decide))
  have t1 : Hid (Below w.heap.size w w1) := hide (hw1 ▸ (Below.refl _ _).alloc (Nat.le_refl _) _)
  rw [← hw1]
  clear hw1
  refine (P1.out w1 _ 3 WR1.out).mono ?_
  rintro r w2 ⟨A1, q1, rfl, L1, _, _, k2⟩
  rw [show (⟨max 10 0, 0, 0, 80, []⟩ : Rm) = c1 from rfl, f1_] at L1 ⊢
  have L1 := hide L1
  have t2 := hide (below_call (w := w) t1.out k2)
  have WR2 := hide (WR1.out.below k2)
  clear k2 WR1 t1
  go_wp2_with fail
  refine (P2.out w2 _ 3 WR2.out).mono ?_
  rintro r w3 ⟨A2, q2, rfl, L2, _, _, k3⟩
  rw [show (⟨max 10 0, 1, 0, 80, []⟩ : Rm) = c2 from rfl, f2_] at L2 ⊢
  have L1 := hide (L1.out.below k3)
  have L2 := hide L2
  have t3 := hide (below_call (w := w) t2.out k3)
  have WR3 := hide (WR2.out.below k3)
  clear k3 WR2 t2
  go_wp2_with fail
  obtain ⟨w4, hw4⟩ : ∃ w4, w4 = w3.alloc (.cells #[.int .u8 1, .int .i64 0, .int .i64 0, .int .i64 60, .int .i64 10] 35) := ⟨_, rfl⟩
  have FR4 : Hid (FRow w4 (some ⟨w3.heap.size, 0, none⟩) [fX]) := hide (hw4 ▸ frow_blk (l := [fX]) (Blk.new w3 _ _) (by decide))
  have a4 : Below w3.heap.size w3 w4 := hw4 ▸ (Below.refl _ _).alloc (Nat.le_refl _) _
  have t4 := hide (below_call (w := w) t3.out a4)
  have L1 := hide (L1.out.below a4)
  have L2 := hide (L2.out.below a4)
  have WR4 := hide (WR3.out.below a4)
  rw [← hw4]
  clear hw4 a4 WR3 t3
  refine (P3.out w4 _ 3 _ 1 WR4.out FR4.out).mono ?_
  rintro r w5 ⟨A3, q3, rfl, L3, _, _, k5⟩
  rw [show (⟨max 10 0, 0, 0, 80, [fX]⟩ : Rm) = c3 from rfl, f3_] at L3 ⊢
  have L1 := L1.out.below k5
  have L2 := L2.out.below k5
  have t5 := hide (below_call (w := w) t4.out k5)
  clear k5 WR4 t4 FR4
  obtain ⟨b1, o1, rfl, _, h1⟩ := lrow_at L1 (by decide)
  obtain ⟨b2, o2, rfl, _, h2⟩ := lrow_at L2 (by decide)
  obtain ⟨b3, o3, rfl, _, h3⟩ := lrow_at L3 (by decide)
  obtain ⟨a1, d1, _, _, _, x3, R1, _⟩ := h1 0 (by decide)
  obtain ⟨a2, d2, _, _, _, y3, R2, _⟩ := h2 0 (by decide)
  obtain ⟨a3, d3, z0, _, z2, _, _, _⟩ := h3 0 (by decide)
  obtain ⟨b4, o4, rfl, _, h4⟩ := row_int R1 (by decide)
  obtain ⟨b5, o5, rfl, _, h5⟩ := row_int R2 (by decide)
  have x4 : w5.cell? ⟨b4, o4 + 1, none⟩ = some (.int .i64 35) := h4 1 (by decide)
  have y4 : w5.cell? ⟨b5, o5, none⟩ = some (.int .i64 5) := h5 0 (by decide)
  simp only [Nat.zero_mul, Nat.add_zero] at x3 y3 z0 z2
  have x3 : w5.cell? ⟨b1, o1 + 3, none⟩ = some (.slice (some ⟨b4, o4, none⟩) 2 d1) := x3
  have y3 : w5.cell? ⟨b2, o2 + 3, none⟩ = some (.slice (some ⟨b5, o5, none⟩) 2 d2) := y3
  have z0 : w5.cell? ⟨b3, o3, none⟩ = some (.int .i64 10) := z0
  have z2 : w5.cell? ⟨b3, o3 + 2, none⟩ = some (.int .i64 2) := z2
  clear h1 h2 h3 h4 h5 R1 R2 L1 L2 L3
  go_wp2_with fail
  go_returns
  exact ⟨rfl, t5.out⟩
end Go.Proofs.Ytpdfeifnbeojcaa
