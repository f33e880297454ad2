/- the walk of the anchor of layer counter. -/
import Derived.Test.YtcgchcngiebgpaaCnt
namespace Go.Proofs.Ytcgchcngiebgpaa
open Go.RowKit

theorem Cnt.below {w w' : World} {gc gn : Nat} {l : List Int} (h : Cnt w gc gn l) (hb : Below w.heap.size w w') : Cnt w' gc gn l :=
  ⟨h.box.below hb h.box.lt, h.row.below hb h.row.lt, h.ne⟩
theorem Blk.grown {w w' : World} {g : Nat} {t : TypeId} {cs : Array Value} {row : Option Nat} (h : Blk w g t cs) (hb : w.grownBy w' row) (hg : some g ≠ row) : Blk w' g t cs := (hb.block g h.lt hg).trans h
theorem below_grown1 {a w w' : World} {g : Nat} (h : Below a.heap.size a w) (hg : w.grownBy w' (some g)) (hr : a.heap.size ≤ g) : Below a.heap.size a w' := below_grown h hg (fun k hk => by injection hk with hk; omega)

theorem down_ok' (gc gn : Nat) (l : List Int) (i : Nat) (w : World) (h : Cnt w gc gn l) {x : Int} (hs : l.length ≤ 65536) (hx : l[i]? = some x) (h0 : 0 < x) (h1 : x ≤ 9223372036854775807) {n : Int} (hn : n = i) :
    Calls Try.prog 16 #[.pointer (some ⟨gc, 0, none⟩), .int .i64 n] w fun r w' => r = .returned (.tuple #[.int .i64 (x - 1), .int .i64 0]) ∧ Cnt w' gc gn (l.set i (x - 1)) ∧ w.grownBy w' (some gn) := by
  subst hn
  have hi : i < l.length := (List.getElem?_eq_some_iff.1 hx).1
  exact down_ok gc gn l i w h hi hs (List.getElem?_eq_some_iff.1 hx).2 h0 h1

theorem row_new (w : World) (l : List Int) (t : TypeId) (hl : l.length ≤ 9223372036854775807) : Row (w.alloc (.cells (ints l).toArray t)) (some ⟨w.heap.size, 0, none⟩) (ints l) := by
  simpa using (Blk.new w t (ints l).toArray).row (by simpa [ints] using hl)

set_option maxHeartbeats 1000000 in
theorem works_any (w : World) : Calls Try.prog 9 #[] w fun e w' => e = .returned (.bool true) ∧ Below w.heap.size w w' := by
  go_enter Try.func9, Try.ntmps9
  go_wp2_with fail
  refine (new_ok _ [2, 0] _ _ _ (row_new _ _ _ (by simp)) rfl (by simp) (by intro x hx; simp at hx; omega)).mono ?_
  rintro e w2 ⟨rfl, C2, k2⟩
  have t2 := below_call (w := w) (by go_grown) k2
  simp only [World.size_alloc] at C2
  go_wp2_with fail
  refine (down_ok' _ _ [2, 0] 0 _ C2 (by simp) rfl (by decide) (by decide) rfl).mono ?_
  rintro e w3 ⟨rfl, C3, k3⟩
  have t3 := below_grown1 t2 k3 (by omega)
  go_wp2_with fail
  refine (down_ok' _ _ [1, 0] 0 _ C3 (by simp) rfl (by decide) (by decide) rfl).mono ?_
  rintro e w4 ⟨rfl, C4, k4⟩
  have t4 := below_grown1 t3 k4 (by omega)
  go_wp2_with fail
  refine (down_zero _ _ [0, 0] 0 _ C4 (by simp) (by simp) rfl).mono ?_
  rintro e w5 ⟨rfl, rfl⟩
  go_wp2_with fail
  refine (down_arg _ _ [0, 0] 2 _ C4 (by simp)).mono ?_
  rintro e w5 ⟨rfl, rfl⟩
  have s4 := t4.size
  have B4 := Blk.new w4 30 #[.int .i64 0]
  go_wp2_with fail
  refine (offer_any _ 7 9 0 _ B4).mono ?_
  rintro e w5 ⟨rfl, B5, k5⟩
  have t5 := below_grown1 (a := w) (by go_grown) k5 s4
  rw [show off 0 7 9 = 1801 from by decide] at B5
  go_wp2_with fail
  refine (offer_any _ 3 6 _ _ B5).mono ?_
  rintro e w6 ⟨rfl, B6, k6⟩
  have t6 := below_grown1 t5 k6 s4
  rw [show off 1801 3 6 = 774 from by decide] at B6
  go_wp2_with fail
  refine (offer_any _ 5 6 _ _ B6).mono ?_
  rintro e w7 ⟨rfl, B7, k7⟩
  have t7 := below_grown1 t6 k7 s4
  rw [show off 774 5 6 = 774 from by decide] at B7
  go_wp2_with fail
  refine (told_any _ 774 _ B7 (by decide) (by decide)).mono ?_
  rintro e w8 ⟨rfl, rfl⟩
  go_wp2
  go_returns
  exact ⟨rfl, t7⟩
end Go.Proofs.Ytcgchcngiebgpaa
