/- A table in memory; walks of New. -/
import Derived.Test.YtoannafiemnijaaWalks
import Derived.RegionTactic
import Derived.ChangeAlike
namespace Go.Proofs.Ytoannafiemnijaa
open Go.RowKit

/-- A kind of table: its struct's type, its elements' type, their cells. -/
structure Kind (V : Type) where
  T : TypeId
  E : TypeId
  sz : Nat
  cell : V → Nat → Value
  zero : V
def kP : Kind (Int × ByteArray) := { T := 69, E := 30, sz := 2, cell := fun v j => if j = 0 then .int .i64 v.1 else .string v.2, zero := (0, ByteArray.empty) }
def kI : Kind Int := { T := 81, E := 2, sz := 1, cell := fun v _ => .int .i64 v, zero := 0 }

/-- How many of the first n are not published. -/
def left {V : Type} (st : Nat → Option V) : Nat → Nat
  | 0 => 0
  | n + 1 => left st n + (if (st n).isSome then 0 else 1)
theorem left_le {V : Type} (st : Nat → Option V) : ∀ n, left st n ≤ n
  | 0 => Nat.le_refl _
  | n + 1 => by unfold left; have := left_le st n; split <;> omega
theorem left_none {V : Type} : ∀ n, left (fun _ => (none : Option V)) n = n
  | 0 => rfl
  | n + 1 => by unfold left; rw [left_none n]; rfl
def put {V : Type} (st : Nat → Option V) (i : Nat) (v : V) : Nat → Option V := fun j => if j = i then some v else st j
theorem left_far {V : Type} (st : Nat → Option V) (i : Nat) (v : V) : ∀ n, n ≤ i → left (put st i v) n = left st n
  | 0, _ => rfl
  | n + 1, h => by
    unfold left
    rw [left_far st i v n (by omega), show put st i v n = st n from if_neg (by omega)]
theorem left_put {V : Type} (st : Nat → Option V) (i : Nat) (v : V) (h : st i = none) : ∀ n, i < n → left (put st i v) n + 1 = left st n
  | 0, h' => absurd h' (by omega)
  | n + 1, h' => by
    unfold left
    by_cases e : i = n
    · subst e
      rw [left_far st i v i (Nat.le_refl _), show put st i v i = some v from if_pos rfl, h]
      simp
    · rw [show put st i v n = st n from if_neg (fun hh => e hh.symm)]
      have := left_put st i v h n (by omega)
      omega

def mark {V : Type} : Option V → Int
  | none => 0
  | some _ => 2

structure Tab {V : Type} (K : Kind V) (w : World) (gt gm gc n : Nat) (st : Nat → Option V) : Prop where
  box : Blk w gt K.T #[.slice (some ⟨gm, 0, none⟩) n n, .slice (some ⟨gc, 0, none⟩) n n, .int .i64 (left st n)]
  marks : Mat w gm 72 n 1 (fun i _ => .int .i32 (mark (st i)))
  cells : Mat w gc K.E n K.sz (fun i j => K.cell ((st i).getD K.zero) j)
  ne1 : gt ≠ gm
  ne2 : gt ≠ gc
  ne3 : gm ≠ gc
  le : n ≤ 65536

theorem Tab.foot {V : Type} {K : Kind V} {w w' : World} {gt gm gc n : Nat} {st : Nat → Option V} {fs : List Nat} (h : Tab K w gt gm gc n st) (hf : Foot fs w w') (h1 : gt ∉ fs) (h2 : gm ∉ fs) (h3 : gc ∉ fs) : Tab K w' gt gm gc n st :=
  ⟨h.box.foot hf h1, h.marks.foot hf h2, h.cells.foot hf h3, h.ne1, h.ne2, h.ne3, h.le⟩
theorem Tab.below {V : Type} {K : Kind V} {w w' : World} {gt gm gc n : Nat} {st : Nat → Option V} (h : Tab K w gt gm gc n st) (hb : Below w.heap.size w w') : Tab K w' gt gm gc n st :=
  h.foot (Foot.of_below [] hb) (by simp) (by simp) (by simp)

theorem info72 : (Try.prog.info? 72).map (fun i => (i.zero, i.size, i.bytes)) = some (some (.agg #[.int .i32 0]), 1, 4) := by kernel_rfl
theorem info30 : (Try.prog.info? 30).map (fun i => (i.zero, i.size, i.bytes)) = some (some (.agg #[.int .i64 0, .string ByteArray.empty]), 2, 24) := by kernel_rfl
theorem info2 : (Try.prog.info? 2).map (fun i => (i.zero, i.size, i.bytes)) = some (some (.int .i64 0), 1, 8) := by kernel_rfl

theorem newP_bad (n : Int) (w : World) (h : n < 0 ∨ 65536 < n) :
    Calls Try.prog 9 #[.int .i64 n] w fun r w' => r = .returned (.tuple #[.pointer none, .int .i64 1]) ∧ w = w' := by
  by_cases h1 : n < 0
  · go_enter Try.func9, Try.ntmps9
    go_wp2
    go_returns
    exact ⟨rfl, rfl⟩
  · have h2 : 65536 < n := by omega
    clear h
    go_enter Try.func9, Try.ntmps9
    go_wp2
    go_returns
    exact ⟨rfl, rfl⟩

def NewPost {V : Type} (K : Kind V) (n : Nat) (w : World) (r : Ending) (w' : World) : Prop :=
  ∃ gt gm gc, r = .returned (.tuple #[.pointer (some ⟨gt, 0, none⟩), .int .i64 0]) ∧ Tab K w' gt gm gc n (fun _ => none) ∧ w.heap.size ≤ gt ∧ w.heap.size ≤ gm ∧ w.heap.size ≤ gc ∧ Below w.heap.size w w'

theorem new_tail {V : Type} (K : Kind V) {W : World} {gt gm gc n : Nat} (hn : n ≤ 65536) (B : Blk W gt K.T #[.slice (some ⟨gm, 0, none⟩) n n, .slice (some ⟨gc, 0, none⟩) n n, .int .i64 n])
    (M : Mat W gm 72 n 1 (fun _ _ => .int .i32 0)) (C : Mat W gc K.E n K.sz (fun _ j => K.cell K.zero j)) (h1 : gt ≠ gm) (h2 : gt ≠ gc) (h3 : gm ≠ gc) : Tab K W gt gm gc n (fun _ => none) :=
  ⟨by rw [left_none]; exact B, M, C, h1, h2, h3, hn⟩

theorem madeM (w : World) (n : Nat) : Mat (w.alloc (.cells (madeCells #[.int .i32 0] n) 72)) w.heap.size 72 n 1 (fun _ _ => .int .i32 0) := by
  have := Mat.made w 72 #[.int .i32 0] n (by simp) (fun _ => .int .i32 0) (by intro j hj; simp at hj; subst hj; rfl)
  simpa using this
theorem madeP (w : World) (n : Nat) : Mat (w.alloc (.cells (madeCells #[.int .i64 0, .string ByteArray.empty] (n * 2)) 30)) w.heap.size 30 n 2 (fun _ j => kP.cell kP.zero j) := by
  refine Mat.made w 30 #[.int .i64 0, .string ByteArray.empty] n (by simp) (fun j => kP.cell kP.zero j) (fun j hj => ?_)
  match j, hj with
  | 0, _ => rfl
  | 1, _ => rfl
theorem madeI (w : World) (n : Nat) : Mat (w.alloc (.cells (madeCells #[.int .i64 0] n) 2)) w.heap.size 2 n 1 (fun _ j => kI.cell kI.zero j) := by
  have := Mat.made w 2 #[.int .i64 0] n (by simp) (fun _ => .int .i64 0) (by intro j hj; simp at hj; subst hj; rfl)
  simpa [kI] using this

set_option maxHeartbeats 1000000 in
theorem newP_ok (n : Nat) (w : World) (h : n ≤ 65536) : Calls Try.prog 9 #[.int .i64 n] w (NewPost kP n w) := by
  obtain ⟨i1, hi1, hz1, hs1, hb1⟩ := info_parts info72
  obtain ⟨i2, hi2, hz2, hs2, hb2⟩ := info_parts info30
  have hm1 := fun W => run_makeN (P := Try.prog) 62 72 Try.underlying62 hi1 hz1 hs1 hb1 n (by omega) (by omega) W
  have hm2 := fun W => run_makeN (P := Try.prog) 43 30 Try.underlying43 hi2 hz2 hs2 hb2 n (by omega) (by omega) W
  go_enter Try.func9, Try.ntmps9
  go_wp2
  go_region
  · have M := ((madeM w n).alloc (.cells (madeCells #[.int .i64 0, .string ByteArray.empty] (n * 2)) 30)).alloc (.cells #[.slice (some ⟨w.heap.size, 0, none⟩) n n, .slice (some ⟨w.heap.size + 1, 0, none⟩) n n, .int .i64 n] 69)
    have C := (madeP (w.alloc (.cells (madeCells #[.int .i32 0] n) 72)) n).alloc (.cells #[.slice (some ⟨w.heap.size, 0, none⟩) n n, .slice (some ⟨w.heap.size + 1, 0, none⟩) n n, .int .i64 n] 69)
    have B := Blk.new ((w.alloc (.cells (madeCells #[.int .i32 0] n) 72)).alloc (.cells (madeCells #[.int .i64 0, .string ByteArray.empty] (n * 2)) 30)) 69 #[.slice (some ⟨w.heap.size, 0, none⟩) n n, .slice (some ⟨w.heap.size + 1, 0, none⟩) n n, .int .i64 0]
    have B' := Blk.new ((w.alloc (.cells (madeCells #[.int .i32 0] n) 72)).alloc (.cells (madeCells #[.int .i64 0, .string ByteArray.empty] (n * 2)) 30)) 69 #[.slice (some ⟨w.heap.size, 0, none⟩) n n, .slice (some ⟨w.heap.size + 1, 0, none⟩) n n, .int .i64 n]
    simp only [World.size_alloc] at C B B'
    have BB := hide B
    have T := hide (new_tail kP h B'.drew M.drew C.drew (by omega) (by omega) (by omega))
    clear M C B B'
    go_wp2_with fail
    refine (store64_any _ _ 0 _ _ (BB.out.drew.cell 2) (BB.out.drew.frozen 2)).mono ?_
    rintro r w2 ⟨rfl, rfl⟩
    go_wp2
    go_returns
    exact ⟨_, _, _, rfl, T.out, by omega, by omega, by omega, by go_grown⟩
  · have M := (madeM (w.alloc (.cells (madeCells #[.int .i64 0, .string ByteArray.empty] (n * 2)) 30)) n).alloc (.cells #[.slice (some ⟨w.heap.size + 1, 0, none⟩) n n, .slice (some ⟨w.heap.size, 0, none⟩) n n, .int .i64 n] 69)
    have C := ((madeP w n).alloc (.cells (madeCells #[.int .i32 0] n) 72)).alloc (.cells #[.slice (some ⟨w.heap.size + 1, 0, none⟩) n n, .slice (some ⟨w.heap.size, 0, none⟩) n n, .int .i64 n] 69)
    have B := Blk.new ((w.alloc (.cells (madeCells #[.int .i64 0, .string ByteArray.empty] (n * 2)) 30)).alloc (.cells (madeCells #[.int .i32 0] n) 72)) 69 #[.slice (some ⟨w.heap.size + 1, 0, none⟩) n n, .slice (some ⟨w.heap.size, 0, none⟩) n n, .int .i64 0]
    have B' := Blk.new ((w.alloc (.cells (madeCells #[.int .i64 0, .string ByteArray.empty] (n * 2)) 30)).alloc (.cells (madeCells #[.int .i32 0] n) 72)) 69 #[.slice (some ⟨w.heap.size + 1, 0, none⟩) n n, .slice (some ⟨w.heap.size, 0, none⟩) n n, .int .i64 n]
    simp only [World.size_alloc] at M B B'
    have BB := hide B
    have T := hide (new_tail kP h B'.drew M.drew C.drew (by omega) (by omega) (by omega))
    clear M C B B'
    go_wp2_with fail
    refine (store64_any _ _ 0 _ _ (BB.out.drew.cell 2) (BB.out.drew.frozen 2)).mono ?_
    rintro r w2 ⟨rfl, rfl⟩
    go_wp2
    go_returns
    exact ⟨_, _, _, rfl, T.out, by omega, by omega, by omega, by go_grown⟩

theorem newI_bad (n : Int) (w : World) (h : n < 0 ∨ 65536 < n) :
    Calls Try.prog 23 #[.int .i64 n] w fun r w' => r = .returned (.tuple #[.pointer none, .int .i64 1]) ∧ w = w' := by
  by_cases h1 : n < 0
  · go_enter Try.func23, Try.ntmps23
    go_wp2
    go_returns
    exact ⟨rfl, rfl⟩
  · have h2 : 65536 < n := by omega
    clear h
    go_enter Try.func23, Try.ntmps23
    go_wp2
    go_returns
    exact ⟨rfl, rfl⟩

set_option maxHeartbeats 1000000 in
theorem newI_ok (n : Nat) (w : World) (h : n ≤ 65536) : Calls Try.prog 23 #[.int .i64 n] w (NewPost kI n w) := by
  obtain ⟨i1, hi1, hz1, hs1, hb1⟩ := info_parts info72
  obtain ⟨i2, hi2, hz2, hs2, hb2⟩ := info_parts info2
  have hm1 := fun W => run_makeN (P := Try.prog) 62 72 Try.underlying62 hi1 hz1 hs1 hb1 n (by omega) (by omega) W
  have hm2 := fun W => run_makeN (P := Try.prog) 55 2 Try.underlying55 hi2 hz2 hs2 hb2 n (by omega) (by omega) W
  go_enter Try.func23, Try.ntmps23
  go_wp2
  go_region
  · have M := ((madeM w n).alloc (.cells (madeCells #[.int .i64 0] n) 2)).alloc (.cells #[.slice (some ⟨w.heap.size, 0, none⟩) n n, .slice (some ⟨w.heap.size + 1, 0, none⟩) n n, .int .i64 n] 81)
    have C := (madeI (w.alloc (.cells (madeCells #[.int .i32 0] n) 72)) n).alloc (.cells #[.slice (some ⟨w.heap.size, 0, none⟩) n n, .slice (some ⟨w.heap.size + 1, 0, none⟩) n n, .int .i64 n] 81)
    have B := Blk.new ((w.alloc (.cells (madeCells #[.int .i32 0] n) 72)).alloc (.cells (madeCells #[.int .i64 0] n) 2)) 81 #[.slice (some ⟨w.heap.size, 0, none⟩) n n, .slice (some ⟨w.heap.size + 1, 0, none⟩) n n, .int .i64 0]
    have B' := Blk.new ((w.alloc (.cells (madeCells #[.int .i32 0] n) 72)).alloc (.cells (madeCells #[.int .i64 0] n) 2)) 81 #[.slice (some ⟨w.heap.size, 0, none⟩) n n, .slice (some ⟨w.heap.size + 1, 0, none⟩) n n, .int .i64 n]
    simp only [World.size_alloc] at C B B'
    have BB := hide B
    have T := hide (new_tail kI h B'.drew M.drew C.drew (by omega) (by omega) (by omega))
    clear M C B B'
    go_wp2_with fail
    refine (store64_any _ _ 0 _ _ (BB.out.drew.cell 2) (BB.out.drew.frozen 2)).mono ?_
    rintro r w2 ⟨rfl, rfl⟩
    go_wp2
    go_returns
    exact ⟨_, _, _, rfl, T.out, by omega, by omega, by omega, by go_grown⟩
  · have M := (madeM (w.alloc (.cells (madeCells #[.int .i64 0] n) 2)) n).alloc (.cells #[.slice (some ⟨w.heap.size + 1, 0, none⟩) n n, .slice (some ⟨w.heap.size, 0, none⟩) n n, .int .i64 n] 81)
    have C := ((madeI w n).alloc (.cells (madeCells #[.int .i32 0] n) 72)).alloc (.cells #[.slice (some ⟨w.heap.size + 1, 0, none⟩) n n, .slice (some ⟨w.heap.size, 0, none⟩) n n, .int .i64 n] 81)
    have B := Blk.new ((w.alloc (.cells (madeCells #[.int .i64 0] n) 2)).alloc (.cells (madeCells #[.int .i32 0] n) 72)) 81 #[.slice (some ⟨w.heap.size + 1, 0, none⟩) n n, .slice (some ⟨w.heap.size, 0, none⟩) n n, .int .i64 0]
    have B' := Blk.new ((w.alloc (.cells (madeCells #[.int .i64 0] n) 2)).alloc (.cells (madeCells #[.int .i32 0] n) 72)) 81 #[.slice (some ⟨w.heap.size + 1, 0, none⟩) n n, .slice (some ⟨w.heap.size, 0, none⟩) n n, .int .i64 n]
    simp only [World.size_alloc] at M B B'
    have BB := hide B
    have T := hide (new_tail kI h B'.drew M.drew C.drew (by omega) (by omega) (by omega))
    clear M C B B'
    go_wp2_with fail
    refine (store64_any _ _ 0 _ _ (BB.out.drew.cell 2) (BB.out.drew.frozen 2)).mono ?_
    rintro r w2 ⟨rfl, rfl⟩
    go_wp2
    go_returns
    exact ⟨_, _, _, rfl, T.out, by omega, by omega, by omega, by go_grown⟩
end Go.Proofs.Ytoannafiemnijaa
