/- Get, Left, Size. -/
import Derived.Test.YtoannafiemnijaaPutP
namespace Go.Proofs.Ytoannafiemnijaa
open Go.RowKit

def getE {V : Type} (st : Nat → Option V) (n : Nat) (i : Int) : Int :=
  if i < 0 ∨ (n : Int) ≤ i then 1 else if (st i.toNat).isSome then 0 else 4
def getV {V : Type} (z : V) (st : Nat → Option V) (n : Nat) (i : Int) : V :=
  if i < 0 ∨ (n : Int) ≤ i then z else (st i.toNat).getD z

def GetPost {V : Type} (val : V → Value) (z : V) (n : Nat) (st : Nat → Option V) (i : Int) (w : World) (r : Ending) (w' : World) : Prop :=
  r = .returned (.tuple #[val (getV z st n i), .int .i64 (getE st n i)]) ∧ Below w.heap.size w w'

section
variable {V : Type} {val : V → Value} {z : V} {n : Nat} {st : Nat → Option V} {w W : World}
theorem get_bad {i : Int} (hf : Below w.heap.size w W) (hi : i < 0 ∨ (n : Int) ≤ i) : GetPost val z n st i w (.returned (.tuple #[val z, .int .i64 1])) W := by
  refine ⟨?_, hf⟩
  unfold getV getE
  rw [if_pos hi, if_pos hi]
theorem get_some {k : Nat} {u : V} (hf : Below w.heap.size w W) (hi : k < n) (hs : st k = some u) : GetPost val z n st (k : Int) w (.returned (.tuple #[val u, .int .i64 0])) W := by
  refine ⟨?_, hf⟩
  unfold getV getE
  rw [if_neg (by omega), if_neg (by omega)]
  simp [hs]
theorem get_none {k : Nat} (hf : Below w.heap.size w W) (hi : k < n) (hs : st k = none) : GetPost val z n st (k : Int) w (.returned (.tuple #[val z, .int .i64 4])) W := by
  refine ⟨?_, hf⟩
  unfold getV getE
  rw [if_neg (by omega), if_neg (by omega)]
  simp [hs]
end

theorem getI (gt gm gc n : Nat) (st : Nat → Option Int) (i : Int) (w : World) (h : Tab kI w gt gm gc n st) :
    Calls Try.prog 21 #[.pointer (some ⟨gt, 0, none⟩), .int .i64 i] w (GetPost (Value.int .i64) 0 n st i w) := by
  have hn := h.le
  have b0 := hide (h.box.cell 0)
  have b1 := hide (h.box.cell 1)
  have q0 := h.box.lt
  have q1 := h.marks.lt
  have q2 := h.cells.lt
  by_cases h1 : i < 0
  · go_enter Try.func21, Try.ntmps21
    go_wp2_with fail
    go_returns
    exact get_bad (by go_grown) (by omega)
  by_cases h2 : (n : Int) ≤ i
  · go_enter Try.func21, Try.ntmps21
    have c0 := b0.out
    go_wp2_with fail
    go_returns
    exact get_bad (by go_grown) (by omega)
  obtain ⟨k, rfl⟩ : ∃ k : Nat, i = (k : Int) := ⟨i.toNat, by omega⟩
  have hk : k < n := by omega
  have m0 := hide (h.mark_at hk)
  have mc := hide (h := h.cells.cell (i := k) (j := 0) hk (by decide))
  simp only [kI, Nat.mul_one, Nat.add_zero] at mc
  cases hs : st k with
  | none =>
    have HS := hide hs
    rw [hs] at m0
    clear hs
    go_enter Try.func21, Try.ntmps21
    have c0 := b0.out
    go_wp2_with fail
    refine (load32_any _ _ 0 _ m0.out).mono ?_
    rintro r w2 ⟨rfl, rfl⟩
    go_wp2_with fail
    go_returns
    exact get_none (by go_grown) hk HS.out
  | some u =>
    have HS := hide hs
    rw [hs] at m0 mc
    clear hs
    go_enter Try.func21, Try.ntmps21
    have c0 := b0.out
    have c1 := b1.out
    have c2 := mc.out
    go_wp2_with fail
    refine (load32_any _ _ 2 _ m0.out).mono ?_
    rintro r w2 ⟨rfl, rfl⟩
    go_wp2_with fail
    go_returns
    exact get_some (by go_grown) hk HS.out
theorem getP (gt gm gc n : Nat) (st : Nat → Option (Int × ByteArray)) (i : Int) (w : World) (h : Tab kP w gt gm gc n st) :
    Calls Try.prog 13 #[.pointer (some ⟨gt, 0, none⟩), .int .i64 i] w (GetPost pairV (0, ByteArray.empty) n st i w) := by
  have hn := h.le
  have b0 := hide (h.box.cell 0)
  have b1 := hide (h.box.cell 1)
  have q0 := h.box.lt
  have q1 := h.marks.lt
  have q2 := h.cells.lt
  by_cases h1 : i < 0
  · go_enter Try.func13, Try.ntmps13
    go_wp2_with fail
    go_returns
    exact get_bad (by go_grown) (by omega)
  by_cases h2 : (n : Int) ≤ i
  · go_enter Try.func13, Try.ntmps13
    have c0 := b0.out
    go_wp2_with fail
    go_returns
    exact get_bad (by go_grown) (by omega)
  obtain ⟨k, rfl⟩ : ∃ k : Nat, i = (k : Int) := ⟨i.toNat, by omega⟩
  have hk : k < n := by omega
  have T0 : ∀ o, Tab kP (w.alloc o) gt gm gc n st := fun o => h.below ((Below.refl _ _).alloc (Nat.le_refl _) o)
  have m0 := hide (fun o => (T0 o).mark_at hk)
  clear T0
  have mc := hide (h := h.cells.cell (i := k) (j := 0) hk (by decide))
  have md := hide (h := h.cells.cell (i := k) (j := 1) hk (by decide))
  simp [kP] at mc md
  cases hs : st k with
  | none =>
    have HS := hide hs
    simp only [hs] at m0
    clear hs mc md
    go_enter Try.func13, Try.ntmps13
    have c0 := b0.out
    go_wp2_with fail
    refine (load32_any _ _ 0 _ (m0.out _)).mono ?_
    rintro r w2 ⟨rfl, rfl⟩
    go_wp2_with fail
    go_returns
    exact get_none (by go_grown) hk HS.out
  | some u =>
    have HS := hide hs
    simp only [hs] at m0 mc md
    simp only [Option.getD_some] at mc md
    clear hs
    go_enter Try.func13, Try.ntmps13
    have c0 := b0.out
    have c1 := b1.out
    have c2 := mc.out
    have c3 := md.out
    go_wp2_with fail
    refine (load32_any _ _ 2 _ (m0.out _)).mono ?_
    rintro r w2 ⟨rfl, rfl⟩
    go_wp2_with fail
    go_returns
    exact get_some (by go_grown) hk HS.out
end Go.Proofs.Ytoannafiemnijaa
