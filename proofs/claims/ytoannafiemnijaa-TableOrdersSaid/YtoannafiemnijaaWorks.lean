/- The anchor, and vast. -/
import Derived.Test.YtoannafiemnijaaSame
namespace Go.Proofs.Ytoannafiemnijaa
open Go.RowKit

def s0 : Nat → Option Int := fun _ => none
def s1 : Nat → Option Int := put s0 0 7
def s2 : Nat → Option Int := put s1 1 9
theorem put_s0 {gt gm gc : Nat} {w : World} {r : Ending} {w' : World} (h : PutPost kI gt gm gc 2 s0 0 7 w r w') : r = .returned (.int .i64 0) ∧ Tab kI w' gt gm gc 2 s1 ∧ Foot [gt, gm, gc] w w' := h
theorem put_s1 {gt gm gc : Nat} {w : World} {r : Ending} {w' : World} (h : PutPost kI gt gm gc 2 s1 0 8 w r w') : r = .returned (.int .i64 3) ∧ Tab kI w' gt gm gc 2 s1 ∧ Foot [gt, gm, gc] w w' := h
theorem put_s1' {gt gm gc : Nat} {w : World} {r : Ending} {w' : World} (h : PutPost kI gt gm gc 2 s1 1 9 w r w') : r = .returned (.int .i64 0) ∧ Tab kI w' gt gm gc 2 s2 ∧ Foot [gt, gm, gc] w w' := h
theorem put_s2 {gt gm gc : Nat} {w : World} {r : Ending} {w' : World} (h : PutPost kI gt gm gc 2 s2 2 1 w r w') : r = .returned (.int .i64 1) ∧ Tab kI w' gt gm gc 2 s2 ∧ Foot [gt, gm, gc] w w' := h
theorem get_s0 {w : World} {r : Ending} {w' : World} (h : GetPost (Value.int .i64) 0 2 s0 0 w r w') : r = .returned (.tuple #[.int .i64 0, .int .i64 4]) ∧ Below w.heap.size w w' := h
theorem get_s1 {w : World} {r : Ending} {w' : World} (h : GetPost (Value.int .i64) 0 2 s1 0 w r w') : r = .returned (.tuple #[.int .i64 7, .int .i64 0]) ∧ Below w.heap.size w w' := h
theorem left_s0 {r : Ending} {w w' : World} (h : r = .returned (.int .i64 (left s0 2)) ∧ Below w.heap.size w w') : r = .returned (.int .i64 2) ∧ Below w.heap.size w w' := h

set_option maxRecDepth 100000 in
theorem works_any (w : World) : Calls Try.prog 8 #[] w fun r w' => r = .returned (.bool true) ∧ Below w.heap.size w w' := by
  go_enter Try.func8, Try.ntmps8
  go_wp2_with fail
  have HN := hide (newI_ok 2 w (by omega))
  refine HN.out.mono ?_
  rintro r w1 ⟨gt, gm, gc, rfl, T1, u1, u2, u3, k1⟩
  have t1 := hide k1
  clear HN
  have T1 : Hid (Tab kI w1 gt gm gc 2 s0) := hide T1
  clear k1
  go_wp2_with fail
  refine (leftI gt gm gc 2 s0 _ T1.out).mono ?_
  intro r w2 h2
  obtain ⟨rfl, k2⟩ := left_s0 h2
  clear h2
  have t2 := hide (below_call t1.out k2)
  have T2 := hide (T1.out.below k2)
  clear k2 t1 T1
  go_wp2_with fail
  refine (sizeI gt gm gc 2 s0 _ T2.out).mono ?_
  rintro r w3 ⟨rfl, k3⟩
  have t3 := hide (below_call t2.out k3)
  have T3 := hide (T2.out.below k3)
  clear k3 t2 T2
  go_wp2_with fail
  refine (getI gt gm gc 2 s0 0 _ T3.out).mono ?_
  intro r w4 h4
  obtain ⟨rfl, k4⟩ := get_s0 h4
  clear h4
  have t4 := hide (below_call t3.out k4)
  have T4 := hide (T3.out.below k4)
  clear k4 t3 T3
  go_wp2_with fail
  refine (putI gt gm gc 2 s0 0 7 _ T4.out).mono ?_
  intro r w5 h5
  obtain ⟨rfl, T5, k5⟩ := put_s0 h5
  have t5 := hide (below_foot t4.out k5 (by intro x hx; simp at hx; omega))
  have T5 := hide T5
  clear h5 k5 t4 T4
  go_wp2_with fail
  refine (putI gt gm gc 2 s1 0 8 _ T5.out).mono ?_
  intro r w6 h6
  obtain ⟨rfl, T6, k6⟩ := put_s1 h6
  have t6 := hide (below_foot t5.out k6 (by intro x hx; simp at hx; omega))
  have T6 := hide T6
  clear h6 k6 t5 T5
  go_wp2_with fail
  refine (getI gt gm gc 2 s1 0 _ T6.out).mono ?_
  intro r w7 h7
  obtain ⟨rfl, k7⟩ := get_s1 h7
  clear h7
  have t7 := hide (below_call t6.out k7)
  have T7 := hide (T6.out.below k7)
  clear k7 t6 T6
  go_wp2_with fail
  refine (all_short_I gt gm gc 2 s1 _ T7.out (by decide)).mono ?_
  rintro r w8 ⟨rfl, rfl⟩
  go_wp2_with fail
  refine (putI gt gm gc 2 s1 1 9 _ T7.out).mono ?_
  intro r w9 h9
  obtain ⟨rfl, T9, k9⟩ := put_s1' h9
  have t9 := hide (below_foot t7.out k9 (by intro x hx; simp at hx; omega))
  have T9 := hide T9
  clear h9 k9 t7 T7
  go_wp2_with fail
  refine (all_full_I gt gm gc 2 s2 _ T9.out (by decide)).mono ?_
  rintro r wa ⟨v, rfl, own, ka⟩
  have ta := hide (below_call t9.out ka)
  have Ta := hide (T9.out.below ka)
  obtain ⟨a, cap, rfl, _, _, _, hrow, _⟩ := own_rowS (ic_len _) (by decide) own
  obtain ⟨b, off, rfl, hb, hc⟩ := hrow.2 (by decide)
  have c1 : wa.cell? ⟨b, off + 1, none⟩ = some (.int .i64 9) := hc 1 (by decide) 0 (by decide)
  have hl : (vals 0 s2 2).length = 2 := rfl
  rw [hl]
  clear own ka t9 T9 hrow hc hl
  go_wp2_with fail
  refine (putI gt gm gc 2 s2 2 1 _ Ta.out).mono ?_
  intro r wb hb
  obtain ⟨rfl, Tb, kb⟩ := put_s2 hb
  have tb := hide (below_foot ta.out kb (by intro x hx; simp at hx; omega))
  go_wp2_with fail
  go_returns
  exact ⟨rfl, tb.out⟩

def vastB (n : Int) (m : Nat) : Bool := decide (300 < m ∨ (2000 < n ∧ n ≤ 65536))
theorem vast_any (n : Int) (a : Option Addr) (m c : Nat) (w : World) (hm : m ≤ 9223372036854775807) : Calls Try.prog 7 #[.int .i64 n, .slice a m c] w fun r w' => r = .returned (.bool (vastB n m)) ∧ w = w' := by
  unfold vastB
  by_cases h1 : 300 < m
  · rw [show decide (300 < m ∨ (2000 < n ∧ n ≤ 65536)) = true from by simp; omega]
    go_enter Try.func7, Try.ntmps7
    go_wp2
    go_returns
    exact ⟨rfl, rfl⟩
  by_cases h2 : 2000 < n
  · by_cases h3 : n ≤ 65536
    · rw [show decide (300 < m ∨ (2000 < n ∧ n ≤ 65536)) = true from by simp; omega]
      go_enter Try.func7, Try.ntmps7
      go_wp2
      go_returns
      exact ⟨rfl, rfl⟩
    · rw [show decide (300 < m ∨ (2000 < n ∧ n ≤ 65536)) = false from by simp; omega]
      go_enter Try.func7, Try.ntmps7
      go_wp2
      go_returns
      exact ⟨show Ending.returned (.bool (decide (300 < (m : Int)))) = _ by rw [show decide (300 < (m : Int)) = false from by simp; omega], rfl⟩
  · rw [show decide (300 < m ∨ (2000 < n ∧ n ≤ 65536)) = false from by simp; omega]
    go_enter Try.func7, Try.ntmps7
    go_wp2
    go_returns
    exact ⟨show Ending.returned (.bool (decide (300 < (m : Int)))) = _ by rw [show decide (300 < (m : Int)) = false from by simp; omega], rfl⟩
end Go.Proofs.Ytoannafiemnijaa
