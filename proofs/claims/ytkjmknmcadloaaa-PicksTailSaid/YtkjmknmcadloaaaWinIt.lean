/- The windows of a list, one by one: the iterator's contract. -/
import Derived.Test.YtkjmknmcadloaaaRFairW
import Derived.Test.YtkjmknmcadloaaaFootB
import Derived.RangeFuncNested
import Derived.RangeFuncCalls
import Derived.RangeFuncLeaves
import Derived.RangeFuncFrom
import Derived.RangeFuncBox
import Derived.Shelf.Abstract
import Derived.Shelf.RegionOpen
import Derived.WalkKit
import Derived.OwnWalkIn
import Derived.TacticsInMore
import Derived.LoopNIn
import Derived.LoopIn
namespace Go.Proofs.Ytkjmknmcadloaaa
open Go.RowKit Go.Shelf
attribute [local go_sem] Oper.semAt_some

abbrev Wn (len k : Nat) := { a : Nat // a + k ≤ len }
def wenc (b off c k : Nat) {len : Nat} (x : Wn len k) : Array Value := #[.int .i64 (x.1 : Int), .slice (some ⟨b, off + x.1 * 2, none⟩) k (c - x.1)]
theorem grown_of_below {w w' : World} (hb : Below w.heap.size w w') : w.grownBy w' none := ⟨hb.os, hb.tape, hb.output, hb.size, fun k hk _ => hb.block k hk⟩
theorem wn_len {len k m : Nat} {pre : List (Wn len k)} (h : pre.map (fun x => x.1) = List.range m) : pre.length = m := by
  have := congrArg List.length h; simpa using this
theorem wn_snoc {len k m : Nat} {pre : List (Wn len k)} (h : pre.map (fun x => x.1) = List.range m) (hm : m + k ≤ len) : (pre ++ [(⟨m, hm⟩ : Wn len k)]).map (fun x => x.1) = List.range (m + 1) := by
  rw [List.map_append, h, List.range_succ]; rfl

set_option maxRecDepth 100000 in
set_option maxHeartbeats 2000000 in
theorem windows1_in (n : Nat) (hn : 1 ≤ n) (l Bs Bm n0 : Nat) (fs : List Nat) (a : Option Addr) (b off len c k : Nat) (ha : 0 < len → a = some ⟨b, off, none⟩) (hk : 1 ≤ k) (hk2 : k ≤ 9223372036854775807) (hlc : len ≤ c) (hl2 : len ≤ 1000000) (hc2 : c ≤ 9223372036854775807)
    (J Jx : List (Wn len k) → World → Prop) (W : World) (hBn : Bs < n0) (hBm : Bm < n0) (hfs : Bs ∉ fs) (hfm : Bm ∉ fs)
    (hY : ∀ pre x W1, J pre W1 → pre.length < len + 1 - k → YieldAt Fence.wide (n - 1) Try.prog l (wenc b off c k x) W1 fun e W' =>
      (e = .returned (.bool true) ∧ J (pre ++ [x]) W' ∧ Fb fs n0 W1 W') ∨ (e = .returned (.bool false) ∧ Jx (pre ++ [x]) W'))
    (hc0 : W.cell? ⟨Bs, 0, none⟩ = some (.slice a len c)) (hc1 : W.cell? ⟨Bm, 0, none⟩ = some (.int .i64 k)) (h0 : J [] W) :
    CallsIn Fence.wide n Try.prog 26 #[.func (.yield l) #[] #[], .pointer (some ⟨Bs, 0, none⟩), .pointer (some ⟨Bm, 0, none⟩)] W fun e W' => (∃ v, e = .returned v) ∧
      ((∃ ys, ys.map (fun x => x.1) = List.range (len + 1 - k) ∧ J ys W') ∨ (∃ pre, (∃ m, m + k ≤ len ∧ pre.map (fun x => x.1) = List.range (m + 1)) ∧ Jx pre W')) := by
  refine callsIn_of_wp Try.func26 rfl trivial ?_ rfl
  simp only [Try.ntmps26, List.size_toArray, List.length_cons, List.length_nil, Nat.reduceAdd, Nat.reduceSub, Array.replicate_succ, Array.replicate_zero, List.push_toArray, List.append_toArray, List.nil_append, List.cons_append]
  have HC0 := hide hc0
  have HC1 := hide hc1
  have HA := hide ha
  clear ha hc0 hc1
  gi_wp2
  gi_loopw [4] (fun i wr => Fb fs n0 W wr ∧ ∃ m : Nat, m ≤ len + 1 - k ∧ i = .int .i64 m ∧ ∃ pre : List (Wn len k), Hid (pre.map (fun x => x.1) = List.range m) ∧ J pre wr)
    (fun i _ => len + 1 - k - (intOf i).toNat)
  case atStart => exact ⟨Fb.refl _ _ _, 0, by omega, rfl, [], hide rfl, h0⟩
  case round =>
    obtain ⟨hbw, m, hm, rfl, pre, hpre, hJs⟩ := hrel
    have hbw := hide hbw
    have c0 := (hbw.out.cell (p := ⟨Bs, 0, none⟩) hBn hfs).trans HC0.out
    have c1 := (hbw.out.cell (p := ⟨Bm, 0, none⟩) hBm hfm).trans HC1.out
    by_cases hlt : m + k ≤ len
    · obtain rfl := HA.out (by omega)
      have hYk := hY pre ⟨m, hlt⟩ wr hJs (by rw [wn_len hpre.out]; omega)
      obtain ⟨fn, tmps, assign, body, hyl, hR⟩ := hYk
      unfold wenc at hyl
      dsimp only at hyl
      gi_wp2
      refine hR.mono ?_
      rintro e W3 (⟨rfl, hJ3, hk3⟩ | ⟨rfl, hJx3⟩)
      · have b3 := hide (hbw.out.trans hk3)
        have hJ3 := hide hJ3
        clear c0 c1 hk3 hyl hR
        gi_wp2
        go_roundw
        case rel => exact ⟨b3.out, m + 1, by omega, by go_num, _, hide (wn_snoc hpre.out hlt), hJ3.out⟩
        case measure => simp [intOf]; omega
      · clear c0 c1 hyl hR
        gi_wp2
        refine bodyPost_ret (results_none rfl _ _ _) rfl ?_
        exact ⟨⟨_, rfl⟩, .inr ⟨_, ⟨m, hlt, wn_snoc hpre.out hlt⟩, hJx3⟩⟩
    · have hme : Hid (m = len + 1 - k) := hide (by omega)
      have b1 : decide ((m : Int) ≤ (len : Int) - k) = false := by simp; omega
      gi_wp2
      go_end0
      exact ⟨⟨_, rfl⟩, .inl ⟨_, by rw [← hme.out]; exact hpre.out, hJs⟩⟩
end Go.Proofs.Ytkjmknmcadloaaa
