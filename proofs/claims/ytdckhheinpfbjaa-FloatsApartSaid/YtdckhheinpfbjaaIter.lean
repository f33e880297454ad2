/- The heights of a shaft, one by one: the iterator's contract. -/
import Derived.Test.YtdckhheinpfbjaaRefC
import Derived.RangeFuncNested
import Derived.RangeFuncBound
import Derived.RangeFuncCalls
import Derived.RangeFuncLeaves
import Derived.RangeFuncFrom
import Derived.RangeFuncBox
import Derived.Shelf.Abstract
import Derived.Shelf.RegionOpen
import Derived.WalkKit
import Derived.OwnWalkIn
import Derived.TacticsInMore
import Derived.LoopNIn
import Derived.LoopIn
namespace Go.Proofs.Ytdckhheinpfbjaa
open Go.RowKit Go.Shelf
attribute [local go_sem] Oper.semAt_some

abbrev Ht := { x : Int // -2251799813685248 ≤ x ∧ x ≤ 2251799813685248 }
def hstep (l : List Flt) (hl : ∀ f ∈ l, Fit f) (x : Ht) : Ht := if h : (nxt l x.1).2 = true then ⟨(nxt l x.1).1, nxt_far hl h⟩ else x
def hts (l : List Flt) (hl : ∀ f ∈ l, Fit f) (x : Ht) : Nat → Ht
  | 0 => x
  | n + 1 => hstep l hl (hts l hl x n)
theorem grown_of_below {w w' : World} (hb : Below w.heap.size w w') : w.grownBy w' none := ⟨hb.os, hb.tape, hb.output, hb.size, fun k hk _ => hb.block k hk⟩

def upto (f : Nat → Ht) (k : Nat) : List Ht := (List.range k).map f
theorem upto_succ (f : Nat → Ht) (k : Nat) : upto f (k + 1) = upto f k ++ [f k] := by simp [upto, List.range_succ]
theorem upto_len (f : Nat → Ht) (k : Nat) : (upto f k).length = k := by simp [upto]

set_option maxRecDepth 100000 in
set_option maxHeartbeats 2000000 in
theorem heights1_in (n : Nat) (hn : 1 ≤ n) (l : Nat) (Bs n0 : Nat) (a : Option Addr) (fl : List Flt) (c : Nat) (hl : ∀ f ∈ fl, Fit f) (x0 : Ht) (J Jx : List Ht → World → Prop) (W : World)
    (hJ : AbidesFrom W.heap.size J) (hW0 : n0 ≤ W.heap.size) (hBn : Bs < n0)
    (hY : ∀ pre x W1, J pre W1 → pre.length < cntB fl x0.1 + 1 → YieldAt Fence.wide (n - 1) Try.prog l #[.int .i64 x.1] W1 fun e W' =>
      (e = .returned (.bool true) ∧ J (pre ++ [x]) W' ∧ Below n0 W1 W') ∨ (e = .returned (.bool false) ∧ Jx (pre ++ [x]) W'))
    (hc0 : W.cell? ⟨Bs, 0, none⟩ = some (.slice a fl.length c)) (hc1 : W.cell? ⟨Bs, 1, none⟩ = some (.int .i64 x0.1)) (hr : FRow W a fl) (hrb : 0 < (fl.map fcell).length → ∀ b off, a = some ⟨b, off, none⟩ → b < n0) (h0 : J [] W) :
    CallsIn Fence.wide n Try.prog 27 #[.func (.yield l) #[] #[], .pointer (some ⟨Bs, 0, none⟩)] W fun e W' => (∃ v, e = .returned v) ∧
      ((∃ ys, (∃ k, ys = upto (hts fl hl x0) (k + 1) ∧ (nxt fl (hts fl hl x0 k).1).2 = false) ∧ J ys W') ∨ (∃ pre, (∃ k, pre = upto (hts fl hl x0) (k + 1)) ∧ Jx pre W')) := by
  refine callsIn_of_wp Try.func27 rfl trivial ?_ rfl
  simp only [Try.ntmps27, List.size_toArray, List.length_cons, List.length_nil, Nat.reduceAdd, Nat.reduceSub, Array.replicate_succ, Array.replicate_zero, List.push_toArray, List.append_toArray, List.nil_append, List.cons_append]
  have HL := hide hl
  have hrow : ∀ wr, Below n0 W wr → FRow wr a fl := fun wr hb => by
    refine ⟨hr.1, fun hp => ?_⟩
    obtain ⟨b, off, ha, hlt, hc⟩ := hr.2 hp
    exact ⟨b, off, ha, by have := hb.size; omega, fun i hi j hj => (hb.cell (p := ⟨b, off + i * 5 + j, none⟩) (hrb hp b off ha)).trans (hc i hi j hj)⟩
  have HR := hide hrow
  clear hrow
  have HB := hide hBn
  have HC0 := hide hc0
  have HC1 := hide hc1
  gi_wp2
  clear hc0 hc1
  gi_loopw [3, 4] (fun y is wr => Below n0 W wr ∧ ((is = .bool true ∧ ∃ k, k + cntB fl (hts fl HL.out x0 k).1 ≤ cntB fl x0.1 ∧ y = .int .i64 (hts fl HL.out x0 k).1 ∧ J (upto (hts fl HL.out x0) k) wr) ∨
      (is = .bool false ∧ ∃ k v, Hid ((nxt fl (hts fl HL.out x0 k).1).2 = false) ∧ y = .int .i64 v ∧ J (upto (hts fl HL.out x0) (k + 1)) wr)))
    (fun y is _ => match is with | .bool true => cntB fl (intOf y) + 1 | _ => 0)
  case atStart => exact ⟨Below.refl _ _, .inl ⟨rfl, 0, by simp [hts], rfl, h0⟩⟩
  case round =>
    obtain ⟨hbw, ⟨rfl, k, hk, rfl, hJs⟩ | ⟨rfl, k, v, hnx, rfl, hJs⟩⟩ := hrel
    · have hbw := hide hbw
      obtain ⟨hy, hhy⟩ : ∃ hy, hy = hts fl HL.out x0 k := ⟨_, rfl⟩
      rw [← hhy] at hk ⊢
      have HHY := hide hhy
      have hYk := hY _ hy wr hJs (by rw [upto_len]; omega)
      obtain ⟨fn, tmps, assign, body, hyl, hR⟩ := hYk
      obtain ⟨yv, hyv⟩ := hy
      dsimp only at hyl hk ⊢
      clear hhy
      gi_wp2
      refine hR.mono ?_
      rintro e W3 (⟨rfl, hJ3, hk3⟩ | ⟨rfl, hJx3⟩)
      · have b3 := hide (hbw.out.trans hk3)
        have c0 := (b3.out.cell (p := ⟨Bs, 0, none⟩) HB.out).trans HC0.out
        have hfar : Hid (Far yv) := hide (by unfold Far; omega)
        have hJ3' : Hid (J (upto (hts fl HL.out x0) (k + 1)) W3) := hide (by rw [upto_succ, ← HHY.out]; exact hJ3)
        gi_wp2_with fail
        refine ⟨trivial, (callsIn_wide.2 (next_any a fl fl.length c yv W3 (HR.out W3 b3.out) rfl HL.out hfar.out)).mono ?_⟩
        rintro r W4 ⟨rfl, k4⟩
        have b4 := hide (b3.out.trans (k4.mono (by have := b3.out.size; omega)))
        have hJ4 := hide (hJ _ _ _ _ hJ3'.out (grown_of_below k4) (fun r e => by cases e))
        cases hnx : (nxt fl yv).2 with
        | true =>
          have hlt := cnt_lt hnx
          have hst : (hts fl HL.out x0 (k + 1)).1 = (nxt fl yv).1 := by
            show (hstep fl HL.out (hts fl HL.out x0 k)).1 = _
            rw [← HHY.out]; unfold hstep; rw [dif_pos hnx]
          have HST := hide hst
          have HLT := hide hlt
          clear hst hnx hlt k4
          gi_wp2
          go_roundw
          case rel => exact ⟨b4.out, .inl ⟨rfl, k + 1, by rw [HST.out]; have := HLT.out; omega, by rw [HST.out], hJ4.out⟩⟩
          case measure => simp [intOf]; exact HLT.out
        | false =>
          have HNX : Hid ((nxt fl (hts fl HL.out x0 k).1).2 = false) := hide (by rw [← HHY.out]; exact hnx)
          clear hnx k4
          gi_wp2
          go_roundw
          case rel => exact ⟨b4.out, .inr ⟨rfl, k, _, HNX, rfl, hJ4.out⟩⟩
          case measure => simp
      · gi_wp2
        go_end0
        exact ⟨⟨_, rfl⟩, .inr ⟨_, ⟨k, rfl⟩, by rw [upto_succ, ← HHY.out]; exact hJx3⟩⟩
    · gi_wp2
      refine ⟨fun _ h => (by cases h), ?_⟩
      gi_wp2
      go_end0
      exact ⟨⟨_, rfl⟩, .inl ⟨_, ⟨k, rfl, hnx.out⟩, hJs⟩⟩
end Go.Proofs.Ytdckhheinpfbjaa
