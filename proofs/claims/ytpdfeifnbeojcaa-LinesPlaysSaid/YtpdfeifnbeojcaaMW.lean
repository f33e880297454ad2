/- Walk: may a case be looked at? -/
import Derived.Test.YtpdfeifnbeojcaaFM
import Derived.Test.YtpdfeifnbeojcaaWA
import Derived.Deep.CutBlock
namespace Go.Proofs.Ytpdfeifnbeojcaa
open Go.RowKit

structure CaseD where
  h : Int
  al : Int
  a : Int
  b : Int
  y : Int
structure MayC (ws : List Wd) (k : CaseD) (fl : List Flt) : Prop where
  n : ws.length ≤ 200
  f : Mays fl
  h : near k.h
  a : near k.a
  b : near k.b
  y : near k.y
  w : ∀ x ∈ ws, WdOk x
def case_ (wa : Option Addr) (m wc : Nat) (k : CaseD) (fa : Option Addr) (n fc : Nat) : Array Value := #[.slice wa m wc, .int .i64 k.h, .int .u8 k.al, .int .i64 k.a, .int .i64 k.b, .int .i64 k.y, .slice fa n fc]
def MCPost (x : Bool) (w : World) (r : Ending) (w' : World) : Prop := r = .returned (.bool x) ∧ Below w.heap.size w w'

set_option maxRecDepth 100000 in
set_option maxHeartbeats 1000000 in
theorem mayc_yes (wa : Option Addr) (ws : List Wd) (wc : Nat) (k : CaseD) (fa : Option Addr) (fl : List Flt) (fc : Nat) (w : World) (hr : WRow w wa ws) (hf : FRow w fa fl) (hu : ∀ f ∈ fl, 0 ≤ f.s ∧ f.s ≤ 255) (hM : MayC ws k fl) :
    Calls Try.prog 7 #[.agg (case_ wa ws.length wc k fa fl.length fc)] w (MCPost true w) := by
  obtain ⟨w1, hw1⟩ : ∃ w1, w1 = w.alloc (.cells (case_ wa ws.length wc k fa fl.length fc) 25) := ⟨_, rfl⟩
  have t1 : Hid (Below w.heap.size w w1) := hide (hw1 ▸ (Below.refl _ _).alloc (Nat.le_refl _) _)
  have hlen := hr.len
  have HM := hide (may_any fa fl fl.length fc w1 (hf.below t1.out) rfl hu)
  have B1 := hide (hw1 ▸ Blk.new w 25 (case_ wa ws.length wc k fa fl.length fc))
  have y0 : w1.cell? ⟨w.heap.size, 0, none⟩ = some (.slice wa ws.length wc) := B1.out.cell 0
  have y1 : w1.cell? ⟨w.heap.size, 1, none⟩ = some (.int .i64 k.h) := B1.out.cell 1
  have y3 : w1.cell? ⟨w.heap.size, 3, none⟩ = some (.int .i64 k.a) := B1.out.cell 3
  have y4 : w1.cell? ⟨w.heap.size, 4, none⟩ = some (.int .i64 k.b) := B1.out.cell 4
  have y5 : w1.cell? ⟨w.heap.size, 5, none⟩ = some (.int .i64 k.y) := B1.out.cell 5
  have y6 : w1.cell? ⟨w.heap.size, 6, none⟩ = some (.slice fa fl.length fc) := B1.out.cell 6
  have hn := hM.n
  have HF := hide hM.f
  obtain ⟨h1, h2⟩ := hM.h
  obtain ⟨a1, a2⟩ := hM.a
  obtain ⟨b1, b2⟩ := hM.b
  obtain ⟨q1, q2⟩ := hM.y
  have HW := hide hM.w
  unfold case_ at hw1
  have HW1 := hide hw1
  clear hM hu hw1
  have d0 : decide (200 < (ws.length : Int)) = false := by simp; omega
  have d1 : decide (k.h < -1125899906842624) = false := by simp; omega
  have d2 : decide (k.a < -1125899906842624) = false := by simp; omega
  have d3 : decide (k.b < -1125899906842624) = false := by simp; omega
  have d4 : decide (k.y < -1125899906842624) = false := by simp; omega
  unfold case_
  go_enter Try.func7, Try.ntmps7
  go_upto_region 1 with fail
  rw [← HW1.out]
  go_wp2_with fail
  refine (HM.out.1 HF.out).mono ?_
  rintro r w2 ⟨rfl, k2⟩
  have t2 := hide (below_call (w := w) t1.out k2)
  have B2 := hide (B1.out.below k2 B1.out.lt)
  clear y0 y1 y3 y4 y5 y6 k2
  have y0 : w2.cell? ⟨w.heap.size, 0, none⟩ = some (.slice wa ws.length wc) := B2.out.cell 0
  have y1 : w2.cell? ⟨w.heap.size, 1, none⟩ = some (.int .i64 k.h) := B2.out.cell 1
  have y3 : w2.cell? ⟨w.heap.size, 3, none⟩ = some (.int .i64 k.a) := B2.out.cell 3
  have y4 : w2.cell? ⟨w.heap.size, 4, none⟩ = some (.int .i64 k.b) := B2.out.cell 4
  have y5 : w2.cell? ⟨w.heap.size, 5, none⟩ = some (.int .i64 k.y) := B2.out.cell 5
  go_wp2_with fail
  clear y0 y1 y3 y4 y5 d1 d2 d3 d4 d0
  go_loopw [3] (fun i wr => ∃ j : Nat, j ≤ ws.length ∧ i = .int .i64 j ∧ Blk wr w.heap.size 25 (case_ wa ws.length wc k fa fl.length fc) ∧ Below w.heap.size w wr) (fun i _ => ws.length - (intOf i).toNat)
  case atStart => exact ⟨0, Nat.zero_le _, rfl, B2.out, t2.out⟩
  case round =>
    clear t2 B2
    obtain ⟨j, hj, rfl, hB, hbel⟩ := hrel
    have t := hide hbel
    have B := hide hB
    clear hbel hB
    by_cases hlt : j < ws.length
    · obtain ⟨b0, off, rfl, hb0, hcw⟩ := w_at (hr.below t.out) (by omega)
      obtain ⟨x0, x1, x2, x3, x4⟩ := hcw j hlt
      have y0 : wr.cell? ⟨w.heap.size, 0, none⟩ = some (.slice (some ⟨b0, off, none⟩) ws.length wc) := B.out.cell 0
      clear hcw
      obtain ⟨⟨w1_, w2_⟩, ⟨g1, g2⟩, n1, n2⟩ := HW.out _ (List.getElem_mem hlt)
      generalize ws[j] = z at x0 x1 x2 x3 x4 w1_ w2_ g1 g2 n1 n2
      have e1 : decide (z.w < 0) = false := by simp; omega
      have e2 : decide (z.g < 0) = false := by simp; omega
      have e3 : decide (z.n < 0) = false := by simp; omega
      go_wp2_with fail
      go_roundw
      case rel => exact ⟨j + 1, hlt, by go_num, B.out.alloc _, t.out.alloc t.out.size _⟩
      case measure => simp [intOf]; omega
    · have y0 : wr.cell? ⟨w.heap.size, 0, none⟩ = some (.slice wa ws.length wc) := B.out.cell 0
      go_wp2
      go_returns
      exact ⟨rfl, t.out⟩
set_option maxRecDepth 100000 in
set_option maxHeartbeats 4000000 in
theorem mayc_no (wa : Option Addr) (ws : List Wd) (wc : Nat) (k : CaseD) (fa : Option Addr) (fl : List Flt) (fc : Nat) (w : World) (hr : WRow w wa ws) (hf : FRow w fa fl) (hu : ∀ f ∈ fl, 0 ≤ f.s ∧ f.s ≤ 255) (hM : ¬ MayC ws k fl) :
    Calls Try.prog 7 #[.agg (case_ wa ws.length wc k fa fl.length fc)] w (MCPost false w) := by
  obtain ⟨w1, hw1⟩ : ∃ w1, w1 = w.alloc (.cells (case_ wa ws.length wc k fa fl.length fc) 25) := ⟨_, rfl⟩
  have t1 : Hid (Below w.heap.size w w1) := hide (hw1 ▸ (Below.refl _ _).alloc (Nat.le_refl _) _)
  have hlen := hr.len
  have HM := hide (may_any fa fl fl.length fc w1 (hf.below t1.out) rfl hu)
  have B1 := hide (hw1 ▸ Blk.new w 25 (case_ wa ws.length wc k fa fl.length fc))
  have y0 : w1.cell? ⟨w.heap.size, 0, none⟩ = some (.slice wa ws.length wc) := B1.out.cell 0
  have y1 : w1.cell? ⟨w.heap.size, 1, none⟩ = some (.int .i64 k.h) := B1.out.cell 1
  have y3 : w1.cell? ⟨w.heap.size, 3, none⟩ = some (.int .i64 k.a) := B1.out.cell 3
  have y4 : w1.cell? ⟨w.heap.size, 4, none⟩ = some (.int .i64 k.b) := B1.out.cell 4
  have y5 : w1.cell? ⟨w.heap.size, 5, none⟩ = some (.int .i64 k.y) := B1.out.cell 5
  have y6 : w1.cell? ⟨w.heap.size, 6, none⟩ = some (.slice fa fl.length fc) := B1.out.cell 6
  have HMC := hide hM
  unfold case_ at hw1
  have HW1 := hide hw1
  clear hM hu hw1
  unfold case_
  go_enter Try.func7, Try.ntmps7
  go_upto_region 1 with fail
  rw [← HW1.out]
  by_cases hn : 200 < ws.length
  · go_wp2_with fail
    go_returns
    exact ⟨rfl, t1.out⟩
  have d0 : decide (200 < (ws.length : Int)) = false := by simp; omega
  by_cases hF : Mays fl
  · have HF := hide hF
    clear hF
    go_wp2_with fail
    refine (HM.out.1 HF.out).mono ?_
    rintro r w2 ⟨rfl, k2⟩
    have t2 := hide (below_call (w := w) t1.out k2)
    have B2 := hide (B1.out.below k2 B1.out.lt)
    clear y0 y1 y3 y4 y5 y6 k2
    have y0 : w2.cell? ⟨w.heap.size, 0, none⟩ = some (.slice wa ws.length wc) := B2.out.cell 0
    have y1 : w2.cell? ⟨w.heap.size, 1, none⟩ = some (.int .i64 k.h) := B2.out.cell 1
    have y3 : w2.cell? ⟨w.heap.size, 3, none⟩ = some (.int .i64 k.a) := B2.out.cell 3
    have y4 : w2.cell? ⟨w.heap.size, 4, none⟩ = some (.int .i64 k.b) := B2.out.cell 4
    have y5 : w2.cell? ⟨w.heap.size, 5, none⟩ = some (.int .i64 k.y) := B2.out.cell 5
    by_cases h1 : 1125899906842624 < k.h
    · go_wp2_with fail
      go_returns
      exact ⟨rfl, t2.out⟩
    by_cases h2 : k.h < -1125899906842624
    · go_wp2_with fail
      go_returns
      exact ⟨rfl, t2.out⟩
    have d1 : decide (k.h < -1125899906842624) = false := by simp; omega
    by_cases h3 : 1125899906842624 < k.a
    · go_wp2_with fail
      go_returns
      exact ⟨rfl, t2.out⟩
    by_cases h4 : k.a < -1125899906842624
    · go_wp2_with fail
      go_returns
      exact ⟨rfl, t2.out⟩
    have d2 : decide (k.a < -1125899906842624) = false := by simp; omega
    by_cases h5 : 1125899906842624 < k.b
    · go_wp2_with fail
      go_returns
      exact ⟨rfl, t2.out⟩
    by_cases h6 : k.b < -1125899906842624
    · go_wp2_with fail
      go_returns
      exact ⟨rfl, t2.out⟩
    have d3 : decide (k.b < -1125899906842624) = false := by simp; omega
    by_cases h7 : 1125899906842624 < k.y
    · go_wp2_with fail
      go_returns
      exact ⟨rfl, t2.out⟩
    by_cases h8 : k.y < -1125899906842624
    · go_wp2_with fail
      go_returns
      exact ⟨rfl, t2.out⟩
    have d4 : decide (k.y < -1125899906842624) = false := by simp; omega
    have hex : ∃ q, ∃ h : q < ws.length, ¬ WdOk ws[q] := by
      refine Classical.byContradiction fun hno => HMC.out ⟨by omega, HF.out, ⟨by omega, by omega⟩, ⟨by omega, by omega⟩, ⟨by omega, by omega⟩, ⟨by omega, by omega⟩, fun x hx => ?_⟩
      obtain ⟨j, hj, rfl⟩ := List.getElem_of_mem hx
      exact Classical.byContradiction fun hc => hno ⟨j, hj, hc⟩
    obtain ⟨q, hq, hbad⟩ := hex
    have HB := hide hbad
    clear hbad
    go_wp2_with fail
    clear y0 y1 y3 y4 y5 d1 d2 d3 d4 d0 h1 h2 h3 h4 h5 h6 h7 h8
    go_loopw [3] (fun i wr => ∃ j : Nat, j ≤ q ∧ i = .int .i64 j ∧ Blk wr w.heap.size 25 (case_ wa ws.length wc k fa fl.length fc) ∧ Below w.heap.size w wr) (fun i _ => ws.length - (intOf i).toNat)
    case atStart => exact ⟨0, Nat.zero_le _, rfl, B2.out, t2.out⟩
    case round =>
      clear t2 B2
      obtain ⟨j, hj, rfl, hB, hbel⟩ := hrel
      have t := hide hbel
      have B := hide hB
      clear hbel hB
      have hlt : j < ws.length := by omega
      obtain ⟨b0, off, rfl, hb0, hcw⟩ := w_at (hr.below t.out) (by omega)
      obtain ⟨x0, x1, x2, x3, x4⟩ := hcw j hlt
      have y0 : wr.cell? ⟨w.heap.size, 0, none⟩ = some (.slice (some ⟨b0, off, none⟩) ws.length wc) := B.out.cell 0
      clear hcw
      have HE : Hid (j = q → ¬ WdOk ws[j]) := hide (fun e => by subst e; exact HB.out)
      generalize ws[j] = z at x0 x1 x2 x3 x4 HE
      by_cases p1 : z.w < 0
      · go_wp2_with fail
        go_returns
        exact ⟨rfl, t.out.alloc t.out.size _⟩
      by_cases p2 : 1099511627776 < z.w
      · go_wp2_with fail
        go_returns
        exact ⟨rfl, t.out.alloc t.out.size _⟩
      by_cases p3 : z.g < 0
      · have e1 : decide (z.w < 0) = false := by simp; omega
        go_wp2_with fail
        go_returns
        exact ⟨rfl, t.out.alloc t.out.size _⟩
      by_cases p4 : 1099511627776 < z.g
      · have e1 : decide (z.w < 0) = false := by simp; omega
        go_wp2_with fail
        go_returns
        exact ⟨rfl, t.out.alloc t.out.size _⟩
      by_cases p5 : z.n < 0
      · have e1 : decide (z.w < 0) = false := by simp; omega
        have e2 : decide (z.g < 0) = false := by simp; omega
        go_wp2_with fail
        go_returns
        exact ⟨rfl, t.out.alloc t.out.size _⟩
      by_cases p6 : 20 < z.n
      · have e1 : decide (z.w < 0) = false := by simp; omega
        have e2 : decide (z.g < 0) = false := by simp; omega
        go_wp2_with fail
        go_returns
        exact ⟨rfl, t.out.alloc t.out.size _⟩
      have hne : j ≠ q := fun e => HE.out e ⟨by omega, by omega, by omega⟩
      have e1 : decide (z.w < 0) = false := by simp; omega
      have e2 : decide (z.g < 0) = false := by simp; omega
      have e3 : decide (z.n < 0) = false := by simp; omega
      go_wp2_with fail
      go_roundw
      case rel => exact ⟨j + 1, by omega, by go_num, B.out.alloc _, t.out.alloc t.out.size _⟩
      case measure => simp [intOf]; omega
  · have HF := hide hF
    clear hF
    go_wp2_with fail
    refine (HM.out.2 HF.out).mono ?_
    rintro r w2 ⟨rfl, k2⟩
    have t2 := hide (below_call (w := w) t1.out k2)
    have B2 := hide (B1.out.below k2 B1.out.lt)
    clear y0 y1 y3 y4 y5 y6 k2
    have y0 : w2.cell? ⟨w.heap.size, 0, none⟩ = some (.slice wa ws.length wc) := B2.out.cell 0
    have y1 : w2.cell? ⟨w.heap.size, 1, none⟩ = some (.int .i64 k.h) := B2.out.cell 1
    have y3 : w2.cell? ⟨w.heap.size, 3, none⟩ = some (.int .i64 k.a) := B2.out.cell 3
    have y4 : w2.cell? ⟨w.heap.size, 4, none⟩ = some (.int .i64 k.b) := B2.out.cell 4
    have y5 : w2.cell? ⟨w.heap.size, 5, none⟩ = some (.int .i64 k.y) := B2.out.cell 5
    go_wp2_with fail
    go_returns
    exact ⟨rfl, t2.out⟩
theorem mayc_any (wa : Option Addr) (ws : List Wd) (wc : Nat) (k : CaseD) (fa : Option Addr) (fl : List Flt) (fc : Nat) (w : World) (hr : WRow w wa ws) (hf : FRow w fa fl) (hu : ∀ f ∈ fl, 0 ≤ f.s ∧ f.s ≤ 255) :
    (MayC ws k fl → Calls Try.prog 7 #[.agg (case_ wa ws.length wc k fa fl.length fc)] w (MCPost true w)) ∧ (¬ MayC ws k fl → Calls Try.prog 7 #[.agg (case_ wa ws.length wc k fa fl.length fc)] w (MCPost false w)) :=
  ⟨fun h => mayc_yes wa ws wc k fa fl fc w hr hf hu h, fun h => mayc_no wa ws wc k fa fl fc w hr hf hu h⟩
end Go.Proofs.Ytpdfeifnbeojcaa
