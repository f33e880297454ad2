/- The walk of ClockRaces. -/
import Derived.Test.YtffpphnjokmffaaEK
import Derived.Test.YtffpphnjokmffaaEZ
import Derived.Test.YtffpphnjokmffaaOpens
namespace Go.Proofs.Ytffpphnjokmffaa
open Go.RowKit Go.Maps
set_option maxRecDepth 100000 in
set_option maxHeartbeats 4000000 in
theorem walk_ClockRaces (w : World) (x : Int) (_hx : (Lit.int .i64 x).wf = true) (a : Option Addr) (l : List Ev) (c : Nat) (hr : ERow w a l) (hl : ∀ e ∈ l, EvIn e) (hc1 : l.length ≤ c) (hc2 : c ≤ maxLen) :
    Calls Try.prog 4 #[.int .i64 x, .slice a l.length c] w (fun e w' => e = .returned (.bool true) ∧ Below w.heap.size w w') := by
  have hlen := hr.len
  have HL := hide hl
  have HR := hide hr
  clear hl hr
  go_enter Try.func4, Try.ntmps4
  by_cases hlong : 120 < l.length
  · have b1 : decide (120 < (l.length : Int)) = true := by simp; omega
    go_wp2_with fail
    refine (works_any _).mono ?_
    rintro r w9 ⟨rfl, k9⟩
    have t9 := hide (below_call (w := w) (Below.refl _ _) k9)
    clear k9
    go_wp2_with fail
    go_returns
    exact ⟨rfl, t9.out⟩
  have b1 : decide (120 < (l.length : Int)) = false := by simp; omega
  go_wp2_with fail
  refine (copied_any a l c w HR.out (by omega)).mono ?_
  rintro r w1 ⟨v1, rfl, ho1, k1⟩
  obtain ⟨a1, c1, rfl, hr1, _⟩ := ho1.row
  have R1 := hide hr1
  have t1 := hide k1
  clear ho1 hr1 k1
  by_cases hM : LogOk x l
  · have HM := hide hM
    have HCC : Hid (∀ y ∈ l, y.c ≤ 9223372036854775807) := hide (fun y hy => (HL.out y hy).c.2)
    have hn1 := hM.nb
    obtain ⟨n, rfl⟩ : ∃ n : Nat, x = (n : Int) := ⟨x.toNat, by omega⟩
    clear hM HL
    go_wp2_with fail
    refine (race_yes a1 l c1 n _ R1.out HM.out HCC.out).mono ?_
    rintro r w2 ⟨i1, j1, is1, rfl, hR1, k2⟩
    have HR1 := hide hR1
    have t2 := hide (below_call (w := w) t1.out k2)
    clear hR1 k2 t1 R1
    go_wp2_with fail
    refine (may_yes a l c n _ (HR.out.below t2.out) HM.out).mono ?_
    rintro r w3 ⟨rfl, k3⟩
    have t3 := hide (below_call (w := w) t2.out k3)
    clear k3 t2
    go_wp2_with fail
    refine (rrace_any a l c _ (HR.out.below t3.out) (by omega)).mono ?_
    rintro r w4 ⟨i2, j2, is2, rfl, hR2, k4⟩
    obtain ⟨rfl, rfl, rfl⟩ := HR1.out.uniq hR2
    have t4 := hide (below_call (w := w) t3.out k4)
    clear k4 t3 hR2 HR1
    go_wp2_with fail
    refine (works_any _).mono ?_
    rintro r w9 ⟨rfl, k9⟩
    have t9 := hide (below_call (w := w) t4.out k9)
    clear k9
    go_wp2_with fail
    go_returns
    exact ⟨rfl, t9.out⟩
  · have HM := hide hM
    have HK : Hid (∀ y ∈ l, 0 ≤ y.k ∧ y.k ≤ 255) := hide (fun y hy => (HL.out y hy).k)
    clear hM HL
    go_wp2_with fail
    refine (race_no a1 l c1 x _ R1.out HK.out HM.out).mono ?_
    rintro r w2 ⟨rfl, k2⟩
    have t2 := hide (below_call (w := w) t1.out k2)
    clear k2 t1 R1
    go_wp2_with fail
    refine (may_no a l c x _ (HR.out.below t2.out) HK.out HM.out).mono ?_
    rintro r w3 ⟨rfl, k3⟩
    have t3 := hide (below_call (w := w) t2.out k3)
    clear k3 t2
    go_wp2_with fail
    refine (works_any _).mono ?_
    rintro r w9 ⟨rfl, k9⟩
    have t9 := hide (below_call (w := w) t3.out k9)
    clear k9
    go_wp2_with fail
    go_returns
    exact ⟨rfl, t9.out⟩
end Go.Proofs.Ytffpphnjokmffaa
