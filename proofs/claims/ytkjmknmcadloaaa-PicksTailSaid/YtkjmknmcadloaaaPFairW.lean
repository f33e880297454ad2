/- The walk of PicksFair. -/
import Derived.Test.YtkjmknmcadloaaaWorksP
import Derived.Test.YtkjmknmcadloaaaOpens
namespace Go.Proofs.Ytkjmknmcadloaaa
open Go.RowKit

theorem fair_any (a : Option Addr) (len c : Nat) (l : List Pk) (workers most : Int) (w : World) (hr : PRow w a l) (hlen : l.length = len) (hl : ∀ p ∈ l, PkOk p) (hl2 : len ≤ 1000000) (hlc : len ≤ c) (hc2 : c ≤ 9223372036854775807) (hm : most ≤ 9223372036854775807) :
    Calls Try.prog 13 #[.slice a len c, .int .i64 workers, .int .i64 most] w (FPost (fairI l workers most) w) := by
  by_cases h : 1 ≤ workers ∧ workers ≤ 64 ∧ 1 ≤ most
  · obtain ⟨n, rfl⟩ := Int.eq_ofNat_of_zero_le (show 0 ≤ workers by omega)
    obtain ⟨k, rfl⟩ := Int.eq_ofNat_of_zero_le (show 0 ≤ most by omega)
    rw [fairI_ok (by omega) (by omega) (by omega)]
    exact fair_ok a len c l n k w hr hlen hl hl2 hlc hc2 (by omega) (by omega) (by omega) (by omega)
  · rw [fairI_bad h]; exact fair_bad a len c workers most w h
theorem rfair_any (a : Option Addr) (len c : Nat) (l : List Pk) (workers most : Int) (w : World) (hr : PRow w a l) (hlen : l.length = len) (hl : ∀ p ∈ l, PkOk p) (hl2 : len ≤ 1000000) (hm : most ≤ 9223372036854775807) :
    Calls Try.prog 14 #[.slice a len c, .int .i64 workers, .int .i64 most] w fun r w' => r = .returned (.bool (fairI l workers most)) ∧ w = w' := by
  by_cases h : 1 ≤ workers ∧ workers ≤ 64 ∧ 1 ≤ most
  · obtain ⟨n, rfl⟩ := Int.eq_ofNat_of_zero_le (show 0 ≤ workers by omega)
    obtain ⟨k, rfl⟩ := Int.eq_ofNat_of_zero_le (show 0 ≤ most by omega)
    rw [fairI_ok (by omega) (by omega) (by omega)]
    exact rfair_ok a len c l n k w hr hlen hl hl2 (by omega) (by omega) (by omega) (by omega)
  · rw [fairI_bad h]; exact rfair_bad a len c l workers most w h
set_option maxHeartbeats 2000000 in
theorem walk_PicksFair (w : World) (a0 : Option Addr) (l : List Pk) (cap : Nat) (hr : PRow w a0 l) (hl : ∀ p ∈ l, PkOk p) (hcap : l.length ≤ cap) (hm : cap ≤ maxLen) (n : Int) (wn : (Lit.int .i64 n).wf = true) (k : Int) (wk : (Lit.int .i64 k).wf = true) :
    Calls Try.prog 4 #[.slice a0 l.length cap, .int .i64 n, .int .i64 k] w fun e w' => e = .returned (.bool true) ∧ Below w.heap.size w w' := by
  have HL := hide hl
  have hk := (i64_of wk).2
  clear wn wk hl
  by_cases hlen : l.length ≤ 300
  · obtain ⟨i0, hi, hz0, hz1, hz2⟩ := info_parts info29
    have hown := hide (World.ownsRow_made (base := w.heap.size) (e := 29) (size := 2) w #[] 0 (Nat.le_refl _) (by simp) rfl)
    go_enter Try.func4, Try.ntmps4
    go_wp2_with (at_builtin; refine wpList_append_rows rfl _ _ 22 rfl w.heap.size 29 i0 (.agg #[.int .i64 0, .int .i64 0]) 2 16 Try.underlying22 hi hz0 hz1 hz2 rfl (by decide) _ _ _ rfl hown.out a0 l.length cap (l.map pcell) rfl (hr.below ((Below.refl _ _).alloc (Nat.le_refl _) _)) (by simp) (pcell_len l) (pcell_one l) ?c1 ?c2 ?c3 ?_)
    case c1 => unfold maxLen; omega
    case c2 => omega
    case c3 => simp
    intro v' w1 hown' hgrow _
    (try simp only [List.nil_append, Nat.zero_add] at hown')
    obtain ⟨a5, c5, rfl, hc5, hm5, _, G5⟩ := own_rowG (pcell_len l) (by decide) hown'
    have t1 : Hid (Below w.heap.size w w1) := hide (below_grown (a := w) ((Below.refl _ _).alloc (Nat.le_refl _) _) hgrow (fun q hq => own_ge hown.out q hq))
    have G5 := hide G5
    clear hown' hgrow hown
    unfold maxLen at hm5
    go_wp2_with fail
    refine (fair_any a5 l.length c5 l n k w1 G5.out.1 rfl HL.out (by omega) hc5 (by omega) hk).mono ?_
    rintro r w2 ⟨rfl, k2⟩
    have t2 := hide (below_call (w := w) t1.out k2)
    clear k2
    go_wp2_with fail
    refine (rfair_any a0 l.length cap l n k w2 (hr.below t2.out) rfl HL.out (by omega) hk).mono ?_
    rintro r w3 ⟨rfl, rfl⟩
    generalize fairI l n k = x
    go_wp2_with fail
    refine (works_any w2).mono ?_
    rintro r w3 ⟨rfl, k3⟩
    have t3 := hide (below_call (w := w) t2.out k3)
    clear k3
    go_wp2
    go_returns
    exact ⟨rfl, t3.out⟩
  · go_enter Try.func4, Try.ntmps4
    go_wp2_with fail
    refine (works_any w).mono ?_
    rintro r w2 ⟨rfl, k2⟩
    go_wp2
    go_returns
    exact ⟨rfl, k2⟩
end Go.Proofs.Ytkjmknmcadloaaa
