/- The walk of PicksMore. -/
import Derived.Test.YtkjmknmcadloaaaPDrawW
namespace Go.Proofs.Ytkjmknmcadloaaa
open Go.RowKit

theorem PRow.drop {w : World} {b off : Nat} {l : List Pk} (h : PRow w (some ⟨b, off, none⟩) l) (m : Nat) : PRow w (some ⟨b, off + m * 2, none⟩) (l.drop m) := by
  refine ⟨by have := h.1; simp at this ⊢; omega, fun hp => ?_⟩
  have hp' : m < l.length := by simp at hp; omega
  obtain ⟨b', off', ha, hb, hc⟩ := h.2 (by simp; omega)
  obtain ⟨rfl, rfl⟩ : b = b' ∧ off = off' := by simpa using ha
  refine ⟨b, _, rfl, hb, fun i hi j hj => ?_⟩
  have hi' : i + m < l.length := by simp at hi; omega
  simp only [List.getElem_map, List.getElem_drop] at hj ⊢
  have := hc (m + i) (by simp; omega) j (by simpa using hj)
  rw [show off + m * 2 + i * 2 + j = off + (m + i) * 2 + j from by omega, this]
  simp
theorem PRow.nil (w : World) (a : Option Addr) : PRow w a [] := ⟨by simp, fun h => by simp at h⟩
theorem fair_is {x : Bool} (a : Option Addr) (len c : Nat) (l : List Pk) (workers most : Int) (w : World) (hx : fairI l workers most = x) (hr : PRow w a l) (hlen : l.length = len) (hl : ∀ p ∈ l, PkOk p) (hl2 : len ≤ 1000000) (hlc : len ≤ c) (hc2 : c ≤ 9223372036854775807) (hm : most ≤ 9223372036854775807) :
    Calls Try.prog 13 #[.slice a len c, .int .i64 workers, .int .i64 most] w (FPost x w) := by subst hx; exact fair_any a len c l workers most w hr hlen hl hl2 hlc hc2 hm
set_option maxHeartbeats 4000000 in
theorem walk_PicksMore (w : World) (a0 : Option Addr) (l : List Pk) (cap : Nat) (hr : PRow w a0 l) (hl : ∀ p ∈ l, PkOk p) (hcap : l.length ≤ cap) (hm : cap ≤ maxLen) (wk : Int) (wwk : (Lit.int .u8 wk).wf = true) (mo : Int) (wmo : (Lit.int .u8 mo).wf = true)
    (me : Int) (wme : (Lit.int .u8 me).wf = true) (cu : Int) (wcu : (Lit.int .u8 cu).wf = true) :
    Calls Try.prog 6 #[.slice a0 l.length cap, .int .u8 wk, .int .u8 mo, .int .u8 me, .int .u8 cu] w fun e w' => e = .returned (.bool true) ∧ Below w.heap.size w w' := by
  have HL := hide hl
  obtain ⟨k0, k1⟩ := u8_of wwk
  obtain ⟨m0, m1⟩ := u8_of wmo
  obtain ⟨e0, e1⟩ := u8_of wme
  obtain ⟨c0, c1⟩ := u8_of wcu
  clear wwk wmo wme wcu hl
  obtain ⟨wk, rfl⟩ := Int.eq_ofNat_of_zero_le k0
  obtain ⟨mo, rfl⟩ := Int.eq_ofNat_of_zero_le m0
  obtain ⟨me, rfl⟩ := Int.eq_ofNat_of_zero_le e0
  obtain ⟨cu, rfl⟩ := Int.eq_ofNat_of_zero_le c0
  unfold maxLen at hm
  by_cases hlen : l.length ≤ 300
  · have hN : ∀ x : Int, (1 ≤ x) → fairI l (1 + wk % 10) x = fair (1 + wk % 10) l x.toNat := fun x hx => by
      obtain ⟨k, rfl⟩ := Int.eq_ofNat_of_zero_le (show 0 ≤ x by omega)
      rw [show (1 + (wk : Int) % 10) = ((1 + wk % 10 : Nat) : Int) from by omega, fairI_ok (by omega) (by omega) (by omega)]
      rfl
    have hN2 : ∀ x : Int, (1 ≤ x) → fairI (l.drop cu) (1 + wk % 10) x = fair (1 + wk % 10) (l.drop cu) x.toNat := fun x hx => by
      obtain ⟨k, rfl⟩ := Int.eq_ofNat_of_zero_le (show 0 ≤ x by omega)
      rw [show (1 + (wk : Int) % 10) = ((1 + wk % 10 : Nat) : Int) from by omega, fairI_ok (by omega) (by omega) (by omega)]
      rfl
    cases hf : fair (1 + wk % 10) l (1 + mo) with
    | false =>
      have hsh := fair_short hf
      have HF : Hid (fairI l (1 + wk % 10) (1 + mo) = false) := hide (by rw [hN _ (by omega), show ((1 : Int) + mo).toNat = 1 + mo from by omega, hf])
      clear hN hN2 hf
      go_enter Try.func6, Try.ntmps6
      go_wp2_with fail
      refine (fair_is a0 l.length cap l (1 + wk % 10) (1 + mo) w HF.out hr rfl HL.out (by omega) hcap (by omega) (by omega)).mono ?_
      rintro r w2 ⟨rfl, k2⟩
      have t2 := hide k2
      clear k2
      go_wp2_with fail
      refine (works_any _).mono ?_
      rintro r w9 ⟨rfl, k9⟩
      have t9 := hide (below_call (w := w) t2.out k9)
      clear k9
      go_wp2
      go_returns
      exact ⟨rfl, t9.out⟩
    | true =>
      have hl := fair_least (by omega) hf
      have HF : Hid (fairI l (1 + wk % 10) (1 + mo) = true) := hide (by rw [hN _ (by omega), show ((1 : Int) + mo).toNat = 1 + mo from by omega, hf])
      have HF2 : Hid (fairI l (1 + wk % 10) (1 + mo + me) = true) := hide (by rw [hN _ (by omega)]; exact fair_more hf (by omega))
      have HF3 : Hid (fairI (l.drop cu) (1 + wk % 10) (1 + mo) = true) := hide (by rw [hN2 _ (by omega), show ((1 : Int) + mo).toNat = 1 + mo from by omega]; exact fair_part hf)
      clear hN hN2 hf
      go_enter Try.func6, Try.ntmps6
      go_wp2_with fail
      refine (fair_is a0 l.length cap l (1 + wk % 10) (1 + mo) w HF.out hr rfl HL.out (by omega) hcap (by omega) (by omega)).mono ?_
      rintro r w2 ⟨rfl, k2⟩
      have t2 := hide k2
      clear k2
      by_cases hcu : cu < l.length
      · obtain ⟨b, off, rfl, _, _⟩ := p_at hr (by omega)
        go_wp2_with fail
        refine (fair_is _ l.length _ l (1 + wk % 10) (1 + mo + me) w2 HF2.out (hr.below t2.out) rfl HL.out (by omega) hcap (by omega) (by omega)).mono ?_
        rintro r w3 ⟨rfl, k3⟩
        have t3 := hide (below_call (w := w) t2.out k3)
        clear k3
        go_wp2_with fail
        refine (fair_is _ (l.length - cu) _ (l.drop cu) (1 + wk % 10) (1 + mo) w3 HF3.out (PRow.drop (hr.below t3.out) cu) (by simp) (fun p hp => HL.out p (List.mem_of_mem_drop hp)) (by omega) (by omega) (by omega) (by omega)).mono ?_
        rintro r w4 ⟨rfl, k4⟩
        have t4 := hide (below_call (w := w) t3.out k4)
        clear k4
        by_cases hnk : 1 + wk % 10 ≤ 1 + mo
        · go_wp2_with fail
          refine (works_any _).mono ?_
          rintro r w9 ⟨rfl, k9⟩
          have t9 := hide (below_call (w := w) t4.out k9)
          clear k9
          go_wp2
          go_returns
          exact ⟨rfl, t9.out⟩
        · have hlk : (l.length : Int) < 1 + mo := by
            rcases hl with hl | hl
            · omega
            · omega
          go_wp2_with fail
          refine (works_any _).mono ?_
          rintro r w9 ⟨rfl, k9⟩
          have t9 := hide (below_call (w := w) t4.out k9)
          clear k9
          go_wp2
          go_returns
          exact ⟨rfl, t9.out⟩
      · rw [List.drop_eq_nil_of_le (show l.length ≤ cu by omega)] at HF3
        by_cases hcl : cap = l.length
        · subst hcl
          go_wp2_with fail
          refine (fair_is _ l.length _ l (1 + wk % 10) (1 + mo + me) w2 HF2.out (hr.below t2.out) rfl HL.out (by omega) hcap (by omega) (by omega)).mono ?_
          rintro r w3 ⟨rfl, k3⟩
          have t3 := hide (below_call (w := w) t2.out k3)
          clear k3
          go_wp2_with fail
          refine (fair_is _ (0) _ ([]) (1 + wk % 10) (1 + mo) w3 HF3.out (PRow.nil _ _) (rfl) (by simp) (by omega) (by omega) (by omega) (by omega)).mono ?_
          rintro r w4 ⟨rfl, k4⟩
          have t4 := hide (below_call (w := w) t3.out k4)
          clear k4
          by_cases hnk : 1 + wk % 10 ≤ 1 + mo
          · go_wp2_with fail
            refine (works_any _).mono ?_
            rintro r w9 ⟨rfl, k9⟩
            have t9 := hide (below_call (w := w) t4.out k9)
            clear k9
            go_wp2
            go_returns
            exact ⟨rfl, t9.out⟩
          · have hlk : (l.length : Int) < 1 + mo := by
              rcases hl with hl | hl
              · omega
              · omega
            go_wp2_with fail
            refine (works_any _).mono ?_
            rintro r w9 ⟨rfl, k9⟩
            have t9 := hide (below_call (w := w) t4.out k9)
            clear k9
            go_wp2
            go_returns
            exact ⟨rfl, t9.out⟩
        · have hcl' : l.length < cap := by omega
          go_wp2_with fail
          refine (fair_is _ l.length _ l (1 + wk % 10) (1 + mo + me) w2 HF2.out (hr.below t2.out) rfl HL.out (by omega) hcap (by omega) (by omega)).mono ?_
          rintro r w3 ⟨rfl, k3⟩
          have t3 := hide (below_call (w := w) t2.out k3)
          clear k3
          go_wp2_with fail
          refine (fair_is _ (0) _ ([]) (1 + wk % 10) (1 + mo) w3 HF3.out (PRow.nil _ _) (rfl) (by simp) (by omega) (by omega) (by omega) (by omega)).mono ?_
          rintro r w4 ⟨rfl, k4⟩
          have t4 := hide (below_call (w := w) t3.out k4)
          clear k4
          by_cases hnk : 1 + wk % 10 ≤ 1 + mo
          · go_wp2_with fail
            refine (works_any _).mono ?_
            rintro r w9 ⟨rfl, k9⟩
            have t9 := hide (below_call (w := w) t4.out k9)
            clear k9
            go_wp2
            go_returns
            exact ⟨rfl, t9.out⟩
          · have hlk : (l.length : Int) < 1 + mo := by
              rcases hl with hl | hl
              · omega
              · omega
            go_wp2_with fail
            refine (works_any _).mono ?_
            rintro r w9 ⟨rfl, k9⟩
            have t9 := hide (below_call (w := w) t4.out k9)
            clear k9
            go_wp2
            go_returns
            exact ⟨rfl, t9.out⟩
  · go_enter Try.func6, Try.ntmps6
    go_wp2_with fail
    refine (works_any w).mono ?_
    rintro r w2 ⟨rfl, k2⟩
    go_wp2
    go_returns
    exact ⟨rfl, k2⟩
end Go.Proofs.Ytkjmknmcadloaaa
