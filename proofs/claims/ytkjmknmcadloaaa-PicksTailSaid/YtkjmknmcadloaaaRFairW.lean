/- Walk: the reference's Fair. -/
import Derived.Test.YtkjmknmcadloaaaFairLaw
namespace Go.Proofs.Ytkjmknmcadloaaa
open Go.RowKit

def isw (n : Nat) (l : List Pk) (a m j : Nat) : Bool := decide (cntW n (win l a m) j ≠ 0)
theorem isw_zero (n : Nat) (l : List Pk) (a j : Nat) : isw n l a 0 j = false := by simp [isw, win, cntW]
theorem isw_succ {n : Nat} (hn : 1 ≤ n) {l : List Pk} {a m : Nat} (j : Nat) (h : a + m < l.length) : isw n l a (m + 1) j = (isw n l a m j || (l[a + m].w % (n : Int) == (j : Int))) := by
  unfold isw
  rw [win_snoc h, cntW_snoc hn, jw_eq hn]
  unfold bump
  by_cases e : j = jw n l[a + m]
  · rw [if_pos e, ← e]; simp
  · rw [if_neg e]
    have : ((jw n l[a + m] : Int) == (j : Int)) = false := by simp; omega
    rw [this]; simp
theorem fairAt_of {n : Nat} {l : List Pk} {a k : Nat} (h : ∀ j, j < n → isw n l a k j = true) : fairAt n l a k = true := by
  unfold fairAt; rw [beq_iff_eq, zeros_zero]; intro j hj
  have := h j hj; unfold isw at this; simpa using this
theorem fairAt_no {n : Nat} {l : List Pk} {a k j : Nat} (hj : j < n) (h : isw n l a k j = false) : fairAt n l a k = false := by
  unfold fairAt
  rw [← Bool.not_eq_true, beq_iff_eq, zeros_zero]
  intro h2
  have := h2 j hj
  unfold isw at h; simp at h; exact this h
def fairI (l : List Pk) (workers most : Int) : Bool := decide (1 ≤ workers) && decide (workers ≤ 64) && decide (1 ≤ most) && fair workers.toNat l most.toNat
theorem fairI_bad {l : List Pk} {workers most : Int} (h : ¬ (1 ≤ workers ∧ workers ≤ 64 ∧ 1 ≤ most)) : fairI l workers most = false := by
  unfold fairI
  by_cases h1 : 1 ≤ workers
  · by_cases h2 : workers ≤ 64
    · by_cases h3 : 1 ≤ most
      · exact absurd ⟨h1, h2, h3⟩ h
      · simp [h3]
    · simp [h2]
  · simp [h1]
theorem fairI_ok {l : List Pk} {n k : Nat} (h1 : 1 ≤ n) (h2 : n ≤ 64) (h3 : 1 ≤ k) : fairI l n k = fair n l k := by
  unfold fairI
  have e1 : (1 : Int) ≤ (n : Int) := by omega
  have e2 : (n : Int) ≤ 64 := by omega
  have e3 : (1 : Int) ≤ (k : Int) := by omega
  simp [e1, e2, e3]

theorem retb {x y : Bool} (h : x = y) : Ending.returned (.bool x) = .returned (.bool y) := by rw [h]
theorem rfair_bad (a : Option Addr) (len c : Nat) (l : List Pk) (workers most : Int) (w : World) (h : ¬ (1 ≤ workers ∧ workers ≤ 64 ∧ 1 ≤ most)) :
    Calls Try.prog 14 #[.slice a len c, .int .i64 workers, .int .i64 most] w fun r w' => r = .returned (.bool false) ∧ w = w' := by
  by_cases h1 : workers < 1
  · clear h
    go_enter Try.func14, Try.ntmps14
    go_wp2
    go_returns
    exact ⟨rfl, rfl⟩
  · have h1' : 1 ≤ workers := by omega
    clear h1
    have b1 : decide (workers < 1) = false := by simp; omega
    by_cases h2 : 64 < workers
    · clear h
      go_enter Try.func14, Try.ntmps14
      go_wp2
      go_returns
      exact ⟨rfl, rfl⟩
    · have b2 : decide (64 < workers) = false := by simp; omega
      have h3 : most < 1 := by omega
      clear h
      go_enter Try.func14, Try.ntmps14
      go_wp2
      go_returns
      exact ⟨rfl, rfl⟩
set_option maxHeartbeats 2000000 in
theorem rfair_ok (a : Option Addr) (len c : Nat) (l : List Pk) (n k : Nat) (w : World) (hr : PRow w a l) (hlen : l.length = len) (hl : ∀ p ∈ l, PkOk p) (hl2 : len ≤ 1000000) (hn : 1 ≤ n) (hn2 : n ≤ 64) (hk : 1 ≤ k) (hk2 : k ≤ 9223372036854775807) :
    Calls Try.prog 14 #[.slice a len c, .int .i64 n, .int .i64 k] w fun r w' => r = .returned (.bool (fair n l k)) ∧ w = w' := by
  have HN := hide hlen
  have HL := hide hl
  clear hlen hl
  have b1 : decide ((n : Int) < 1) = false := by simp; omega
  have b2 : decide (64 < (n : Int)) = false := by simp; omega
  have b3 : decide ((k : Int) < 1) = false := by simp; omega
  by_cases hkl : len < k
  · have HF : Hid (fair n l k = true) := hide (by unfold fair; rw [show l.length + 1 - k = 0 from by have := HN.out; omega]; rfl)
    go_enter Try.func14, Try.ntmps14
    go_wp2
    go_loop [7] (fun fr => fr = .int .i64 0) (fun _ => 0)
    case atStart => rfl
    case round =>
      obtain rfl := hrel
      go_wp2
      go_returns
      exact ⟨retb HF.out.symm, rfl⟩
  · have hkl' : k ≤ len := by omega
    clear hkl
    obtain ⟨b, off, rfl, hb, hc⟩ := p_at hr (by have := HN.out; omega)
    have HC := hide hc
    clear hc
    go_enter Try.func14, Try.ntmps14
    go_wp2
    go_loop [7] (fun fr => ∃ a : Nat, a + k ≤ len + 1 ∧ fr = .int .i64 a ∧ Hid (∀ a', a' < a → fairAt n l a' k = true)) (fun fr => len + 1 - (intOf fr).toNat)
    case atStart => exact ⟨0, by omega, rfl, hide (fun a' h => absurd h (by omega))⟩
    case round =>
      obtain ⟨a, ha, rfl, HA⟩ := hrel
      by_cases hlt : a + k ≤ len
      · go_wp2
        go_loop [8] (fun wv => ∃ j : Nat, j ≤ n ∧ wv = .int .i64 j ∧ Hid (∀ j', j' < j → isw n l a k j' = true)) (fun wv => n - (intOf wv).toNat)
        case atStart => exact ⟨0, by omega, rfl, hide (fun a' h => absurd h (by omega))⟩
        case round =>
          obtain ⟨j, hj, rfl, HJ⟩ := hrel
          by_cases hjn : j < n
          · go_wp2
            go_loop [9, 10] (fun is i => ∃ m : Nat, m ≤ k ∧ i = .int .i64 ((a + m : Nat) : Int) ∧ is = .bool (isw n l a m j)) (fun _ i => a + k - (intOf i).toNat)
            case atStart => exact ⟨0, by omega, rfl, by rw [isw_zero]⟩
            case round =>
              obtain ⟨m, hm, rfl, rfl⟩ := hrel
              by_cases hmk : m < k
              · have hlt2 : a + m < l.length := by have := HN.out; omega
                obtain ⟨x0, _⟩ := HC.out (a + m) hlt2
                have HP := hide (HL.out _ (List.getElem_mem hlt2))
                have HS := hide (isw_succ hn j hlt2)
                generalize l[a + m] = p at x0 HP HS
                cases hs : isw n l a m j with
                | true =>
                  rw [hs] at HS
                  clear hs
                  go_wp2
                  go_round
                  case rel => exact ⟨m + 1, by omega, by go_num, by rw [HS.out]; rfl⟩
                  case measure => simp [intOf]; omega
                | false =>
                  rw [hs] at HS
                  clear hs
                  have HR := hide (fun W => rround_any p.w n W (by omega) (by omega) HP.out.w.1 HP.out.w.2)
                  go_wp2_with fail
                  refine (HR.out _).mono ?_
                  rintro r w2 ⟨rfl, rfl⟩
                  generalize p.w % (n : Int) = q at HS
                  go_wp2
                  go_round
                  case rel => exact ⟨m + 1, by omega, by go_num, by rw [HS.out]; rfl⟩
                  case measure => simp [intOf]; omega
              · obtain rfl : m = k := by omega
                cases hs : isw n l a m j with
                | true =>
                  have HS := hide hs
                  clear hs
                  go_wp2
                  go_round
                  case rel => exact ⟨j + 1, by omega, by go_num, hide (fun j' h => by
                    rcases Nat.lt_or_ge j' j with h1 | h1
                    · exact HJ.out j' h1
                    · obtain rfl : j' = j := by omega
                      exact HS.out)⟩
                  case measure => simp [intOf]; omega
                | false =>
                  have HF : Hid (fair n l m = false) := hide (fair_not (by have := HN.out; omega) (fairAt_no hjn hs))
                  clear hs
                  go_wp2
                  go_returns
                  exact ⟨retb HF.out.symm, rfl⟩
          · obtain rfl : j = n := by omega
            have HF := hide (fairAt_of HJ.out)
            go_wp2
            go_round
            case rel => exact ⟨a + 1, by omega, by go_num, hide (fun j' h => by
              rcases Nat.lt_or_ge j' a with h1 | h1
              · exact HA.out j' h1
              · obtain rfl : j' = a := by omega
                exact HF.out)⟩
            case measure => simp [intOf]; omega
      · have HF : Hid (fair n l k = true) := hide (fair_take (m := a) (by have := HN.out; omega) HA.out (by have := HN.out; omega))
        go_wp2
        go_returns
        exact ⟨retb HF.out.symm, rfl⟩
end Go.Proofs.Ytkjmknmcadloaaa
