/- Walk: Take. -/
import Derived.Test.YtmngndmcidbakaaRows
import Derived.Test.YtmngndmcidbakaaNm
import Derived.Test.YtmngndmcidbakaaRegA
import Derived.Test.YtmngndmcidbakaaInts
import Derived.WalkMore
import Derived.Deep.CutRange
import Derived.Deep.CutBlock
import Derived.Laws.BitsAllLaws
namespace Go.Proofs.Ytmngndmcidbakaa
open Go.RowKit

theorem or_u64 {s z : Nat} (hz : z < 256) (hs : s < 72057594037927936) : bits BinOp.or IntKind.u64 ((s : Int) * 256) (z : Int) = ((s * 256 + z : Nat) : Int) := by
  have e : ((s : Int) * 256) = ((s * 256 : Nat) : Int) := by omega
  rw [e, u64_or_nat (s * 256) z (by omega) (by omega)]
  congr 1
  rw [show s * 256 = s <<< 8 from by rw [Nat.shiftLeft_eq], ← Nat.shiftLeft_add_eq_or_of_lt (by omega)]
theorem wneg {s : Nat} (h : s ≤ 9223372036854775808) : wrap64 (IntKind.u64.wrap (-(s : Int))) = -(s : Int) := by
  simp only [wrap64, IntKind.wrap, IntKind.bits, IntKind.signed]
  simp
  omega
def bys (l : List Int) : List Value := l.map (Value.int .u8)
theorem bys_len (l : List Int) : (bys l).length = l.length := by simp [bys]
def BRow (W : World) (a : Option Addr) (l : List Int) : Prop := Row W a (bys l)
theorem BRow.below {w w' : World} {a : Option Addr} {l : List Int} (h : BRow w a l) (hb : Below w.heap.size w w') : BRow w' a l := Row.below h hb
theorem BRow.len {w : World} {a : Option Addr} {l : List Int} (h : BRow w a l) : l.length ≤ 9223372036854775807 := by have := h.1; rwa [bys_len] at this
theorem b_at {w : World} {a : Option Addr} {l : List Int} (h : BRow w a l) (hp : 0 < l.length) : ∃ b off, a = some ⟨b, off, none⟩ ∧ b < w.heap.size ∧ ∀ i (hi : i < l.length), w.cell? ⟨b, off + i, none⟩ = some (.int .u8 l[i]) := by
  obtain ⟨b, off, ha, hb, hc⟩ := h.2 (by rw [bys_len]; exact hp)
  refine ⟨b, off, ha, hb, fun i hi => ?_⟩
  have := hc i (by rw [bys_len]; exact hi)
  simpa [bys] using this
def TkPost (t : Int × Int × Int) (w : World) (r : Ending) (w' : World) : Prop := r = .returned (.tuple #[.int .i64 t.1, .int .i64 t.2.1, .int .i64 t.2.2]) ∧ Below w.heap.size w w'
set_option maxRecDepth 100000 in
set_option maxHeartbeats 2000000 in
theorem take_any (a : Option Addr) (b : List Int) (c : Nat) (at_ : Int) (w : World) (hr : BRow w a b) (hb : ∀ x ∈ b, Byt x) (hc : b.length ≤ c) (hc2 : c ≤ maxLen) (hn : b.length ≤ 10000000) (ha : -9223372036854775808 ≤ at_ ∧ at_ ≤ 9223372036854775807) :
    Calls Try.prog 10 #[.slice a b.length c, .int .i64 at_] w (TkPost (tk b at_) w) := by
  have HR := hide hr
  have HB := hide hb
  unfold maxLen at hc2
  clear hr hb
  go_enter Try.func10, Try.ntmps10
  by_cases h1 : at_ < 0
  · have HT : Hid (tk b at_ = (0, 0, 1)) := hide (by unfold tk; rw [if_pos (.inl h1)])
    rw [HT.out]
    go_wp2_with fail
    go_returns
    exact ⟨rfl, Below.refl _ _⟩
  have d1 : decide (at_ < 0) = false := by simpa using h1
  by_cases h2 : (b.length : Int) < at_
  · have HT : Hid (tk b at_ = (0, 0, 1)) := hide (by unfold tk; rw [if_pos (.inr h2)])
    rw [HT.out]
    go_wp2_with fail
    go_returns
    exact ⟨rfl, Below.refl _ _⟩
  have d2 : decide ((b.length : Int) < at_) = false := by simpa using h2
  obtain ⟨p, rfl⟩ := Int.eq_ofNat_of_zero_le (show 0 ≤ at_ by omega)
  by_cases h3 : p = b.length
  · subst h3
    have HT : Hid (tk b b.length = (0, 0, 5)) := hide tk_end
    rw [HT.out]
    go_wp2_with fail
    go_returns
    exact ⟨rfl, Below.refl _ _⟩
  have d3 : ((p : Int) == (b.length : Int)) = false := by rw [beq_eq_false_iff_ne]; omega
  have hpl : p < b.length := by omega
  have HT := hide (tk_at hpl)
  obtain ⟨bb, off, rfl, hbb, hcell⟩ := b_at HR.out (by omega)
  have x0 := hcell p hpl
  obtain ⟨hh1, hh2⟩ := HB.out _ (List.getElem_mem hpl)
  have HC := hide hcell
  clear hcell
  generalize b[p] = h at x0 HT hh1 hh2
  obtain ⟨l, hl⟩ : ∃ l, l = b.drop (p + 1) := ⟨_, rfl⟩
  have hll : l.length = b.length - (p + 1) := by rw [hl, List.length_drop]
  rw [← hl] at HT
  have HL := hide hl
  have HLB : Hid (∀ x ∈ l, Byt x) := hide (fun x hx => HB.out x (List.mem_of_mem_drop (hl ▸ hx)))
  have HLC : Hid (∀ i (hi : i < l.length), w.cell? ⟨bb, off + (p + 1) + i, none⟩ = some (.int .u8 l[i])) := hide (fun i hi => by
    have := HC.out (p + 1 + i) (by omega)
    rw [show off + (p + 1) + i = off + (p + 1 + i) from by omega, this]
    congr 2
    subst hl
    rw [List.getElem_drop])
  have hhd : ∀ h0 : 0 < l.length, l.headD 0 = l[0] := fun h0 => by cases l with | nil => simp at h0 | cons x t => rfl
  have HHD := hide hhd
  clear hl hhd HB
  by_cases h4 : h = 0
  · subst h4
    have HT2 : Hid (tk b p = (0, (p : Int) + 1, 0)) := hide (by rw [HT.out]; rfl)
    rw [HT2.out]
    go_wp2_with fail
    go_returns
    exact ⟨rfl, Below.refl _ _⟩
  have d4 : (h == 0) = false := by simpa using h4
  have h4' := hide h4
  clear h4
  by_cases h5 : 16 < h
  · have d5 : decide (16 < h) = true := by simpa using h5
    obtain ⟨k, hk⟩ : ∃ k : Nat, h - 16 = (k : Int) := ⟨(h - 16).toNat, by omega⟩
    have hk1 : 1 ≤ k := by omega
    have HBAD : Hid (8 < (k : Int) ∨ (l.length : Int) < k ∨ l.headD 0 = 0 → tk b p = (0, 0, 5)) := hide (fun hx => by rw [HT.out]; exact tkc_bad h4'.out (by rw [if_pos h5]; exact hk.symm) hx)
    have HGOOD : Hid (k ≤ 8 → k ≤ l.length → l.headD 0 ≠ 0 → tk b p = if val (l.take k) ≤ 9223372036854775808 then (-(val (l.take k) : Int), (p : Int) + 1 + k, 0) else (0, 0, 5)) := hide (fun a1 a2 a3 => by rw [HT.out]; exact tkc_neg hk hk1 a1 a2 a3)
    clear HT h4'
    go_upto_region 12 with fail
    clear hk h5 d5
    have e0 : decide ((k : Int) < 1) = false := by rw [decide_eq_false_iff_not]; omega
    by_cases c2 : 8 < k
    · have e1 : decide (8 < (k : Int)) = true := by rw [decide_eq_true_eq]; omega
      have HT2 := hide (HBAD.out (by omega))
      go_wp2_with fail
      go_returns
      exact ⟨by rw [HT2.out]; rfl, Below.refl _ _⟩
    have e1 : decide (8 < (k : Int)) = false := by rw [decide_eq_false_iff_not]; omega
    by_cases c3 : l.length < k
    · have e2 : decide ((b.length : Int) - ((p : Int) + 1) < (k : Int)) = true := by rw [decide_eq_true_eq]; omega
      have HT2 := hide (HBAD.out (by omega))
      go_wp2_with fail
      go_returns
      exact ⟨by rw [HT2.out]; rfl, Below.refl _ _⟩
    have e2 : decide ((b.length : Int) - ((p : Int) + 1) < (k : Int)) = false := by rw [decide_eq_false_iff_not]; omega
    have hl0 : 0 < l.length := by omega
    have x1 := HLC.out 0 hl0
    rw [Nat.add_zero] at x1
    have HH1 := hide (HHD.out hl0)
    by_cases c4 : l[0] = 0
    · have HT2 := hide (HBAD.out (.inr (.inr (by rw [HH1.out]; exact c4))))
      rw [c4] at x1
      clear c4
      go_wp2_with fail
      go_returns
      exact ⟨by rw [HT2.out]; rfl, Below.refl _ _⟩
    have HG := hide (HGOOD.out (by omega) (by omega) (by rw [HH1.out]; exact c4))
    have e4 : (l[0] == 0) = false := by simpa using c4
    clear c4 HH1 HBAD HGOOD HHD
    generalize l[0] = z0 at x1 e4
    go_wp2_with fail
    clear x1 e4
    go_loopw [9, 67] (fun sv iv wr => ∃ i : Nat, i ≤ k ∧ iv = .int .i64 i ∧ sv = .int .u64 (val (l.take i) : Nat) ∧ wr = w) (fun _ iv _ => k - (intOf iv).toNat)
    case atStart => exact ⟨0, Nat.zero_le _, rfl, rfl, rfl⟩
    case round =>
      obtain ⟨i, hi, rfl, rfl, rfl⟩ := hrel
      by_cases hik : i < k
      · have hil : i < l.length := by omega
        have x2 := HLC.out i hil
        obtain ⟨q1, q2⟩ := HLB.out _ (List.getElem_mem hil)
        have HV : Hid (val (l.take (i + 1)) = val (l.take i) * 256 + l[i].toNat) := hide (by rw [List.take_succ_eq_append_getElem hil, val_snoc])
        have hv := val_lt (l.take i) (fun x hx => HLB.out x (List.mem_of_mem_take hx))
        rw [List.length_take, Nat.min_eq_left (by omega)] at hv
        have hv2 : val (l.take i) < 72057594037927936 := by
          have : 256 ^ i ≤ 256 ^ 7 := Nat.pow_le_pow_right (by omega) (by omega)
          have : (256 : Nat) ^ 7 = 72057594037927936 := by decide
          omega
        clear hv
        generalize l[i] = z at x2 q1 q2 HV
        generalize val (l.take i) = s at HV hv2
        obtain ⟨z', rfl⟩ := Int.eq_ofNat_of_zero_le q1
        have HO := hide (or_u64 (s := s) (z := z') (by omega) hv2)
        go_wp2_with fail
        go_roundw
        case rel => exact ⟨i + 1, hik, by go_num, by rw [HO.out, HV.out, Int.toNat_natCast], trivial⟩
        case measure => simp [intOf]; omega
      · obtain rfl : i = k := by omega
        generalize val (l.take i) = s at HG
        by_cases c5 : s ≤ 9223372036854775808
        · have hw := hide (wneg c5)
          have d6 : decide ((s : Int) ≤ 9223372036854775808) = true := by rw [decide_eq_true_eq]; omega
          go_wp2_with fail
          go_returns
          exact ⟨by rw [HG.out, if_pos c5]; show Ending.returned (.tuple #[.int .i64 (wrap64 (IntKind.u64.wrap (-(s : Int)))), .int .i64 ((p : Int) + 1 + (i : Int)), .int .i64 0]) = _; rw [hw.out], Below.refl _ _⟩
        · have d6 : decide ((s : Int) ≤ 9223372036854775808) = false := by rw [decide_eq_false_iff_not]; omega
          go_wp2_with fail
          go_returns
          exact ⟨by rw [HG.out, if_neg c5]; rfl, Below.refl _ _⟩
  · have d5 : decide (16 < h) = false := by simpa using h5
    obtain ⟨k, rfl⟩ := Int.eq_ofNat_of_zero_le hh1
    have hk1 : 1 ≤ k := by have := h4'.out; omega
    have HBAD : Hid (8 < (k : Int) ∨ (l.length : Int) < k ∨ l.headD 0 = 0 → tk b p = (0, 0, 5)) := hide (fun hx => by rw [HT.out]; exact tkc_bad h4'.out (by rw [if_neg h5]) hx)
    have HGOOD : Hid (k ≤ 8 → k ≤ l.length → l.headD 0 ≠ 0 → tk b p = if val (l.take k) ≤ 9223372036854775807 then ((val (l.take k) : Int), (p : Int) + 1 + k, 0) else (0, 0, 5)) := hide (fun a1 a2 a3 => by rw [HT.out]; exact tkc_pos hk1 a1 a2 a3)
    clear HT h4'
    go_upto_region 12 with fail
    clear h5 d5
    have e0 : decide ((k : Int) < 1) = false := by rw [decide_eq_false_iff_not]; omega
    by_cases c2 : 8 < k
    · have e1 : decide (8 < (k : Int)) = true := by rw [decide_eq_true_eq]; omega
      have HT2 := hide (HBAD.out (by omega))
      go_wp2_with fail
      go_returns
      exact ⟨by rw [HT2.out]; rfl, Below.refl _ _⟩
    have e1 : decide (8 < (k : Int)) = false := by rw [decide_eq_false_iff_not]; omega
    by_cases c3 : l.length < k
    · have e2 : decide ((b.length : Int) - ((p : Int) + 1) < (k : Int)) = true := by rw [decide_eq_true_eq]; omega
      have HT2 := hide (HBAD.out (by omega))
      go_wp2_with fail
      go_returns
      exact ⟨by rw [HT2.out]; rfl, Below.refl _ _⟩
    have e2 : decide ((b.length : Int) - ((p : Int) + 1) < (k : Int)) = false := by rw [decide_eq_false_iff_not]; omega
    have hl0 : 0 < l.length := by omega
    have x1 := HLC.out 0 hl0
    rw [Nat.add_zero] at x1
    have HH1 := hide (HHD.out hl0)
    by_cases c4 : l[0] = 0
    · have HT2 := hide (HBAD.out (.inr (.inr (by rw [HH1.out]; exact c4))))
      rw [c4] at x1
      clear c4
      go_wp2_with fail
      go_returns
      exact ⟨by rw [HT2.out]; rfl, Below.refl _ _⟩
    have HG := hide (HGOOD.out (by omega) (by omega) (by rw [HH1.out]; exact c4))
    have e4 : (l[0] == 0) = false := by simpa using c4
    clear c4 HH1 HBAD HGOOD HHD
    generalize l[0] = z0 at x1 e4
    go_wp2_with fail
    clear x1 e4
    go_loopw [9, 67] (fun sv iv wr => ∃ i : Nat, i ≤ k ∧ iv = .int .i64 i ∧ sv = .int .u64 (val (l.take i) : Nat) ∧ wr = w) (fun _ iv _ => k - (intOf iv).toNat)
    case atStart => exact ⟨0, Nat.zero_le _, rfl, rfl, rfl⟩
    case round =>
      obtain ⟨i, hi, rfl, rfl, rfl⟩ := hrel
      by_cases hik : i < k
      · have hil : i < l.length := by omega
        have x2 := HLC.out i hil
        obtain ⟨q1, q2⟩ := HLB.out _ (List.getElem_mem hil)
        have HV : Hid (val (l.take (i + 1)) = val (l.take i) * 256 + l[i].toNat) := hide (by rw [List.take_succ_eq_append_getElem hil, val_snoc])
        have hv := val_lt (l.take i) (fun x hx => HLB.out x (List.mem_of_mem_take hx))
        rw [List.length_take, Nat.min_eq_left (by omega)] at hv
        have hv2 : val (l.take i) < 72057594037927936 := by
          have : 256 ^ i ≤ 256 ^ 7 := Nat.pow_le_pow_right (by omega) (by omega)
          have : (256 : Nat) ^ 7 = 72057594037927936 := by decide
          omega
        clear hv
        generalize l[i] = z at x2 q1 q2 HV
        generalize val (l.take i) = s at HV hv2
        obtain ⟨z', rfl⟩ := Int.eq_ofNat_of_zero_le q1
        have HO := hide (or_u64 (s := s) (z := z') (by omega) hv2)
        go_wp2_with fail
        go_roundw
        case rel => exact ⟨i + 1, hik, by go_num, by rw [HO.out, HV.out, Int.toNat_natCast], trivial⟩
        case measure => simp [intOf]; omega
      · obtain rfl : i = k := by omega
        generalize val (l.take i) = s at HG
        by_cases c5 : s ≤ 9223372036854775807
        · have d6 : decide ((s : Int) ≤ 9223372036854775807) = true := by rw [decide_eq_true_eq]; omega
          go_wp2_with fail
          go_returns
          exact ⟨by rw [HG.out, if_pos c5]; rfl, Below.refl _ _⟩
        · have d6 : decide ((s : Int) ≤ 9223372036854775807) = false := by rw [decide_eq_false_iff_not]; omega
          go_wp2_with fail
          go_returns
          exact ⟨by rw [HG.out, if_neg c5]; rfl, Below.refl _ _⟩
end Go.Proofs.Ytmngndmcidbakaa
