/- Walk: the reference's Take. -/
import Derived.Test.YtmngndmcidbakaaYB
namespace Go.Proofs.Ytmngndmcidbakaa
open Go.RowKit

theorem keepd {W : World} {p : Addr} {v : Value} (h : W.cell? p = some v) : ∀ w', w' = W.drew → w'.cell? p = some v := fun _ e => e ▸ h
theorem wcvt_neg {s : Nat} (h : s < 18446744073709551616) : wrap64 (IntKind.u64.wrap (-(s : Int))) = cvt true s := by
  unfold cvt
  rw [if_pos rfl]
  simp only [wrap64, IntKind.wrap, IntKind.bits, IntKind.signed]
  simp
  split <;> omega
theorem wcvt_pos {s : Nat} (h : s < 18446744073709551616) : wrap64 (s : Int) = cvt false s := by
  unfold cvt
  rw [if_neg (by simp)]
  simp only [wrap64]
  split <;> omega
theorem cvt_in {b : Bool} {s : Nat} (h : s < 18446744073709551616) : -9223372036854775808 ≤ cvt b s ∧ cvt b s ≤ 9223372036854775807 := by
  unfold cvt
  split <;> split <;> omega
theorem differ {l m : List Int} (hl : l.length = m.length) (h : l ≠ m) : ∃ j, ∃ h1 : j < l.length, ∃ h2 : j < m.length, l[j] ≠ m[j] := by
  refine Classical.byContradiction fun hno => h ?_
  refine List.ext_getElem hl fun j h1 h2 => ?_
  exact Classical.byContradiction fun hc => hno ⟨j, h1, h2, hc⟩
set_option maxRecDepth 100000 in
set_option maxHeartbeats 2000000 in
theorem rtake_any (a : Option Addr) (b : List Int) (c : Nat) (at_ : Int) (w : World) (hr : BRow w a b) (hb : ∀ x ∈ b, Byt x) (hn : b.length ≤ 10000000) (ha : -9223372036854775808 ≤ at_ ∧ at_ ≤ 9223372036854775807) :
    Calls Try.prog 12 #[.slice a b.length c, .int .i64 at_] w (TkPost (tk b at_) w) := by
  have HR := hide hr
  have HB := hide hb
  clear hr hb
  go_enter Try.func12, Try.ntmps12
  by_cases h1 : at_ < 0
  · have HT : Hid (tk b at_ = (0, 0, 1)) := hide (by unfold tk; rw [if_pos (.inl h1)])
    go_wp2_with fail
    go_returns
    exact ⟨by rw [HT.out]; rfl, Below.refl _ _⟩
  have d1 : decide (at_ < 0) = false := by simpa using h1
  by_cases h2 : (b.length : Int) < at_
  · have HT : Hid (tk b at_ = (0, 0, 1)) := hide (by unfold tk; rw [if_pos (.inr h2)])
    go_wp2_with fail
    go_returns
    exact ⟨by rw [HT.out]; rfl, Below.refl _ _⟩
  have d2 : decide ((b.length : Int) < at_) = false := by simpa using h2
  obtain ⟨p, rfl⟩ := Int.eq_ofNat_of_zero_le (show 0 ≤ at_ by omega)
  by_cases h3 : p = b.length
  · subst h3
    have HT : Hid (tk b b.length = (0, 0, 5)) := hide tk_end
    go_wp2_with fail
    go_returns
    exact ⟨by rw [HT.out]; rfl, Below.refl _ _⟩
  have d3 : ((p : Int) == (b.length : Int)) = false := by rw [beq_eq_false_iff_ne]; omega
  have hpl : p < b.length := by omega
  obtain ⟨bb, off, rfl, hbb, hcell⟩ := b_at HR.out (by omega)
  have x0 := hcell p hpl
  obtain ⟨hh1, hh2⟩ := HB.out _ (List.getElem_mem hpl)
  have HC := hide hcell
  clear hcell
  have HD : Hid (b.drop ((p : Int)).toNat = b[p] :: b.drop (p + 1)) := hide (by rw [Int.toNat_natCast]; exact List.drop_eq_getElem_cons hpl)
  generalize b[p] = h at x0 hh1 hh2 HD
  obtain ⟨l, hl⟩ : ∃ l, l = b.drop (p + 1) := ⟨_, rfl⟩
  have hll : l.length = b.length - (p + 1) := by rw [hl, List.length_drop]
  rw [← hl] at HD
  have HLB : Hid (∀ x ∈ l, Byt x) := hide (fun x hx => HB.out x (List.mem_of_mem_drop (hl ▸ hx)))
  have HLC : Hid (∀ i (hi : i < l.length), w.cell? ⟨bb, off + (p + 1 + i), none⟩ = some (.int .u8 l[i])) := hide (fun i hi => by
    have := HC.out (p + 1 + i) (by omega)
    rw [this]
    congr 2
    subst hl
    rw [List.getElem_drop])
  have HNO := hide (fun hx => tk_none (b := b) (at_ := (p : Int)) (by omega) HD.out HB.out hx)
  have HRT := hide (fun a1 a2 a3 => rt_tk (b := b) (at_ := (p : Int)) (by omega) HD.out HB.out a1 a2 a3)
  clear hl HB HD
  by_cases c1 : 32 ≤ h
  · have HT := hide (HNO.out (.inl c1))
    have e1 : decide (32 ≤ h) = true := by simpa using c1
    go_wp2_with fail
    go_returns
    exact ⟨by rw [HT.out]; rfl, Below.refl _ _⟩
  have e1 : decide (32 ≤ h) = false := by simpa using c1
  obtain ⟨k, hk⟩ : ∃ k : Nat, h % 16 = (k : Int) := ⟨(h % 16).toNat, by omega⟩
  by_cases c2 : 8 < k
  · have HT := hide (HNO.out (.inr (.inl (by omega))))
    have e2 : decide (8 < (k : Int)) = true := by rw [decide_eq_true_eq]; omega
    go_wp2_with fail
    go_returns
    exact ⟨by rw [HT.out]; rfl, Below.refl _ _⟩
  have e2 : decide (8 < (k : Int)) = false := by rw [decide_eq_false_iff_not]; omega
  by_cases c3 : l.length < k
  · have HT := hide (HNO.out (.inr (.inr (by omega))))
    have e3 : decide ((b.length : Int) - (p : Int) - 1 < (k : Int)) = true := by rw [decide_eq_true_eq]; omega
    go_wp2_with fail
    go_returns
    exact ⟨by rw [HT.out]; rfl, Below.refl _ _⟩
  have e3 : decide ((b.length : Int) - (p : Int) - 1 < (k : Int)) = false := by rw [decide_eq_false_iff_not]; omega
  have HT := hide (HRT.out (by omega) (by omega) (by omega))
  rw [hk, Int.toNat_natCast] at HT
  have hv := val_lt (l.take k) (fun x hx => HLB.out x (List.mem_of_mem_take hx))
  rw [List.length_take, Nat.min_eq_left (by omega)] at hv
  have hv64 : val (l.take k) < 18446744073709551616 := by
    have : 256 ^ k ≤ 256 ^ 8 := Nat.pow_le_pow_right (by omega) (by omega)
    have : (256 : Nat) ^ 8 = 18446744073709551616 := by decide
    omega
  have HV64 := hide hv64
  clear hv hv64 HNO HRT
  go_wp2_with fail
  go_loopw [8, 9] (fun sv iv wr => ∃ i : Nat, i ≤ k ∧ iv = .int .i64 i ∧ sv = .int .u64 (val (l.take i) : Nat) ∧ wr = w) (fun _ iv _ => k - (intOf iv).toNat)
  case atStart => exact ⟨0, Nat.zero_le _, rfl, rfl, rfl⟩
  case round =>
    obtain ⟨i, hi, rfl, rfl, rfl⟩ := hrel
    by_cases hik : i < k
    · have hil : i < l.length := by omega
      have x2 := HLC.out i hil
      rw [show off + (p + 1 + i) = off + (p + 1 + i) from rfl] at x2
      obtain ⟨q1, q2⟩ := HLB.out _ (List.getElem_mem hil)
      have HV : Hid (val (l.take (i + 1)) = val (l.take i) * 256 + l[i].toNat) := hide (by rw [List.take_succ_eq_append_getElem hil, val_snoc])
      have hv := val_lt (l.take i) (fun x hx => HLB.out x (List.mem_of_mem_take hx))
      rw [List.length_take, Nat.min_eq_left (by omega)] at hv
      have hv2 : val (l.take i) < 72057594037927936 := by
        have : 256 ^ i ≤ 256 ^ 7 := Nat.pow_le_pow_right (by omega) (by omega)
        have : (256 : Nat) ^ 7 = 72057594037927936 := by decide
        omega
      clear hv
      generalize l[i] = z at x2 q1 q2 HV
      generalize val (l.take i) = s at HV hv2
      obtain ⟨z', rfl⟩ := Int.eq_ofNat_of_zero_le q1
      go_wp2_with fail
      go_roundw
      case rel => exact ⟨i + 1, hik, by go_num, by rw [HV.out, Int.toNat_natCast]; go_num, trivial⟩
      case measure => simp [intOf]; omega
    · obtain rfl : i = k := by omega
      generalize val (l.take i) = s at HT HV64
      obtain ⟨n, hn'⟩ : ∃ n, n = cvt (decide (16 ≤ h)) s := ⟨_, rfl⟩
      rw [← hn'] at HT
      have hnin := cvt_in (b := decide (16 ≤ h)) HV64.out
      rw [← hn'] at hnin
      have HN := hide hn'
      clear hn'
      go_upto_if 71 with fail
      go_cut [10] from 65 to 74 (fun s10 wx => s10 = .int .i64 n ∧ wr = wx)
      case first =>
        by_cases c16 : 16 ≤ h
        · have d : decide (16 ≤ h) = true := by simpa using c16
          have HS : Hid (n = wrap64 (IntKind.u64.wrap (-(s : Int)))) := hide (by rw [HN.out, d, wcvt_neg HV64.out])
          rw [d]
          go_wp2_with fail
          go_meet
          exact ⟨by rw [HS.out], rfl⟩
        · have d : decide (16 ≤ h) = false := by simpa using c16
          have HS : Hid (n = wrap64 (s : Int)) := hide (by rw [HN.out, d, wcvt_pos HV64.out])
          rw [d]
          go_wp2_with fail
          go_meet
          exact ⟨by rw [HS.out], rfl⟩
      case rest =>
        obtain ⟨rfl, rfl⟩ := hcut
        clear HN HV64
        obtain ⟨w0, rfl⟩ : ∃ x, x = wr := ⟨_, rfl⟩
        go_wp2_with fail
        refine (rnumber_any n w0 hnin).mono ?_
        rintro r w2 ⟨v2, rfl, hO, k2⟩
        obtain ⟨a2, c2', rfl, _, _, hR2⟩ := hO.row
        have R2 := hide hR2
        have t2 := hide k2
        obtain ⟨o, ho⟩ : ∃ o, o = num n := ⟨_, rfl⟩
        obtain ⟨tg, htg⟩ : ∃ tg, tg = h :: l.take i := ⟨_, rfl⟩
        have htl : tg.length = i + 1 := by rw [htg, List.length_cons, List.length_take]; omega
        have hol : o.length ≤ 9 := by rw [ho]; unfold num; have := nb_len (abs_lt hnin); rw [List.length_cons]; omega
        have HTC : Hid (∀ j (hj : j < tg.length), w0.cell? ⟨bb, off + (p + j), none⟩ = some (.int .u8 tg[j])) := hide (fun j hj => by
          subst htg
          cases j with
          | zero => simpa using x0
          | succ j =>
            have := HLC.out j (by simp at hj; omega)
            rw [show off + (p + 1 + j) = off + (p + (j + 1)) from by omega] at this
            simpa using this)
        rw [← ho] at R2 HT ⊢
        rw [← htg] at HT
        clear hO k2 hR2 x0 HLC ho htg HLB
        by_cases hoe : o = tg
        · have HOE := hide hoe
          rw [hoe] at R2 ⊢
          rw [if_pos hoe] at HT
          clear hoe
          have HTL := hide htl
          go_wp2_with fail
          go_loopw [12] (fun jv wq => ∃ j : Nat, j ≤ i + 1 ∧ jv = .int .i64 j ∧ Below w2.heap.size w2 wq) (fun jv _ => i + 1 - (intOf jv).toNat)
          case atStart => exact ⟨0, Nat.zero_le _, rfl, Below.refl _ _⟩
          case round =>
            obtain ⟨j, hj, rfl, hbq⟩ := hrel
            have c4 := hide hbq
            clear hbq
            by_cases hjt : j < i + 1
            · have dj : decide ((j : Int) ≤ (i : Int)) = true := by rw [decide_eq_true_eq]; omega
              have dj2 : decide (j ≤ i) = true := by rw [decide_eq_true_eq]; omega
              obtain ⟨b3, o3, rfl, hb3, hc3⟩ := b_at (R2.out.below c4.out) (by omega)
              have z1 := hc3 j (by omega)
              have z2 : wr.cell? ⟨bb, off + (p + j), none⟩ = some (.int .u8 tg[j]) := ((t2.out.trans (c4.out.mono t2.out.size)).cell (p := ⟨bb, off + (p + j), none⟩) hbb).trans (HTC.out j (by omega))
              have bl : ((tg.length : Int) == (i : Int) + 1) = true := by rw [beq_iff_eq]; omega
              have bl2 : ((tg.length : Int) != (i : Int) + 1) = false := by simp [bne, bl]
              have hjl : j < tg.length := by omega
              clear hc3
              generalize tg[j] = zz at z1 z2
              go_upto_region 20 with fail
              have r1 := keepd z1
              have r2 := keepd z2
              clear z1 z2 htl HTL
              refine Reg.region (by kernel_rfl) 18 [] (fun _ w' => w' = wr.drew) (by kernel_rfl) (by kernel_rfl) rfl ?_
              iterate 18
                first
                  | refine Reg.WT.idle rfl rfl ?_
                  | (refine Reg.WT.yield (v := ?_) rfl rfl ?_ ?_
                     rotate_left
                     · intro w' _ hS; go_simp; (try go_bits); (first | rfl | rw [if_pos (by omega)]))
                simp only [Act.put, List.setIfInBounds_toArray, List.set_cons_zero, List.set_cons_succ]
              intro w6 hS
              subst hS
              clear r1 r2 bl bl2 dj dj2 hjl
              go_wp2_with fail
              go_roundw
              case rel => exact ⟨j + 1, hjt, by go_num, c4.out.drew⟩
              case measure => simp [intOf]; omega
            · have dj : decide ((j : Int) ≤ (i : Int)) = false := by rw [decide_eq_false_iff_not]; omega
              have dj2 : decide (j ≤ i) = false := by rw [decide_eq_false_iff_not]; omega
              have t3 := hide (below_call (w := w0) t2.out c4.out)
              go_wp2_with fail
              go_returns
              exact ⟨by rw [HT.out]; rfl, t3.out⟩
        · rw [if_neg hoe] at HT
          by_cases hlen : o.length = tg.length
          · obtain ⟨j0, hj1, hj2, hne⟩ := differ hlen hoe
            have HNE : Hid (∀ h1 : j0 < o.length, ∀ h2 : j0 < tg.length, o[j0] ≠ tg[j0]) := hide (fun _ _ => hne)
            clear hne hoe
            go_wp2_with fail
            go_loopw [12] (fun jv wq => ∃ j : Nat, j ≤ j0 ∧ jv = .int .i64 j ∧ Below w2.heap.size w2 wq) (fun jv _ => i + 1 - (intOf jv).toNat)
            case atStart => exact ⟨0, Nat.zero_le _, rfl, Below.refl _ _⟩
            case round =>
              obtain ⟨j, hj, rfl, hbq⟩ := hrel
              have c4 := hide hbq
              clear hbq
              have dj : decide ((j : Int) ≤ (i : Int)) = true := by rw [decide_eq_true_eq]; omega
              have dj2 : decide (j ≤ i) = true := by rw [decide_eq_true_eq]; omega
              obtain ⟨b3, o3, rfl, hb3, hc3⟩ := b_at (R2.out.below c4.out) (by omega)
              have hjo : j < o.length := by omega
              have hjg : j < tg.length := by omega
              have z1 := hc3 j hjo
              have z2 : wr.cell? ⟨bb, off + (p + j), none⟩ = some (.int .u8 tg[j]) := ((t2.out.trans (c4.out.mono t2.out.size)).cell (p := ⟨bb, off + (p + j), none⟩) hbb).trans (HTC.out j hjg)
              have HJE : Hid (o[j] = tg[j] → j ≠ j0) := hide (fun e1 e2 => by subst e2; exact HNE.out hjo hjg e1)
              have bl : ((o.length : Int) == (i : Int) + 1) = true := by rw [beq_iff_eq]; omega
              have bl2 : ((o.length : Int) != (i : Int) + 1) = false := by simp [bne, bl]
              have hj02 : j0 < i + 1 := by omega
              clear hc3 hj1 hj2
              generalize o[j] = ya at z1 HJE
              generalize tg[j] = yb at z2 HJE
              have HLEN := hide hlen
              have HTL := hide htl
              clear hlen htl
              go_upto_region 20 with fail
              have r1 := keepd z1
              have r2 := keepd z2
              clear z1 z2
              by_cases hyy : ya = yb
              · have hjj := HJE.out hyy
                subst hyy
                refine Reg.region (by kernel_rfl) 18 [] (fun _ w' => w' = wr.drew) (by kernel_rfl) (by kernel_rfl) rfl ?_
                iterate 18
                  first
                    | refine Reg.WT.idle rfl rfl ?_
                    | (refine Reg.WT.yield (v := ?_) rfl rfl ?_ ?_
                       rotate_left
                       · intro w' _ hS; go_simp; (try go_bits); (first | rfl | rw [if_pos (by omega)]))
                  simp only [Act.put, List.setIfInBounds_toArray, List.set_cons_zero, List.set_cons_succ]
                intro w6 hS
                subst hS
                clear r1 r2 bl bl2 dj dj2
                go_wp2_with fail
                go_roundw
                case rel => exact ⟨j + 1, by omega, by go_num, c4.out.drew⟩
                case measure => simp [intOf]; omega
              · have by1 : (ya == yb) = false := by simpa using hyy
                have by2 : (ya != yb) = true := by simpa using hyy
                refine Reg.region (by kernel_rfl) 18 [] (fun _ w' => w' = wr.drew) (by kernel_rfl) (by kernel_rfl) rfl ?_
                iterate 18
                  first
                    | refine Reg.WT.idle rfl rfl ?_
                    | (refine Reg.WT.yield (v := ?_) rfl rfl ?_ ?_
                       rotate_left
                       · intro w' _ hS; go_simp; (try go_bits); (first | rfl | rw [if_pos (by omega)]))
                  simp only [Act.put, List.setIfInBounds_toArray, List.set_cons_zero, List.set_cons_succ]
                intro w6 hS
                subst hS
                clear r1 r2 bl bl2 dj dj2
                have t3 := hide (below_call (w := w0) t2.out c4.out.drew)
                go_wp2_with fail
                go_returns
                exact ⟨by rw [HT.out]; rfl, t3.out⟩
          · have bl : ((o.length : Int) == (i : Int) + 1) = false := by rw [beq_eq_false_iff_ne]; omega
            have bl2 : ((o.length : Int) != (i : Int) + 1) = true := by simp [bne, bl]
            clear hlen htl hoe
            go_wp2_with fail
            go_loopw [12] (fun jv wq => jv = .int .i64 0 ∧ Below w2.heap.size w2 wq) (fun _ _ => 0)
            case atStart => exact ⟨rfl, Below.refl _ _⟩
            case round =>
              obtain ⟨rfl, hbq⟩ := hrel
              have c4 := hide hbq
              clear hbq
              have dj : decide (0 ≤ (i : Int)) = true := by rw [decide_eq_true_eq]; omega
              go_upto_region 20 with fail
              refine Reg.region (by kernel_rfl) 18 [] (fun _ w' => w' = wr.drew) (by kernel_rfl) (by kernel_rfl) rfl ?_
              iterate 18
                first
                  | refine Reg.WT.idle rfl rfl ?_
                  | (refine Reg.WT.yield (v := ?_) rfl rfl ?_ ?_
                     rotate_left
                     · intro w' _ hS; go_simp; (try go_bits); (first | rfl | rw [if_pos (by omega)]))
                simp only [Act.put, List.setIfInBounds_toArray, List.set_cons_zero, List.set_cons_succ]
              intro w6 hS
              subst hS
              clear bl bl2
              have t3 := hide (below_call (w := w0) t2.out c4.out.drew)
              go_wp2_with fail
              go_returns
              exact ⟨by rw [HT.out]; rfl, t3.out⟩
end Go.Proofs.Ytmngndmcidbakaa
