/- Walks: a field taken from bytes: length. -/
import Derived.Test.YtmngndmcidbakaaYT
import Derived.Test.YtmngndmcidbakaaHoldQ
import Derived.Test.YtmngndmcidbakaaHoldL
namespace Go.Proofs.Ytmngndmcidbakaa
open Go.RowKit
theorem OfV.lt {W : World} {B g off : Nat} (h : OfV W B g off) : g < W.heap.size := by
  cases h with
  | lit K t off ht hg h e c => exact h.lt
  | bound K t off gk j ht hg hk h hj e c => exact h.lt
theorem OfV.ne {W : World} {B g off sb : Nat} {cs : Array Value} (h : OfV W B g off) (hs : Blk W sb 49 cs) : g ≠ sb := by
  rintro rfl
  have key : ∀ t c, Blk W g t c → t ∈ OT → False := fun t c hb ht => by
    unfold Blk at hb hs
    rw [hb] at hs
    injection hs with hs
    injection hs with _ hs _
    subst hs
    revert ht
    decide
  cases h with
  | lit K t off ht hg h e c => exact key _ _ h ht
  | bound K t off gk j ht hg hk h hj e c => exact key _ _ h ht
theorem length_take {W0 W : World} {rb rc sb B g off : Nat} {ra : Option Addr} {b rest : List Int} {cs : Array Value} {x y : Int} (h : Rd W0 W rb ra rc b rest) (hs : Blk W sb 49 cs) (hb : W0.heap.size ≤ sb) (hne : sb ≠ rb) (hof : OfV W B g off) (hx : cs[off]? = some (.int .u8 x)) (hy : cs[off + 1]? = some (.int .i64 y)) :
    Calls Try.prog 79 #[.pointer (some ⟨rb, 0, none⟩), .pointer (some ⟨sb, 0, none⟩), .pointer (some ⟨g, 0, none⟩)] W (TK W0 rb ra rc b sb W ((decF 4 rest).map fun p => ((cs.setIfInBounds off (.int .u8 (p.1.getD 0 0))).setIfInBounds (off + 1) (.int .i64 (p.1.getD 1 0)), p.2))) := by
  have hc := small_ok h
  have HR := hide h
  have HS := hide hs
  have HOF := hide hof
  have HNE := hide hne
  clear h hs hof hne
  cases e : rdSm rest with
  | none =>
    have HE : Hid (decF 4 rest = none) := hide (by unfold decF; simp only [e])
    rw [e] at hc
    rw [HE.out]
    have HC := hide hc
    clear hc e
    go_enter Try.func79, Try.ntmps79
    go_wp2_with fail
    refine HC.out.mono ?_
    rintro r' w2 ⟨rfl, k2⟩
    have K2 := hide k2
    clear k2 HC
    go_wp2_with fail
    exact ⟨rfl, rfl, K2.out⟩
  | some p =>
    obtain ⟨k, r⟩ := p
    rw [e] at hc
    have HC := hide hc
    clear hc
    cases e2 : rdN r with
    | none =>
      have HE : Hid (decF 4 rest = none) := hide (by unfold decF; simp only [e, e2])
      rw [HE.out]
      clear e
      go_enter Try.func79, Try.ntmps79
      go_wp2_with fail
      refine HC.out.mono ?_
      rintro r' w2 ⟨rfl, R2, F2⟩
      have K2 := keeps_rb HR.out F2
      have O2 := hide (HOF.out.keeps K2)
      have B2 := hide (HS.out.foot F2 (by simpa using HNE.out))
      have R2 := hide R2
      have F2 := hide F2
      clear HC K2
      have hc2 := number_ok R2.out
      rw [e2] at hc2
      have HC2 := hide hc2
      clear hc2 e2
      go_wp2_with fail
      refine HC2.out.mono ?_
      rintro r' w3 ⟨rfl, k3⟩
      have K3 := hide k3
      clear k3 HC2
      go_wp2_with fail
      exact ⟨rfl, rfl, K3.out⟩
    | some p2 =>
      obtain ⟨n, r2⟩ := p2
      by_cases h0 : k = 0 ∧ n = 0
      · have HE : Hid (decF 4 rest = none) := hide (by unfold decF; simp only [e, e2]; exact if_pos h0)
        rw [HE.out]
        obtain ⟨rfl, rfl⟩ := h0
        clear e
        go_enter Try.func79, Try.ntmps79
        go_wp2_with fail
        refine HC.out.mono ?_
        rintro r' w2 ⟨rfl, R2, F2⟩
        have K2 := keeps_rb HR.out F2
        have O2 := hide (HOF.out.keeps K2)
        have B2 := hide (HS.out.foot F2 (by simpa using HNE.out))
        have R2 := hide R2
        have F2 := hide F2
        clear HC K2
        have hc2 := number_ok R2.out
        rw [e2] at hc2
        have HC2 := hide hc2
        clear hc2 e2
        go_wp2_with fail
        refine HC2.out.mono ?_
        rintro r' w3 ⟨rfl, R3, F3⟩
        have K3 := keeps_rb R2.out F3
        have O3 := hide (O2.out.keeps K3)
        have B3 := hide (B2.out.foot F3 (by simpa using HNE.out))
        have F3 := hide (F2.out.trans F3)
        have R3 := hide R3
        clear HC2 K3
        go_wp2_with fail
        refine (must_false rb _).mono ?_
        rintro r' w4 ⟨rfl, k4⟩
        have B4 := hide (below_foot R3.out.bel (Foot.of_below [rb] (below_call ((Below.refl _ _).alloc (Nat.le_refl _) _) k4)) (by simpa using R3.out.ge))
        clear k4
        go_wp2_with fail
        exact ⟨rfl, rfl, B4.out⟩
      · have HE : Hid (decF 4 rest = some ([k, n], r2)) := hide (by unfold decF; simp only [e, e2]; exact if_neg h0)
        rw [HE.out]
        have HD : Hid ((k != 0 || n != 0) = true) := hide (by
          by_cases hk : k = 0
          · by_cases hn : n = 0
            · exact absurd ⟨hk, hn⟩ h0
            · simp [hn]
          · simp [hk])
        clear e h0
        go_enter Try.func79, Try.ntmps79
        go_wp2_with fail
        refine HC.out.mono ?_
        rintro r' w2 ⟨rfl, R2, F2⟩
        have K2 := keeps_rb HR.out F2
        have O2 := hide (HOF.out.keeps K2)
        have B2 := hide (HS.out.foot F2 (by simpa using HNE.out))
        have R2 := hide R2
        have F2 := hide F2
        clear HC K2
        have hc2 := number_ok R2.out
        rw [e2] at hc2
        have HC2 := hide hc2
        clear hc2 e2
        go_wp2_with fail
        refine HC2.out.mono ?_
        rintro r' w3 ⟨rfl, R3, F3⟩
        have K3 := keeps_rb R2.out F3
        have O3 := hide (O2.out.keeps K3)
        have B3 := hide (B2.out.foot F3 (by simpa using HNE.out))
        have F3 := hide (F2.out.trans F3)
        have R3 := hide R3
        clear HC2 K3
        go_upto_region 2 with fail
        obtain ⟨w4, hw4⟩ : ∃ w4, w4 = w3.alloc (.cells #[.int .u8 k, .int .i64 n] 44) := ⟨_, rfl⟩
        have k4 : Below w3.heap.size w3 w4 := by rw [hw4]; exact (Below.refl _ _).alloc (Nat.le_refl _) _
        have L4 : Blk w4 w3.heap.size 44 #[.int .u8 k, .int .i64 n] := hw4 ▸ Blk.new _ _ _
        rw [← hw4]
        have R4 := hide (R3.out.below k4)
        have F4 := hide ((F3.out.mono (gs := [rb, sb]) (by simp)).trans (Foot.of_below _ k4))
        have B4 := hide (B3.out.below k4 B3.out.lt)
        have O4 := hide (O3.out.keeps (Keeps.of_below k4))
        have hgs0 := O4.out.ne B4.out
        have hsl : sb < w3.heap.size := B3.out.lt
        clear hw4 k4
        generalize w3.heap.size = lb at L4 hsl ⊢
        have l0 := L4.cell 0
        have l1 := L4.cell 1
        simp only [List.getElem?_toArray, List.getElem?_cons_zero, List.getElem?_cons_succ] at l0 l1
        have L4 := hide L4
        cases h1 : (k == 0) with
        | true =>
          cases h2 : (n == 0) with
          | true => exact absurd HD.out (by simp [bne, h1, h2])
          | false =>
            go_wp2_with fail
            refine (must_true rb _).mono ?_
            rintro r' w5 ⟨rfl, k5⟩
            have R5 := hide (R4.out.below k5)
            have F5 := hide (F4.out.trans (Foot.of_below _ k5))
            have B5 := B4.out.below k5 B4.out.lt
            have L5 := L4.out.below k5 L4.out.lt
            have O5 := O4.out.keeps (Keeps.of_below k5).drew
            clear k5
            obtain ⟨K, caps, hg, he, hc⟩ := (OfV.at_ O5 sb 0).ex
            have HC := hide hc
            have hglt := O5.lt
            clear hc O5
            have l0 := L5.cell 0
            have l1 := L5.cell 1
            have x1 := at_cell B5 hx
            have y1 := at_cell B5 hy
            have f1 := B5.frozen off
            have f2 := B5.frozen (off + 1)
            simp only [List.getElem?_toArray, List.getElem?_cons_zero, List.getElem?_cons_succ] at l0 l1
            have B5 := hide B5
            have L5 := hide L5
            go_upto_region 3 with fail
            have hgs := hgs0
            have z0 : ∀ w' : World, (w'.cell? ⟨g, 0, none⟩ = some (.func (.func K) #[] caps) ∧ w'.cell? ⟨lb, 0, none⟩ = some (.int .u8 k) ∧ w'.cell? ⟨lb, 1, none⟩ = some (.int .i64 n)) → w'.cell? ⟨g, 0, none⟩ = some (.func (.func K) #[] caps) := fun w' h => h.1
            have z1 : ∀ w' : World, (w'.cell? ⟨g, 0, none⟩ = some (.func (.func K) #[] caps) ∧ w'.cell? ⟨lb, 0, none⟩ = some (.int .u8 k) ∧ w'.cell? ⟨lb, 1, none⟩ = some (.int .i64 n)) → w'.cell? ⟨lb, 0, none⟩ = some (.int .u8 k) := fun w' h => h.2.1
            have z2 : ∀ w' : World, (w'.cell? ⟨g, 0, none⟩ = some (.func (.func K) #[] caps) ∧ w'.cell? ⟨lb, 0, none⟩ = some (.int .u8 k) ∧ w'.cell? ⟨lb, 1, none⟩ = some (.int .i64 n)) → w'.cell? ⟨lb, 1, none⟩ = some (.int .i64 n) := fun w' h => h.2.2
            refine Hold.begin_ 6 (by kernel_rfl) rfl (fun w' : World => w'.cell? ⟨g, 0, none⟩ = some (.func (.func K) #[] caps) ∧ w'.cell? ⟨lb, 0, none⟩ = some (.int .u8 k) ∧ w'.cell? ⟨lb, 1, none⟩ = some (.int .i64 n)) ?_ ⟨hg, l0, l1⟩
            intro hS
            refine Hold.take (i := 0) (v := ?_) rfl (by kernel_rfl) (fun _ _ _ h => h) rfl ?_ hS ?_
            rotate_left
            · intro w' hS; have z0_ := z0 _ hS; have z1_ := z1 _ hS; have z2_ := z2 _ hS; go_simp; (try go_bits); (first | rfl | rw [if_pos (by omega)])
            simp only [Act.put, List.getElem_toArray, List.getElem_cons_zero, List.getElem_cons_succ, List.setIfInBounds_toArray, List.set_cons_zero, List.set_cons_succ]
            refine Hold.take (i := 1) (v := ?_) rfl (by kernel_rfl) (fun _ _ _ h => h) rfl ?_ hS ?_
            rotate_left
            · intro w' hS; have z0_ := z0 _ hS; have z1_ := z1 _ hS; have z2_ := z2 _ hS; go_simp; (try go_bits); (first | rfl | rw [if_pos (by omega)])
            simp only [Act.put, List.getElem_toArray, List.getElem_cons_zero, List.getElem_cons_succ, List.setIfInBounds_toArray, List.set_cons_zero, List.set_cons_succ]
            refine Hold.take (i := 3) (v := ?_) rfl (by kernel_rfl) (fun _ _ _ h => h) rfl ?_ hS ?_
            rotate_left
            · intro w' hS; have z0_ := z0 _ hS; have z1_ := z1 _ hS; have z2_ := z2 _ hS; go_simp; (try go_bits); (first | rfl | rw [if_pos (by omega)])
            simp only [Act.put, List.getElem_toArray, List.getElem_cons_zero, List.getElem_cons_succ, List.setIfInBounds_toArray, List.set_cons_zero, List.set_cons_succ]
            refine Hold.one (i := 2) (by kernel_rfl) ?_
            refine Hold.call rfl rfl (by go_simp; exact ⟨rfl, rfl⟩) ?_
            refine HC.out.mono ?_
            rintro r w6 ⟨rfl, q, rfl⟩
            refine ⟨_, rfl, hS, ?_⟩
            simp only [Act.put, List.getElem_toArray, List.getElem_cons_zero, List.getElem_cons_succ, List.setIfInBounds_toArray, List.set_cons_zero, List.set_cons_succ]
            refine Hold.take (i := 4) (v := ?_) rfl (by kernel_rfl) (fun _ _ _ h => h) rfl ?_ hS ?_
            rotate_left
            · intro w' hS; have z0_ := z0 _ hS; have z1_ := z1 _ hS; have z2_ := z2 _ hS; go_simp; (try go_bits); (first | rfl | rw [if_pos (by omega)])
            simp only [Act.put, List.getElem_toArray, List.getElem_cons_zero, List.getElem_cons_succ, List.setIfInBounds_toArray, List.set_cons_zero, List.set_cons_succ]
            refine Hold.one (i := 5) (by kernel_rfl) ?_
            have x1 : (w5.drew.drewN q).cell? ⟨sb, 0 + off, none⟩ = some (.int .u8 x) := by rw [Nat.zero_add]; exact x1
            have y1 : (w5.drew.drewN q).cell? ⟨sb, 0 + off + 1, none⟩ = some (.int .i64 y) := by rw [Nat.zero_add]; exact y1
            have f1 : (w5.drew.drewN q).frozen? ⟨sb, 0 + off, none⟩ = false := by rw [Nat.zero_add]; exact f1
            have f2 : (w5.drew.drewN q).frozen? ⟨sb, 0 + off + 1, none⟩ = false := by rw [Nat.zero_add]; exact f2
            refine Hold.skip rfl rfl (by go_simp; exact rfl) ?_
            have F6 : Foot [sb] w5 (((w5.drewN (1 + q)).setCell ⟨sb, off, none⟩ (.int .u8 k)).setCell ⟨sb, off + 1, none⟩ (.int .i64 n)) := ((Foot.of_below _ (below_drewN (Below.refl _ _) _)).setCell (.inl (by simp)) _).setCell (.inl (by simp)) _
            have hS6 : ((((w5.drewN (1 + q)).setCell ⟨sb, off, none⟩ (.int .u8 k)).setCell ⟨sb, off + 1, none⟩ (.int .i64 n)).cell? ⟨g, 0, none⟩ = some (.func (.func K) #[] caps) ∧ (((w5.drewN (1 + q)).setCell ⟨sb, off, none⟩ (.int .u8 k)).setCell ⟨sb, off + 1, none⟩ (.int .i64 n)).cell? ⟨lb, 0, none⟩ = some (.int .u8 k) ∧ (((w5.drewN (1 + q)).setCell ⟨sb, off, none⟩ (.int .u8 k)).setCell ⟨sb, off + 1, none⟩ (.int .i64 n)).cell? ⟨lb, 1, none⟩ = some (.int .i64 n)) :=
              ⟨(F6.cell (p := ⟨g, 0, none⟩) hglt (by simpa using hgs)).trans hg, (F6.cell (p := ⟨lb, 0, none⟩) L5.out.lt (by simp; omega)).trans l0, (F6.cell (p := ⟨lb, 1, none⟩) L5.out.lt (by simp; omega)).trans l1⟩
            refine ⟨hS6, ?_⟩
            simp only [Act.put, List.getElem_toArray, List.getElem_cons_zero, List.getElem_cons_succ, List.setIfInBounds_toArray, List.set_cons_zero, List.set_cons_succ]
            refine Hold.done (by kernel_rfl) ?_
            have R6 := hide (R5.out.foot F6 (by simpa using hb) (by simpa using Ne.symm HNE.out))
            have B6 := hide (((B5.out.drewN (1 + q)).set_ off (.int .u8 k)).set_ (off + 1) (.int .i64 n))
            have FF6 := hide (F5.out.trans (F6.mono (gs := [rb, sb]) (by simp)))
            clear hS6 F6 hS z0 z1 z2 x1 y1 f1 f2 HC hg
            go_wp2_with fail
            go_end0
            exact ⟨rfl, R6.out, B6.out, FF6.out⟩
        | false =>
          cases h2 : (n == 0) with
          | true =>
            go_wp2_with fail
            refine (must_true rb _).mono ?_
            rintro r' w5 ⟨rfl, k5⟩
            have R5 := hide (R4.out.below k5)
            have F5 := hide (F4.out.trans (Foot.of_below _ k5))
            have B5 := B4.out.below k5 B4.out.lt
            have L5 := L4.out.below k5 L4.out.lt
            have O5 := O4.out.keeps (Keeps.of_below k5).drew
            clear k5
            obtain ⟨K, caps, hg, he, hc⟩ := (OfV.at_ O5 sb 0).ex
            have HC := hide hc
            have hglt := O5.lt
            clear hc O5
            have l0 := L5.cell 0
            have l1 := L5.cell 1
            have x1 := at_cell B5 hx
            have y1 := at_cell B5 hy
            have f1 := B5.frozen off
            have f2 := B5.frozen (off + 1)
            simp only [List.getElem?_toArray, List.getElem?_cons_zero, List.getElem?_cons_succ] at l0 l1
            have B5 := hide B5
            have L5 := hide L5
            go_upto_region 3 with fail
            have hgs := hgs0
            have z0 : ∀ w' : World, (w'.cell? ⟨g, 0, none⟩ = some (.func (.func K) #[] caps) ∧ w'.cell? ⟨lb, 0, none⟩ = some (.int .u8 k) ∧ w'.cell? ⟨lb, 1, none⟩ = some (.int .i64 n)) → w'.cell? ⟨g, 0, none⟩ = some (.func (.func K) #[] caps) := fun w' h => h.1
            have z1 : ∀ w' : World, (w'.cell? ⟨g, 0, none⟩ = some (.func (.func K) #[] caps) ∧ w'.cell? ⟨lb, 0, none⟩ = some (.int .u8 k) ∧ w'.cell? ⟨lb, 1, none⟩ = some (.int .i64 n)) → w'.cell? ⟨lb, 0, none⟩ = some (.int .u8 k) := fun w' h => h.2.1
            have z2 : ∀ w' : World, (w'.cell? ⟨g, 0, none⟩ = some (.func (.func K) #[] caps) ∧ w'.cell? ⟨lb, 0, none⟩ = some (.int .u8 k) ∧ w'.cell? ⟨lb, 1, none⟩ = some (.int .i64 n)) → w'.cell? ⟨lb, 1, none⟩ = some (.int .i64 n) := fun w' h => h.2.2
            refine Hold.begin_ 6 (by kernel_rfl) rfl (fun w' : World => w'.cell? ⟨g, 0, none⟩ = some (.func (.func K) #[] caps) ∧ w'.cell? ⟨lb, 0, none⟩ = some (.int .u8 k) ∧ w'.cell? ⟨lb, 1, none⟩ = some (.int .i64 n)) ?_ ⟨hg, l0, l1⟩
            intro hS
            refine Hold.take (i := 0) (v := ?_) rfl (by kernel_rfl) (fun _ _ _ h => h) rfl ?_ hS ?_
            rotate_left
            · intro w' hS; have z0_ := z0 _ hS; have z1_ := z1 _ hS; have z2_ := z2 _ hS; go_simp; (try go_bits); (first | rfl | rw [if_pos (by omega)])
            simp only [Act.put, List.getElem_toArray, List.getElem_cons_zero, List.getElem_cons_succ, List.setIfInBounds_toArray, List.set_cons_zero, List.set_cons_succ]
            refine Hold.take (i := 1) (v := ?_) rfl (by kernel_rfl) (fun _ _ _ h => h) rfl ?_ hS ?_
            rotate_left
            · intro w' hS; have z0_ := z0 _ hS; have z1_ := z1 _ hS; have z2_ := z2 _ hS; go_simp; (try go_bits); (first | rfl | rw [if_pos (by omega)])
            simp only [Act.put, List.getElem_toArray, List.getElem_cons_zero, List.getElem_cons_succ, List.setIfInBounds_toArray, List.set_cons_zero, List.set_cons_succ]
            refine Hold.take (i := 3) (v := ?_) rfl (by kernel_rfl) (fun _ _ _ h => h) rfl ?_ hS ?_
            rotate_left
            · intro w' hS; have z0_ := z0 _ hS; have z1_ := z1 _ hS; have z2_ := z2 _ hS; go_simp; (try go_bits); (first | rfl | rw [if_pos (by omega)])
            simp only [Act.put, List.getElem_toArray, List.getElem_cons_zero, List.getElem_cons_succ, List.setIfInBounds_toArray, List.set_cons_zero, List.set_cons_succ]
            refine Hold.one (i := 2) (by kernel_rfl) ?_
            refine Hold.call rfl rfl (by go_simp; exact ⟨rfl, rfl⟩) ?_
            refine HC.out.mono ?_
            rintro r w6 ⟨rfl, q, rfl⟩
            refine ⟨_, rfl, hS, ?_⟩
            simp only [Act.put, List.getElem_toArray, List.getElem_cons_zero, List.getElem_cons_succ, List.setIfInBounds_toArray, List.set_cons_zero, List.set_cons_succ]
            refine Hold.take (i := 4) (v := ?_) rfl (by kernel_rfl) (fun _ _ _ h => h) rfl ?_ hS ?_
            rotate_left
            · intro w' hS; have z0_ := z0 _ hS; have z1_ := z1 _ hS; have z2_ := z2 _ hS; go_simp; (try go_bits); (first | rfl | rw [if_pos (by omega)])
            simp only [Act.put, List.getElem_toArray, List.getElem_cons_zero, List.getElem_cons_succ, List.setIfInBounds_toArray, List.set_cons_zero, List.set_cons_succ]
            refine Hold.one (i := 5) (by kernel_rfl) ?_
            have x1 : (w5.drew.drewN q).cell? ⟨sb, 0 + off, none⟩ = some (.int .u8 x) := by rw [Nat.zero_add]; exact x1
            have y1 : (w5.drew.drewN q).cell? ⟨sb, 0 + off + 1, none⟩ = some (.int .i64 y) := by rw [Nat.zero_add]; exact y1
            have f1 : (w5.drew.drewN q).frozen? ⟨sb, 0 + off, none⟩ = false := by rw [Nat.zero_add]; exact f1
            have f2 : (w5.drew.drewN q).frozen? ⟨sb, 0 + off + 1, none⟩ = false := by rw [Nat.zero_add]; exact f2
            refine Hold.skip rfl rfl (by go_simp; exact rfl) ?_
            have F6 : Foot [sb] w5 (((w5.drewN (1 + q)).setCell ⟨sb, off, none⟩ (.int .u8 k)).setCell ⟨sb, off + 1, none⟩ (.int .i64 n)) := ((Foot.of_below _ (below_drewN (Below.refl _ _) _)).setCell (.inl (by simp)) _).setCell (.inl (by simp)) _
            have hS6 : ((((w5.drewN (1 + q)).setCell ⟨sb, off, none⟩ (.int .u8 k)).setCell ⟨sb, off + 1, none⟩ (.int .i64 n)).cell? ⟨g, 0, none⟩ = some (.func (.func K) #[] caps) ∧ (((w5.drewN (1 + q)).setCell ⟨sb, off, none⟩ (.int .u8 k)).setCell ⟨sb, off + 1, none⟩ (.int .i64 n)).cell? ⟨lb, 0, none⟩ = some (.int .u8 k) ∧ (((w5.drewN (1 + q)).setCell ⟨sb, off, none⟩ (.int .u8 k)).setCell ⟨sb, off + 1, none⟩ (.int .i64 n)).cell? ⟨lb, 1, none⟩ = some (.int .i64 n)) :=
              ⟨(F6.cell (p := ⟨g, 0, none⟩) hglt (by simpa using hgs)).trans hg, (F6.cell (p := ⟨lb, 0, none⟩) L5.out.lt (by simp; omega)).trans l0, (F6.cell (p := ⟨lb, 1, none⟩) L5.out.lt (by simp; omega)).trans l1⟩
            refine ⟨hS6, ?_⟩
            simp only [Act.put, List.getElem_toArray, List.getElem_cons_zero, List.getElem_cons_succ, List.setIfInBounds_toArray, List.set_cons_zero, List.set_cons_succ]
            refine Hold.done (by kernel_rfl) ?_
            have R6 := hide (R5.out.foot F6 (by simpa using hb) (by simpa using Ne.symm HNE.out))
            have B6 := hide (((B5.out.drewN (1 + q)).set_ off (.int .u8 k)).set_ (off + 1) (.int .i64 n))
            have FF6 := hide (F5.out.trans (F6.mono (gs := [rb, sb]) (by simp)))
            clear hS6 F6 hS z0 z1 z2 x1 y1 f1 f2 HC hg
            go_wp2_with fail
            go_end0
            exact ⟨rfl, R6.out, B6.out, FF6.out⟩
          | false =>
            go_wp2_with fail
            refine (must_true rb _).mono ?_
            rintro r' w5 ⟨rfl, k5⟩
            have R5 := hide (R4.out.below k5)
            have F5 := hide (F4.out.trans (Foot.of_below _ k5))
            have B5 := B4.out.below k5 B4.out.lt
            have L5 := L4.out.below k5 L4.out.lt
            have O5 := O4.out.keeps (Keeps.of_below k5).drew
            clear k5
            obtain ⟨K, caps, hg, he, hc⟩ := (OfV.at_ O5 sb 0).ex
            have HC := hide hc
            have hglt := O5.lt
            clear hc O5
            have l0 := L5.cell 0
            have l1 := L5.cell 1
            have x1 := at_cell B5 hx
            have y1 := at_cell B5 hy
            have f1 := B5.frozen off
            have f2 := B5.frozen (off + 1)
            simp only [List.getElem?_toArray, List.getElem?_cons_zero, List.getElem?_cons_succ] at l0 l1
            have B5 := hide B5
            have L5 := hide L5
            go_upto_region 3 with fail
            have hgs := hgs0
            have z0 : ∀ w' : World, (w'.cell? ⟨g, 0, none⟩ = some (.func (.func K) #[] caps) ∧ w'.cell? ⟨lb, 0, none⟩ = some (.int .u8 k) ∧ w'.cell? ⟨lb, 1, none⟩ = some (.int .i64 n)) → w'.cell? ⟨g, 0, none⟩ = some (.func (.func K) #[] caps) := fun w' h => h.1
            have z1 : ∀ w' : World, (w'.cell? ⟨g, 0, none⟩ = some (.func (.func K) #[] caps) ∧ w'.cell? ⟨lb, 0, none⟩ = some (.int .u8 k) ∧ w'.cell? ⟨lb, 1, none⟩ = some (.int .i64 n)) → w'.cell? ⟨lb, 0, none⟩ = some (.int .u8 k) := fun w' h => h.2.1
            have z2 : ∀ w' : World, (w'.cell? ⟨g, 0, none⟩ = some (.func (.func K) #[] caps) ∧ w'.cell? ⟨lb, 0, none⟩ = some (.int .u8 k) ∧ w'.cell? ⟨lb, 1, none⟩ = some (.int .i64 n)) → w'.cell? ⟨lb, 1, none⟩ = some (.int .i64 n) := fun w' h => h.2.2
            refine Hold.begin_ 6 (by kernel_rfl) rfl (fun w' : World => w'.cell? ⟨g, 0, none⟩ = some (.func (.func K) #[] caps) ∧ w'.cell? ⟨lb, 0, none⟩ = some (.int .u8 k) ∧ w'.cell? ⟨lb, 1, none⟩ = some (.int .i64 n)) ?_ ⟨hg, l0, l1⟩
            intro hS
            refine Hold.take (i := 0) (v := ?_) rfl (by kernel_rfl) (fun _ _ _ h => h) rfl ?_ hS ?_
            rotate_left
            · intro w' hS; have z0_ := z0 _ hS; have z1_ := z1 _ hS; have z2_ := z2 _ hS; go_simp; (try go_bits); (first | rfl | rw [if_pos (by omega)])
            simp only [Act.put, List.getElem_toArray, List.getElem_cons_zero, List.getElem_cons_succ, List.setIfInBounds_toArray, List.set_cons_zero, List.set_cons_succ]
            refine Hold.take (i := 1) (v := ?_) rfl (by kernel_rfl) (fun _ _ _ h => h) rfl ?_ hS ?_
            rotate_left
            · intro w' hS; have z0_ := z0 _ hS; have z1_ := z1 _ hS; have z2_ := z2 _ hS; go_simp; (try go_bits); (first | rfl | rw [if_pos (by omega)])
            simp only [Act.put, List.getElem_toArray, List.getElem_cons_zero, List.getElem_cons_succ, List.setIfInBounds_toArray, List.set_cons_zero, List.set_cons_succ]
            refine Hold.take (i := 3) (v := ?_) rfl (by kernel_rfl) (fun _ _ _ h => h) rfl ?_ hS ?_
            rotate_left
            · intro w' hS; have z0_ := z0 _ hS; have z1_ := z1 _ hS; have z2_ := z2 _ hS; go_simp; (try go_bits); (first | rfl | rw [if_pos (by omega)])
            simp only [Act.put, List.getElem_toArray, List.getElem_cons_zero, List.getElem_cons_succ, List.setIfInBounds_toArray, List.set_cons_zero, List.set_cons_succ]
            refine Hold.one (i := 2) (by kernel_rfl) ?_
            refine Hold.call rfl rfl (by go_simp; exact ⟨rfl, rfl⟩) ?_
            refine HC.out.mono ?_
            rintro r w6 ⟨rfl, q, rfl⟩
            refine ⟨_, rfl, hS, ?_⟩
            simp only [Act.put, List.getElem_toArray, List.getElem_cons_zero, List.getElem_cons_succ, List.setIfInBounds_toArray, List.set_cons_zero, List.set_cons_succ]
            refine Hold.take (i := 4) (v := ?_) rfl (by kernel_rfl) (fun _ _ _ h => h) rfl ?_ hS ?_
            rotate_left
            · intro w' hS; have z0_ := z0 _ hS; have z1_ := z1 _ hS; have z2_ := z2 _ hS; go_simp; (try go_bits); (first | rfl | rw [if_pos (by omega)])
            simp only [Act.put, List.getElem_toArray, List.getElem_cons_zero, List.getElem_cons_succ, List.setIfInBounds_toArray, List.set_cons_zero, List.set_cons_succ]
            refine Hold.one (i := 5) (by kernel_rfl) ?_
            have x1 : (w5.drew.drewN q).cell? ⟨sb, 0 + off, none⟩ = some (.int .u8 x) := by rw [Nat.zero_add]; exact x1
            have y1 : (w5.drew.drewN q).cell? ⟨sb, 0 + off + 1, none⟩ = some (.int .i64 y) := by rw [Nat.zero_add]; exact y1
            have f1 : (w5.drew.drewN q).frozen? ⟨sb, 0 + off, none⟩ = false := by rw [Nat.zero_add]; exact f1
            have f2 : (w5.drew.drewN q).frozen? ⟨sb, 0 + off + 1, none⟩ = false := by rw [Nat.zero_add]; exact f2
            refine Hold.skip rfl rfl (by go_simp; exact rfl) ?_
            have F6 : Foot [sb] w5 (((w5.drewN (1 + q)).setCell ⟨sb, off, none⟩ (.int .u8 k)).setCell ⟨sb, off + 1, none⟩ (.int .i64 n)) := ((Foot.of_below _ (below_drewN (Below.refl _ _) _)).setCell (.inl (by simp)) _).setCell (.inl (by simp)) _
            have hS6 : ((((w5.drewN (1 + q)).setCell ⟨sb, off, none⟩ (.int .u8 k)).setCell ⟨sb, off + 1, none⟩ (.int .i64 n)).cell? ⟨g, 0, none⟩ = some (.func (.func K) #[] caps) ∧ (((w5.drewN (1 + q)).setCell ⟨sb, off, none⟩ (.int .u8 k)).setCell ⟨sb, off + 1, none⟩ (.int .i64 n)).cell? ⟨lb, 0, none⟩ = some (.int .u8 k) ∧ (((w5.drewN (1 + q)).setCell ⟨sb, off, none⟩ (.int .u8 k)).setCell ⟨sb, off + 1, none⟩ (.int .i64 n)).cell? ⟨lb, 1, none⟩ = some (.int .i64 n)) :=
              ⟨(F6.cell (p := ⟨g, 0, none⟩) hglt (by simpa using hgs)).trans hg, (F6.cell (p := ⟨lb, 0, none⟩) L5.out.lt (by simp; omega)).trans l0, (F6.cell (p := ⟨lb, 1, none⟩) L5.out.lt (by simp; omega)).trans l1⟩
            refine ⟨hS6, ?_⟩
            simp only [Act.put, List.getElem_toArray, List.getElem_cons_zero, List.getElem_cons_succ, List.setIfInBounds_toArray, List.set_cons_zero, List.set_cons_succ]
            refine Hold.done (by kernel_rfl) ?_
            have R6 := hide (R5.out.foot F6 (by simpa using hb) (by simpa using Ne.symm HNE.out))
            have B6 := hide (((B5.out.drewN (1 + q)).set_ off (.int .u8 k)).set_ (off + 1) (.int .i64 n))
            have FF6 := hide (F5.out.trans (F6.mono (gs := [rb, sb]) (by simp)))
            clear hS6 F6 hS z0 z1 z2 x1 y1 f1 f2 HC hg
            go_wp2_with fail
            go_end0
            exact ⟨rfl, R6.out, B6.out, FF6.out⟩
end Go.Proofs.Ytmngndmcidbakaa
