/- Walk: works. -/
import Derived.Test.YtmngndmcidbakaaZH
namespace Go.Proofs.Ytmngndmcidbakaa
open Go.RowKit
theorem u8_of {x : Int} (h : (Lit.int .u8 x).wf = true) : 0 ≤ x ∧ x ≤ 255 := by simpa [Lit.wf, IntKind.min, IntKind.max, IntKind.signed, IntKind.bits] using h
theorem TrV.form {W : World} {v : Value} {T : Tr} (h : TrV W v T) : ∃ na nc aa ac, v = .agg #[.slice na T.nodes.length nc, .slice aa T.adv.length ac, .int .i64 T.view] := by
  obtain ⟨na, nc, aa, ac, e, _⟩ := h
  exact ⟨na, nc, aa, ac, e⟩
def L0 : List (List Int) := (KD.map zv).set 2 [1]
def T0 : Tr := ⟨0, [], [(-1, L0)]⟩
def b0 : List Int := [0, 0, 1, 1, 17, 1, 3, 1, 1, 0]
theorem wr_T0 : wrT T0 = b0 := by decide +kernel
theorem num_300 : num 300 = [2, 1, 44] := by decide +kernel
theorem tk_201 : tk [2, 0, 1] 0 = (0, 0, 5) := by decide +kernel
theorem okS_zv : ∀ ks : List Nat, okS ks (ks.map zv)
  | [] => trivial
  | κ :: ks => ⟨zv_ok κ, okS_zv ks⟩
theorem okS_set : ∀ {ks : List Nat} {L : List (List Int)} {k : Nat} {v : List Int}, okS ks L → okF (ks.getD k 9) v → okS ks (L.set k v)
  | [], [], _, _, _, _ => trivial
  | _ :: _, _ :: _, 0, _, h, hv => ⟨hv, h.2⟩
  | _ :: _, _ :: _, k + 1, _, h, hv => ⟨h.1, okS_set h.2 hv⟩
  | [], _ :: _, _, _, h, _ => h.elim
  | _ :: _, [], _, _, h, _ => h.elim
theorem ok_L0 : okS KD L0 := okS_set (okS_zv KD) ⟨1, rfl, by decide, by decide⟩
theorem ok_T0 : okT T0 := ⟨by unfold I64; decide, by simp [T0], by decide, fun n hn => by
  obtain rfl : n = (-1, L0) := by simpa [T0] using hn
  exact ⟨by unfold I64; decide, ok_L0⟩, by decide⟩
theorem sz_T0 : SzT T0 := SzT.of_wr ok_T0 (by rw [wr_T0]; decide)
theorem rd_b0 : rdT b0 = some T0 := by rw [← wr_T0]; exact rdT_wr ok_T0
theorem bts_b0 : Bts b0 := by rw [← wr_T0]; exact wrT_bts ok_T0
theorem row_lit {W : World} {g : Nat} {l : List Int} (h : Blk W g 5 (bys l).toArray) (hl : l.length ≤ 1000000) : BRow W (some ⟨g, 0, none⟩) l := by
  have := h.row (by simp [bys]; omega)
  unfold BRow
  simpa using this
theorem built_L0 : Try.prog.built 49 [(0, .int .u8 1)] = some (SC (gof L0) (.slice none 0 0)).toArray := by kernel_rfl
set_option maxRecDepth 100000 in
set_option maxHeartbeats 4000000 in
theorem works_any (w : World) : Calls Try.prog 8 #[] w fun r w' => r = .returned (.bool true) ∧ Below w.heap.size w w' := by
  obtain ⟨W2, hW2⟩ : ∃ W2, W2 = (w.alloc (.cells (ncell (-1, L0) (.slice none 0 0)).toArray 51)).alloc (.cells #[.slice (some ⟨w.heap.size, 0, none⟩) 1 1, .slice none 0 0, .int .i64 0] 35) := ⟨_, rfl⟩
  have k2 : Below w.heap.size w W2 := by rw [hW2]; exact ((Below.refl _ _).alloc (Nat.le_refl _) _).alloc (by simp) _
  have BN : Blk W2 w.heap.size 51 (ncell (-1, L0) (.slice none 0 0)).toArray := by rw [hW2]; exact (Blk.new w _ _).alloc _
  have BT : Blk W2 (w.heap.size + 1) 35 #[.slice (some ⟨w.heap.size, 0, none⟩) 1 1, .slice none 0 0, .int .i64 0] := by
    rw [hW2]
    have := Blk.new (w.alloc (.cells (ncell (-1, L0) (.slice none 0 0)).toArray 51)) 35 #[.slice (some ⟨w.heap.size, 0, none⟩) 1 1, .slice none 0 0, .int .i64 0]
    simpa using this
  have TV : TrV W2 (.agg #[.slice (some ⟨w.heap.size, 0, none⟩) 1 1, .slice none 0 0, .int .i64 0]) T0 := by
    refine ⟨_, _, _, _, rfl, ⟨by decide, fun _ => ⟨w.heap.size, 0, rfl, BN.lt, fun i hi => ?_⟩⟩, ⟨by decide, fun h => absurd h (by decide)⟩, ok_T0, by decide, by decide, by decide, by decide⟩
    have hi0 : i = 0 := by
      have : i < 1 := hi
      omega
    subst hi0
    exact ⟨BN.cell 0, BN.lt, .slice none 0 0, fun j hj => by
      rw [show 0 + 0 * 44 + 1 + j = j + 1 from by omega, BN.cell (j + 1)]
      rw [List.getElem?_toArray]
      unfold ncell
      rw [List.getElem?_cons_succ]
      rfl, none, 0, rfl, ⟨Nat.zero_le _, fun h => absurd (show 0 < 0 from h) (by decide)⟩, Nat.le_refl 0, Nat.zero_le _⟩
  obtain ⟨tb, htb⟩ : ∃ tb, tb = w.heap.size + 1 := ⟨_, rfl⟩
  have HW2 := hide hW2
  have K2 := hide k2
  have BT := hide (htb ▸ BT)
  have TV := hide TV
  have HTB := hide htb
  clear hW2 k2 BN htb
  go_enter Try.func8, Try.ntmps8
  go_upto_region 2 with (first | (refine wpList_build_eq rfl 49 _ rfl (SC (gof L0) (.slice none 0 0)).toArray (by kernel_rfl) ?_) | (refine wpList_build_eq rfl 51 _ rfl (ncell (-1, L0) (.slice none 0 0)).toArray (by kernel_rfl) ?_) | (refine wpList_node rfl _ rfl (-1, L0) (.slice none 0 0) rfl ?_))
  rw [← HW2.out, ← HTB.out]
  have c0 : W2.cell? ⟨tb, 0, none⟩ = some (.slice (some ⟨w.heap.size, 0, none⟩) 1 1) := BT.out.cell 0
  have c1 : W2.cell? ⟨tb, 1, none⟩ = some (.slice none 0 0) := BT.out.cell 1
  have c2 : W2.cell? ⟨tb, 2, none⟩ = some (.int .i64 0) := BT.out.cell 2
  go_wp2_with fail
  refine (write_any _ T0 W2 TV.out (by rw [wr_T0]; decide)).mono ?_
  rintro r w3 ⟨v3, rfl, O3, k3⟩
  rw [wr_T0] at O3
  obtain ⟨a3, cap3, rfl, _, _, _⟩ := O3.row
  have hb0 : b0.length = 10 := rfl
  rw [hb0] at O3 ⊢
  have T3 := hide (K2.out.trans (k3.mono K2.out.size))
  have TV3 := hide (TV.out.below k3)
  have BT3 := hide (BT.out.below k3 BT.out.lt)
  have O3 := hide O3
  clear c0 c1 c2 k3 TV BT
  go_wp2_with fail
  obtain ⟨w4, hw4⟩ : ∃ w4, w4 = w3.alloc (.cells (bys b0).toArray 5) := ⟨_, rfl⟩
  have k4 : Below w3.heap.size w3 w4 := by rw [hw4]; exact (Below.refl _ _).alloc (Nat.le_refl _) _
  have B4 : Blk w4 w3.heap.size 5 (bys b0).toArray := by rw [hw4]; exact Blk.new _ _ _
  change Calls _ _ _ (w3.alloc (.cells (bys b0).toArray 5)) _
  rw [← hw4]
  refine (read_any (some ⟨w3.heap.size, 0, none⟩) b0 10 w4 (row_lit B4 (by decide)) bts_b0 (by decide) (by decide) (by decide)).mono ?_
  intro r w5 hr
  rw [rd_b0] at hr
  obtain ⟨k5, v5, rfl, TV5⟩ := hr
  obtain ⟨na, nc, aa, ac, e5, _⟩ := id TV5
  subst e5
  have t5 := below_call k4 k5
  have T5 := T3.out.trans (t5.mono T3.out.size)
  have TV35 := TV3.out.below t5
  have BT5 := BT3.out.below t5 BT3.out.lt
  have O5 := O3.out.below t5
  clear k4 B4 hw4 k5 t5 T3 TV3 BT3 O3
  go_upto_region 4 with fail
  obtain ⟨w6, hw6⟩ : ∃ w6, w6 = w5.alloc (.cells #[.slice na T0.nodes.length nc, .slice aa T0.adv.length ac, .int .i64 T0.view] 35) := ⟨_, rfl⟩
  have k6 : Below w5.heap.size w5 w6 := by rw [hw6]; exact (Below.refl _ _).alloc (Nat.le_refl _) _
  have BU6 : Blk w6 w5.heap.size 35 #[.slice na T0.nodes.length nc, .slice aa T0.adv.length ac, .int .i64 T0.view] := by rw [hw6]; exact Blk.new _ _ _
  change Code.wp _ _ _ _ (w5.alloc (.cells #[.slice na T0.nodes.length nc, .slice aa T0.adv.length ac, .int .i64 T0.view] 35))
  rw [← hw6]
  have T6 := hide (T5.trans (k6.mono T5.size))
  have TV36 := hide (TV35.below k6)
  have TV56 := hide (TV5.below k6)
  have BT6 := hide (BT5.below k6 BT5.lt)
  have O6 := hide (O5.below k6)
  have BU6 := hide BU6
  clear hw6 k6 T5 TV35 TV5 BT5 O5
  generalize w5.heap.size = ub at BU6 ⊢
  go_wp2_with fail
  obtain ⟨w7, hw7⟩ : ∃ w7, w7 = w6.alloc (.cells (bys [2, 0, 1]).toArray 5) := ⟨_, rfl⟩
  have k7 : Below w6.heap.size w6 w7 := by rw [hw7]; exact (Below.refl _ _).alloc (Nat.le_refl _) _
  have B7 : Blk w7 w6.heap.size 5 (bys [2, 0, 1]).toArray := by rw [hw7]; exact Blk.new _ _ _
  change Calls _ _ _ (w6.alloc (.cells (bys [2, 0, 1]).toArray 5)) _
  rw [← hw7]
  refine (take_any (some ⟨w6.heap.size, 0, none⟩) [2, 0, 1] 3 0 w7 (row_lit B7 (by decide)) (by unfold Byt; decide) (by decide) (by decide) (by decide) (by decide)).mono ?_
  rintro r w8 ⟨rfl, k8⟩
  have t8 := below_call k7 k8
  have T8 := hide (T6.out.trans (t8.mono T6.out.size))
  have TV38 := hide (TV36.out.below t8)
  have TV58 := hide (TV56.out.below t8)
  have BT8 := hide (BT6.out.below t8 BT6.out.lt)
  have BU8 := hide (BU6.out.below t8 BU6.out.lt)
  have O8 := hide (O6.out.below t8)
  rw [tk_201]
  clear B7 hw7 k7 k8 t8 T6 TV36 TV56 BT6 BU6 O6
  go_wp2_with fail
  obtain ⟨w9, hw9⟩ : ∃ w9, w9 = w8.alloc (.cells (bys b0).toArray 5) := ⟨_, rfl⟩
  have k9 : Below w8.heap.size w8 w9 := by rw [hw9]; exact (Below.refl _ _).alloc (Nat.le_refl _) _
  have B9 : Blk w9 w8.heap.size 5 (bys b0).toArray := by rw [hw9]; exact Blk.new _ _ _
  change Calls _ _ _ (w8.alloc (.cells (bys b0).toArray 5)) _
  rw [← hw9]
  have HB9 : BRow w9 a3 b0 := by
    obtain ⟨a', c', e, _, _, hr⟩ := BOwn.row (O8.out.below k9)
    simp only [Value.slice.injEq] at e
    rw [e.1]
    exact hr
  refine (bsame_any a3 (some ⟨w8.heap.size, 0, none⟩) b0 b0 cap3 10 w9 HB9 (row_lit B9 (by decide)) (by decide) (by decide)).mono ?_
  rintro r w10 ⟨rfl, k10⟩
  have t10 := below_call k9 k10
  have T10 := hide (T8.out.trans (t10.mono T8.out.size))
  have TV3 := hide (TV38.out.below t10)
  have TV5 := hide (TV58.out.below t10)
  have BT10 := hide (BT8.out.below t10 BT8.out.lt)
  have BU10 := hide (BU8.out.below t10 BU8.out.lt)
  rw [decide_eq_true (rfl : b0 = b0)]
  clear B9 HB9 hw9 k9 k10 t10 T8 TV38 TV58 BT8 BU8 O8
  have c0 : w10.cell? ⟨tb, 0, none⟩ = some (.slice (some ⟨w.heap.size, 0, none⟩) 1 1) := BT10.out.cell 0
  have c1 : w10.cell? ⟨tb, 1, none⟩ = some (.slice none 0 0) := BT10.out.cell 1
  have c2 : w10.cell? ⟨tb, 2, none⟩ = some (.int .i64 0) := BT10.out.cell 2
  have d0 : w10.cell? ⟨ub, 0, none⟩ = some (.slice na T0.nodes.length nc) := BU10.out.cell 0
  have d1 : w10.cell? ⟨ub, 1, none⟩ = some (.slice aa T0.adv.length ac) := BU10.out.cell 1
  have d2 : w10.cell? ⟨ub, 2, none⟩ = some (.int .i64 T0.view) := BU10.out.cell 2
  go_wp2_with fail
  refine (tsame_any _ _ T0 T0 w10 TV3.out TV5.out sz_T0 sz_T0).mono ?_
  rintro r w11 ⟨rfl, k11⟩
  have T11 := hide (T10.out.trans (k11.mono T10.out.size))
  rw [decide_eq_true (rfl : T0 = T0)]
  clear c0 c1 c2 d0 d1 d2 k11 T10 TV3 TV5 BT10 BU10
  go_wp2_with fail
  refine (put_any none [] 0 300 w11 ⟨by decide, fun h => absurd h (by decide)⟩ (by decide) (by decide)).mono ?_
  rintro r w12 ⟨v12, rfl, O12, k12⟩
  rw [List.nil_append, num_300] at O12
  obtain ⟨a4, cap4, rfl, _, _, _⟩ := O12.row
  have T12 := hide (T11.out.trans (k12.mono T11.out.size))
  have O12 := hide O12
  clear k12 T11
  go_wp2_with fail
  obtain ⟨w13, hw13⟩ : ∃ w13, w13 = w12.alloc (.cells (bys [2, 1, 44]).toArray 5) := ⟨_, rfl⟩
  have k13 : Below w12.heap.size w12 w13 := by rw [hw13]; exact (Below.refl _ _).alloc (Nat.le_refl _) _
  have B13 : Blk w13 w12.heap.size 5 (bys [2, 1, 44]).toArray := by rw [hw13]; exact Blk.new _ _ _
  change Calls _ _ _ (w12.alloc (.cells (bys [2, 1, 44]).toArray 5)) _
  rw [← hw13]
  have HB13 : BRow w13 a4 [2, 1, 44] := by
    obtain ⟨a', c', e, _, _, hr⟩ := BOwn.row (O12.out.below k13)
    simp only [Value.slice.injEq] at e
    rw [e.1]
    exact hr
  refine (bsame_any a4 (some ⟨w12.heap.size, 0, none⟩) [2, 1, 44] [2, 1, 44] cap4 3 w13 HB13 (row_lit B13 (by decide)) (by decide) (by decide)).mono ?_
  rintro r w14 ⟨rfl, k14⟩
  have T14 := hide (T12.out.trans ((below_call k13 k14).mono T12.out.size))
  rw [decide_eq_true (rfl : ([2, 1, 44] : List Int) = [2, 1, 44])]
  clear B13 HB13 hw13 k13 k14 T12 O12
  go_wp2_with fail
  go_returns
  exact ⟨rfl, T14.out⟩
end Go.Proofs.Ytmngndmcidbakaa
