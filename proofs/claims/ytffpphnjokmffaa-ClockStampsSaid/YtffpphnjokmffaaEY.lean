/- Walk: the reference's Table. -/
import Derived.Test.YtffpphnjokmffaaEX
import Derived.Test.YtffpphnjokmffaaEL
import Derived.BigRegion
import Derived.Deep.CutRange
import Derived.Deep.CutBlock
namespace Go.Proofs.Ytffpphnjokmffaa
open Go.RowKit Go.Maps

def rowsV (N0 L u : Nat) : List Value := ((List.range u).map fun v => .slice (some ⟨N0 + 1 + v, 0, none⟩) L L) ++ List.replicate (L - u) (.slice none 0 0)
theorem rowsV_set {N0 L u : Nat} (h : u < L) : (rowsV N0 L u).set u (.slice (some ⟨N0 + 1 + u, 0, none⟩) L L) = rowsV N0 L (u + 1) := by
  unfold rowsV
  have e : ((List.range u).map fun v => Value.slice (some ⟨N0 + 1 + v, 0, none⟩) L L).length = u := by simp
  rw [List.set_append_right _ _ (by omega), e, Nat.sub_self, show L - u = (L - (u + 1)) + 1 from by omega, List.replicate_succ, List.set_cons_zero, List.range_succ, List.map_append]
  simp
theorem rowsV_next {N0 L u : Nat} (h : u < L) : (rowsV N0 L u)[u]? = some (.slice none 0 0) := by
  unfold rowsV
  rw [List.getElem?_append_right (by simp), List.length_map, List.length_range, Nat.sub_self, List.getElem?_replicate, if_pos (by omega)]
theorem rowsV_full {N0 L : Nat} : rowsV N0 L L = (List.range L).map fun v => .slice (some ⟨N0 + 1 + v, 0, none⟩) L L := by simp [rowsV]
def boolV (L : Nat) (f : Nat → Bool) : Array Value := ((List.range L).map fun j => Value.bool (f j)).toArray
theorem boolV_false (L : Nat) : boolV L (fun _ => false) = Array.replicate L (.bool false) := by
  unfold boolV
  rw [List.map_const', List.length_range, List.toArray_replicate]
theorem boolV_at {L : Nat} {f : Nat → Bool} {j : Nat} (h : j < L) : (boolV L f)[j]? = some (.bool (f j)) := by unfold boolV; simp [h]
theorem boolV_set {L : Nat} {f : Nat → Bool} {j : Nat} (v : Bool) : (boolV L f).setIfInBounds j (.bool v) = boolV L (fun j' => if j' = j then v else f j') := by
  unfold boolV
  rw [List.setIfInBounds_toArray]
  congr 1
  apply List.ext_getElem?
  intro i
  rw [List.getElem?_set]
  simp only [List.getElem?_map, List.length_map, List.length_range]
  by_cases hj : j = i
  · subst hj
    rw [if_pos rfl]
    by_cases hL : j < L
    · rw [if_pos hL, List.getElem?_range hL]; simp
    · rw [if_neg hL, List.getElem?_eq_none (by simp; omega)]; rfl
  · rw [if_neg hj]
    by_cases hL : i < L
    · have hj2 : ¬ i = j := fun h => hj h.symm
      rw [List.getElem?_range hL]; simp [hj2]
    · rw [List.getElem?_eq_none (by simp; omega)]; rfl
/-- The table in memory. -/
structure TB (W : World) (N0 L : Nat) (T : Nat → Nat → Bool) : Prop where
  nb : Blk W N0 36 (rowsV N0 L L).toArray
  nr : ∀ i, i < L → Blk W (N0 + 1 + i) 4 (boolV L (T i))
theorem TB.below {W W' : World} {N0 L : Nat} {T : Nat → Nat → Bool} (h : TB W N0 L T) (hb : Below W.heap.size W W') : TB W' N0 L T :=
  ⟨h.nb.below hb h.nb.lt, fun i hi => (h.nr i hi).below hb (h.nr i hi).lt⟩
theorem TB.congr {W : World} {N0 L : Nat} {T T' : Nat → Nat → Bool} (h : TB W N0 L T) (hT : ∀ i j, i < L → j < L → T i j = T' i j) : TB W N0 L T' :=
  ⟨h.nb, fun i hi => by
    have e : boolV L (T i) = boolV L (T' i) := by
      unfold boolV
      congr 1
      apply List.map_congr_left
      intro j hj
      rw [hT i j hi (by simpa using hj)]
    rw [← e]; exact h.nr i hi⟩
theorem TB.set_ {W : World} {N0 L : Nat} {T : Nat → Nat → Bool} (h : TB W N0 L T) {i : Nat} (hi : i < L) (j : Nat) (v : Bool) : TB (W.setCell ⟨N0 + 1 + i, j, none⟩ (.bool v)) N0 L (upd2 T i j v) :=
  ⟨h.nb.far (by show N0 ≠ N0 + 1 + i; omega) _, fun i' hi' => by
    by_cases hii : i' = i
    · subst hii
      have := (h.nr i' hi').set_ j (.bool v)
      rw [boolV_set] at this
      unfold upd2
      simpa using this
    · have := (h.nr i' hi').far (p := ⟨N0 + 1 + i, j, none⟩) (by show N0 + 1 + i' ≠ N0 + 1 + i; omega) (.bool v)
      unfold upd2
      simpa [hii] using this⟩
theorem TB.row {W : World} {N0 L : Nat} {T : Nat → Nat → Bool} (h : TB W N0 L T) {i : Nat} (hi : i < L) : W.cell? ⟨N0, i, none⟩ = some (.slice (some ⟨N0 + 1 + i, 0, none⟩) L L) := by
  rw [h.nb.cell]; unfold rowsV; simp [hi]
theorem TB.at_ {W : World} {N0 L : Nat} {T : Nat → Nat → Bool} (h : TB W N0 L T) {i j : Nat} (hi : i < L) (hj : j < L) : W.cell? ⟨N0 + 1 + i, j, none⟩ = some (.bool (T i j)) := by
  rw [(h.nr i hi).cell, boolV_at hj]
def TabPost (e : Nat → Ev) (L : Nat) (w : World) (r : Ending) (w' : World) : Prop := ∃ N0, r = .returned (.slice (some ⟨N0, 0, none⟩) L L) ∧ TB w' N0 L (bef e) ∧ w.heap.size ≤ N0 ∧ Below w.heap.size w w'
theorem info36 : (Try.prog.info? 36).map (fun i => (i.zero, i.size, i.bytes)) = some (some (.slice none 0 0), 1, 24) := by kernel_rfl
theorem info4 : (Try.prog.info? 4).map (fun i => (i.zero, i.size, i.bytes)) = some (some (.bool false), 1, 1) := by kernel_rfl
set_option maxRecDepth 100000 in
set_option maxHeartbeats 4000000 in
theorem table_any (a : Option Addr) (l : List Ev) (c : Nat) (w : World) (hr : ERow w a l) (hL : l.length ≤ 400) :
    Calls Try.prog 15 #[.slice a l.length c] w (TabPost (gl l) l.length w) := by
  obtain ⟨i1, hi1, hz1, hs1, hb1⟩ := info_parts info36
  obtain ⟨i4, hi4, hz4, hs4, hb4⟩ := info_parts info4
  have HR := hide hr
  clear hr
  have hmk := fun W => run_make1 (P := Try.prog) 31 36 Try.underlying31 hi1 hz1 hs1 rfl hb1 l.length (by omega) (by omega) W
  have hmk2 := fun W => run_make1 (P := Try.prog) 36 4 Try.underlying36 hi4 hz4 hs4 rfl hb4 l.length (by omega) (by omega) W
  clear hi1 hz1 hs1 hb1 hi4 hz4 hs4 hb4
  go_enter Try.func15, Try.ntmps15
  obtain ⟨N0, hN0⟩ : ∃ g, g = w.heap.size := ⟨_, rfl⟩
  obtain ⟨w1, hw1⟩ : ∃ w1, w1 = w.alloc (.cells (Array.replicate l.length (.slice none 0 0)) 36) := ⟨_, rfl⟩
  have B1 : Hid (Blk w1 N0 36 (rowsV N0 l.length 0).toArray) := hide (by
    have := Blk.new w 36 (Array.replicate l.length (.slice none 0 0))
    rw [← hw1, ← hN0] at this
    unfold rowsV
    simpa using this)
  have t1 : Hid (Below w.heap.size w w1) := hide (hw1 ▸ (Below.refl _ _).alloc (Nat.le_refl _) _)
  have s1 : w1.heap.size = N0 + 1 := by rw [hw1, hN0]; simp
  have HW1 := hide hw1
  have HN0 := hide hN0
  clear hw1 hN0
  go_wp2_with fail
  rw [← HW1.out, ← HN0.out]
  clear HW1
  go_loopw [4] (fun uv wr => ∃ u : Nat, u ≤ l.length ∧ uv = .int .i64 u ∧ Blk wr N0 36 (rowsV N0 l.length u).toArray ∧ (∀ v, v < u → Blk wr (N0 + 1 + v) 4 (boolV l.length fun _ => false)) ∧ wr.heap.size = N0 + 1 + u ∧ Below w.heap.size w wr) (fun uv _ => l.length - (intOf uv).toNat)
  case atStart => exact ⟨0, Nat.zero_le _, rfl, B1.out, fun v h => by omega, by omega, t1.out⟩
  case round =>
    clear B1 t1 s1
    obtain ⟨u, hu, rfl, hB, hN, hs, hb⟩ := hrel
    have B := hide hB
    have R := hide hN
    have t := hide hb
    clear hB hN hb
    by_cases hlt : u < l.length
    · have hBl := B.out.lt
      have m1 : wr.cell? ⟨N0, u, none⟩ = some (.slice none 0 0) := by rw [B.out.cell, List.getElem?_toArray, rowsV_next hlt]
      have f1 := B.out.frozen u
      obtain ⟨w2, hw2⟩ : ∃ w2, w2 = (wr.setCell ⟨N0, u, none⟩ (.slice (some ⟨N0 + 1 + u, 0, none⟩) l.length l.length)).alloc (.cells (Array.replicate l.length (.bool false)) 4) := ⟨_, rfl⟩
      have BN : Hid (Blk w2 N0 36 (rowsV N0 l.length (u + 1)).toArray) := hide (by
        rw [hw2]
        have := B.out.set_ u (.slice (some ⟨N0 + 1 + u, 0, none⟩) l.length l.length)
        rw [List.setIfInBounds_toArray, rowsV_set hlt] at this
        exact this.alloc _)
      have RN : Hid (∀ v, v < u + 1 → Blk w2 (N0 + 1 + v) 4 (boolV l.length fun _ => false)) := hide (fun v hv => by
        rw [hw2]
        by_cases hvu : v = u
        · subst hvu
          have := Blk.new (wr.setCell ⟨N0, v, none⟩ (.slice (some ⟨N0 + 1 + v, 0, none⟩) l.length l.length)) 4 (Array.replicate l.length (.bool false))
          rw [World.size_setCell, hs] at this
          rw [boolV_false]
          exact this
        · exact ((R.out v (by omega)).far (p := ⟨N0, u, none⟩) (by show N0 + 1 + v ≠ N0; omega) _).alloc _)
      have tN : Hid (Below w.heap.size w w2) := hide (by
        rw [hw2]
        exact (t.out.setCell (p := ⟨N0, u, none⟩) (Nat.le_of_eq HN0.out.symm) _).alloc (by rw [World.size_setCell]; exact t.out.size) _)
      have sN : w2.heap.size = N0 + 1 + (u + 1) := by rw [hw2]; simp; omega
      have HS := hide hs
      have HW2 := hide hw2
      clear hw2 hs
      go_upto_region 4 with fail
      rw [HS.out, ← HW2.out]
      clear HW2 m1 f1 B R t
      go_wp2_with fail
      go_roundw
      case rel => exact ⟨u + 1, hlt, by go_num, BN.out, RN.out, sN, tN.out⟩
      case measure => simp [intOf]; omega
    · obtain rfl : u = l.length := by omega
      have T0 : Hid (TB wr N0 l.length (tabO (gl l) 0)) := hide ⟨B.out, fun i hi => by
        have e : tabO (gl l) 0 i = fun _ => false := by funext j; unfold tabO; simp
        rw [e]; exact R.out i hi⟩
      clear B R hs hmk hmk2
      go_wp2_with fail
      go_loopw [5] (fun jv wr => ∃ j : Nat, j ≤ l.length ∧ jv = .int .i64 j ∧ TB wr N0 l.length (tabO (gl l) j) ∧ Below w.heap.size w wr) (fun jv _ => l.length - (intOf jv).toNat)
      case atStart => exact ⟨0, Nat.zero_le _, rfl, T0.out, t.out⟩
      case round =>
        clear T0 t
        obtain ⟨j, hj, rfl, hT, hb⟩ := hrel
        rw [← tab_start] at hT
        have T := hide hT
        have t := hide hb
        clear hT hb
        by_cases hjt : j < l.length
        · go_wp2_with fail
          go_loopw [6] (fun kv wr => ∃ k : Nat, k ≤ j ∧ kv = .int .i64 k ∧ TB wr N0 l.length (tabM (gl l) j k) ∧ Below w.heap.size w wr) (fun kv _ => j - (intOf kv).toNat)
          case atStart => exact ⟨0, Nat.zero_le _, rfl, T.out, t.out⟩
          case round =>
            clear T t
            obtain ⟨k, hk, rfl, hT, hb⟩ := hrel
            have T := hide hT
            have t := hide hb
            clear hT hb
            by_cases hkt : k < j
            · have hkl : k < l.length := by omega
              obtain ⟨b, off, rfl, hb, hcell⟩ := e_at (HR.out.below t.out) (by omega)
              obtain ⟨x0, x1, x2⟩ := hcell k hkl
              obtain ⟨y0, y1, y2⟩ := hcell j hjt
              have HST : Hid (stepB (gl l) j k = ((l[k].w == l[j].w) || ((wrE l[k] && (rdE l[j] && (l[k].c == l[j].c))) && lastB (gl l) j k j))) := hide (by unfold stepB sameB condB; rw [gl_at hkl, gl_at hjt])
              have HLN : Hid (∀ m (h : m < l.length), k < m → lastB (gl l) j k (m + 1) = (lastB (gl l) j k m && !(wrE l[m] && (l[m].c == l[j].c)))) := hide (fun m h h2 => by rw [lastB_next h2, gl_at h, gl_at hjt])
              clear hcell
              generalize l[k] = ek at x0 x1 x2 HST
              generalize hgj : l[j] = ej at y0 y1 y2 HST HLN
              have HGJ := hide hgj
              clear hgj
              go_upto_region 12 with fail
              have r0 := keepd x0
              have r1 := keepd y0
              refine Reg.region (by kernel_rfl) 12 [] (fun _ w' => w' = wr.drew) (by kernel_rfl) (by kernel_rfl) rfl ?_
              iterate 12
                refine Reg.WT.yield (v := ?_) rfl rfl ?_ ?_
                rotate_left
                · intro w' _ hS; go_simp; (try go_bits); (first | rfl | rw [if_pos (by omega)])
                simp only [Act.put, List.setIfInBounds_toArray, List.set_cons_zero, List.set_cons_succ]
              intro w4 hS
              subst hS
              clear r0 r1
              go_upto_region 13 with fail
              obtain ⟨w4, hw4⟩ : ∃ w4, w4 = wr.drew := ⟨_, rfl⟩
              have q0 : w4.cell? ⟨b, off + k * 3, none⟩ = some (.int .i64 ek.w) := hw4 ▸ x0
              have q1 : w4.cell? ⟨b, off + k * 3 + 1, none⟩ = some (.int .u8 ek.k) := hw4 ▸ x1
              have q2 : w4.cell? ⟨b, off + k * 3 + 2, none⟩ = some (.int .i64 ek.c) := hw4 ▸ x2
              have s0 : w4.cell? ⟨b, off + j * 3, none⟩ = some (.int .i64 ej.w) := hw4 ▸ y0
              have s1 : w4.cell? ⟨b, off + j * 3 + 1, none⟩ = some (.int .u8 ej.k) := hw4 ▸ y1
              have s2 : w4.cell? ⟨b, off + j * 3 + 2, none⟩ = some (.int .i64 ej.c) := hw4 ▸ y2
              have T4 : Hid (TB w4 N0 l.length (tabM (gl l) j k)) := hide (hw4 ▸ T.out.below (Below.refl _ _).drew)
              have t4 : Hid (Below w.heap.size w w4) := hide (hw4 ▸ t.out.drew)
              have hb4 : b < w4.heap.size := hw4 ▸ hb
              rw [← hw4]
              clear hw4 x0 x1 x2 y0 y1 y2 T t hb
              generalize hCB : (wrE ek && (rdE ej && (ek.c == ej.c))) = CB at HST
              have HCB := hide hCB
              clear hCB
              go_cut [90] from 32 to 160 (fun s90 wx => s90 = .bool CB ∧ Below w4.heap.size w4 wx)
              case first =>
                clear HST HLN T4 t4
                have r0 := keepc hb4 q0
                have r1 := keepc hb4 q1
                have r2 := keepc hb4 q2
                have v0 := keepc hb4 s0
                have v1 := keepc hb4 s1
                have v2 := keepc hb4 s2
                clear q0 q1 q2 s0 s1 s2
                have P1 := hide (fun W => rplain_any ek W)
                have P2 := hide (fun W => rplain_any ej W)
                have P3 := hide (fun W => rwrites_any ek W)
                have P4 := hide (fun W => rreads_any ej W)
                cases h1 : plE ek with
                | true =>
                  rw [h1] at P1
                  have hw := (wr_np h1).1
                  refine Reg.region (by kernel_rfl) 43 [4] (fun _ w' => Below w4.heap.size w4 w') (by kernel_rfl) (by kernel_rfl) (Below.refl _ _).drew ?_
                  iterate 4
                    first
                      | refine Reg.WT.idle rfl rfl ?_
                      | (refine Reg.WT.yield (v := ?_) rfl rfl ?_ ?_
                         rotate_left
                         · intro w' _ hS; go_simp; (try go_bits); (first | rfl | rw [if_pos (by omega)]))
                    simp only [Act.put, List.setIfInBounds_toArray, List.set_cons_zero, List.set_cons_succ]
                  refine Reg.WT.call (v := ?_) (f := ?_) (args := ?_) rfl rfl ?_ ?_ ?_
                  rotate_left 3
                  · intro w2; go_simp; exact ⟨by rfl, by rfl⟩
                  · intro w2 hS; refine (P1.out w2).mono ?_; rintro e w3 ⟨rfl, hb⟩; exact ⟨by rfl, hS.trans (hb.mono hS.size)⟩
                  simp only [Act.put, List.setIfInBounds_toArray, List.set_cons_zero, List.set_cons_succ]
                  iterate 38
                    first
                      | refine Reg.WT.idle rfl rfl ?_
                      | (refine Reg.WT.yield (v := ?_) rfl rfl ?_ ?_
                         rotate_left
                         · intro w' _ hS; go_simp; (try go_bits); (first | rfl | rw [if_pos (by omega)]))
                    simp only [Act.put, List.setIfInBounds_toArray, List.set_cons_zero, List.set_cons_succ]
                  intro w5 hS
                  clear r0 r1 r2 v0 v1 v2
                  go_wp2_with fail
                  go_meet
                  exact ⟨by rw [← HCB.out]; simp [*], hS⟩
                | false =>
                  rw [h1] at P1
                  cases h2 : plE ej with
                  | true =>
                    rw [h2] at P2
                    have hw := (wr_np h2).2
                    refine Reg.region (by kernel_rfl) 43 [4, 11] (fun _ w' => Below w4.heap.size w4 w') (by kernel_rfl) (by kernel_rfl) (Below.refl _ _).drew ?_
                    iterate 4
                      first
                        | refine Reg.WT.idle rfl rfl ?_
                        | (refine Reg.WT.yield (v := ?_) rfl rfl ?_ ?_
                           rotate_left
                           · intro w' _ hS; go_simp; (try go_bits); (first | rfl | rw [if_pos (by omega)]))
                      simp only [Act.put, List.setIfInBounds_toArray, List.set_cons_zero, List.set_cons_succ]
                    refine Reg.WT.call (v := ?_) (f := ?_) (args := ?_) rfl rfl ?_ ?_ ?_
                    rotate_left 3
                    · intro w2; go_simp; exact ⟨by rfl, by rfl⟩
                    · intro w2 hS; refine (P1.out w2).mono ?_; rintro e w3 ⟨rfl, hb⟩; exact ⟨by rfl, hS.trans (hb.mono hS.size)⟩
                    simp only [Act.put, List.setIfInBounds_toArray, List.set_cons_zero, List.set_cons_succ]
                    iterate 6
                      first
                        | refine Reg.WT.idle rfl rfl ?_
                        | (refine Reg.WT.yield (v := ?_) rfl rfl ?_ ?_
                           rotate_left
                           · intro w' _ hS; go_simp; (try go_bits); (first | rfl | rw [if_pos (by omega)]))
                      simp only [Act.put, List.setIfInBounds_toArray, List.set_cons_zero, List.set_cons_succ]
                    refine Reg.WT.call (v := ?_) (f := ?_) (args := ?_) rfl rfl ?_ ?_ ?_
                    rotate_left 3
                    · intro w2; go_simp; exact ⟨by rfl, by rfl⟩
                    · intro w2 hS; refine (P2.out w2).mono ?_; rintro e w3 ⟨rfl, hb⟩; exact ⟨by rfl, hS.trans (hb.mono hS.size)⟩
                    simp only [Act.put, List.setIfInBounds_toArray, List.set_cons_zero, List.set_cons_succ]
                    iterate 31
                      first
                        | refine Reg.WT.idle rfl rfl ?_
                        | (refine Reg.WT.yield (v := ?_) rfl rfl ?_ ?_
                           rotate_left
                           · intro w' _ hS; go_simp; (try go_bits); (first | rfl | rw [if_pos (by omega)]))
                      simp only [Act.put, List.setIfInBounds_toArray, List.set_cons_zero, List.set_cons_succ]
                    intro w5 hS
                    clear r0 r1 r2 v0 v1 v2
                    go_wp2_with fail
                    go_meet
                    exact ⟨by rw [← HCB.out]; simp [*], hS⟩
                  | false =>
                    rw [h2] at P2
                    cases h3 : wrE ek with
                    | false =>
                      rw [h3] at P3
                      refine Reg.region (by kernel_rfl) 43 [4, 11, 19] (fun _ w' => Below w4.heap.size w4 w') (by kernel_rfl) (by kernel_rfl) (Below.refl _ _).drew ?_
                      iterate 4
                        first
                          | refine Reg.WT.idle rfl rfl ?_
                          | (refine Reg.WT.yield (v := ?_) rfl rfl ?_ ?_
                             rotate_left
                             · intro w' _ hS; go_simp; (try go_bits); (first | rfl | rw [if_pos (by omega)]))
                        simp only [Act.put, List.setIfInBounds_toArray, List.set_cons_zero, List.set_cons_succ]
                      refine Reg.WT.call (v := ?_) (f := ?_) (args := ?_) rfl rfl ?_ ?_ ?_
                      rotate_left 3
                      · intro w2; go_simp; exact ⟨by rfl, by rfl⟩
                      · intro w2 hS; refine (P1.out w2).mono ?_; rintro e w3 ⟨rfl, hb⟩; exact ⟨by rfl, hS.trans (hb.mono hS.size)⟩
                      simp only [Act.put, List.setIfInBounds_toArray, List.set_cons_zero, List.set_cons_succ]
                      iterate 6
                        first
                          | refine Reg.WT.idle rfl rfl ?_
                          | (refine Reg.WT.yield (v := ?_) rfl rfl ?_ ?_
                             rotate_left
                             · intro w' _ hS; go_simp; (try go_bits); (first | rfl | rw [if_pos (by omega)]))
                        simp only [Act.put, List.setIfInBounds_toArray, List.set_cons_zero, List.set_cons_succ]
                      refine Reg.WT.call (v := ?_) (f := ?_) (args := ?_) rfl rfl ?_ ?_ ?_
                      rotate_left 3
                      · intro w2; go_simp; exact ⟨by rfl, by rfl⟩
                      · intro w2 hS; refine (P2.out w2).mono ?_; rintro e w3 ⟨rfl, hb⟩; exact ⟨by rfl, hS.trans (hb.mono hS.size)⟩
                      simp only [Act.put, List.setIfInBounds_toArray, List.set_cons_zero, List.set_cons_succ]
                      iterate 7
                        first
                          | refine Reg.WT.idle rfl rfl ?_
                          | (refine Reg.WT.yield (v := ?_) rfl rfl ?_ ?_
                             rotate_left
                             · intro w' _ hS; go_simp; (try go_bits); (first | rfl | rw [if_pos (by omega)]))
                        simp only [Act.put, List.setIfInBounds_toArray, List.set_cons_zero, List.set_cons_succ]
                      refine Reg.WT.call (v := ?_) (f := ?_) (args := ?_) rfl rfl ?_ ?_ ?_
                      rotate_left 3
                      · intro w2; go_simp; exact ⟨by rfl, by rfl⟩
                      · intro w2 hS; refine (P3.out w2).mono ?_; rintro e w3 ⟨rfl, hb⟩; exact ⟨by rfl, hS.trans (hb.mono hS.size)⟩
                      simp only [Act.put, List.setIfInBounds_toArray, List.set_cons_zero, List.set_cons_succ]
                      iterate 23
                        first
                          | refine Reg.WT.idle rfl rfl ?_
                          | (refine Reg.WT.yield (v := ?_) rfl rfl ?_ ?_
                             rotate_left
                             · intro w' _ hS; go_simp; (try go_bits); (first | rfl | rw [if_pos (by omega)]))
                        simp only [Act.put, List.setIfInBounds_toArray, List.set_cons_zero, List.set_cons_succ]
                      intro w5 hS
                      clear r0 r1 r2 v0 v1 v2
                      go_wp2_with fail
                      go_meet
                      exact ⟨by rw [← HCB.out]; simp [*], hS⟩
                    | true =>
                      rw [h3] at P3
                      cases h4 : rdE ej with
                      | false =>
                        rw [h4] at P4
                        refine Reg.region (by kernel_rfl) 43 [4, 11, 19, 26] (fun _ w' => Below w4.heap.size w4 w') (by kernel_rfl) (by kernel_rfl) (Below.refl _ _).drew ?_
                        iterate 4
                          first
                            | refine Reg.WT.idle rfl rfl ?_
                            | (refine Reg.WT.yield (v := ?_) rfl rfl ?_ ?_
                               rotate_left
                               · intro w' _ hS; go_simp; (try go_bits); (first | rfl | rw [if_pos (by omega)]))
                          simp only [Act.put, List.setIfInBounds_toArray, List.set_cons_zero, List.set_cons_succ]
                        refine Reg.WT.call (v := ?_) (f := ?_) (args := ?_) rfl rfl ?_ ?_ ?_
                        rotate_left 3
                        · intro w2; go_simp; exact ⟨by rfl, by rfl⟩
                        · intro w2 hS; refine (P1.out w2).mono ?_; rintro e w3 ⟨rfl, hb⟩; exact ⟨by rfl, hS.trans (hb.mono hS.size)⟩
                        simp only [Act.put, List.setIfInBounds_toArray, List.set_cons_zero, List.set_cons_succ]
                        iterate 6
                          first
                            | refine Reg.WT.idle rfl rfl ?_
                            | (refine Reg.WT.yield (v := ?_) rfl rfl ?_ ?_
                               rotate_left
                               · intro w' _ hS; go_simp; (try go_bits); (first | rfl | rw [if_pos (by omega)]))
                          simp only [Act.put, List.setIfInBounds_toArray, List.set_cons_zero, List.set_cons_succ]
                        refine Reg.WT.call (v := ?_) (f := ?_) (args := ?_) rfl rfl ?_ ?_ ?_
                        rotate_left 3
                        · intro w2; go_simp; exact ⟨by rfl, by rfl⟩
                        · intro w2 hS; refine (P2.out w2).mono ?_; rintro e w3 ⟨rfl, hb⟩; exact ⟨by rfl, hS.trans (hb.mono hS.size)⟩
                        simp only [Act.put, List.setIfInBounds_toArray, List.set_cons_zero, List.set_cons_succ]
                        iterate 7
                          first
                            | refine Reg.WT.idle rfl rfl ?_
                            | (refine Reg.WT.yield (v := ?_) rfl rfl ?_ ?_
                               rotate_left
                               · intro w' _ hS; go_simp; (try go_bits); (first | rfl | rw [if_pos (by omega)]))
                          simp only [Act.put, List.setIfInBounds_toArray, List.set_cons_zero, List.set_cons_succ]
                        refine Reg.WT.call (v := ?_) (f := ?_) (args := ?_) rfl rfl ?_ ?_ ?_
                        rotate_left 3
                        · intro w2; go_simp; exact ⟨by rfl, by rfl⟩
                        · intro w2 hS; refine (P3.out w2).mono ?_; rintro e w3 ⟨rfl, hb⟩; exact ⟨by rfl, hS.trans (hb.mono hS.size)⟩
                        simp only [Act.put, List.setIfInBounds_toArray, List.set_cons_zero, List.set_cons_succ]
                        iterate 6
                          first
                            | refine Reg.WT.idle rfl rfl ?_
                            | (refine Reg.WT.yield (v := ?_) rfl rfl ?_ ?_
                               rotate_left
                               · intro w' _ hS; go_simp; (try go_bits); (first | rfl | rw [if_pos (by omega)]))
                          simp only [Act.put, List.setIfInBounds_toArray, List.set_cons_zero, List.set_cons_succ]
                        refine Reg.WT.call (v := ?_) (f := ?_) (args := ?_) rfl rfl ?_ ?_ ?_
                        rotate_left 3
                        · intro w2; go_simp; exact ⟨by rfl, by rfl⟩
                        · intro w2 hS; refine (P4.out w2).mono ?_; rintro e w3 ⟨rfl, hb⟩; exact ⟨by rfl, hS.trans (hb.mono hS.size)⟩
                        simp only [Act.put, List.setIfInBounds_toArray, List.set_cons_zero, List.set_cons_succ]
                        iterate 16
                          first
                            | refine Reg.WT.idle rfl rfl ?_
                            | (refine Reg.WT.yield (v := ?_) rfl rfl ?_ ?_
                               rotate_left
                               · intro w' _ hS; go_simp; (try go_bits); (first | rfl | rw [if_pos (by omega)]))
                          simp only [Act.put, List.setIfInBounds_toArray, List.set_cons_zero, List.set_cons_succ]
                        intro w5 hS
                        clear r0 r1 r2 v0 v1 v2
                        go_wp2_with fail
                        go_meet
                        exact ⟨by rw [← HCB.out]; simp [*], hS⟩
                      | true =>
                        rw [h4] at P4
                        refine Reg.region (by kernel_rfl) 43 [4, 11, 19, 26] (fun _ w' => Below w4.heap.size w4 w') (by kernel_rfl) (by kernel_rfl) (Below.refl _ _).drew ?_
                        iterate 4
                          first
                            | refine Reg.WT.idle rfl rfl ?_
                            | (refine Reg.WT.yield (v := ?_) rfl rfl ?_ ?_
                               rotate_left
                               · intro w' _ hS; go_simp; (try go_bits); (first | rfl | rw [if_pos (by omega)]))
                          simp only [Act.put, List.setIfInBounds_toArray, List.set_cons_zero, List.set_cons_succ]
                        refine Reg.WT.call (v := ?_) (f := ?_) (args := ?_) rfl rfl ?_ ?_ ?_
                        rotate_left 3
                        · intro w2; go_simp; exact ⟨by rfl, by rfl⟩
                        · intro w2 hS; refine (P1.out w2).mono ?_; rintro e w3 ⟨rfl, hb⟩; exact ⟨by rfl, hS.trans (hb.mono hS.size)⟩
                        simp only [Act.put, List.setIfInBounds_toArray, List.set_cons_zero, List.set_cons_succ]
                        iterate 6
                          first
                            | refine Reg.WT.idle rfl rfl ?_
                            | (refine Reg.WT.yield (v := ?_) rfl rfl ?_ ?_
                               rotate_left
                               · intro w' _ hS; go_simp; (try go_bits); (first | rfl | rw [if_pos (by omega)]))
                          simp only [Act.put, List.setIfInBounds_toArray, List.set_cons_zero, List.set_cons_succ]
                        refine Reg.WT.call (v := ?_) (f := ?_) (args := ?_) rfl rfl ?_ ?_ ?_
                        rotate_left 3
                        · intro w2; go_simp; exact ⟨by rfl, by rfl⟩
                        · intro w2 hS; refine (P2.out w2).mono ?_; rintro e w3 ⟨rfl, hb⟩; exact ⟨by rfl, hS.trans (hb.mono hS.size)⟩
                        simp only [Act.put, List.setIfInBounds_toArray, List.set_cons_zero, List.set_cons_succ]
                        iterate 7
                          first
                            | refine Reg.WT.idle rfl rfl ?_
                            | (refine Reg.WT.yield (v := ?_) rfl rfl ?_ ?_
                               rotate_left
                               · intro w' _ hS; go_simp; (try go_bits); (first | rfl | rw [if_pos (by omega)]))
                          simp only [Act.put, List.setIfInBounds_toArray, List.set_cons_zero, List.set_cons_succ]
                        refine Reg.WT.call (v := ?_) (f := ?_) (args := ?_) rfl rfl ?_ ?_ ?_
                        rotate_left 3
                        · intro w2; go_simp; exact ⟨by rfl, by rfl⟩
                        · intro w2 hS; refine (P3.out w2).mono ?_; rintro e w3 ⟨rfl, hb⟩; exact ⟨by rfl, hS.trans (hb.mono hS.size)⟩
                        simp only [Act.put, List.setIfInBounds_toArray, List.set_cons_zero, List.set_cons_succ]
                        iterate 6
                          first
                            | refine Reg.WT.idle rfl rfl ?_
                            | (refine Reg.WT.yield (v := ?_) rfl rfl ?_ ?_
                               rotate_left
                               · intro w' _ hS; go_simp; (try go_bits); (first | rfl | rw [if_pos (by omega)]))
                          simp only [Act.put, List.setIfInBounds_toArray, List.set_cons_zero, List.set_cons_succ]
                        refine Reg.WT.call (v := ?_) (f := ?_) (args := ?_) rfl rfl ?_ ?_ ?_
                        rotate_left 3
                        · intro w2; go_simp; exact ⟨by rfl, by rfl⟩
                        · intro w2 hS; refine (P4.out w2).mono ?_; rintro e w3 ⟨rfl, hb⟩; exact ⟨by rfl, hS.trans (hb.mono hS.size)⟩
                        simp only [Act.put, List.setIfInBounds_toArray, List.set_cons_zero, List.set_cons_succ]
                        iterate 16
                          first
                            | refine Reg.WT.idle rfl rfl ?_
                            | (refine Reg.WT.yield (v := ?_) rfl rfl ?_ ?_
                               rotate_left
                               · intro w' _ hS; go_simp; (try go_bits); (first | rfl | rw [if_pos (by omega)]))
                          simp only [Act.put, List.setIfInBounds_toArray, List.set_cons_zero, List.set_cons_succ]
                        intro w5 hS
                        clear r0 r1 r2 v0 v1 v2
                        go_wp2_with fail
                        go_meet
                        exact ⟨by rw [← HCB.out]; simp [*], hS⟩
              case rest =>
                obtain ⟨rfl, hb1⟩ := hcut
                have hb1' := hide hb1
                clear hb1
                go_upto_if 90 with fail
                go_cut [7, 8, 9] from 32 to 160 (fun s7 s8 s9 wx => s7 = .bool (stepB (gl l) j k) ∧ Below w4.heap.size w4 wx)
                case first =>
                  clear HCB q0 q1 q2 s0 s1 s2 T4
                  cases CB with
                  | false =>
                    have HST2 : Hid (stepB (gl l) j k = (ek.w == ej.w)) := hide (by rw [HST.out]; simp)
                    clear HST HLN
                    go_wp2_with fail
                    go_meet
                    exact ⟨by rw [HST2.out], hb1'.out⟩
                  | true =>
                    go_wp2_with fail
                    go_loopw [8, 9] (fun lv mv wq => ∃ m : Nat, k + 1 ≤ m ∧ m ≤ j ∧ mv = .int .i64 m ∧ lv = .bool (lastB (gl l) j k m) ∧ Below w4.heap.size w4 wq) (fun _ mv _ => j - (intOf mv).toNat)
                    case atStart => exact ⟨k + 1, Nat.le_refl _, hkt, by go_num, by rw [lastB_start _ _ _ (Nat.le_refl _)], hb1'.out⟩
                    case round =>
                      obtain ⟨m, hkm, hm, rfl, rfl, hbq⟩ := hrel
                      have b4 := hide hbq
                      clear hbq
                      by_cases hmj : m < j
                      · have hml : m < l.length := by omega
                        obtain ⟨_, _, rb, hb6, hcell⟩ := e_at (HR.out.below (below_call (w := w) t4.out b4.out)) (by omega)
                        simp only [Option.some.injEq, Addr.mk.injEq, and_true] at rb
                        obtain ⟨rb1, rb2⟩ := rb
                        subst rb1 rb2
                        obtain ⟨x0, x1, x2⟩ := hcell m hml
                        obtain ⟨y0, y1, y2⟩ := hcell j hjt
                        rw [HGJ.out] at y0 y1 y2
                        have HX := hide (HLN.out m hml hkm)
                        clear hcell
                        generalize l[m] = em at x0 x1 x2 HX
                        generalize lastB (gl l) j k m = B at HX ⊢
                        have r0 := keepc hb6 x0
                        have r1 := keepc hb6 x1
                        have r2 := keepc hb6 x2
                        have v0 := keepc hb6 y0
                        have v1 := keepc hb6 y1
                        have v2 := keepc hb6 y2
                        clear x0 x1 x2 y0 y1 y2
                        go_upto_region 18 with fail
                        have PW := hide (fun W => rwrites_any em W)
                        cases B with
                        | false =>
                          refine Reg.region (by kernel_rfl) 25 [] (fun _ w' => Below wr.heap.size wr w') (by kernel_rfl) (by kernel_rfl) (Below.refl _ _).drew ?_
                          iterate 25
                            first
                              | refine Reg.WT.idle rfl rfl ?_
                              | (refine Reg.WT.yield (v := ?_) rfl rfl ?_ ?_
                                 rotate_left
                                 · intro w' _ hS; go_simp; (try go_bits); (first | rfl | rw [if_pos (by omega)]))
                            simp only [Act.put, List.setIfInBounds_toArray, List.set_cons_zero, List.set_cons_succ]
                          intro w6 hS
                          have HS6 := hide hS
                          clear r0 r1 r2 v0 v1 v2 hS
                          go_wp2_with fail
                          go_roundw
                          case rel => exact ⟨m + 1, by omega, hmj, by go_num, by rw [HX.out]; simp [*], b4.out.trans (HS6.out.mono b4.out.size)⟩
                          case measure => simp [intOf]; omega
                        | true =>
                          cases hw : wrE em with
                          | false =>
                            rw [hw] at PW
                            refine Reg.region (by kernel_rfl) 25 [6] (fun _ w' => Below wr.heap.size wr w') (by kernel_rfl) (by kernel_rfl) (Below.refl _ _).drew ?_
                            iterate 6
                              first
                                | refine Reg.WT.idle rfl rfl ?_
                                | (refine Reg.WT.yield (v := ?_) rfl rfl ?_ ?_
                                   rotate_left
                                   · intro w' _ hS; go_simp; (try go_bits); (first | rfl | rw [if_pos (by omega)]))
                              simp only [Act.put, List.setIfInBounds_toArray, List.set_cons_zero, List.set_cons_succ]
                            refine Reg.WT.call (v := ?_) (f := ?_) (args := ?_) rfl rfl ?_ ?_ ?_
                            rotate_left 3
                            · intro w2; go_simp; exact ⟨by rfl, by rfl⟩
                            · intro w2 hS; refine (PW.out w2).mono ?_; rintro e w3 ⟨rfl, hb⟩; exact ⟨by rfl, hS.trans (hb.mono hS.size)⟩
                            simp only [Act.put, List.setIfInBounds_toArray, List.set_cons_zero, List.set_cons_succ]
                            iterate 18
                              first
                                | refine Reg.WT.idle rfl rfl ?_
                                | (refine Reg.WT.yield (v := ?_) rfl rfl ?_ ?_
                                   rotate_left
                                   · intro w' _ hS; go_simp; (try go_bits); (first | rfl | rw [if_pos (by omega)]))
                              simp only [Act.put, List.setIfInBounds_toArray, List.set_cons_zero, List.set_cons_succ]
                            intro w6 hS
                            have HS6 := hide hS
                            clear r0 r1 r2 v0 v1 v2 hS
                            go_wp2_with fail
                            go_roundw
                            case rel => exact ⟨m + 1, by omega, hmj, by go_num, by rw [HX.out]; simp [*], b4.out.trans (HS6.out.mono b4.out.size)⟩
                            case measure => simp [intOf]; omega
                          | true =>
                            rw [hw] at PW
                            cases hc : (em.c == ej.c) with
                            | false =>
                              refine Reg.region (by kernel_rfl) 25 [6] (fun _ w' => Below wr.heap.size wr w') (by kernel_rfl) (by kernel_rfl) (Below.refl _ _).drew ?_
                              iterate 6
                                first
                                  | refine Reg.WT.idle rfl rfl ?_
                                  | (refine Reg.WT.yield (v := ?_) rfl rfl ?_ ?_
                                     rotate_left
                                     · intro w' _ hS; go_simp; (try go_bits); (first | rfl | rw [if_pos (by omega)]))
                                simp only [Act.put, List.setIfInBounds_toArray, List.set_cons_zero, List.set_cons_succ]
                              refine Reg.WT.call (v := ?_) (f := ?_) (args := ?_) rfl rfl ?_ ?_ ?_
                              rotate_left 3
                              · intro w2; go_simp; exact ⟨by rfl, by rfl⟩
                              · intro w2 hS; refine (PW.out w2).mono ?_; rintro e w3 ⟨rfl, hb⟩; exact ⟨by rfl, hS.trans (hb.mono hS.size)⟩
                              simp only [Act.put, List.setIfInBounds_toArray, List.set_cons_zero, List.set_cons_succ]
                              iterate 18
                                first
                                  | refine Reg.WT.idle rfl rfl ?_
                                  | (refine Reg.WT.yield (v := ?_) rfl rfl ?_ ?_
                                     rotate_left
                                     · intro w' _ hS; go_simp; (try go_bits); (first | rfl | rw [if_pos (by omega)]))
                                simp only [Act.put, List.setIfInBounds_toArray, List.set_cons_zero, List.set_cons_succ]
                              intro w6 hS
                              have HS6 := hide hS
                              clear r0 r1 r2 v0 v1 v2 hS
                              go_wp2_with fail
                              go_roundw
                              case rel => exact ⟨m + 1, by omega, hmj, by go_num, by rw [HX.out]; simp [*], b4.out.trans (HS6.out.mono b4.out.size)⟩
                              case measure => simp [intOf]; omega
                            | true =>
                              refine Reg.region (by kernel_rfl) 25 [6] (fun _ w' => Below wr.heap.size wr w') (by kernel_rfl) (by kernel_rfl) (Below.refl _ _).drew ?_
                              iterate 6
                                first
                                  | refine Reg.WT.idle rfl rfl ?_
                                  | (refine Reg.WT.yield (v := ?_) rfl rfl ?_ ?_
                                     rotate_left
                                     · intro w' _ hS; go_simp; (try go_bits); (first | rfl | rw [if_pos (by omega)]))
                                simp only [Act.put, List.setIfInBounds_toArray, List.set_cons_zero, List.set_cons_succ]
                              refine Reg.WT.call (v := ?_) (f := ?_) (args := ?_) rfl rfl ?_ ?_ ?_
                              rotate_left 3
                              · intro w2; go_simp; exact ⟨by rfl, by rfl⟩
                              · intro w2 hS; refine (PW.out w2).mono ?_; rintro e w3 ⟨rfl, hb⟩; exact ⟨by rfl, hS.trans (hb.mono hS.size)⟩
                              simp only [Act.put, List.setIfInBounds_toArray, List.set_cons_zero, List.set_cons_succ]
                              iterate 18
                                first
                                  | refine Reg.WT.idle rfl rfl ?_
                                  | (refine Reg.WT.yield (v := ?_) rfl rfl ?_ ?_
                                     rotate_left
                                     · intro w' _ hS; go_simp; (try go_bits); (first | rfl | rw [if_pos (by omega)]))
                                simp only [Act.put, List.setIfInBounds_toArray, List.set_cons_zero, List.set_cons_succ]
                              intro w6 hS
                              have HS6 := hide hS
                              clear r0 r1 r2 v0 v1 v2 hS
                              go_wp2_with fail
                              go_roundw
                              case rel => exact ⟨m + 1, by omega, hmj, by go_num, by rw [HX.out]; simp [*], b4.out.trans (HS6.out.mono b4.out.size)⟩
                              case measure => simp [intOf]; omega
                      · obtain rfl : m = j := by omega
                        have HST2 : Hid (stepB (gl l) m k = ((ek.w == ej.w) || lastB (gl l) m k m)) := hide (by rw [HST.out]; simp)
                        clear HST HLN HGJ
                        generalize lastB (gl l) m k m = LB at HST2 ⊢
                        generalize (ek.w == ej.w) = sm at HST2 ⊢
                        cases sm with
                        | true =>
                          go_wp2_with fail
                          go_meet
                          exact ⟨by rw [HST2.out]; rfl, b4.out⟩
                        | false =>
                          go_wp2_with fail
                          go_meet
                          exact ⟨by rw [HST2.out]; rfl, b4.out⟩
                case rest =>
                  obtain ⟨rfl, hbc⟩ := hcut
                  have T5 := hide (T4.out.below hbc)
                  have t5 := hide (below_call (w := w) t4.out hbc)
                  clear q0 q1 q2 s0 s1 s2 HLN HST hbc T4 t4 hb4 hb1' HCB
                  cases hst : stepB (gl l) j k with
                  | false =>
                    have HNo := hide (tab_no hst)
                    clear hst
                    go_wp2_with fail
                    go_roundw
                    case rel => exact ⟨k + 1, hkt, by go_num, by rw [HNo.out]; exact T5.out, t5.out⟩
                    case measure => simp [intOf]; omega
                  | true =>
                    have HS := hide hst
                    have m1 := T5.out.row hkl
                    have m2 := T5.out.at_ hkl hjt
                    have f2 := (T5.out.nr k hkl).frozen j
                    have hkb := (T5.out.nr k hkl).lt
                    generalize tabM (gl l) j k k j = old at m2
                    obtain ⟨w6, hw6⟩ : ∃ w6, w6 = wc.setCell ⟨N0 + 1 + k, j, none⟩ (.bool true) := ⟨_, rfl⟩
                    have T6 : Hid (TB w6 N0 l.length (tabI (gl l) j k 0)) := hide (by rw [hw6, ← tab_in HS.out]; exact T5.out.set_ hkl j true)
                    have t6 : Hid (Below w.heap.size w w6) := hide (by rw [hw6]; exact t5.out.setCell (p := ⟨N0 + 1 + k, j, none⟩) (by show _ ≤ N0 + 1 + k; have := HN0.out; omega) _)
                    have HW6 := hide hw6
                    clear hst hw6
                    go_upto_region 22 with fail
                    rw [← HW6.out]
                    clear m1 m2 f2 hkb HW6 T5 t5
                    go_wp2_with fail
                    go_loopw [10] (fun iv wr => ∃ i : Nat, i ≤ k ∧ iv = .int .i64 i ∧ TB wr N0 l.length (tabI (gl l) j k i) ∧ Below w.heap.size w wr) (fun iv _ => k - (intOf iv).toNat)
                    case atStart => exact ⟨0, Nat.zero_le _, rfl, T6.out, t6.out⟩
                    case round =>
                      clear T6 t6
                      obtain ⟨i, hi, rfl, hT, hb⟩ := hrel
                      have T := hide hT
                      have t := hide hb
                      clear hT hb
                      by_cases hik : i < k
                      · have hil : i < l.length := by omega
                        have m1 := T.out.row hil
                        have m2 := T.out.at_ hil hjt
                        have m3 := T.out.at_ hil hkl
                        have f2 := (T.out.nr i hil).frozen j
                        have hkb := (T.out.nr i hil).lt
                        have HX := hide (tab_next HS.out hik hkt)
                        generalize tabI (gl l) j k i i j = A at m2 HX
                        generalize tabI (gl l) j k i i k = B at m3 HX
                        go_upto_region 25 with fail
                        cases A with
                        | true =>
                          go_region
                          obtain ⟨w7, hw7⟩ : ∃ w7, w7 = (wr.setCell ⟨N0 + 1 + i, j, none⟩ (.bool true)).drew := ⟨_, rfl⟩
                          have T7 : Hid (TB w7 N0 l.length (tabI (gl l) j k (i + 1))) := hide (by rw [hw7, ← HX.out]; exact (T.out.set_ hil j true).below (Below.refl _ _).drew)
                          have t7 : Hid (Below w.heap.size w w7) := hide (by rw [hw7]; exact (t.out.setCell (p := ⟨N0 + 1 + i, j, none⟩) (by show _ ≤ N0 + 1 + i; have := HN0.out; omega) _).drew)
                          rw [← hw7]
                          clear hw7 m1 m2 m3 f2 hkb T t
                          go_wp2_with fail
                          go_roundw
                          case rel => exact ⟨i + 1, hik, by go_num, T7.out, t7.out⟩
                          case measure => simp [intOf]; omega
                        | false =>
                          go_region
                          obtain ⟨w7, hw7⟩ : ∃ w7, w7 = (wr.setCell ⟨N0 + 1 + i, j, none⟩ (.bool B)).drew := ⟨_, rfl⟩
                          have T7 : Hid (TB w7 N0 l.length (tabI (gl l) j k (i + 1))) := hide (by rw [hw7, ← HX.out]; exact (T.out.set_ hil j B).below (Below.refl _ _).drew)
                          have t7 : Hid (Below w.heap.size w w7) := hide (by rw [hw7]; exact (t.out.setCell (p := ⟨N0 + 1 + i, j, none⟩) (by show _ ≤ N0 + 1 + i; have := HN0.out; omega) _).drew)
                          rw [← hw7]
                          clear hw7 m1 m2 m3 f2 hkb T t
                          go_wp2_with fail
                          go_roundw
                          case rel => exact ⟨i + 1, hik, by go_num, T7.out, t7.out⟩
                          case measure => simp [intOf]; omega
                      · obtain rfl : i = k := by omega
                        rw [tab_out] at T
                        go_wp2_with fail
                        go_roundw
                        case rel => exact ⟨i + 1, hkt, by go_num, T.out, t.out⟩
                        case measure => simp [intOf]; omega
            · obtain rfl : k = j := by omega
              rw [tab_full] at T
              go_wp2_with fail
              go_roundw
              case rel => exact ⟨k + 1, hjt, by go_num, T.out, t.out⟩
              case measure => simp [intOf]; omega
        · obtain rfl : j = l.length := by omega
          have TF : Hid (TB wr N0 l.length (bef (gl l))) := hide (T.out.congr fun i j' hi hj' => by rw [tab_start]; unfold tabO; simp [hj'])
          go_wp2_with fail
          go_returns
          exact ⟨N0, rfl, TF.out, Nat.le_of_eq HN0.out.symm, t.out⟩
end Go.Proofs.Ytffpphnjokmffaa
