/- Walks: means, behind; the reference's. -/
import Derived.Test.YtkjmknmcadloaaaPk
namespace Go.Proofs.Ytkjmknmcadloaaa
open Go.RowKit

theorem keepd {W : World} {p : Addr} {v : Value} (h : W.cell? p = some v) : ∀ w', w' = W.drew → w'.cell? p = some v := fun _ e => e ▸ h
def KPost (p : Pk) (w : World) (r : Ending) (w' : World) : Prop := r = .returned (.agg #[.int .i64 p.w, .int .i64 p.v]) ∧ Below w.heap.size w w'
theorem kpost {p q : Pk} {w w' : World} (h : p = q) (hb : Below w.heap.size w w') : KPost q w (.returned (.agg #[.int .i64 p.w, .int .i64 p.v])) w' := by subst h; exact ⟨rfl, hb⟩
structure PkOk (p : Pk) : Prop where
  w : -9223372036854775808 ≤ p.w ∧ p.w ≤ 9223372036854775807
  v : -9223372036854775808 ≤ p.v ∧ p.v ≤ 9223372036854775807

theorem right_yes (n : Int) (w : World) (h1 : 1 ≤ n) (h2 : n ≤ 64) : Calls Try.prog 17 #[.int .i64 n] w fun r w' => r = .returned (.bool true) ∧ w = w' := by
  go_enter Try.func17, Try.ntmps17
  go_wp2
  go_returns
  exact ⟨rfl, rfl⟩
theorem right_no (n : Int) (w : World) (h : ¬ (1 ≤ n ∧ n ≤ 64)) : Calls Try.prog 17 #[.int .i64 n] w fun r w' => r = .returned (.bool false) ∧ w = w' := by
  by_cases h1 : 1 ≤ n
  · have h2 : 64 < n := by omega
    have b1 : decide (n ≤ 64) = false := by simp; omega
    clear h
    go_enter Try.func17, Try.ntmps17
    go_wp2
    go_returns
    exact ⟨rfl, rfl⟩
  · have b1 : decide (1 ≤ n) = false := by simp; omega
    clear h
    go_enter Try.func17, Try.ntmps17
    go_wp2
    go_returns
    exact ⟨rfl, rfl⟩

theorem means_any (p : Pk) (n : Int) (w : World) (hp : PkOk p) (hn : 1 ≤ n) (hn2 : n ≤ 64) : Calls Try.prog 18 #[.int .i64 n, .agg #[.int .i64 p.w, .int .i64 p.v]] w (KPost (means p n) w) := by
  obtain ⟨⟨w1, w2⟩, ⟨v1, v2⟩⟩ := hp
  obtain ⟨pw, pv⟩ := p
  simp only at w1 w2 v1 v2 ⊢
  have B0 := Blk.new w 29 #[.int .i64 pw, .int .i64 pv]
  have B1 := Blk.new (w.alloc (.cells #[.int .i64 pw, .int .i64 pv] 29)) 29 #[.int .i64 0, .int .i64 0]
  rw [World.size_alloc] at B1
  obtain ⟨W, hW⟩ : ∃ W, W = (w.alloc (.cells #[.int .i64 pw, .int .i64 pv] 29)).alloc (.cells #[.int .i64 0, .int .i64 0] 29) := ⟨_, rfl⟩
  have C0 : Hid (Blk W w.heap.size 29 #[.int .i64 pw, .int .i64 pv]) := hide (hW ▸ B0.alloc _)
  have C1 : Hid (Blk W (w.heap.size + 1) 29 #[.int .i64 0, .int .i64 0]) := hide (hW ▸ B1)
  have tW : Hid (Below w.heap.size w W) := hide (by rw [hW]; go_grown)
  have HW := hide hW
  have b1 := Int.emod_nonneg pw (show n ≠ 0 by omega)
  have b2 := Int.emod_lt_of_pos pw (show 0 < n by omega)
  have b3 := Int.emod_nonneg pv (show n ≠ 0 by omega)
  have b4 := Int.emod_lt_of_pos pv (show 0 < n by omega)
  clear hW B0 B1
  have HM : Hid (means ⟨pw, pv⟩ n = ⟨pw % n, if pw % n = pv % n then (pw % n + 1) % n else pv % n⟩) := hide rfl
  have R1 := hide (fun W => round_any pw n W hn (by omega) w1 w2)
  have R2 := hide (fun W => round_any pv n W hn (by omega) v1 v2)
  go_enter Try.func18, Try.ntmps18
  go_wp2
  rw [← HW.out]
  have z0 := keepd (C0.out.cell 0)
  have z1 := keepd (C0.out.cell 1)
  refine Reg.region (by kernel_rfl) 10 [3, 7] (fun _ w' => w' = W.drew) (by kernel_rfl) (by kernel_rfl) rfl ?_
  iterate 3
    refine Reg.WT.yield (v := ?_) rfl rfl ?_ ?_
    rotate_left
    · intro w' _ hS; go_simp; (try go_bits); (first | rfl | rw [if_pos (by omega)])
    simp only [Act.put, List.setIfInBounds_toArray, List.set_cons_zero, List.set_cons_succ]
  refine Reg.WT.call (v := ?_) (f := ?_) (args := ?_) rfl rfl ?_ ?_ ?_
  rotate_left 3
  · intro w2; go_simp; exact ⟨by rfl, by rfl⟩
  · intro w2 hS; refine (R1.out w2).mono ?_; rintro e w3 ⟨rfl, rfl⟩; exact ⟨by rfl, hS⟩
  simp only [Act.put, List.setIfInBounds_toArray, List.set_cons_zero, List.set_cons_succ]
  iterate 3
    refine Reg.WT.yield (v := ?_) rfl rfl ?_ ?_
    rotate_left
    · intro w' _ hS; go_simp; (try go_bits); (first | rfl | rw [if_pos (by omega)])
    simp only [Act.put, List.setIfInBounds_toArray, List.set_cons_zero, List.set_cons_succ]
  refine Reg.WT.call (v := ?_) (f := ?_) (args := ?_) rfl rfl ?_ ?_ ?_
  rotate_left 3
  · intro w2; go_simp; exact ⟨by rfl, by rfl⟩
  · intro w2 hS; refine (R2.out w2).mono ?_; rintro e w3 ⟨rfl, rfl⟩; exact ⟨by rfl, hS⟩
  simp only [Act.put, List.setIfInBounds_toArray, List.set_cons_zero, List.set_cons_succ]
  iterate 2
    refine Reg.WT.yield (v := ?_) rfl rfl ?_ ?_
    rotate_left
    · intro w' _ hS; go_simp; (try go_bits); (first | rfl | rw [if_pos (by omega)])
    simp only [Act.put, List.setIfInBounds_toArray, List.set_cons_zero, List.set_cons_succ]
  intro w2 hS
  subst hS
  clear z0 z1
  have R3 := hide (fun W => round_any (pw % n + 1) n W hn (by omega) (by omega) (by omega))
  clear R1 R2
  generalize hq : pw % n = q at *
  generalize hr : pv % n = r at *
  clear hq hr
  have c0 := C1.out.cell 0
  have c1 := C1.out.cell 1
  have f0 := C1.out.frozen 0
  have f1 := C1.out.frozen 1
  by_cases he : q = r
  · subst he
    rw [if_pos rfl] at HM
    go_wp2_with fail
    refine (R3.out _).mono ?_
    rintro e w3 ⟨rfl, rfl⟩
    have B4 : Hid (Blk ((W.setCell ⟨w.heap.size + 1, 0, none⟩ (.int .i64 q)).setCell ⟨w.heap.size + 1, 1, none⟩ (.int .i64 ((q + 1) % n))).drew (w.heap.size + 1) 29 #[.int .i64 q, .int .i64 ((q + 1) % n)]) := hide (by
      simpa using ((C1.out.set_ 0 (.int .i64 q)).set_ 1 (.int .i64 ((q + 1) % n))).drew)
    have t4 := hide (((tW.out.setCell (p := ⟨w.heap.size + 1, 0, none⟩) (by simp) (.int .i64 q)).setCell (p := ⟨w.heap.size + 1, 1, none⟩) (by simp) (.int .i64 ((q + 1) % n))).drew)
    have R0 := hide (B4.out.cell 0)
    go_wp2
    refine bodyPost_ret (results_cell_row Try.results18 _ _ (w.heap.size + 1) 29 _ (0, 0) _ rfl B4.out Try.underlying29 rfl (by kernel_rfl)) rfl ?_
    exact kpost HM.out.symm t4.out
  · have be : (r == q) = false := by simp; omega
    rw [if_neg he] at HM
    clear he
    have B4 : Hid (Blk ((W.setCell ⟨w.heap.size + 1, 0, none⟩ (.int .i64 q)).setCell ⟨w.heap.size + 1, 1, none⟩ (.int .i64 r)).drew (w.heap.size + 1) 29 #[.int .i64 q, .int .i64 r]) := hide (by
      simpa using ((C1.out.set_ 0 (.int .i64 q)).set_ 1 (.int .i64 r)).drew)
    have t4 := hide (((tW.out.setCell (p := ⟨w.heap.size + 1, 0, none⟩) (by simp) (.int .i64 q)).setCell (p := ⟨w.heap.size + 1, 1, none⟩) (by simp) (.int .i64 r)).drew)
    have R0 := hide (B4.out.cell 0)
    go_wp2
    refine bodyPost_ret (results_cell_row Try.results18 _ _ (w.heap.size + 1) 29 _ (0, 0) _ rfl B4.out Try.underlying29 rfl (by kernel_rfl)) rfl ?_
    exact kpost HM.out.symm t4.out
end Go.Proofs.Ytkjmknmcadloaaa
