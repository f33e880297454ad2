/- Walk: the reference's Copy. Walk: CodecWrites. -/
import Derived.Test.YtmngndmcidbakaaSW
import Derived.Deep.CutRange
import Derived.Test.YtmngndmcidbakaaZJ
import Derived.Test.YtmngndmcidbakaaZK
namespace Go.Proofs.Ytmngndmcidbakaa
open Go.RowKit
set_option maxRecDepth 100000 in
set_option maxHeartbeats 4000000 in
theorem copy_any (v : Value) (T : Tr) (w : World) (hv : TrV w v T) (sz : SzT T) :
    Calls Try.prog 16 #[v] w fun r w' => ∃ v', r = .returned v' ∧ TrV w' v' T ∧ Below w.heap.size w w' := by
  obtain ⟨i0, hi, hz0, hz1, hz2⟩ := info_parts info2
  obtain ⟨i1, hi', hy0, hy1, hy2⟩ := info_parts info51
  obtain ⟨na, nc, aa, ac, rfl, hn, ha, hok, hnc, hnc2, hac, hac2⟩ := hv
  obtain ⟨view, adv, nodes⟩ := T
  obtain ⟨s1, s2, s3⟩ := sz
  dsimp only at hn ha hok hnc hac s1 s2 s3 ⊢
  obtain ⟨W2, hW2⟩ : ∃ W2, W2 = (w.alloc (.cells #[.slice na nodes.length nc, .slice aa adv.length ac, .int .i64 view] 35)).alloc (.cells #[.slice none 0 0, .slice none 0 0, .int .i64 0] 35) := ⟨_, rfl⟩
  have k2 : Below w.heap.size w W2 := by rw [hW2]; exact ((Below.refl _ _).alloc (Nat.le_refl _) _).alloc (by simp) _
  obtain ⟨ga, hga⟩ : ∃ ga, ga = w.heap.size := ⟨_, rfl⟩
  have BA : Blk W2 ga 35 #[.slice na nodes.length nc, .slice aa adv.length ac, .int .i64 view] := by rw [hW2, hga]; exact (Blk.new w _ _).alloc _
  have BB : Blk W2 (ga + 1) 35 #[.slice none 0 0, .slice none 0 0, .int .i64 0] := by
    rw [hW2, hga]
    have := Blk.new (w.alloc (.cells #[.slice na nodes.length nc, .slice aa adv.length ac, .int .i64 view] 35)) 35 #[.slice none 0 0, .slice none 0 0, .int .i64 0]
    simpa using this
  have N2 := hide (hn.below k2)
  have A2 := hide (ha.below k2)
  have K2 : Hid (Below ga w W2) := hide (hga ▸ k2)
  have OK := hide hok
  have HW2 := hide hW2
  have HGA := hide hga
  have BA := hide BA
  have BB := hide BB
  clear hn ha hok hW2 k2 hga
  rw [← HGA.out]
  go_enter Try.func16, Try.ntmps16
  go_upto_region 1 with fail
  rw [← HW2.out, ← HGA.out]
  have C1 := keepc (p := ⟨ga, 1, none⟩) BA.out.lt (BA.out.cell 1)
  have C2 := keepc (p := ⟨ga, 2, none⟩) BA.out.lt (BA.out.cell 2)
  go_cut [3] from 6 to 12 (fun s3 wx => ∃ (gd : Nat) (av : Option Addr) (c : Nat), s3 = .pointer (some ⟨gd, 0, none⟩) ∧ Blk wx gd 35 #[.slice none 0 0, .slice av adv.length c, .int .i64 view] ∧ W2.heap.size ≤ gd ∧ AO wx W2.heap.size (.slice av adv.length c) adv ∧ Below W2.heap.size W2 wx)
  case first =>
    refine Hold.begin_ 9 (by kernel_rfl) rfl (fun w' => Below W2.heap.size W2 w') ?_ (Below.refl _ _).drew
    intro hS
    refine Hold.take (i := 1) (v := ?_) rfl (by kernel_rfl) (fun _ _ _ h => h) rfl ?_ hS ?_
    rotate_left
    · intro w' hS; have z0_ := C1 _ hS; have z1_ := C2 _ hS; go_simp; (try go_bits); (first | rfl | rw [if_pos (by omega)])
    simp only [Act.put, List.getElem_toArray, List.getElem_cons_zero, List.getElem_cons_succ, List.setIfInBounds_toArray, List.set_cons_zero, List.set_cons_succ]
    refine Hold.take (i := 2) (v := ?_) rfl (by kernel_rfl) (fun _ _ _ h => h) rfl ?_ hS ?_
    rotate_left
    · intro w' hS; have z0_ := C1 _ hS; have z1_ := C2 _ hS; go_simp; (try go_bits); (first | rfl | rw [if_pos (by omega)])
    simp only [Act.put, List.getElem_toArray, List.getElem_cons_zero, List.getElem_cons_succ, List.setIfInBounds_toArray, List.set_cons_zero, List.set_cons_succ]
    refine Hold.take (i := 4) (v := ?_) rfl (by kernel_rfl) (fun _ _ _ h => h) rfl ?_ hS ?_
    rotate_left
    · intro w' hS; have z0_ := C1 _ hS; have z1_ := C2 _ hS; go_simp; (try go_bits); (first | rfl | rw [if_pos (by omega)])
    simp only [Act.put, List.getElem_toArray, List.getElem_cons_zero, List.getElem_cons_succ, List.setIfInBounds_toArray, List.set_cons_zero, List.set_cons_succ]
    refine Hold.take (i := 5) (v := ?_) rfl (by kernel_rfl) (fun _ _ _ h => h) rfl ?_ hS ?_
    rotate_left
    · intro w' hS; have z0_ := C1 _ hS; have z1_ := C2 _ hS; go_simp; (try go_bits); (first | rfl | rw [if_pos (by omega)])
    simp only [Act.put, List.getElem_toArray, List.getElem_cons_zero, List.getElem_cons_succ, List.setIfInBounds_toArray, List.set_cons_zero, List.set_cons_succ]
    refine Hold.two (i := 0) (j := 7) (by kernel_rfl) ?_ ?_
    · refine Hold.run (w' := W2.drew.alloc (.cells #[] 2)) rfl rfl (by go_simp; first | rfl | exact ⟨rfl, rfl⟩) ?_
      refine ⟨(Below.refl _ _).drew.alloc (Nat.le_refl _) _, ?_⟩
      simp only [Act.put, List.getElem_toArray, List.getElem_cons_zero, List.getElem_cons_succ, List.setIfInBounds_toArray, List.set_cons_zero, List.set_cons_succ]
      obtain ⟨x1, hx1⟩ : ∃ x1, x1 = W2.drew.alloc (.cells #[] 2) := ⟨_, rfl⟩
      have t1 : Below W2.heap.size W2 x1 := by rw [hx1]; exact (Below.refl _ _).drew.alloc (Nat.le_refl _) _
      have O1 : x1.ownsRow W2.heap.size 2 1 (.slice (some ⟨W2.drew.heap.size, 0, none⟩) 0 0) 0 [] := by
        rw [hx1]
        exact World.ownsRow_made (base := W2.heap.size) (e := 2) (size := 1) W2.drew #[] 0 (Nat.le_refl _) (Nat.zero_le _) rfl
      rw [← hx1]
      clear hx1
      refine Hold.two (i := 3) (j := 7) (by kernel_rfl) ?_ ?_
      · refine Hold.list1 rfl rfl ?_
        refine wpList_append_row rfl _ _ 33 rfl W2.heap.size 2 i0 (.int .i64 0) 8 Try.underlying33 hi hz0 hz1 hz2 rfl (.slice (some ⟨W2.drew.heap.size, 0, none⟩) 0 0) 0 [] rfl O1 aa adv.length ac (adv.map (.int .i64)) rfl (A2.out.below t1) (by simp) (by intro u hu; obtain ⟨x, _, rfl⟩ := List.mem_map.1 hu; rfl) ?c1 ?c2 ?c3 ?_
        case c1 => unfold maxLen; omega
        case c2 => omega
        case c3 => exact t1.size
        intro v3 x3 hown hgrow _
        have t3 : Below W2.heap.size W2 x3 := below_grown (a := W2) t1 hgrow (own_ge O1)
        have O3 : AO x3 W2.heap.size v3 adv := by
          unfold AO
          simpa using hown
        obtain ⟨av, cv, rfl, _⟩ := own_row O3
        show _ ∧ _
        refine ⟨t3, ?_⟩
        simp only [Act.put, List.getElem_toArray, List.getElem_cons_zero, List.getElem_cons_succ, List.setIfInBounds_toArray, List.set_cons_zero, List.set_cons_succ]
        clear hS
        have hS := t3
        refine Hold.take (i := 6) (v := ?_) rfl (by kernel_rfl) (fun _ _ _ h => h) rfl ?_ hS ?_
        rotate_left
        · intro w' hS; have z0_ := C1 _ hS; have z1_ := C2 _ hS; go_simp; (try go_bits); (first | rfl | rw [if_pos (by omega)])
        simp only [Act.put, List.getElem_toArray, List.getElem_cons_zero, List.getElem_cons_succ, List.setIfInBounds_toArray, List.set_cons_zero, List.set_cons_succ]
        refine Hold.one (i := 7) (by kernel_rfl) ?_
        refine Hold.run (w' := x3.alloc (.cells #[.slice none 0 0, .slice none 0 0, .int .i64 0] 35)) rfl rfl (by go_simp; first | rfl | exact ⟨rfl, rfl⟩) ?_
        have k4 : Below x3.heap.size x3 (x3.alloc (.cells #[.slice none 0 0, .slice none 0 0, .int .i64 0] 35)) := (Below.refl _ _).alloc (Nat.le_refl _) _
        have B4 : Blk (x3.alloc (.cells #[.slice none 0 0, .slice none 0 0, .int .i64 0] 35)) x3.heap.size 35 #[.slice none 0 0, .slice none 0 0, .int .i64 0] := Blk.new _ _ _
        have O4 := O3.keeps (Keeps.of_below k4)
        have t4 := below_call t3 k4
        refine ⟨t4, ?_⟩
        simp only [Act.put, List.getElem_toArray, List.getElem_cons_zero, List.getElem_cons_succ, List.setIfInBounds_toArray, List.set_cons_zero, List.set_cons_succ]
        have hgd : W2.heap.size ≤ x3.heap.size := t3.size
        generalize x3.alloc (.cells #[.slice none 0 0, .slice none 0 0, .int .i64 0] 35) = x4 at k4 B4 O4 t4 ⊢
        generalize x3.heap.size = gd at B4 hgd k4 ⊢
        have b0 : x4.cell? ⟨gd, 0, none⟩ = some (.slice none 0 0) := B4.cell 0
        have b1 : x4.cell? ⟨gd, 1, none⟩ = some (.slice none 0 0) := B4.cell 1
        have b2 : x4.cell? ⟨gd, 2, none⟩ = some (.int .i64 0) := B4.cell 2
        have f0 := B4.frozen 0
        have f1 := B4.frozen 1
        have f2 := B4.frozen 2
        refine Hold.one (i := 8) (by kernel_rfl) ?_
        refine Hold.skip (w' := ((x4.setCell ⟨gd, 0, none⟩ (.slice none 0 0)).setCell ⟨gd, 1, none⟩ (.slice av adv.length cv)).setCell ⟨gd, 2, none⟩ (.int .i64 view)) rfl rfl (by go_simp <;> first | rfl | exact ⟨rfl, rfl⟩) ?_
        have t5 : Below W2.heap.size W2 (((x4.setCell ⟨gd, 0, none⟩ (.slice none 0 0)).setCell ⟨gd, 1, none⟩ (.slice av adv.length cv)).setCell ⟨gd, 2, none⟩ (.int .i64 view)) := ((t4.setCell (p := ⟨gd, 0, none⟩) hgd _).setCell (p := ⟨gd, 1, none⟩) hgd _).setCell (p := ⟨gd, 2, none⟩) hgd _
        have B5 : Blk (((x4.setCell ⟨gd, 0, none⟩ (.slice none 0 0)).setCell ⟨gd, 1, none⟩ (.slice av adv.length cv)).setCell ⟨gd, 2, none⟩ (.int .i64 view)) (gd) 35 #[.slice none 0 0, .slice av adv.length cv, .int .i64 view] := by
          have := ((B4.set_ 0 (.slice none 0 0)).set_ 1 (.slice av adv.length cv)).set_ 2 (.int .i64 view)
          simpa using this
        have F5 : Foot [gd] x4 (((x4.setCell ⟨gd, 0, none⟩ (.slice none 0 0)).setCell ⟨gd, 1, none⟩ (.slice av adv.length cv)).setCell ⟨gd, 2, none⟩ (.int .i64 view)) := (((Foot.refl _ _).setCell (.inl (by simp)) _).setCell (.inl (by simp)) _).setCell (.inl (by simp)) _
        have O5 := O4.keeps (Keeps.of_foot F5 (fun y hy => by obtain rfl := List.mem_singleton.1 hy; exact ⟨_, _, B4, by decide⟩))
        refine ⟨t5, ?_⟩
        simp only [Act.put, List.getElem_toArray, List.getElem_cons_zero, List.getElem_cons_succ, List.setIfInBounds_toArray, List.set_cons_zero, List.set_cons_succ]
        refine Hold.done (by kernel_rfl) ?_
        clear b0 b1 b2 f0 f1 f2
        go_wp2_with fail
        go_meet
        exact ⟨gd, av, cv, rfl, B5, hgd, O5, t5⟩
      · refine Hold.run (w' := x1.alloc (.cells #[.slice none 0 0, .slice none 0 0, .int .i64 0] 35)) rfl rfl (by go_simp <;> first | rfl | exact ⟨rfl, rfl⟩) ?_
        have k2 : Below x1.heap.size x1 (x1.alloc (.cells #[.slice none 0 0, .slice none 0 0, .int .i64 0] 35)) := (Below.refl _ _).alloc (Nat.le_refl _) _
        have B2 : Blk (x1.alloc (.cells #[.slice none 0 0, .slice none 0 0, .int .i64 0] 35)) x1.heap.size 35 #[.slice none 0 0, .slice none 0 0, .int .i64 0] := Blk.new _ _ _
        have O2 := own_below O1 k2
        have t2 := below_call t1 k2
        refine ⟨t2, ?_⟩
        simp only [Act.put, List.getElem_toArray, List.getElem_cons_zero, List.getElem_cons_succ, List.setIfInBounds_toArray, List.set_cons_zero, List.set_cons_succ]
        have hgd : W2.heap.size ≤ x1.heap.size := t1.size
        generalize x1.alloc (.cells #[.slice none 0 0, .slice none 0 0, .int .i64 0] 35) = x2 at k2 B2 O2 t2 ⊢
        generalize x1.heap.size = gd at B2 hgd k2 ⊢
        refine Hold.one (i := 3) (by kernel_rfl) ?_
        refine Hold.list1 rfl rfl ?_
        refine wpList_append_row rfl _ _ 33 rfl W2.heap.size 2 i0 (.int .i64 0) 8 Try.underlying33 hi hz0 hz1 hz2 rfl (.slice (some ⟨W2.drew.heap.size, 0, none⟩) 0 0) 0 [] rfl O2 aa adv.length ac (adv.map (.int .i64)) rfl (A2.out.below t2) (by simp) (by intro u hu; obtain ⟨x, _, rfl⟩ := List.mem_map.1 hu; rfl) ?c1 ?c2 ?c3 ?_
        case c1 => unfold maxLen; omega
        case c2 => omega
        case c3 => exact t2.size
        intro v3 x4 hown hgrow _
        have t4 : Below W2.heap.size W2 x4 := below_grown (a := W2) t2 hgrow (own_ge O2)
        have O4 : AO x4 W2.heap.size v3 adv := by
          unfold AO
          simpa using hown
        have B4 : Blk x4 (gd) 35 #[.slice none 0 0, .slice none 0 0, .int .i64 0] := B2.foot (foot_row hgrow) (fun hm => own_ne O2 B2 (by decide) _ (Option.mem_toList.1 hm) rfl)
        obtain ⟨av, cv, rfl, _⟩ := own_row O4
        show _ ∧ _
        refine ⟨t4, ?_⟩
        simp only [Act.put, List.getElem_toArray, List.getElem_cons_zero, List.getElem_cons_succ, List.setIfInBounds_toArray, List.set_cons_zero, List.set_cons_succ]
        clear hS
        have hS := t4
        refine Hold.take (i := 6) (v := ?_) rfl (by kernel_rfl) (fun _ _ _ h => h) rfl ?_ hS ?_
        rotate_left
        · intro w' hS; have z0_ := C1 _ hS; have z1_ := C2 _ hS; go_simp; (try go_bits); (first | rfl | rw [if_pos (by omega)])
        simp only [Act.put, List.getElem_toArray, List.getElem_cons_zero, List.getElem_cons_succ, List.setIfInBounds_toArray, List.set_cons_zero, List.set_cons_succ]
        have b0 : x4.cell? ⟨gd, 0, none⟩ = some (.slice none 0 0) := B4.cell 0
        have b1 : x4.cell? ⟨gd, 1, none⟩ = some (.slice none 0 0) := B4.cell 1
        have b2 : x4.cell? ⟨gd, 2, none⟩ = some (.int .i64 0) := B4.cell 2
        have f0 := B4.frozen 0
        have f1 := B4.frozen 1
        have f2 := B4.frozen 2
        refine Hold.one (i := 8) (by kernel_rfl) ?_
        refine Hold.skip (w' := ((x4.setCell ⟨gd, 0, none⟩ (.slice none 0 0)).setCell ⟨gd, 1, none⟩ (.slice av adv.length cv)).setCell ⟨gd, 2, none⟩ (.int .i64 view)) rfl rfl (by go_simp <;> first | rfl | exact ⟨rfl, rfl⟩) ?_
        have t5 : Below W2.heap.size W2 (((x4.setCell ⟨gd, 0, none⟩ (.slice none 0 0)).setCell ⟨gd, 1, none⟩ (.slice av adv.length cv)).setCell ⟨gd, 2, none⟩ (.int .i64 view)) := ((t4.setCell (p := ⟨gd, 0, none⟩) hgd _).setCell (p := ⟨gd, 1, none⟩) hgd _).setCell (p := ⟨gd, 2, none⟩) hgd _
        have B5 : Blk (((x4.setCell ⟨gd, 0, none⟩ (.slice none 0 0)).setCell ⟨gd, 1, none⟩ (.slice av adv.length cv)).setCell ⟨gd, 2, none⟩ (.int .i64 view)) (gd) 35 #[.slice none 0 0, .slice av adv.length cv, .int .i64 view] := by
          have := ((B4.set_ 0 (.slice none 0 0)).set_ 1 (.slice av adv.length cv)).set_ 2 (.int .i64 view)
          simpa using this
        have F5 : Foot [gd] x4 (((x4.setCell ⟨gd, 0, none⟩ (.slice none 0 0)).setCell ⟨gd, 1, none⟩ (.slice av adv.length cv)).setCell ⟨gd, 2, none⟩ (.int .i64 view)) := (((Foot.refl _ _).setCell (.inl (by simp)) _).setCell (.inl (by simp)) _).setCell (.inl (by simp)) _
        have O5 := O4.keeps (Keeps.of_foot F5 (fun y hy => by obtain rfl := List.mem_singleton.1 hy; exact ⟨_, _, B4, by decide⟩))
        refine ⟨t5, ?_⟩
        simp only [Act.put, List.getElem_toArray, List.getElem_cons_zero, List.getElem_cons_succ, List.setIfInBounds_toArray, List.set_cons_zero, List.set_cons_succ]
        refine Hold.done (by kernel_rfl) ?_
        clear b0 b1 b2 f0 f1 f2
        go_wp2_with fail
        go_meet
        exact ⟨gd, av, cv, rfl, B5, hgd, O5, t5⟩
    · refine Hold.run (w' := W2.drew.alloc (.cells #[.slice none 0 0, .slice none 0 0, .int .i64 0] 35)) rfl rfl (by go_simp <;> first | rfl | exact ⟨rfl, rfl⟩) ?_
      refine ⟨(Below.refl _ _).drew.alloc (Nat.le_refl _) _, ?_⟩
      simp only [Act.put, List.getElem_toArray, List.getElem_cons_zero, List.getElem_cons_succ, List.setIfInBounds_toArray, List.set_cons_zero, List.set_cons_succ]
      obtain ⟨x1, hx1⟩ : ∃ x1, x1 = W2.drew.alloc (.cells #[.slice none 0 0, .slice none 0 0, .int .i64 0] 35) := ⟨_, rfl⟩
      have t1 : Below W2.heap.size W2 x1 := by rw [hx1]; exact (Below.refl _ _).drew.alloc (Nat.le_refl _) _
      have B1 : Blk x1 W2.drew.heap.size 35 #[.slice none 0 0, .slice none 0 0, .int .i64 0] := by rw [hx1]; exact Blk.new _ _ _
      have B1 : Blk x1 W2.heap.size 35 #[.slice none 0 0, .slice none 0 0, .int .i64 0] := B1
      have hgd : W2.heap.size ≤ W2.heap.size := Nat.le_refl _
      rw [← hx1]
      clear hx1
      refine Hold.one (i := 0) (by kernel_rfl) ?_
      refine Hold.run (w' := x1.alloc (.cells #[] 2)) rfl rfl (by go_simp; first | rfl | exact ⟨rfl, rfl⟩) ?_
      have k2 : Below x1.heap.size x1 (x1.alloc (.cells #[] 2)) := (Below.refl _ _).alloc (Nat.le_refl _) _
      have O2 : (x1.alloc (.cells #[] 2)).ownsRow W2.heap.size 2 1 (.slice (some ⟨x1.heap.size, 0, none⟩) 0 0) 0 [] := World.ownsRow_made (base := W2.heap.size) (e := 2) (size := 1) x1 #[] 0 t1.size (Nat.zero_le _) rfl
      have B2 := B1.below k2 B1.lt
      have t2 := below_call t1 k2
      refine ⟨t2, ?_⟩
      simp only [Act.put, List.getElem_toArray, List.getElem_cons_zero, List.getElem_cons_succ, List.setIfInBounds_toArray, List.set_cons_zero, List.set_cons_succ]
      generalize x1.alloc (.cells #[] 2) = x2 at k2 B2 O2 t2 ⊢
      generalize x1.heap.size = ge at O2 k2 ⊢
      refine Hold.one (i := 3) (by kernel_rfl) ?_
      refine Hold.list1 rfl rfl ?_
      refine wpList_append_row rfl _ _ 33 rfl W2.heap.size 2 i0 (.int .i64 0) 8 Try.underlying33 hi hz0 hz1 hz2 rfl (.slice (some ⟨ge, 0, none⟩) 0 0) 0 [] rfl O2 aa adv.length ac (adv.map (.int .i64)) rfl (A2.out.below t2) (by simp) (by intro u hu; obtain ⟨x, _, rfl⟩ := List.mem_map.1 hu; rfl) ?c1 ?c2 ?c3 ?_
      case c1 => unfold maxLen; omega
      case c2 => omega
      case c3 => exact t2.size
      intro v3 x4 hown hgrow _
      have t4 : Below W2.heap.size W2 x4 := below_grown (a := W2) t2 hgrow (own_ge O2)
      have O4 : AO x4 W2.heap.size v3 adv := by
        unfold AO
        simpa using hown
      have B4 : Blk x4 (W2.heap.size) 35 #[.slice none 0 0, .slice none 0 0, .int .i64 0] := B2.foot (foot_row hgrow) (fun hm => own_ne O2 B2 (by decide) _ (Option.mem_toList.1 hm) rfl)
      obtain ⟨av, cv, rfl, _⟩ := own_row O4
      show _ ∧ _
      refine ⟨t4, ?_⟩
      simp only [Act.put, List.getElem_toArray, List.getElem_cons_zero, List.getElem_cons_succ, List.setIfInBounds_toArray, List.set_cons_zero, List.set_cons_succ]
      clear hS
      have hS := t4
      refine Hold.take (i := 6) (v := ?_) rfl (by kernel_rfl) (fun _ _ _ h => h) rfl ?_ hS ?_
      rotate_left
      · intro w' hS; have z0_ := C1 _ hS; have z1_ := C2 _ hS; go_simp; (try go_bits); (first | rfl | rw [if_pos (by omega)])
      simp only [Act.put, List.getElem_toArray, List.getElem_cons_zero, List.getElem_cons_succ, List.setIfInBounds_toArray, List.set_cons_zero, List.set_cons_succ]
      have b0 : x4.cell? ⟨W2.heap.size, 0, none⟩ = some (.slice none 0 0) := B4.cell 0
      have b1 : x4.cell? ⟨W2.heap.size, 1, none⟩ = some (.slice none 0 0) := B4.cell 1
      have b2 : x4.cell? ⟨W2.heap.size, 2, none⟩ = some (.int .i64 0) := B4.cell 2
      have f0 := B4.frozen 0
      have f1 := B4.frozen 1
      have f2 := B4.frozen 2
      refine Hold.one (i := 8) (by kernel_rfl) ?_
      refine Hold.skip (w' := ((x4.setCell ⟨W2.heap.size, 0, none⟩ (.slice none 0 0)).setCell ⟨W2.heap.size, 1, none⟩ (.slice av adv.length cv)).setCell ⟨W2.heap.size, 2, none⟩ (.int .i64 view)) rfl rfl (by go_simp <;> first | rfl | exact ⟨rfl, rfl⟩) ?_
      have t5 : Below W2.heap.size W2 (((x4.setCell ⟨W2.heap.size, 0, none⟩ (.slice none 0 0)).setCell ⟨W2.heap.size, 1, none⟩ (.slice av adv.length cv)).setCell ⟨W2.heap.size, 2, none⟩ (.int .i64 view)) := ((t4.setCell (p := ⟨W2.heap.size, 0, none⟩) hgd _).setCell (p := ⟨W2.heap.size, 1, none⟩) hgd _).setCell (p := ⟨W2.heap.size, 2, none⟩) hgd _
      have B5 : Blk (((x4.setCell ⟨W2.heap.size, 0, none⟩ (.slice none 0 0)).setCell ⟨W2.heap.size, 1, none⟩ (.slice av adv.length cv)).setCell ⟨W2.heap.size, 2, none⟩ (.int .i64 view)) (W2.heap.size) 35 #[.slice none 0 0, .slice av adv.length cv, .int .i64 view] := by
        have := ((B4.set_ 0 (.slice none 0 0)).set_ 1 (.slice av adv.length cv)).set_ 2 (.int .i64 view)
        simpa using this
      have F5 : Foot [W2.heap.size] x4 (((x4.setCell ⟨W2.heap.size, 0, none⟩ (.slice none 0 0)).setCell ⟨W2.heap.size, 1, none⟩ (.slice av adv.length cv)).setCell ⟨W2.heap.size, 2, none⟩ (.int .i64 view)) := (((Foot.refl _ _).setCell (.inl (by simp)) _).setCell (.inl (by simp)) _).setCell (.inl (by simp)) _
      have O5 := O4.keeps (Keeps.of_foot F5 (fun y hy => by obtain rfl := List.mem_singleton.1 hy; exact ⟨_, _, B4, by decide⟩))
      refine ⟨t5, ?_⟩
      simp only [Act.put, List.getElem_toArray, List.getElem_cons_zero, List.getElem_cons_succ, List.setIfInBounds_toArray, List.set_cons_zero, List.set_cons_succ]
      refine Hold.done (by kernel_rfl) ?_
      clear b0 b1 b2 f0 f1 f2
      go_wp2_with fail
      go_meet
      exact ⟨W2.heap.size, av, cv, rfl, B5, hgd, O5, t5⟩
  case rest =>
    obtain ⟨gd, av, cv, rfl, B5, hgd, O5, t5⟩ := hcut
    have B5 := hide B5
    have O5 := hide O5
    have T5 := hide t5
    clear t5 C1 C2
    have hga1 : ga < W2.heap.size := BA.out.lt
    have x0 : wc.cell? ⟨ga, 0, none⟩ = some (.slice na nodes.length nc) := (T5.out.cell (p := ⟨ga, 0, none⟩) hga1).trans (BA.out.cell 0)
    go_wp2_with fail
    go_loopw [4, 5] (fun s4 _ wr => ∃ (j : Nat) (nv : Option Addr) (nd : Nat), j ≤ nodes.length ∧ s4 = .int .i64 j ∧ Blk wr gd 35 #[.slice nv j nd, .slice av adv.length cv, .int .i64 view] ∧ AO wr W2.heap.size (.slice av adv.length cv) adv ∧ NO wr W2.heap.size (.slice nv j nd) (nodes.take j) ∧ Below W2.heap.size W2 wr) (fun s4 _ _ => nodes.length - (intOf s4).toNat)
    case atStart => exact ⟨0, none, 0, Nat.zero_le _, rfl, B5.out, O5.out, ⟨[], trivial, World.ownsRow_nil _ _ _ _⟩, T5.out⟩
    case round =>
      clear B5 O5 T5 x0
      obtain ⟨j, nv, ncap, hj, rfl, hB, hO, hN, hb⟩ := hrel
      have B := hide hB
      have O := hide hO
      have N := hide hN
      have TR := hide hb
      clear hB hO hN hb
      have x0 : wr.cell? ⟨ga, 0, none⟩ = some (.slice na nodes.length nc) := (TR.out.cell (p := ⟨ga, 0, none⟩) hga1).trans (BA.out.cell 0)
      by_cases hlt : j < nodes.length
      · obtain ⟨b, o, hna, hbl, hnd⟩ := N2.out.2 (by omega)
        subst hna
        obtain ⟨p0, q0⟩ := hnd j hlt
        obtain ⟨uv, rg, ur⟩ := st_range q0
        have hHT : nodes.take (j + 1) = nodes.take j ++ [nodes[j]] := List.take_succ_eq_append_getElem hlt
        have HT := hide hHT
        have sul := s3 _ (List.getElem_mem hlt)
        clear hnd q0 hHT
        generalize nodes[j] = n at p0 rg ur HT sul
        have rgn : W2.rangeAt b (o + j * 44) (ncell n uv) := by
          intro i v hv
          cases i with
          | zero => exact p0.trans hv
          | succ i => rw [show o + j * 44 + (i + 1) = o + j * 44 + 1 + i from by omega]; exact rg i v hv
        have RG := range_below rgn TR.out hbl
        obtain ⟨us, hus⟩ : ∃ us, us = n.2.getD 31 [] := ⟨_, rfl⟩
        rw [← hus] at ur sul
        have HUS := hide hus
        clear hus
        have UR0 := hide ur
        obtain ⟨a', c', rfl, _⟩ := id ur
        have dlt : decide ((j : Int) < (nodes.length : Int)) = true := by rw [decide_eq_true_eq]; omega
        clear p0 rg ur rgn
        go_upto_region 6 with (first | (refine wpList_load_mid rfl 51 _ rfl b (o + j * 44) rfl (ncell n _) _ RG Try.underlying51 rfl (nd_size _ _) ?_) | (refine wpList_store_row rfl 51 _ _ rfl wr.heap.size (ncell n _).toArray rfl rfl 51 _ (heap_alloc_new wr _) (nd_size _ _) rfl (all_oneCell_toArray (ncell_one _ rfl)) ?_))
        rw [World.setRow_alloc_new]
        obtain ⟨w5, hw5⟩ : ∃ w5, w5 = wr.alloc (.cells (ncell n (.slice a' us.length c')).toArray 51) := ⟨_, rfl⟩
        have k5 : Below wr.heap.size wr w5 := by rw [hw5]; exact (Below.refl _ _).alloc (Nat.le_refl _) _
        have BN : Blk w5 wr.heap.size 51 (ncell n (.slice a' us.length c')).toArray := by rw [hw5]; exact Blk.new _ _ _
        rw [← hw5]
        have T5 := hide (below_call TR.out k5)
        have B5 := hide (B.out.below k5 B.out.lt)
        have O5 := hide (O.out.keeps (Keeps.of_below k5))
        have N5 := hide (N.out.below k5)
        have hgdl : gd < wr.heap.size := B.out.lt
        have hnl : ∀ y, (Value.slice nv j ncap).ownBlock = some y → y < wr.heap.size := by
          obtain ⟨ls1, _, how1⟩ := N.out
          intro y hy
          obtain ⟨_, _, h⟩ := own_type how1 y hy
          exact heap_lt h
        have hnb : W2.heap.size ≤ wr.heap.size := TR.out.size
        clear hw5 k5 B O N TR RG x0
        generalize wr.heap.size = nb at BN hgdl hnl hnb ⊢
        have hnb5 : nb < w5.heap.size := BN.lt
        have y0 : w5.cell? ⟨nb, 43, none⟩ = some (.slice a' us.length c') := BN.cell 43
        obtain ⟨ua, uc, eu, hur, _⟩ := UR0.out
        simp only [Value.slice.injEq] at eu
        obtain ⟨ea, _, ec⟩ := eu
        subst ea ec
        have RU := hide (hur.below T5.out)
        have BN := hide BN
        obtain ⟨iu, hu', hu0, hu1, hu2⟩ := info_parts info92
        have b6 : Below w5.heap.size w5 (w5.alloc (.cells #[] 92)) := (Below.refl _ _).alloc (Nat.le_refl _) _
        have OU : Hid ((w5.alloc (.cells #[] 92)).ownsRow W2.heap.size 92 1 (.slice (some ⟨w5.heap.size, 0, none⟩) 0 0) 0 []) := hide (World.ownsRow_made (base := W2.heap.size) (e := 92) (size := 1) w5 #[] 0 T5.out.size (Nat.zero_le _) rfl)
        have RU6 := hide (hur.below (below_call T5.out b6))
        have T6 := hide (below_call T5.out b6)
        have hsz6 := T6.out.size
        go_wp2_with (at_builtin; refine wpList_append_row rfl _ _ 47 rfl W2.heap.size 92 iu (.int .u16 0) 2 Try.underlying47 hu' hu0 hu1 hu2 rfl (.slice (some ⟨w5.heap.size, 0, none⟩) 0 0) 0 [] rfl OU.out _ us.length _ (us.map (.int .u16)) rfl RU6.out (by simp) (by intro u hu; obtain ⟨x, _, rfl⟩ := List.mem_map.1 hu; rfl) ?c1 ?c2 ?c3 ?_)
        case c1 => unfold maxLen; omega
        case c2 => omega
        case c3 => exact hsz6
        intro v7 w7 hown hgrow _
        obtain ⟨a7, c7, rfl, _⟩ := own_row hown
        have OU5 : (w5.alloc (.cells #[] 92)).ownsRow w5.heap.size 92 1 (.slice (some ⟨w5.heap.size, 0, none⟩) 0 0) 0 [] := World.ownsRow_made (base := w5.heap.size) (e := 92) (size := 1) w5 #[] 0 (Nat.le_refl _) (Nat.zero_le _) rfl
        have k7 : Below w5.heap.size w5 w7 := below_grown (a := w5) b6 hgrow (own_ge OU5)
        have U7 : UO w7 W2.heap.size (.slice a7 us.length c7) us := hown
        have HU := hide U7.one
        have T7 := below_call T5.out k7
        have B7 := B5.out.below k7 B5.out.lt
        have O7 := O5.out.keeps (Keeps.of_below k7)
        have N7 := N5.out.below k7
        have BN7 := BN.out.below k7 BN.out.lt
        have n7 : w7.cell? ⟨nb, 43, none⟩ = some (.slice a' us.length c') := BN7.cell 43
        have fn7 := BN7.frozen 43
        obtain ⟨w8, hw8⟩ : ∃ w8, w8 = w7.setCell ⟨nb, 43, none⟩ (.slice a7 us.length c7) := ⟨_, rfl⟩
        have F8 : Foot [nb] w7 w8 := by rw [hw8]; exact (Foot.refl _ _).setCell (.inl (by simp)) _
        have K8 := Keeps.of_foot F8 (fun y hy => by obtain rfl := List.mem_singleton.1 hy; exact ⟨_, _, BN7, by decide⟩)
        have BN8 : Blk w8 nb 51 (ncell n (.slice a7 us.length c7)).toArray := by rw [hw8]; exact BN7.set_ 43 (.slice a7 us.length c7)
        have B8 := hide (B7.foot F8 (by simp; omega))
        have O8 := hide (O7.keeps K8)
        have U8 := hide (U7.keeps K8)
        have N8 := N7.foot F8 K8 (fun y hy hm => by have := hnl y hy; have := List.mem_singleton.1 hm; omega)
        have T8 := hide (show Below W2.heap.size W2 w8 by rw [hw8]; exact T7.setCell (p := ⟨nb, 43, none⟩) hnb (.slice a7 us.length c7))
        have RG8 : w8.rangeAt nb 0 (ncell n (.slice a7 us.length c7)) := by
          intro i v hv
          have := BN8.cell i
          rw [Nat.zero_add, this]
          simpa using hv
        clear hown hgrow OU OU5 RU RU6 T6 hsz6 b6 k7 T7 B7 O7 N7 BN7 F8 K8 U7 T5 B5 O5 N5 BN y0 UR0 hur
        go_upto_region 7 with fail
        rw [← hw8]
        clear hw8 n7 fn7
        have x8 : w8.cell? ⟨gd, 0, none⟩ = some (.slice nv j ncap) := B8.out.cell 0
        obtain ⟨ls, hnlr, how⟩ := N8
        have b9 : Below w8.heap.size w8 (w8.alloc (.cells (ncell n (.slice a7 us.length c7)).toArray 51)) := (Below.refl _ _).alloc (Nat.le_refl _) _
        have hlen : (nodes.take j).length = j := by rw [List.length_take]; omega
        have HNS := hide hlen
        have O9 : Hid ((w8.alloc (.cells (ncell n (.slice a7 us.length c7)).toArray 51)).ownsRow W2.heap.size 51 44 (.slice nv j ncap) j ls.flatten) := hide (by
          have := own_below how b9
          rwa [HNS.out] at this)
        have NL8 := hide hnlr
        have NB9 := hide (Blk.new w8 51 (ncell n (.slice a7 us.length c7)).toArray)
        have B9 := hide (B8.out.below b9 B8.out.lt)
        have K9 := hide (Keeps.of_below b9)
        have T9 := hide (below_call T8.out b9)
        have hsz9 := T9.out.size
        clear hnlr how b9 hlen
        go_wp2_with (first | (refine wpList_load_mid rfl 51 _ rfl nb 0 rfl (ncell n (.slice a7 us.length c7)) _ RG8 Try.underlying51 rfl (nd_size _ _) ?_) | (refine wpList_node rfl _ rfl n (.slice a7 us.length c7) rfl ?_) | (at_builtin; refine wpList_append_lies _ rfl _ _ 32 rfl W2.heap.size 51 i1 (.agg (ncell (0, KD.map zv) (.slice none 0 0)).toArray) 44 328 Try.underlying32 hi' hy0 hy1 hy2 rfl (by decide) _ _ _ rfl O9.out ⟨w8.heap.size, 0, none⟩ 1 1 (ncell n (.slice a7 us.length c7)) rfl rfl ?c1 ?c2 (by decide) ?c3 ?c4 ?c5 _ rfl ?_))
        case c1 => exact NB9.out.news
        case c2 => exact ncell_one _ HU.out
        case c3 => unfold maxLen; omega
        case c4 => omega
        case c5 => exact hsz9
        intro g2 cap2 w10 hown hgrow hat hlt10
        have hge := own_ge O9.out
        have hnr := own_ne O9.out B9.out (by decide)
        have FG := foot_row hgrow
        have B10 := B9.out.foot FG (fun hm => absurd rfl (hnr _ (Option.mem_toList.1 hm)))
        have K10 := K9.out.trans (Keeps.of_grown O9.out (by decide) hgrow)
        have T10 := below_grown (a := W2) T9.out hgrow hge
        have x10 : w10.cell? ⟨gd, 0, none⟩ = some (.slice nv j ncap) := B10.cell 0
        have f10 := B10.frozen 0
        have hge2 := own_ge hown
        have hne2 := own_ne hown B10 (by decide)
        obtain ⟨w11, hw11⟩ : ∃ w11, w11 = w10.setCell ⟨gd, 0, none⟩ (.slice (some ⟨g2, 0, none⟩) (j + 1) cap2) := ⟨_, rfl⟩
        have BA1 : Hid (Blk w11 gd 35 #[.slice (some ⟨g2, 0, none⟩) (j + 1) cap2, .slice av adv.length cv, .int .i64 view]) := hide (by
          rw [hw11]
          have := B10.set_ 0 (.slice (some ⟨g2, 0, none⟩) (j + 1) cap2)
          simpa using this)
        have K11 : Keeps w8 w11 := by rw [hw11]; exact K10.setCell B10 (by decide) _
        have F11 : Foot [gd] w10 w11 := by rw [hw11]; exact (Foot.refl _ _).setCell (.inl (by simp)) _
        have OA := hide (O8.out.keeps K11)
        have TA := hide (show Below W2.heap.size W2 w11 by rw [hw11]; exact T10.setCell (p := ⟨gd, 0, none⟩) hgd _)
        have NA : Hid (NO w11 W2.heap.size (.slice (some ⟨g2, 0, none⟩) (j + 1) cap2) (nodes.take (j + 1))) := hide (by
          rw [HT.out]
          refine ⟨ls ++ [ncell n (.slice a7 us.length c7)], (NL8.out.keeps K11).app ⟨⟨(.slice a7 us.length c7), rfl, by rw [← HUS.out]; exact U8.out.keeps K11⟩, trivial⟩, ?_⟩
          refine own_foot ?_ F11 (fun y hy hm => hne2 y hy (List.mem_singleton.1 hm))
          rw [List.length_append, HNS.out, List.flatten_append]
          simpa using hown)
        clear hown hgrow hat hlt10 hge hnr FG B10 K10 T10 hge2 hne2 F11 K11 O9 NL8 NB9 B9 K9 T9 hsz9 O8 U8 B8 T8 HU RG8 BN8
        go_wp2_with fail
        rw [← hw11]
        go_roundw
        case rel => exact ⟨j + 1, some ⟨g2, 0, none⟩, cap2, hlt, by go_num, BA1.out, OA.out, NA.out, TA.out⟩
        case measure => simp [intOf]; omega
      · have hje : j = nodes.length := by omega
        subst hje
        have hN2 := N.out
        rw [List.take_length] at hN2
        have BBr := BB.out.below TR.out BB.out.lt
        have b0 : wr.cell? ⟨gd, 0, none⟩ = some (.slice nv nodes.length ncap) := B.out.cell 0
        have b1 : wr.cell? ⟨gd, 1, none⟩ = some (.slice av adv.length cv) := B.out.cell 1
        have b2 : wr.cell? ⟨gd, 2, none⟩ = some (.int .i64 view) := B.out.cell 2
        have e0 : wr.cell? ⟨ga + 1, 0, none⟩ = some (.slice none 0 0) := BBr.cell 0
        have e1 : wr.cell? ⟨ga + 1, 1, none⟩ = some (.slice none 0 0) := BBr.cell 1
        have e2 : wr.cell? ⟨ga + 1, 2, none⟩ = some (.int .i64 0) := BBr.cell 2
        have f0 := BBr.frozen 0
        have f1 := BBr.frozen 1
        have f2 := BBr.frozen 2
        have BBr := hide BBr
        have hN2 := hide hN2
        clear hlt hj
        go_wp2_with fail
        have BF : Blk (((wr.setCell ⟨ga + 1, 0, none⟩ (.slice nv nodes.length ncap)).setCell ⟨ga + 1, 1, none⟩ (.slice av adv.length cv)).setCell ⟨ga + 1, 2, none⟩ (.int .i64 view)) (ga + 1) 35 #[.slice nv nodes.length ncap, .slice av adv.length cv, .int .i64 view] := by
          have := ((BBr.out.set_ 0 (.slice nv nodes.length ncap)).set_ 1 (.slice av adv.length cv)).set_ 2 (.int .i64 view)
          simpa using this
        have FF : Foot [ga + 1] wr (((wr.setCell ⟨ga + 1, 0, none⟩ (.slice nv nodes.length ncap)).setCell ⟨ga + 1, 1, none⟩ (.slice av adv.length cv)).setCell ⟨ga + 1, 2, none⟩ (.int .i64 view)) := (((Foot.refl _ _).setCell (.inl (by simp)) _).setCell (.inl (by simp)) _).setCell (.inl (by simp)) _
        have KF := Keeps.of_foot FF (fun y hy => by obtain rfl := List.mem_singleton.1 hy; exact ⟨_, _, BBr.out, by decide⟩)
        have OF2 := O.out.keeps KF
        obtain ⟨ls, hnl, how⟩ := hN2.out
        have NF := NO.foot hN2.out FF KF (fun y hy hm => by
          have h1 := own_ge how y hy
          have h2 := BB.out.lt
          have h3 := List.mem_singleton.1 hm
          omega)
        obtain ⟨a1, c1, q1, n1, n2, n3⟩ := NF.row
        obtain ⟨a2, c2, q2, m1, m2, _, m3⟩ := own_row OF2
        simp only [Value.slice.injEq] at q1 q2
        refine bodyPost_ret (results_cell_row Try.results16 _ _ (ga + 1) 35 _ (0, 0) _ rfl BF Try.underlying35 rfl (by kernel_rfl)) rfl ?_
        refine ⟨_, rfl, ⟨nv, ncap, av, cv, rfl, by rw [← q1.1] at n1; exact n1, by rw [← q2.1] at m3; exact m3, OK.out, ?_⟩, ?_⟩
        · rw [← q1.2.2] at n2 n3
          rw [← q2.2.2] at m1 m2
          exact ⟨n2, n3, m1, m2⟩
        · exact (((K2.out.trans (TR.out.mono (Nat.le_of_lt BA.out.lt))).setCell (p := ⟨ga + 1, 0, none⟩) (Nat.le_succ _) _).setCell (p := ⟨ga + 1, 1, none⟩) (Nat.le_succ _) _).setCell (p := ⟨ga + 1, 2, none⟩) (Nat.le_succ _) _
set_option maxRecDepth 100000 in
set_option maxHeartbeats 4000000 in
theorem codecWrites_any (w : World) (v1 : Value) (T : Tr) (hT : TrV w v1 T) (z1 : T.nodes.length ≤ 1000000000000000) (z2 : T.adv.length ≤ 1000000000000000000) :
    Calls Try.prog 4 #[v1] w fun e w' => e = .returned (.bool true) ∧ Below w.heap.size w w' := by
  obtain ⟨na, nc, aa, ac, e1⟩ := hT.form
  subst e1
  have okT1 : Hid (okT T) := hide (by obtain ⟨_, _, _, _, _, _, _, h, _⟩ := hT; exact h)
  obtain ⟨W2, hW2⟩ : ∃ W2, W2 = w.alloc (.cells #[.slice na T.nodes.length nc, .slice aa T.adv.length ac, .int .i64 T.view] 35) := ⟨_, rfl⟩
  have k2 : Below w.heap.size w W2 := by rw [hW2]; exact (Below.refl _ _).alloc (Nat.le_refl _) _
  obtain ⟨ga, hga⟩ : ∃ ga, ga = w.heap.size := ⟨_, rfl⟩
  have BA : Blk W2 ga 35 #[.slice na T.nodes.length nc, .slice aa T.adv.length ac, .int .i64 T.view] := by rw [hW2, hga]; exact Blk.new w _ _
  have T2 := hide (hT.below k2)
  have K2 : Hid (Below ga w W2) := hide (hga ▸ k2)
  have HGS : Hid (ga ≤ W2.heap.size) := hide (by rw [hga]; exact k2.size)
  have HW2 := hide hW2
  have HGA := hide hga
  have BA := hide BA
  clear hT hW2 k2 hga
  rw [← HGA.out]
  go_enter Try.func4, Try.ntmps4
  go_upto_region 1 with fail
  rw [← HW2.out, ← HGA.out]
  have c0 : W2.cell? ⟨ga, 0, none⟩ = some (.slice na T.nodes.length nc) := BA.out.cell 0
  have c1 : W2.cell? ⟨ga, 1, none⟩ = some (.slice aa T.adv.length ac) := BA.out.cell 1
  have c2 : W2.cell? ⟨ga, 2, none⟩ = some (.int .i64 T.view) := BA.out.cell 2
  go_wp2_with fail
  refine (vast_any _ T W2 T2.out z1 z2).mono ?_
  rintro r w3 ⟨x, rfl, k3, hx⟩
  have HX := hide hx
  have K3 := hide k3
  clear hx k3 c0 c1 c2
  cases x with
  | true =>
    go_wp2_with fail
    refine (works_any w3).mono ?_
    rintro r' w4 ⟨rfl, k4⟩
    have K4 := hide (K2.out.trans ((below_call K3.out k4).mono HGS.out))
    clear k4
    go_wp2_with fail
    go_returns
    exact ⟨rfl, K4.out⟩
  | false =>
    have wT := HX.out rfl
    have sT := hide (SzT.of_wr okT1.out wT)
    have BA3 := hide (BA.out.below K3.out BA.out.lt)
    have K4 := hide (K2.out.trans (K3.out.mono HGS.out))
    have T3 := hide (T2.out.below K3.out)
    have HG3 : ga < w3.heap.size := BA3.out.lt
    have d0 : w3.cell? ⟨ga, 0, none⟩ = some (.slice na T.nodes.length nc) := BA3.out.cell 0
    have d1 : w3.cell? ⟨ga, 1, none⟩ = some (.slice aa T.adv.length ac) := BA3.out.cell 1
    have d2 : w3.cell? ⟨ga, 2, none⟩ = some (.int .i64 T.view) := BA3.out.cell 2
    go_wp2_with fail
    refine (copy_any _ T w3 T3.out sT.out).mono ?_
    rintro r w4 ⟨v4, rfl, TV4, k4⟩
    obtain ⟨nb, nd, ab, ad, e4⟩ := TV4.form
    subst e4
    have T4 := hide k4
    have TV4 := hide TV4
    clear k4 d0 d1 d2
    go_upto_region 4 with fail
    obtain ⟨w5, hw5⟩ : ∃ w5, w5 = w4.alloc (.cells #[.slice nb T.nodes.length nd, .slice ab T.adv.length ad, .int .i64 T.view] 35) := ⟨_, rfl⟩
    have k5 : Below w4.heap.size w4 w5 := by rw [hw5]; exact (Below.refl _ _).alloc (Nat.le_refl _) _
    have BO5 : Blk w5 w4.heap.size 35 #[.slice nb T.nodes.length nd, .slice ab T.adv.length ad, .int .i64 T.view] := by rw [hw5]; exact Blk.new _ _ _
    rw [← hw5]
    have T5 := hide (below_call T4.out k5)
    have TV5 := hide (TV4.out.below k5)
    have HGO : w3.heap.size ≤ w4.heap.size := T4.out.size
    generalize w4.heap.size = gb at BO5 HGO ⊢
    have BO5 := hide BO5
    have x0 : w5.cell? ⟨gb, 0, none⟩ = some (.slice nb T.nodes.length nd) := BO5.out.cell 0
    have x1 : w5.cell? ⟨gb, 1, none⟩ = some (.slice ab T.adv.length ad) := BO5.out.cell 1
    have x2 : w5.cell? ⟨gb, 2, none⟩ = some (.int .i64 T.view) := BO5.out.cell 2
    clear hw5 k5 T4 TV4
    go_wp2_with fail
    refine (write_any _ T w5 TV5.out wT).mono ?_
    rintro r w6 ⟨v6, rfl, O6, k6⟩
    obtain ⟨a6, cap6, rfl, q61, q62, R6⟩ := O6.row
    have T6 := hide (below_call (w := w3) T5.out k6)
    have TV6 := hide (TV5.out.below k6)
    have BO6 := hide (BO5.out.below k6 BO5.out.lt)
    have R6 := hide R6
    clear k6 O6 T5 TV5 BO5 x0 x1 x2
    go_wp2_with fail
    refine (bcopied_any a6 (wrT T) cap6 w6 R6.out (by omega)).mono ?_
    rintro r w7 ⟨v7, rfl, O7, k7⟩
    have T7 := hide (below_call (w := w3) T6.out k7)
    have TV7 := hide (TV6.out.below k7)
    have BO7 := hide (BO6.out.below k7 BO6.out.lt)
    have R7 := hide (R6.out.below k7)
    have O7 := hide O7
    clear k7 T6 TV6 BO6 R6
    go_wp2_with fail
    have hrd := read_own O7.out (wrT_bts okT1.out) (by omega)
    rw [rdT_wr okT1.out] at hrd
    refine hrd.mono ?_
    rintro r w8 ⟨k8, v8, rfl, TW8⟩
    obtain ⟨ne, nf, ae, af, e8⟩ := TW8.form
    subst e8
    have T8 := hide (below_call (w := w3) T7.out k8)
    have TV8 := hide (TV7.out.below k8)
    have BO8 := hide (BO7.out.below k8 BO7.out.lt)
    have R8 := hide (R7.out.below k8)
    have TW8 := hide TW8
    clear k8 hrd O7 T7 TV7 BO7 R7
    go_upto_region 6 with fail
    obtain ⟨w9, hw9⟩ : ∃ w9, w9 = w8.alloc (.cells #[.slice ne T.nodes.length nf, .slice ae T.adv.length af, .int .i64 T.view] 35) := ⟨_, rfl⟩
    have k9 : Below w8.heap.size w8 w9 := by rw [hw9]; exact (Below.refl _ _).alloc (Nat.le_refl _) _
    have BU9 : Blk w9 w8.heap.size 35 #[.slice ne T.nodes.length nf, .slice ae T.adv.length af, .int .i64 T.view] := by rw [hw9]; exact Blk.new _ _ _
    rw [← hw9]
    have T9 := hide (below_call (w := w3) T8.out k9)
    have TV9 := hide (TV8.out.below k9)
    have BO9 := hide (BO8.out.below k9 BO8.out.lt)
    have R9 := hide (R8.out.below k9)
    have TW9 := hide (TW8.out.below k9)
    generalize w8.heap.size = gu at BU9 ⊢
    have BA9 := hide (BA3.out.below T9.out BA3.out.lt)
    have TA9 := hide (T3.out.below T9.out)
    have BU9 := hide BU9
    clear hw9 k9 T8 TV8 BO8 R8 TW8 BA3 T3
    have x0 : w9.cell? ⟨ga, 0, none⟩ = some (.slice na T.nodes.length nc) := BA9.out.cell 0
    have x1 : w9.cell? ⟨ga, 1, none⟩ = some (.slice aa T.adv.length ac) := BA9.out.cell 1
    have x2 : w9.cell? ⟨ga, 2, none⟩ = some (.int .i64 T.view) := BA9.out.cell 2
    go_wp2_with fail
    refine (rwrite_any _ T w9 TA9.out wT).mono ?_
    rintro r w10 ⟨v10, rfl, O10, k10⟩
    obtain ⟨a10, c10, rfl, _, _, R10⟩ := O10.row
    have t10 := hide k10
    have R10 := hide R10
    have q3 : (wrT T).length ≤ 100000000 := by omega
    clear k10 O10 x0 x1 x2
    go_wp2_with fail
    refine (bsame_any a6 a10 (wrT T) (wrT T) cap6 c10 w10 (R9.out.below t10.out) R10.out q3 q3).mono ?_
    rintro r w11 ⟨rfl, k11⟩
    have t11 := hide (below_call t10.out k11)
    have BA := hide (BA9.out.below t11.out BA9.out.lt)
    have BO := hide (BO9.out.below t11.out BO9.out.lt)
    have x0 : w11.cell? ⟨ga, 0, none⟩ = some (.slice na T.nodes.length nc) := BA.out.cell 0
    have x1 : w11.cell? ⟨ga, 1, none⟩ = some (.slice aa T.adv.length ac) := BA.out.cell 1
    have x2 : w11.cell? ⟨ga, 2, none⟩ = some (.int .i64 T.view) := BA.out.cell 2
    have y0 : w11.cell? ⟨gb, 0, none⟩ = some (.slice nb T.nodes.length nd) := BO.out.cell 0
    have y1 : w11.cell? ⟨gb, 1, none⟩ = some (.slice ab T.adv.length ad) := BO.out.cell 1
    have y2 : w11.cell? ⟨gb, 2, none⟩ = some (.int .i64 T.view) := BO.out.cell 2
    rw [decide_eq_true (rfl : wrT T = wrT T)]
    clear k11 t10 R10
    go_wp2_with fail
    refine (tsame_any _ _ T T w11 (TV9.out.below t11.out) (TA9.out.below t11.out) sT.out sT.out).mono ?_
    rintro r w12 ⟨rfl, k12⟩
    have t12 := hide (below_call t11.out k12)
    rw [decide_eq_true (rfl : T = T)]
    clear k12 t11 BA BO x0 x1 x2 y0 y1 y2
    have BA := hide (BA9.out.below t12.out BA9.out.lt)
    have BU := hide (BU9.out.below t12.out BU9.out.lt)
    have x0 : w12.cell? ⟨ga, 0, none⟩ = some (.slice na T.nodes.length nc) := BA.out.cell 0
    have x1 : w12.cell? ⟨ga, 1, none⟩ = some (.slice aa T.adv.length ac) := BA.out.cell 1
    have x2 : w12.cell? ⟨ga, 2, none⟩ = some (.int .i64 T.view) := BA.out.cell 2
    have y0 : w12.cell? ⟨gu, 0, none⟩ = some (.slice ne T.nodes.length nf) := BU.out.cell 0
    have y1 : w12.cell? ⟨gu, 1, none⟩ = some (.slice ae T.adv.length af) := BU.out.cell 1
    have y2 : w12.cell? ⟨gu, 2, none⟩ = some (.int .i64 T.view) := BU.out.cell 2
    go_wp2_with fail
    refine (tsame_any _ _ T T w12 (TW9.out.below t12.out) (TA9.out.below t12.out) sT.out sT.out).mono ?_
    rintro r w13 ⟨rfl, k13⟩
    have t13 := hide (below_call t12.out k13)
    rw [decide_eq_true (rfl : T = T)]
    clear k13 t12 BA BU x0 x1 x2 y0 y1 y2
    go_wp2_with fail
    refine (works_any w13).mono ?_
    rintro r w14 ⟨rfl, k14⟩
    have K5 := hide (K4.out.trans ((T9.out.trans ((below_call t13.out k14).mono T9.out.size)).mono (Nat.le_of_lt HG3)))
    clear k14 t13
    go_wp2_with fail
    go_returns
    exact ⟨rfl, K5.out⟩
theorem walk_CodecWrites (w : World) (v1 : Value) (h1 : ∃ T : Tr, TrV w v1 T ∧ T.nodes.length ≤ 1000000000000000 ∧ T.adv.length ≤ 1000000000000000000) :
    Calls Try.prog 4 #[v1] w fun e w' => e = .returned (.bool true) ∧ Below w.heap.size w w' := by
  obtain ⟨T, hT, z1, z2⟩ := h1
  refine (codecWrites_any w v1 T hT z1 z2).mono ?_
  exact fun _ _ h => h
end Go.Proofs.Ytmngndmcidbakaa
