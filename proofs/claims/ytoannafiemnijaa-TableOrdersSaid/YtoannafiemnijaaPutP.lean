/- Put of pairs. -/
import Derived.Test.YtoannafiemnijaaPut
namespace Go.Proofs.Ytoannafiemnijaa
open Go.RowKit

theorem keepd {W : World} {p : Addr} {v : Value} (h : W.cell? p = some v) : ∀ w', w' = W.drew → w'.cell? p = some v := fun _ e => e ▸ h

def pairV (v : Int × ByteArray) : Value := .agg #[.int .i64 v.1, .string v.2]

theorem putP (gt gm gc n : Nat) (st : Nat → Option (Int × ByteArray)) (i : Int) (v : Int × ByteArray) (w : World) (h : Tab kP w gt gm gc n st) :
    Calls Try.prog 11 #[.pointer (some ⟨gt, 0, none⟩), .int .i64 i, .agg #[.int .i64 v.1, .string v.2]] w (PutPost kP gt gm gc n st i v w) := by
  have hn := h.le
  have b0 := hide (h.box.cell 0)
  have b1 := hide (h.box.cell 1)
  have q0 := h.box.lt
  have q1 := h.marks.lt
  have q2 := h.cells.lt
  have F0 : ∀ o, Foot [gt, gm, gc] w (w.alloc o) := fun o => (Foot.refl _ _).alloc o
  have T0 : ∀ o, Tab kP (w.alloc o) gt gm gc n st := fun o => h.below ((Below.refl _ _).alloc (Nat.le_refl _) o)
  by_cases h1 : i < 0
  · go_enter Try.func11, Try.ntmps11
    go_wp2_with fail
    go_returns
    exact put_bad (T0 _) (F0 _) (by omega)
  by_cases h2 : (n : Int) ≤ i
  · go_enter Try.func11, Try.ntmps11
    have c0 := b0.out
    go_wp2_with fail
    go_returns
    exact put_bad (T0 _) (F0 _) (by omega)
  obtain ⟨k, rfl⟩ : ∃ k : Nat, i = (k : Int) := ⟨i.toNat, by omega⟩
  have hk : k < n := by omega
  obtain ⟨W, hW⟩ : ∃ W, w.alloc (Obj.cells #[Value.int IntKind.i64 v.fst, Value.string v.snd] 30) = W := ⟨_, rfl⟩
  have F1 : Hid (Foot [gt, gm, gc] w W) := hide (hW ▸ F0 _)
  have T1 : Hid (Tab kP W gt gm gc n st) := hide (hW ▸ T0 _)
  have G1 : Hid (Blk W w.heap.size 30 #[.int .i64 v.1, .string v.2]) := hide (hW ▸ Blk.new w 30 _)
  have HW := hide hW
  have m0 := hide (T1.out.mark_at hk)
  have mf := hide (T1.out.marks.frozen k)
  cases hs : st k with
  | some u =>
    have HS := hide hs
    rw [hs] at m0
    clear hs hW F0 T0
    go_enter Try.func11, Try.ntmps11
    have c0 := b0.out
    go_wp2_with fail
    rw [HW.out]
    refine (cas32_miss _ _ 2 0 1 W m0.out mf.out (by omega)).mono ?_
    rintro r w2 ⟨rfl, rfl⟩
    clear c0
    go_wp2_with fail
    go_returns
    exact put_there T1.out F1.out hk HS.out
  | none =>
    have HS := hide hs
    rw [hs] at m0
    clear hs hW F0 T0
    go_enter Try.func11, Try.ntmps11
    have c0 := b0.out
    go_wp2_with fail
    rw [HW.out]
    refine (cas32_hit _ _ 0 1 W m0.out mf.out).mono ?_
    rintro r w2 ⟨rfl, rfl⟩
    have M1 := hide (T1.out.taken hk 1)
    have B1 := hide (T1.out.box.far (p := ⟨gm, k, none⟩) h.ne1 (.int .i32 1))
    have C1 := hide (T1.out.cells.far (p := ⟨gm, k, none⟩) h.ne3.symm (.int .i32 1))
    have G2 := hide (G1.out.far (p := ⟨gm, k, none⟩) (by show w.heap.size ≠ gm; omega) (.int .i32 1))
    have F2 := hide (F1.out.setCell (p := ⟨gm, k, none⟩) (.inl (by simp)) (.int .i32 1))
    clear HW
    generalize W.setCell ⟨gm, k, none⟩ (.int .i32 1) = w1 at M1 B1 C1 F2 G2 ⊢
    clear c0
    go_wp2_with fail
    have c1 := keepd (B1.out.cell 1)
    have c2 := keepd (G2.out.cell 0)
    have c3 := keepd (G2.out.cell 1)
    refine Reg.region (by kernel_rfl) 7 [] (fun _ w' => w' = w1.drew) (by kernel_rfl) (by kernel_rfl) rfl ?_
    iterate 7
      refine Reg.WT.yield (v := ?_) rfl rfl ?_ ?_
      rotate_left
      · intro w' _ hS; go_simp; (try go_bits); (first | rfl | rw [if_pos (by omega)])
      simp only [Act.put, List.setIfInBounds_toArray, List.set_cons_zero, List.set_cons_succ]
    intro w2 hS
    subst hS
    have D1 := hide (h := C1.out.cell (i := k) (j := 0) hk (by decide))
    have D2 := hide (h := C1.out.cell (i := k) (j := 1) hk (by decide))
    have E1 := hide (C1.out.frozen (k * 2))
    have E2 := hide (C1.out.frozen (k * 2 + 1))
    simp only [kP, Nat.add_zero] at D1 D2
    have M2 := hide ((M1.out.far (p := ⟨gc, k * 2, none⟩) h.ne3 (.int .i64 v.1)).far (p := ⟨gc, k * 2 + 1, none⟩) h.ne3 (.string v.2))
    have B2 := hide ((B1.out.far (p := ⟨gc, k * 2, none⟩) h.ne2 (.int .i64 v.1)).far (p := ⟨gc, k * 2 + 1, none⟩) h.ne2 (.string v.2))
    have C2 := hide (h := (C1.out.set_ (i := k) (j := 0) hk (by decide) (.int .i64 v.1)).set_ (i := k) (j := 1) hk (by decide) (.string v.2))
    simp only [kP, Nat.add_zero] at C2
    have F3 := hide ((F2.out.setCell (p := ⟨gc, k * 2, none⟩) (.inl (by simp)) (.int .i64 v.1)).setCell (p := ⟨gc, k * 2 + 1, none⟩) (.inl (by simp)) (.string v.2))
    clear c1 c2 c3
    have c2 := D1.out
    have c3 := E1.out
    have c4 := B2.out.cell 0
    have c5 := D2.out
    have c6 := E2.out
    go_wp2_with fail
    clear c2 c3 c4 c5 c6
    have X : Hid (Mat ((w1.setCell ⟨gc, k * 2, none⟩ (.int .i64 v.1)).setCell ⟨gc, k * 2 + 1, none⟩ (.string v.2)) gc kP.E n kP.sz (fun i j => kP.cell (((put st k v) i).getD kP.zero) j)) := hide (by
      refine C2.out.congr fun i hi j hj => ?_
      unfold upd put
      by_cases e : i = k
      · subst e
        match j, hj with
        | 0, _ => simp [kP]
        | 1, _ => simp [kP]
      · simp [e, kP])
    have A2 := hide (M2.out.cell (i := k) (j := 0) hk (by omega))
    simp only [upd, and_self, if_true, Nat.mul_one, Nat.add_zero] at A2
    generalize (w1.setCell ⟨gc, k * 2, none⟩ (.int .i64 v.1)).setCell ⟨gc, k * 2 + 1, none⟩ (.string v.2) = w3 at M2 B2 X F3 A2 ⊢
    refine (store32_any _ _ 1 2 w3.drew A2.out (M2.out.frozen k)).mono ?_
    rintro r w4 ⟨rfl, rfl⟩
    have B3 := hide (B2.out.drew.far (p := ⟨gm, k, none⟩) h.ne1 (.int .i32 2))
    have T := hide (put_ends (v := v) hk HS.out hn h.ne1 h.ne2 h.ne3 B2.out.drew M2.out.drew X.out.drew)
    have F4 := hide ((F3.out.drew.setCell (p := ⟨gm, k, none⟩) (.inl (by simp)) (.int .i32 2)).setCell (p := ⟨gt, 2, none⟩) (.inl (by simp)) (.int .i64 (left st n + -1)))
    generalize w3.drew.setCell ⟨gm, k, none⟩ (.int .i32 2) = w4 at B3 T F4 ⊢
    have c0 := B3.out.cell 0
    go_wp2_with fail
    clear c0
    have hl := left_le st n
    refine (add64_any _ _ (left st n) (-1) w4 (B3.out.cell 2) (B3.out.frozen 2) (by omega) (by omega)).mono ?_
    rintro r w5 ⟨rfl, rfl⟩
    go_wp2_with fail
    go_returns
    exact put_fine T.out F4.out hk HS.out
end Go.Proofs.Ytoannafiemnijaa
