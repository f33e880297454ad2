/- Walks of Put. -/
import Derived.Test.YtoannafiemnijaaTab
namespace Go.Proofs.Ytoannafiemnijaa
open Go.RowKit

def putE {V : Type} (st : Nat → Option V) (n : Nat) (i : Int) : Int :=
  if i < 0 ∨ (n : Int) ≤ i then 1 else if (st i.toNat).isSome then 3 else 0
def putS {V : Type} (st : Nat → Option V) (n : Nat) (i : Int) (v : V) : Nat → Option V :=
  if putE st n i = 0 then put st i.toNat v else st

def PutPost {V : Type} (K : Kind V) (gt gm gc n : Nat) (st : Nat → Option V) (i : Int) (v : V) (w : World) (r : Ending) (w' : World) : Prop :=
  r = .returned (.int .i64 (putE st n i)) ∧ Tab K w' gt gm gc n (putS st n i v) ∧ Foot [gt, gm, gc] w w'

section
variable {V : Type} {K : Kind V} {gt gm gc n : Nat} {st : Nat → Option V} {v : V} {w W : World}
theorem put_bad {i : Int} (h : Tab K W gt gm gc n st) (hf : Foot [gt, gm, gc] w W) (hi : i < 0 ∨ (n : Int) ≤ i) : PutPost K gt gm gc n st i v w (.returned (.int .i64 1)) W := by
  have e : putE st n i = 1 := if_pos hi
  refine ⟨by rw [e], ?_, hf⟩
  unfold putS
  rw [if_neg (by rw [e]; decide)]
  exact h
theorem put_there {k : Nat} {u : V} (h : Tab K W gt gm gc n st) (hf : Foot [gt, gm, gc] w W) (hi : k < n) (hs : st k = some u) : PutPost K gt gm gc n st (k : Int) v w (.returned (.int .i64 3)) W := by
  have e : putE st n (k : Int) = 3 := by unfold putE; rw [if_neg (by omega)]; simp [hs]
  refine ⟨by rw [e], ?_, hf⟩
  unfold putS
  rw [if_neg (by rw [e]; decide)]
  exact h
theorem put_fine {k : Nat} (h : Tab K W gt gm gc n (put st k v)) (hf : Foot [gt, gm, gc] w W) (hi : k < n) (hs : st k = none) : PutPost K gt gm gc n st (k : Int) v w (.returned (.int .i64 0)) W := by
  have e : putE st n (k : Int) = 0 := by unfold putE; rw [if_neg (by omega)]; simp [hs]
  refine ⟨by rw [e], ?_, hf⟩
  unfold putS
  rw [if_pos e]
  exact h
theorem Tab.mark_at (h : Tab K w gt gm gc n st) {k : Nat} (hk : k < n) : w.cell? ⟨gm, k, none⟩ = some (.int .i32 (mark (st k))) := by
  have := h.marks.cell (i := k) (j := 0) hk (by omega)
  rwa [Nat.mul_one, Nat.add_zero] at this
theorem Tab.taken (h : Tab K w gt gm gc n st) {k : Nat} (hk : k < n) (x : Int) : Mat (w.setCell ⟨gm, k, none⟩ (.int .i32 x)) gm 72 n 1 (upd (fun i _ => .int .i32 (mark (st i))) k 0 (.int .i32 x)) := by
  have := h.marks.set_ (i := k) (j := 0) hk (by omega) (.int .i32 x)
  rwa [Nat.mul_one, Nat.add_zero] at this
theorem put_ends {k : Nat} (hk : k < n) (hs : st k = none) (hle : n ≤ 65536) (h1 : gt ≠ gm) (h2 : gt ≠ gc) (h3 : gm ≠ gc)
    (B : Blk W gt K.T #[.slice (some ⟨gm, 0, none⟩) n n, .slice (some ⟨gc, 0, none⟩) n n, .int .i64 (left st n)])
    (M : Mat W gm 72 n 1 (upd (fun i _ => .int .i32 (mark (st i))) k 0 (.int .i32 1)))
    (C : Mat W gc K.E n K.sz (fun i j => K.cell (((put st k v) i).getD K.zero) j)) :
    Tab K ((W.setCell ⟨gm, k, none⟩ (.int .i32 2)).setCell ⟨gt, 2, none⟩ (.int .i64 (left st n + -1))) gt gm gc n (put st k v) := by
  have e := left_put st k v hs n hk
  refine ⟨?_, ?_, (C.far (p := ⟨gm, k, none⟩) h3.symm _).far (p := ⟨gt, 2, none⟩) h2.symm _, h1, h2, h3, hle⟩
  · have := (B.far (p := ⟨gm, k, none⟩) h1 (.int .i32 2)).set_ 2 (.int .i64 (left st n + -1))
    rw [show (left st n : Int) + -1 = (left (put st k v) n : Int) from by omega] at this ⊢
    simpa using this
  · have := (M.set_ (i := k) (j := 0) hk (by omega) (.int .i32 2)).far (p := ⟨gt, 2, none⟩) h1.symm (.int .i64 (left st n + -1))
    rw [Nat.mul_one, Nat.add_zero] at this
    refine this.congr fun i hi j hj => ?_
    obtain rfl : j = 0 := by omega
    unfold upd put
    by_cases e : i = k
    · subst e; simp [mark]
    · simp [e]
end

theorem putI (gt gm gc n : Nat) (st : Nat → Option Int) (i : Int) (v : Int) (w : World) (h : Tab kI w gt gm gc n st) :
    Calls Try.prog 24 #[.pointer (some ⟨gt, 0, none⟩), .int .i64 i, .int .i64 v] w (PutPost kI gt gm gc n st i v w) := by
  have hn := h.le
  have b0 := hide (h.box.cell 0)
  have b1 := hide (h.box.cell 1)
  by_cases h1 : i < 0
  · go_enter Try.func24, Try.ntmps24
    go_wp2_with fail
    go_returns
    exact put_bad h (Foot.refl _ _) (by omega)
  by_cases h2 : (n : Int) ≤ i
  · go_enter Try.func24, Try.ntmps24
    have c0 := b0.out
    go_wp2_with fail
    go_returns
    exact put_bad h (Foot.refl _ _) (by omega)
  obtain ⟨k, rfl⟩ : ∃ k : Nat, i = (k : Int) := ⟨i.toNat, by omega⟩
  have hk : k < n := by omega
  have m0 := hide (h.mark_at hk)
  have mf := hide (h.marks.frozen k)
  cases hs : st k with
  | some u =>
    have HS := hide hs
    rw [hs] at m0
    clear hs
    go_enter Try.func24, Try.ntmps24
    have c0 := b0.out
    go_wp2_with fail
    refine (cas32_miss _ _ 2 0 1 w m0.out mf.out (by omega)).mono ?_
    rintro r w2 ⟨rfl, rfl⟩
    go_wp2_with fail
    go_returns
    exact put_there h (Foot.refl _ _) hk HS.out
  | none =>
    have HS := hide hs
    rw [hs] at m0
    clear hs
    go_enter Try.func24, Try.ntmps24
    have c0 := b0.out
    go_wp2_with fail
    refine (cas32_hit _ _ 0 1 w m0.out mf.out).mono ?_
    rintro r w2 ⟨rfl, rfl⟩
    have M1 := hide (h.taken hk 1)
    have B1 := hide (h.box.far (p := ⟨gm, k, none⟩) h.ne1 (.int .i32 1))
    have C1 := hide (h.cells.far (p := ⟨gm, k, none⟩) h.ne3.symm (.int .i32 1))
    have F1 := hide ((Foot.refl [gt, gm, gc] w).setCell (p := ⟨gm, k, none⟩) (.inl (by simp)) (.int .i32 1))
    generalize w.setCell ⟨gm, k, none⟩ (.int .i32 1) = w1 at M1 B1 C1 F1 ⊢
    clear c0
    have D1 := hide (h := C1.out.cell (i := k) (j := 0) hk (by decide))
    simp only [kI, Nat.mul_one, Nat.add_zero] at D1
    have E1 := hide (C1.out.frozen k)
    have M2 := hide (M1.out.far (p := ⟨gc, k, none⟩) h.ne3 (.int .i64 v))
    have B2 := hide (B1.out.far (p := ⟨gc, k, none⟩) h.ne2 (.int .i64 v))
    have C2 := hide (h := C1.out.set_ (i := k) (j := 0) hk (by decide) (.int .i64 v))
    simp only [kI, Nat.mul_one, Nat.add_zero] at C2
    have F2 := hide (F1.out.setCell (p := ⟨gc, k, none⟩) (.inl (by simp)) (.int .i64 v))
    have c1 := B1.out.cell 1
    have c2 := D1.out
    have c3 := E1.out
    have c4 := B2.out.cell 0
    go_wp2_with fail
    clear c1 c2 c3 c4
    have X : Hid (Mat (w1.setCell ⟨gc, k, none⟩ (.int .i64 v)) gc kI.E n kI.sz (fun i j => kI.cell (((put st k v) i).getD kI.zero) j)) := hide (by
      refine C2.out.congr fun i hi j hj => ?_
      obtain rfl : j = 0 := by have : j < 1 := hj; omega
      unfold upd put
      by_cases e : i = k
      · subst e; simp [kI]
      · simp [e, kI])
    have A2 := hide (M2.out.cell (i := k) (j := 0) hk (by omega))
    simp only [upd, and_self, if_true, Nat.mul_one, Nat.add_zero] at A2
    generalize w1.setCell ⟨gc, k, none⟩ (.int .i64 v) = w3 at M2 B2 X F2 A2 ⊢
    refine (store32_any _ _ 1 2 w3 A2.out (M2.out.frozen k)).mono ?_
    rintro r w4 ⟨rfl, rfl⟩
    have B3 := hide (B2.out.far (p := ⟨gm, k, none⟩) h.ne1 (.int .i32 2))
    have T := hide (put_ends (v := v) hk HS.out hn h.ne1 h.ne2 h.ne3 B2.out M2.out X.out)
    have F3 := hide ((F2.out.setCell (p := ⟨gm, k, none⟩) (.inl (by simp)) (.int .i32 2)).setCell (p := ⟨gt, 2, none⟩) (.inl (by simp)) (.int .i64 (left st n + -1)))
    generalize w3.setCell ⟨gm, k, none⟩ (.int .i32 2) = w4 at B3 T F3 ⊢
    have c0 := B3.out.cell 0
    go_wp2_with fail
    clear c0
    have hl := left_le st n
    refine (add64_any _ _ (left st n) (-1) w4 (B3.out.cell 2) (B3.out.frozen 2) (by omega) (by omega)).mono ?_
    rintro r w5 ⟨rfl, rfl⟩
    go_wp2_with fail
    go_returns
    exact put_fine T.out F3.out hk HS.out
end Go.Proofs.Ytoannafiemnijaa
