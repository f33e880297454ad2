/- Walks: the script's New, Made, Next. -/
import Derived.Test.YtkjmknmcadloaaaAtW
import Derived.Test.YtkjmknmcadloaaaFoot
namespace Go.Proofs.Ytkjmknmcadloaaa
open Go.RowKit

/-- A script in memory. -/
structure Scr (w : World) (gs : Nat) (a : Option Addr) (c : Nat) (l : List Pk) (n : Int) (m base : Nat) : Prop where
  box : Blk w gs 44 #[.slice a l.length c, .int .i64 n, .int .i64 m]
  row : PRow w a l
  blk : ∀ b off, a = some ⟨b, off, none⟩ → b ≠ gs
theorem made_any (gs : Nat) (a : Option Addr) (c : Nat) (l : List Pk) (n : Int) (m base : Nat) (w : World) (h : Scr w gs a c l n m base) : Calls Try.prog 10 #[.pointer (some ⟨gs, 0, none⟩)] w fun r w' => r = .returned (.int .i64 m) ∧ w = w' := by
  have c2 := h.box.cell 2
  go_enter Try.func10, Try.ntmps10
  go_wp2
  go_returns
  exact ⟨rfl, rfl⟩
theorem made_nil (w : World) : Calls Try.prog 10 #[.pointer none] w fun r w' => r = .returned (.int .i64 0) ∧ w = w' := by
  go_enter Try.func10, Try.ntmps10
  go_wp2
  go_returns
  exact ⟨rfl, rfl⟩

def NPost (gs : Nat) (a : Option Addr) (c : Nat) (l : List Pk) (n : Int) (m base : Nat) (w : World) (r : Ending) (w' : World) : Prop :=
  r = .returned (.agg #[.int .i64 (at_ l n m).w, .int .i64 (at_ l n m).v]) ∧ Scr w' gs a c l n (m + 1) base ∧ Foot [gs] w w'
theorem npost {gs : Nat} {a : Option Addr} {c : Nat} {l : List Pk} {n : Int} {m base : Nat} {w w' : World} {p : Pk} (hp : at_ l n m = p) (hs : Scr w' gs a c l n (m + 1) base) (hf : Foot [gs] w w') : NPost gs a c l n m base w (.returned (.agg #[.int .i64 p.w, .int .i64 p.v])) w' := by
  subst hp; exact ⟨rfl, hs, hf⟩
theorem prow_set {w : World} {a : Option Addr} {l : List Pk} {g : Nat} (h : PRow w a l) (hn : ∀ b off, a = some ⟨b, off, none⟩ → 0 < l.length → b ≠ g) (u v : Value) : PRow ((w.setCell ⟨g, 0, none⟩ u).setCell ⟨g, 1, none⟩ v) a l := by
  refine ⟨h.1, fun hp => ?_⟩
  obtain ⟨b, off, ha, hb, hc⟩ := h.2 hp
  have hne := hn b off ha (by simpa using hp)
  refine ⟨b, off, ha, by simpa using hb, fun i hi j hj => ?_⟩
  rw [← hc i hi j hj]
  have e1 : ∀ (W : World) (o : Nat) (x : Value), (W.setCell ⟨g, o, none⟩ x).cell? ⟨b, off + i * 2 + j, none⟩ = W.cell? ⟨b, off + i * 2 + j, none⟩ := fun W o x => by
    have := Below.heap_setCell W ⟨g, o, none⟩ x b (by simpa using hne)
    simp only [World.cell?, this]
  rw [e1, e1]
set_option maxHeartbeats 2000000 in
theorem next_any (gs : Nat) (a : Option Addr) (c : Nat) (l : List Pk) (n : Int) (m base : Nat) (w : World) (h : Scr w gs a c l n m base) (hl : ∀ p ∈ l, PkOk p) (hn : 1 ≤ n) (hn2 : n ≤ 64) (hl2 : l.length ≤ 1000000) (hm : m ≤ 1000000) :
    Calls Try.prog 11 #[.pointer (some ⟨gs, 0, none⟩)] w (NPost gs a c l n m base w) := by
  obtain ⟨w1, hw1⟩ : ∃ w1, w1 = w.alloc (.cells #[.int .i64 0, .int .i64 0] 29) := ⟨_, rfl⟩
  have B1 : Hid (Blk w1 w.heap.size 29 #[.int .i64 0, .int .i64 0]) := hide (hw1 ▸ Blk.new w 29 _)
  have bl1 : Below w.heap.size w w1 := by rw [hw1]; go_grown
  have S1 := hide (h.box.below bl1 h.box.lt)
  have R1 := hide (PRow.below h.row bl1)
  have F1 := hide (Foot.of_below [gs] bl1)
  have hgs := h.box.lt
  have HW1 := hide hw1
  have HL := hide hl
  clear hw1 bl1 hl
  have q1 := h.box.cell 1
  have HR := hide (right_yes n)
  have hlow : ∀ b off, a = some ⟨b, off, none⟩ → 0 < l.length → b ≠ w.heap.size := fun b off e hp => by
    obtain ⟨b', off', e', hb, _⟩ := p_at h.row hp
    rw [e] at e'
    obtain ⟨rfl, rfl⟩ : b = b' ∧ off = off' := by simpa using e'
    omega
  go_enter Try.func11, Try.ntmps11
  go_wp2_with fail
  rw [← HW1.out]
  clear q1
  refine (HR.out w1 hn hn2).mono ?_
  rintro r w2 ⟨rfl, rfl⟩
  have s0 := S1.out.cell 0
  have s1 := S1.out.cell 1
  have s2 := S1.out.cell 2
  have f2 := S1.out.frozen 2
  have S2 : Hid (Blk (w1.setCell ⟨gs, 2, none⟩ (.int .i64 ((m : Int) + 1))) gs 44 #[.slice a l.length c, .int .i64 n, .int .i64 ((m : Int) + 1)]) := hide (by simpa using S1.out.set_ 2 (.int .i64 ((m : Int) + 1)))
  have C2 := hide (B1.out.far (p := ⟨gs, 2, none⟩) (by show w.heap.size ≠ gs; omega) (.int .i64 ((m : Int) + 1)))
  have F2 := hide (F1.out.setCell (p := ⟨gs, 2, none⟩) (.inl (by simp)) (.int .i64 ((m : Int) + 1)))
  have R2 : Hid (PRow (w1.setCell ⟨gs, 2, none⟩ (.int .i64 ((m : Int) + 1))) a l) := hide (by
    refine ⟨R1.out.1, fun hp => ?_⟩
    obtain ⟨b, off, ha, hb, hc⟩ := R1.out.2 hp
    refine ⟨b, off, ha, by simpa using hb, fun i hi j hj => ?_⟩
    rw [← hc i hi j hj]
    have := Below.heap_setCell w1 ⟨gs, 2, none⟩ (.int .i64 ((m : Int) + 1)) b (by simpa using h.blk b off ha)
    simp only [World.cell?, this])
  have u0 := S2.out.cell 0
  by_cases h1 : m < l.length
  · have HA : Hid (at_ l n m = means l[m] n) := hide (by unfold at_; rw [dif_pos h1])
    have hok := hide (HL.out _ (List.getElem_mem h1))
    obtain ⟨b, off, hab, hb, hc⟩ := p_at R2.out (by omega)
    obtain ⟨x0, x1⟩ := hc m h1
    clear hc
    generalize l[m] = p0 at x0 x1 HA hok
    subst hab
    go_wp2_with fail
    obtain ⟨W, hW⟩ : ∃ W, W = w1.setCell ⟨gs, 2, none⟩ (.int .i64 ((m : Int) + 1)) := ⟨_, rfl⟩
    rw [← hW] at S2 C2 F2 R2 x0 x1 hb u0 ⊢
    clear hW s0 s1 s2 f2 u0
    have z0 := keepc (p := ⟨gs, 0, none⟩) S2.out.lt (S2.out.cell 0)
    have z1 := keepc (p := ⟨gs, 1, none⟩) S2.out.lt (S2.out.cell 1)
    have z2 := keepc (p := ⟨b, off + m * 2, none⟩) hb x0
    have z3 := keepc (p := ⟨b, off + m * 2 + 1, none⟩) hb x1
    refine Reg.region (by kernel_rfl) 12 [11] (fun _ w' => Below W.heap.size W w') (by kernel_rfl) (by kernel_rfl) (Below.refl _ _).drew ?_
    iterate 11
      refine Reg.WT.yield (v := ?_) rfl rfl ?_ ?_
      rotate_left
      · intro w' _ hS; go_simp; (try go_bits); (first | rfl | rw [if_pos (by omega)])
      simp only [Act.put, List.setIfInBounds_toArray, List.set_cons_zero, List.set_cons_succ]
    refine Reg.WT.call (v := ?_) (f := ?_) (args := ?_) rfl rfl ?_ ?_ ?_
    rotate_left 3
    · intro w2; go_simp; exact ⟨by rfl, by rfl⟩
    · intro w2 hS; refine (means_any p0 n w2 hok.out hn hn2).mono ?_; rintro e w3 ⟨rfl, hb⟩; exact ⟨by rfl, hS.trans (hb.mono hS.size)⟩
    simp only [Act.put, List.setIfInBounds_toArray, List.set_cons_zero, List.set_cons_succ]
    intro w3 hS
    clear z0 z1 z2 z3 x0 x1 hb
    generalize means p0 n = p at HA
    have C3 := hide (C2.out.below hS C2.out.lt)
    have T3 := hide (PRow.below R2.out hS)
    have S3 := hide (S2.out.below hS S2.out.lt)
    have F3 := hide (F2.out.trans (Foot.of_below [gs] hS))
    have hgz := C3.out.lt
    clear hS
    have c0 := C3.out.cell 0
    have c1 := C3.out.cell 1
    have f0 := C3.out.frozen 0
    have f1 := C3.out.frozen 1
    have B4 := hide (box2 C3.out (.int .i64 p.w) (.int .i64 p.v))
    have S4 := hide ((S3.out.far (p := ⟨w.heap.size, 0, none⟩) (by show gs ≠ w.heap.size; omega) (.int .i64 p.w)).far (p := ⟨w.heap.size, 1, none⟩) (by show gs ≠ w.heap.size; omega) (.int .i64 p.v))
    have F4 := hide ((F3.out.setCell (p := ⟨w.heap.size, 0, none⟩) (.inr (by simp)) (.int .i64 p.w)).setCell (p := ⟨w.heap.size, 1, none⟩) (.inr (by simp)) (.int .i64 p.v))
    have T4 := hide (prow_set T3.out hlow (.int .i64 p.w) (.int .i64 p.v))
    go_wp2
    refine bodyPost_ret (results_cell_row Try.results11 _ _ w.heap.size 29 _ (0, 0) _ rfl B4.out Try.underlying29 rfl (by kernel_rfl)) rfl ?_
    exact npost HA.out ⟨S4.out, T4.out, h.blk⟩ F4.out
  · obtain ⟨k, hk⟩ : ∃ k : Nat, (m : Int) - l.length = (k : Int) := ⟨m - l.length, by omega⟩
    have HA : Hid (at_ l n m = behind (k : Int) n) := hide (by unfold at_; rw [dif_neg h1, hk])
    have hkb : k ≤ 1000000 := by omega
    go_wp2_with fail
    obtain ⟨W, hW⟩ : ∃ W, W = w1.setCell ⟨gs, 2, none⟩ (.int .i64 ((m : Int) + 1)) := ⟨_, rfl⟩
    rw [← hW] at S2 C2 F2 R2 u0 ⊢
    clear hW s0 s1 s2 f2 u0
    have z0 := keepc (p := ⟨gs, 0, none⟩) S2.out.lt (S2.out.cell 0)
    have z1 := keepc (p := ⟨gs, 1, none⟩) S2.out.lt (S2.out.cell 1)
    refine Reg.region (by kernel_rfl) 12 [11] (fun _ w' => Below W.heap.size W w') (by kernel_rfl) (by kernel_rfl) (Below.refl _ _).drew ?_
    iterate 11
      refine Reg.WT.yield (v := ?_) rfl rfl ?_ ?_
      rotate_left
      · intro w' _ hS; go_simp; (try go_bits); (first | rfl | rw [if_pos (by omega)])
      simp only [Act.put, List.setIfInBounds_toArray, List.set_cons_zero, List.set_cons_succ]
    refine Reg.WT.call (v := ?_) (f := ?_) (args := ?_) rfl rfl ?_ ?_ ?_
    rotate_left 3
    · intro w2; go_simp; exact ⟨by rfl, by rfl⟩
    · intro w2 hS; refine (behind_any k n w2 hn hn2 (by omega) (by omega)).mono ?_; rintro e w3 ⟨rfl, hb⟩; exact ⟨by rfl, hS.trans (hb.mono hS.size)⟩
    simp only [Act.put, List.setIfInBounds_toArray, List.set_cons_zero, List.set_cons_succ]
    intro w3 hS
    clear z0 z1
    generalize behind (k : Int) n = p at HA
    have C3 := hide (C2.out.below hS C2.out.lt)
    have T3 := hide (PRow.below R2.out hS)
    have S3 := hide (S2.out.below hS S2.out.lt)
    have F3 := hide (F2.out.trans (Foot.of_below [gs] hS))
    have hgz := C3.out.lt
    clear hS
    have c0 := C3.out.cell 0
    have c1 := C3.out.cell 1
    have f0 := C3.out.frozen 0
    have f1 := C3.out.frozen 1
    have B4 := hide (box2 C3.out (.int .i64 p.w) (.int .i64 p.v))
    have S4 := hide ((S3.out.far (p := ⟨w.heap.size, 0, none⟩) (by show gs ≠ w.heap.size; omega) (.int .i64 p.w)).far (p := ⟨w.heap.size, 1, none⟩) (by show gs ≠ w.heap.size; omega) (.int .i64 p.v))
    have F4 := hide ((F3.out.setCell (p := ⟨w.heap.size, 0, none⟩) (.inr (by simp)) (.int .i64 p.w)).setCell (p := ⟨w.heap.size, 1, none⟩) (.inr (by simp)) (.int .i64 p.v))
    have T4 := hide (prow_set T3.out hlow (.int .i64 p.w) (.int .i64 p.v))
    go_wp2
    refine bodyPost_ret (results_cell_row Try.results11 _ _ w.heap.size 29 _ (0, 0) _ rfl B4.out Try.underlying29 rfl (by kernel_rfl)) rfl ?_
    exact npost HA.out ⟨S4.out, T4.out, h.blk⟩ F4.out
end Go.Proofs.Ytkjmknmcadloaaa
