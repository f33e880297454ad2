/- The tally: more, less. -/
import Derived.Test.YtkjmknmcadloaaaDrawW
namespace Go.Proofs.Ytkjmknmcadloaaa
open Go.RowKit

def zeros (n : Nat) (f : Nat → Nat) : Nat := ((List.range n).filter fun i => f i == 0).length
def bump (f : Nat → Nat) (j : Nat) : Nat → Nat := fun i => if i = j then f i + 1 else f i
def drop1 (f : Nat → Nat) (j : Nat) : Nat → Nat := fun i => if i = j then f i - 1 else f i
def cints (n : Nat) (f : Nat → Nat) : List Int := (List.range n).map fun i => (f i : Int)
theorem cints_len (n : Nat) (f : Nat → Nat) : (cints n f).length = n := by simp [cints]
theorem cints_get (n : Nat) (f : Nat → Nat) (i : Nat) (h : i < (cints n f).length) : (cints n f)[i] = (f i : Int) := by simp [cints]
theorem cints_set {n : Nat} {f f' : Nat → Nat} {j : Nat} {x : Int} (hx : x = (f' j : Int)) (h : ∀ i, i ≠ j → f' i = f i) : (cints n f).set j x = cints n f' := by
  apply List.ext_getElem (by simp [cints])
  intro i h1 h2
  rw [cints_get, List.getElem_set]
  split
  · next h3 => subst h3; exact hx
  · next h3 => rw [cints_get, h i (Ne.symm h3)]
theorem zeros_succ (n : Nat) (f : Nat → Nat) : zeros (n + 1) f = zeros n f + if f n = 0 then 1 else 0 := by
  unfold zeros
  rw [List.range_succ, List.filter_append, List.length_append]
  by_cases h : f n = 0 <;> simp [h]
theorem zeros_bump {f : Nat → Nat} {j : Nat} : ∀ n, j < n → zeros n (bump f j) + (if f j = 0 then 1 else 0) = zeros n f
  | 0, h => absurd h (by omega)
  | n + 1, h => by
    rw [zeros_succ, zeros_succ]
    by_cases hj : j = n
    · subst hj
      have e : ∀ m, m ≤ j → zeros m (bump f j) = zeros m f := by
        intro m
        induction m with
        | zero => intro _; rfl
        | succ m ih => intro hm; rw [zeros_succ, zeros_succ, ih (by omega), show bump f j m = f m from by unfold bump; rw [if_neg (by omega)]]
      rw [e j (Nat.le_refl _)]
      simp [bump]
    · have := zeros_bump (f := f) (j := j) n (by omega)
      have e : bump f j n = f n := by unfold bump; rw [if_neg (by omega)]
      rw [e]; omega
theorem bump_drop {f : Nat → Nat} {j : Nat} (h : 0 < f j) : bump (drop1 f j) j = f := by
  funext i
  unfold bump drop1
  by_cases e : i = j
  · subst e; simp; omega
  · simp [e]
theorem zeros_drop {f : Nat → Nat} {j : Nat} (h : 0 < f j) (n : Nat) (hj : j < n) : zeros n (drop1 f j) = zeros n f + if f j - 1 = 0 then 1 else 0 := by
  have := zeros_bump (f := drop1 f j) (j := j) n hj
  rw [bump_drop h] at this
  rw [← this]
  unfold drop1
  simp
theorem zeros_le (n : Nat) (f : Nat → Nat) : zeros n f ≤ n := by
  unfold zeros
  have := List.length_filter_le (fun i => f i == 0) (List.range n)
  simpa using this

/-- The tally's numbers, whatever they are. -/
def vints (n : Nat) (f : Nat → Int) : List Int := (List.range n).map f
theorem vints_len (n : Nat) (f : Nat → Int) : (vints n f).length = n := by simp [vints]
theorem vints_get (n : Nat) (f : Nat → Int) (i : Nat) (h : i < (vints n f).length) : (vints n f)[i] = f i := by simp [vints]
theorem vints_set {n : Nat} {f f' : Nat → Int} {j : Nat} {x : Int} (hx : x = f' j) (h : ∀ i, i ≠ j → f' i = f i) : (vints n f).set j x = vints n f' := by
  apply List.ext_getElem (by simp [vints])
  intro i h1 h2
  rw [vints_get, List.getElem_set]
  split
  · next h3 => subst h3; exact hx
  · next h3 => rw [vints_get, h i (Ne.symm h3)]
structure Ts where
  f : Nat → Int
  z : Int
def updf (f : Nat → Int) (j : Nat) (x : Int) : Nat → Int := fun i => if i = j then x else f i
theorem updf_at (f : Nat → Int) (j : Nat) (x : Int) : updf f j x j = x := by unfold updf; rw [if_pos rfl]
theorem updf_ne {f : Nat → Int} {j : Nat} {x : Int} : ∀ i, i ≠ j → updf f j x i = f i := fun i h => by unfold updf; rw [if_neg h]
def moreS (s : Ts) (j : Nat) : Ts := ⟨updf s.f j (wrap64 (s.f j + 1)), if s.f j = 0 then wrap64 (s.z - 1) else s.z⟩
def lessS (s : Ts) (j : Nat) : Ts := ⟨updf s.f j (wrap64 (s.f j - 1)), if wrap64 (s.f j - 1) = 0 then wrap64 (s.z + 1) else s.z⟩
/-- The tally in memory: its box, its counts. -/
structure Tal (w : World) (g gc n : Nat) (s : Ts) : Prop where
  box : Blk w g 51 #[.func (.func 18) #[.int .i64 n] #[], .slice (some ⟨gc, 0, none⟩) n n, .int .i64 s.z]
  cnt : Blk w gc 3 (ints (vints n s.f)).toArray
  ne : g ≠ gc
theorem Tal.below {w w' : World} {g gc n : Nat} {s : Ts} (h : Tal w g gc n s) (hb : Below w.heap.size w w') : Tal w' g gc n s := ⟨h.box.below hb h.box.lt, h.cnt.below hb h.cnt.lt, h.ne⟩
theorem Tal.at_ {w : World} {g gc n : Nat} {s : Ts} (h : Tal w g gc n s) {j : Nat} (hj : j < n) : w.cell? ⟨gc, j, none⟩ = some (.int .i64 (s.f j)) := by
  have := blk_int h.cnt (i := j) (by rw [vints_len]; exact hj)
  rw [this, vints_get]
def TPost (g gc n : Nat) (s : Ts) (w : World) (r : Ending) (w' : World) : Prop := r = .returned (.tuple #[]) ∧ Tal w' g gc n s ∧ Foot [g, gc] w w'
theorem Tal.upd {w : World} {g gc n : Nat} {s s' : Ts} {j : Nat} {x z : Int} (h : Tal w g gc n s) (hx : x = s'.f j) (hz : z = s'.z) (ho : ∀ i, i ≠ j → s'.f i = s.f i) :
    Tal ((w.setCell ⟨g, 2, none⟩ (.int .i64 z)).setCell ⟨gc, j, none⟩ (.int .i64 x)) g gc n s' := by
  subst hz
  refine ⟨?_, ?_, h.ne⟩
  · have := (h.box.set_ 2 (.int .i64 s'.z)).far (p := ⟨gc, j, none⟩) (by exact h.ne) (.int .i64 x)
    simpa using this
  · have := blk_int_set (h.cnt.far (p := ⟨g, 2, none⟩) (by exact fun e => h.ne e.symm) (.int .i64 s'.z)) j x
    rwa [vints_set hx ho] at this
theorem Tal.upd2 {w : World} {g gc n : Nat} {s s' : Ts} {j : Nat} {x z : Int} (h : Tal w g gc n s) (hx : x = s'.f j) (hz : z = s'.z) (ho : ∀ i, i ≠ j → s'.f i = s.f i) :
    Tal ((w.setCell ⟨gc, j, none⟩ (.int .i64 x)).setCell ⟨g, 2, none⟩ (.int .i64 z)) g gc n s' := by
  subst hz
  refine ⟨?_, ?_, h.ne⟩
  · have := (h.box.far (p := ⟨gc, j, none⟩) (by exact h.ne) (.int .i64 x)).set_ 2 (.int .i64 s'.z)
    simpa using this
  · have := (blk_int_set h.cnt j x).far (p := ⟨g, 2, none⟩) (by exact fun e => h.ne e.symm) (.int .i64 s'.z)
    rwa [vints_set hx ho] at this
theorem Tal.upd1 {w : World} {g gc n : Nat} {s s' : Ts} {j : Nat} {x : Int} (h : Tal w g gc n s) (hx : x = s'.f j) (hz : s'.z = s.z) (ho : ∀ i, i ≠ j → s'.f i = s.f i) :
    Tal (w.setCell ⟨gc, j, none⟩ (.int .i64 x)) g gc n s' := by
  refine ⟨?_, ?_, h.ne⟩
  · rw [hz]; exact h.box.far (p := ⟨gc, j, none⟩) (by exact h.ne) (.int .i64 x)
  · have := blk_int_set h.cnt j x
    rwa [vints_set hx ho] at this

set_option maxHeartbeats 2000000 in
theorem more_any (g gc n : Nat) (s : Ts) (p : Pk) (j : Nat) (w : World) (h : Tal w g gc n s) (hp : PkOk p) (hn : 1 ≤ n) (hn2 : n ≤ 64) (hj : (means p n).w = j) (hjn : j < n) :
    Calls Try.prog 23 #[.pointer (some ⟨g, 0, none⟩), .agg #[.int .i64 p.w, .int .i64 p.v]] w (TPost g gc n (moreS s j) w) := by
  obtain ⟨w1, hw1⟩ : ∃ w1, w1 = w.alloc (.cells #[.int .i64 p.w, .int .i64 p.v] 29) := ⟨_, rfl⟩
  have B1 : Hid (Blk w1 w.heap.size 29 #[.int .i64 p.w, .int .i64 p.v]) := hide (hw1 ▸ Blk.new w 29 _)
  have bl1 : Below w.heap.size w w1 := by rw [hw1]; go_grown
  have T1 := hide (h.below bl1)
  have F1 := hide (Foot.of_below [g, gc] bl1)
  have hg := h.box.lt
  have hgc := h.cnt.lt
  have hne := h.ne
  have HW1 := hide hw1
  have HP := hide hp
  have HJ := hide hj
  clear hw1 bl1 hp hj
  go_enter Try.func23, Try.ntmps23
  go_wp2
  rw [← HW1.out]
  have z0 := keepc (p := ⟨w.heap.size, 0, none⟩) B1.out.lt (B1.out.cell 0)
  have z1 := keepc (p := ⟨w.heap.size, 1, none⟩) B1.out.lt (B1.out.cell 1)
  have z2 := keepc (p := ⟨g, 0, none⟩) T1.out.box.lt (T1.out.box.cell 0)
  refine Reg.region (by kernel_rfl) 8 [5] (fun _ w' => Below w1.heap.size w1 w') (by kernel_rfl) (by kernel_rfl) (Below.refl _ _).drew ?_
  iterate 5
    refine Reg.WT.yield (v := ?_) rfl rfl ?_ ?_
    rotate_left
    · intro w' _ hS; go_simp; (try go_bits); (first | rfl | rw [if_pos (by omega)])
    simp only [Act.put, List.setIfInBounds_toArray, List.set_cons_zero, List.set_cons_succ]
  refine Reg.WT.call (v := ?_) (f := ?_) (args := ?_) rfl rfl ?_ ?_ ?_
  rotate_left 3
  · intro w2; go_simp; exact ⟨by rfl, by rfl⟩
  · intro w2 hS; refine (means_any p n w2 HP.out (by omega) (by omega)).mono ?_; rintro e w3 ⟨rfl, hb⟩; exact ⟨by rfl, hS.trans (hb.mono hS.size)⟩
  simp only [Act.put, List.setIfInBounds_toArray, List.set_cons_zero, List.set_cons_succ]
  iterate 2
    refine Reg.WT.yield (v := ?_) rfl rfl ?_ ?_
    rotate_left
    · intro w' _ hS; go_simp; (try go_bits); (first | rfl | rw [if_pos (by omega)])
    simp only [Act.put, List.setIfInBounds_toArray, List.set_cons_zero, List.set_cons_succ]
  intro w2 hS
  rw [HJ.out]
  have T2 := hide (T1.out.below hS)
  have F2 := hide (F1.out.trans (Foot.of_below [g, gc] hS))
  clear z0 z1 z2 hS
  have c1 := T2.out.box.cell 1
  have c2 := T2.out.box.cell 2
  have x0 := T2.out.at_ hjn
  have k2 := T2.out.box.frozen 2
  have l0 := T2.out.cnt.frozen j
  by_cases hfj : s.f j = 0
  · have e1 : Hid ((moreS s j).f = updf s.f j 1) := hide (by unfold moreS; rw [hfj]; show updf s.f j (wrap64 (0 + 1)) = _; rw [show wrap64 (0 + 1) = 1 from by unfold wrap64; omega])
    have e2 : Hid ((moreS s j).z = wrap64 (s.z - 1)) := hide (by unfold moreS; rw [if_pos hfj])
    go_wp2
    go_end0
    exact ⟨rfl, T2.out.upd (s' := moreS s j) (by rw [e1.out, updf_at]) (by rw [e2.out]) (by rw [e1.out]; exact updf_ne), (F2.out.setCell (p := ⟨g, 2, none⟩) (.inl (by simp)) _).setCell (p := ⟨gc, j, none⟩) (.inl (by simp)) _⟩
  · have e1 : Hid ((moreS s j).f = updf s.f j (wrap64 (s.f j + 1))) := hide rfl
    have e2 : Hid ((moreS s j).z = s.z) := hide (by unfold moreS; rw [if_neg hfj])
    go_wp2
    go_end0
    exact ⟨rfl, T2.out.upd1 (s' := moreS s j) (by rw [e1.out, updf_at]) (by rw [e2.out]) (by rw [e1.out]; exact updf_ne), F2.out.setCell (p := ⟨gc, j, none⟩) (.inl (by simp)) _⟩
set_option maxHeartbeats 2000000 in
theorem less_any (g gc n : Nat) (s : Ts) (p : Pk) (j : Nat) (w : World) (h : Tal w g gc n s) (hp : PkOk p) (hn : 1 ≤ n) (hn2 : n ≤ 64) (hj : (means p n).w = j) (hjn : j < n) :
    Calls Try.prog 24 #[.pointer (some ⟨g, 0, none⟩), .agg #[.int .i64 p.w, .int .i64 p.v]] w (TPost g gc n (lessS s j) w) := by
  obtain ⟨w1, hw1⟩ : ∃ w1, w1 = w.alloc (.cells #[.int .i64 p.w, .int .i64 p.v] 29) := ⟨_, rfl⟩
  have B1 : Hid (Blk w1 w.heap.size 29 #[.int .i64 p.w, .int .i64 p.v]) := hide (hw1 ▸ Blk.new w 29 _)
  have bl1 : Below w.heap.size w w1 := by rw [hw1]; go_grown
  have T1 := hide (h.below bl1)
  have F1 := hide (Foot.of_below [g, gc] bl1)
  have hg := h.box.lt
  have hgc := h.cnt.lt
  have hne := h.ne
  have HW1 := hide hw1
  have HP := hide hp
  have HJ := hide hj
  clear hw1 bl1 hp hj
  go_enter Try.func24, Try.ntmps24
  go_wp2
  rw [← HW1.out]
  have z0 := keepc (p := ⟨w.heap.size, 0, none⟩) B1.out.lt (B1.out.cell 0)
  have z1 := keepc (p := ⟨w.heap.size, 1, none⟩) B1.out.lt (B1.out.cell 1)
  have z2 := keepc (p := ⟨g, 0, none⟩) T1.out.box.lt (T1.out.box.cell 0)
  refine Reg.region (by kernel_rfl) 8 [5] (fun _ w' => Below w1.heap.size w1 w') (by kernel_rfl) (by kernel_rfl) (Below.refl _ _).drew ?_
  iterate 5
    refine Reg.WT.yield (v := ?_) rfl rfl ?_ ?_
    rotate_left
    · intro w' _ hS; go_simp; (try go_bits); (first | rfl | rw [if_pos (by omega)])
    simp only [Act.put, List.setIfInBounds_toArray, List.set_cons_zero, List.set_cons_succ]
  refine Reg.WT.call (v := ?_) (f := ?_) (args := ?_) rfl rfl ?_ ?_ ?_
  rotate_left 3
  · intro w2; go_simp; exact ⟨by rfl, by rfl⟩
  · intro w2 hS; refine (means_any p n w2 HP.out (by omega) (by omega)).mono ?_; rintro e w3 ⟨rfl, hb⟩; exact ⟨by rfl, hS.trans (hb.mono hS.size)⟩
  simp only [Act.put, List.setIfInBounds_toArray, List.set_cons_zero, List.set_cons_succ]
  iterate 2
    refine Reg.WT.yield (v := ?_) rfl rfl ?_ ?_
    rotate_left
    · intro w' _ hS; go_simp; (try go_bits); (first | rfl | rw [if_pos (by omega)])
    simp only [Act.put, List.setIfInBounds_toArray, List.set_cons_zero, List.set_cons_succ]
  intro w2 hS
  rw [HJ.out]
  have T2 := hide (T1.out.below hS)
  have F2 := hide (F1.out.trans (Foot.of_below [g, gc] hS))
  clear z0 z1 z2 hS
  have c1 := T2.out.box.cell 1
  have c2 := T2.out.box.cell 2
  have x0 := T2.out.at_ hjn
  have k2 := T2.out.box.frozen 2
  have l0 := T2.out.cnt.frozen j
  by_cases hfj : wrap64 (s.f j - 1) = 0
  · have e1 : Hid ((lessS s j).f = updf s.f j 0) := hide (by unfold lessS; rw [hfj])
    have e2 : Hid ((lessS s j).z = wrap64 (s.z + 1)) := hide (by unfold lessS; rw [if_pos hfj])
    go_wp2
    go_end0
    exact ⟨rfl, T2.out.upd2 (s' := lessS s j) (by rw [e1.out, updf_at]) (by rw [e2.out]) (by rw [e1.out]; exact updf_ne), (F2.out.setCell (p := ⟨gc, j, none⟩) (.inl (by simp)) _).setCell (p := ⟨g, 2, none⟩) (.inl (by simp)) _⟩
  · have e1 : Hid ((lessS s j).f = updf s.f j (wrap64 (s.f j - 1))) := hide rfl
    have e2 : Hid ((lessS s j).z = s.z) := hide (by unfold lessS; rw [if_neg hfj])
    go_wp2
    go_end0
    exact ⟨rfl, T2.out.upd1 (s' := lessS s j) (by rw [e1.out, updf_at]) (by rw [e2.out]) (by rw [e1.out]; exact updf_ne), F2.out.setCell (p := ⟨gc, j, none⟩) (.inl (by simp)) _⟩
end Go.Proofs.Ytkjmknmcadloaaa
