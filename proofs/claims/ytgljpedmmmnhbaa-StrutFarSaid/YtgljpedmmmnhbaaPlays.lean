/- The walk of StrutPlays. -/
import Derived.Test.YtgljpedmmmnhbaaSigns
namespace Go.Proofs.Ytgljpedmmmnhbaa
open Go.RowKit

theorem jn_fold_le (l : List Int) : ∀ p : Int × Int, p.1 ≤ (l.foldl jn p).1 ∧ (l.foldl jn p).2 ≤ p.2 := by
  induction l with
  | nil => intro p; exact ⟨Int.le_refl _, Int.le_refl _⟩
  | cons m l ih => intro p; have := ih (jn p m); simp only [List.foldl_cons]; simp only [jn] at this ⊢; omega
theorem jn_fold_bd (l : List Int) (B : Int) (h : ∀ n ∈ l, -B - 1 ≤ n ∧ n ≤ B) : ∀ p : Int × Int, p.1 ≤ B → -B - 1 ≤ p.2 → (l.foldl jn p).1 ≤ B ∧ -B - 1 ≤ (l.foldl jn p).2 := by
  induction l with
  | nil => intro p h1 h2; exact ⟨h1, h2⟩
  | cons m l ih =>
    intro p h1 h2
    have hm := h m List.mem_cons_self
    exact ih (fun n hn => h n (List.mem_cons_of_mem _ hn)) (jn p m) (by simp only [jn]; omega) (by simp only [jn]; omega)
/-- What is joined on top of p: p with what the list alone comes to. -/
theorem jn_fold_from (l : List Int) : ∀ p q : Int × Int, l.foldl jn (max p.1 q.1, min p.2 q.2) = (max p.1 (l.foldl jn q).1, min p.2 (l.foldl jn q).2) := by
  induction l with
  | nil => intro p q; rfl
  | cons m l ih =>
    intro p q
    have h1 : jn (max p.1 q.1, min p.2 q.2) m = (max p.1 (jn q m).1, min p.2 (jn q m).2) := by simp only [jn, Prod.mk.injEq]; constructor <;> omega
    rw [List.foldl_cons, List.foldl_cons, h1, ih]
theorem jn_both (p q : Int × Int) (h1 : 0 ≤ p.1) (h2 : p.2 ≤ 0) (h3 : 0 ≤ q.1) (h4 : q.2 ≤ 0) : jn (jn p q.1) q.2 = (max p.1 q.1, min p.2 q.2) := by
  simp only [jn, Prod.mk.injEq]; constructor <;> omega
theorem jn_parts (l r : List Int) : jn (jn (l.foldl jn (0, 0)) (r.foldl jn (0, 0)).1) (r.foldl jn (0, 0)).2 = (l ++ r).foldl jn (0, 0) := by
  have a := jn_fold_le l (0, 0)
  have b := jn_fold_le r (0, 0)
  rw [jn_both _ _ a.1 a.2 b.1 b.2, List.foldl_append, ← jn_fold_from]
  congr 1
  have a1 := a.1
  have a2 := a.2
  simp only at a1 a2
  refine Prod.ext ?_ ?_ <;> simp only <;> omega

theorem joined_len {a : Option Addr} {l : List Int} {n cap : Nat} {w : World} (h : Row w a (ints l)) (hn : n = l.length) {x y : Int} (hp : l.foldl jn (0, 0) = (x, y)) :
    Calls Try.prog 8 #[.slice a n cap] w fun e w' => e = .returned (.agg #[.int .i64 x, .int .i64 y]) ∧ Below w.heap.size w w' := by
  subst hn; exact joined_eq a l cap w h hp
theorem ref_of_len {a : Option Addr} {l : List Int} {n cap : Nat} {w : World} (h : Row w a (ints l)) (hn : n = l.length) {x y : Int} (hp : l.foldl jn (0, 0) = (x, y)) :
    Calls Try.prog 10 #[.slice a n cap] w fun e w' => e = .returned (.agg #[.int .i64 x, .int .i64 y]) ∧ Below w.heap.size w w' := by
  subst hn; exact (ref_of_any a l cap w h).mono fun e w' ⟨he, hb⟩ => ⟨by rw [he, hp], hb⟩
theorem both_eq {a b c d : Int} {w : World} {x y : Int} (hp : jn (jn (a, b) c) d = (x, y)) :
    Calls Try.prog 11 #[.agg #[.int .i64 a, .int .i64 b], .agg #[.int .i64 c, .int .i64 d]] w fun e w' => e = .returned (.agg #[.int .i64 x, .int .i64 y]) ∧ Below w.heap.size w w' :=
  (both_any a b c d w).mono fun e w' ⟨he, hb⟩ => ⟨by rw [he, hp], hb⟩
theorem ref_both_eq {a b c d : Int} {w : World} {x y : Int} (hp : [a, b, c, d].foldl jn (0, 0) = (x, y)) :
    Calls Try.prog 13 #[.agg #[.int .i64 a, .int .i64 b], .agg #[.int .i64 c, .int .i64 d]] w fun e w' => e = .returned (.agg #[.int .i64 x, .int .i64 y]) ∧ Below w.heap.size w w' :=
  (ref_both_any a b c d w).mono fun e w' ⟨he, hb⟩ => ⟨by rw [he, hp], hb⟩

theorem bd64 {l : List Int} (hw : ∀ n ∈ l, (Lit.int .i64 n).wf = true) : ∀ n ∈ l, -9223372036854775807 - 1 ≤ n ∧ n ≤ 9223372036854775807 := fun n hn => by
  have := hw n hn
  simpa [Lit.wf, IntKind.min, IntKind.max, IntKind.signed, IntKind.bits] using this

/-- Where the slice of what is left begins: the walk's own 'if', behind a name. -/
def cutA (a : Option Addr) (k c : Nat) : Option Addr := if c = k then a else a.map (·.add k)
theorem Row.cut {w : World} {a : Option Addr} {l : List Value} {k c : Nat} (h : Row w a l) (hc : l.length ≤ c) : Row w (cutA a k c) (l.drop k) := by
  refine ⟨by have := h.1; rw [List.length_drop]; omega, fun hp => ?_⟩
  rw [List.length_drop] at hp
  obtain ⟨b, off, rfl, hb, hcell⟩ := h.2 (by omega)
  have : ¬ c = k := by omega
  refine ⟨b, off + k, ?_, hb, fun i hi => ?_⟩
  · unfold cutA
    rw [if_neg this]
    by_cases h0 : k = 0
    · subst h0; rfl
    · simp [Addr.add, h0]
  · rw [List.length_drop] at hi
    rw [List.getElem_drop, Nat.add_assoc]
    exact hcell (k + i) (by omega)

theorem row_take {w : World} {a : Option Addr} {l : List Int} (h : Row w a (ints l)) (k : Nat) : Row w a (ints (l.take k)) := by
  have := h.take k
  unfold ints at this ⊢
  rwa [List.map_take]
theorem row_cut {w : World} {a : Option Addr} {l : List Int} {k c : Nat} (h : Row w a (ints l)) (hc : l.length ≤ c) : Row w (cutA a k c) (ints (l.drop k)) := by
  have := h.cut (k := k) (c := c) (by rw [ints_len]; exact hc)
  unfold ints at this ⊢
  rwa [List.map_drop]

theorem walk_StrutPlays (w : World) (a0 : Option Addr) (l : List Int) (c : Nat) (hr : Row w a0 (ints l)) (hw : ∀ n ∈ l, (Lit.int .i64 n).wf = true) (hc : l.length ≤ c) (hm : c ≤ maxLen)
    (a1 : Int) (w1 : (Lit.int .u8 a1).wf = true) (x2 y2 : Int) (wx2 : (Lit.int .i64 x2).wf = true) (wy2 : (Lit.int .i64 y2).wf = true) (x3 y3 : Int) (wx3 : (Lit.int .i64 x3).wf = true) (wy3 : (Lit.int .i64 y3).wf = true) :
    Calls Try.prog 4 #[.slice a0 l.length c, .int .u8 a1, .agg #[.int .i64 x2, .int .i64 y2], .agg #[.int .i64 x3, .int .i64 y3]] w fun e w' => e = .returned (.bool true) ∧ Below w.heap.size w w' := by
  have h1 : 0 ≤ a1 ∧ a1 ≤ 255 := by simpa [Lit.wf, IntKind.min, IntKind.max, IntKind.signed, IntKind.bits] using w1
  unfold maxLen at hm
  by_cases hbig : 200 < l.length
  · go_enter Try.func4, Try.ntmps4
    go_wp2_with fail
    refine (works_any _).mono ?_
    rintro e w2 ⟨rfl, k2⟩
    have t2 := below_call (w := w) (by go_grown) k2
    go_wp2
    go_returns
    exact ⟨rfl, t2⟩
  · obtain ⟨cut, rfl⟩ := Int.eq_ofNat_of_zero_le h1.1
    obtain ⟨k, hk⟩ : ∃ k, k = cut % (l.length + 1) := ⟨_, rfl⟩
    have hkl : k ≤ l.length := by rw [hk]; have := Nat.mod_lt cut (show 0 < l.length + 1 from by omega); omega
    have hkc : k ≤ c := Nat.le_trans hkl hc
    have hkk : (cut : Int) % ((l.length : Int) + 1) = (k : Int) := by rw [hk, Int.natCast_emod]; rfl
    clear hk
    obtain ⟨⟨x, y⟩, hp⟩ : ∃ p, l.foldl jn (0, 0) = p := ⟨_, rfl⟩
    obtain ⟨⟨xa, ya⟩, hpa⟩ : ∃ p, (l.take k).foldl jn (0, 0) = p := ⟨_, rfl⟩
    obtain ⟨⟨xb, yb⟩, hpb⟩ : ∃ p, (l.drop k).foldl jn (0, 0) = p := ⟨_, rfl⟩
    have hpc : jn (jn (xa, ya) xb) yb = (x, y) := by
      have := jn_parts (l.take k) (l.drop k)
      rw [hpa, hpb, List.take_append_drop, hp] at this
      exact this
    have hb := jn_fold_bd l _ (bd64 hw) (0, 0) (by decide) (by decide)
    have hb' := jn_fold_le l (0, 0)
    rw [hp] at hb hb'
    obtain ⟨b1, b2⟩ := hb
    obtain ⟨b3, b4⟩ := hb'
    simp only at b1 b2 b3 b4
    have HP := hide hp
    have HPA := hide hpa
    have HPB := hide hpb
    have HPC := hide hpc
    clear hp hpa hpb hpc
    go_enter Try.func4, Try.ntmps4
    go_wp2_with fail
    refine (ref_of_len (hr.below (by go_grown)) rfl HP.out).mono ?_
    rintro e w2 ⟨rfl, k2⟩
    have t2 := below_call (w := w) (by go_grown) k2
    have s2 := t2.size
    go_wp2_with fail
    have B5 := Blk.new w2 24 #[.int .i64 x, .int .i64 y]
    have B6 := (((Blk.new w 24 #[.int .i64 x2, .int .i64 y2]).alloc (.cells #[.int .i64 x3, .int .i64 y3] 24)).below k2 (by simp; omega)).alloc (.cells #[.int .i64 x, .int .i64 y] 24)
    have B7 := ((Blk.new (w.alloc (.cells #[.int .i64 x2, .int .i64 y2] 24)) 24 #[.int .i64 x3, .int .i64 y3]).below k2 (by simp)).alloc (.cells #[.int .i64 x, .int .i64 y] 24)
    have t5 : Below w.heap.size w (w2.alloc (.cells #[.int .i64 x, .int .i64 y] 24)) := by go_grown
    simp only [World.size_alloc] at B7
    generalize w2.alloc (.cells #[.int .i64 x, .int .i64 y] 24) = W5 at *
    have hr5 := hr.below t5
    have C0 := keepc (p := ⟨w2.heap.size, 0, none⟩) B5.lt (B5.cell 0)
    have C1 := keepc (p := ⟨w2.heap.size, 1, none⟩) B5.lt (B5.cell 1)
    refine Reg.region (by kernel_rfl) 24 [1, 8, 12, 13, 19, 21] (fun _ w' => Below W5.heap.size W5 w') (by kernel_rfl) (by kernel_rfl) (Below.refl _ _).drew ?_
    iterate 1
      refine Reg.WT.yield (v := ?_) rfl rfl ?_ ?_
      rotate_left
      · intro w' _ hS; go_simp; (try go_bits); (first | rfl | rw [if_pos (by omega)])
      simp only [Act.put, List.setIfInBounds_toArray, List.set_cons_zero, List.set_cons_succ]
    refine Reg.WT.call (v := ?_) (f := ?_) (args := ?_) rfl rfl ?_ ?_ ?_
    rotate_left 3
    · intro w2; go_simp; exact ⟨by rfl, by rfl⟩
    · intro w2 hS; refine (joined_len (hr5.below hS) rfl HP.out).mono ?_; rintro e w3 ⟨rfl, hb⟩; exact ⟨by rfl, hS.trans (hb.mono hS.size)⟩
    simp only [Act.put, List.setIfInBounds_toArray, List.set_cons_zero, List.set_cons_succ]
    iterate 5
      refine Reg.WT.yield (v := ?_) rfl rfl ?_ ?_
      rotate_left
      · intro w' _ hS; go_simp; (try go_bits); (first | rfl | rw [if_pos (by omega)])
      simp only [Act.put, List.setIfInBounds_toArray, List.set_cons_zero, List.set_cons_succ]
    refine Reg.WT.yield (v := .slice a0 k c) rfl rfl (fun w' _ hS => ?_) ?_
    · go_simp
    simp only [Act.put, List.setIfInBounds_toArray, List.set_cons_zero, List.set_cons_succ]
    refine Reg.WT.call (v := ?_) (f := ?_) (args := ?_) rfl rfl ?_ ?_ ?_
    rotate_left 3
    · intro w2; go_simp; exact ⟨by rfl, by rfl⟩
    · intro w2 hS; refine (joined_len (row_take (hr5.below hS) k) (by rw [List.length_take]; omega) HPA.out).mono ?_; rintro e w3 ⟨rfl, hb⟩; exact ⟨by rfl, hS.trans (hb.mono hS.size)⟩
    simp only [Act.put, List.setIfInBounds_toArray, List.set_cons_zero, List.set_cons_succ]
    iterate 2
      refine Reg.WT.yield (v := ?_) rfl rfl ?_ ?_
      rotate_left
      · intro w' _ hS; go_simp; (try go_bits); (first | rfl | rw [if_pos (by omega)])
      simp only [Act.put, List.setIfInBounds_toArray, List.set_cons_zero, List.set_cons_succ]
    refine Reg.WT.yield (v := .slice (cutA a0 k c) (l.length - k) (c - k)) rfl rfl (fun w' _ hS => ?_) ?_
    · go_simp
      rfl
    simp only [Act.put, List.setIfInBounds_toArray, List.set_cons_zero, List.set_cons_succ]
    refine Reg.WT.call (v := ?_) (f := ?_) (args := ?_) rfl rfl ?_ ?_ ?_
    rotate_left 3
    · intro w2; go_simp; exact ⟨by rfl, by rfl⟩
    · intro w2 hS; refine (joined_len (row_cut (hr5.below hS) hc) (by rw [List.length_drop]) HPB.out).mono ?_; rintro e w3 ⟨rfl, hb⟩; exact ⟨by rfl, hS.trans (hb.mono hS.size)⟩
    simp only [Act.put, List.setIfInBounds_toArray, List.set_cons_zero, List.set_cons_succ]
    refine Reg.WT.call (v := ?_) (f := ?_) (args := ?_) rfl rfl ?_ ?_ ?_
    rotate_left 3
    · intro w2; go_simp; exact ⟨by rfl, by rfl⟩
    · intro w2 hS; refine (both_eq HPC.out).mono ?_; rintro e w3 ⟨rfl, hb⟩; exact ⟨by rfl, hS.trans (hb.mono hS.size)⟩
    simp only [Act.put, List.setIfInBounds_toArray, List.set_cons_zero, List.set_cons_succ]
    iterate 5
      refine Reg.WT.yield (v := ?_) rfl rfl ?_ ?_
      rotate_left
      · intro w' _ hS; go_simp; (try go_bits); (first | rfl | rw [if_pos (by omega)])
      simp only [Act.put, List.setIfInBounds_toArray, List.set_cons_zero, List.set_cons_succ]
    refine Reg.WT.call (v := ?_) (f := ?_) (args := ?_) rfl rfl ?_ ?_ ?_
    rotate_left 3
    · intro w2; go_simp; exact ⟨by rfl, by rfl⟩
    · intro w2 hS; refine (sum_any _ _ _ b3 b1 b4 b2).mono ?_; rintro e w3 ⟨rfl, hb⟩; exact ⟨by rfl, hS.trans (hb.mono hS.size)⟩
    simp only [Act.put, List.setIfInBounds_toArray, List.set_cons_zero, List.set_cons_succ]
    iterate 1
      refine Reg.WT.yield (v := ?_) rfl rfl ?_ ?_
      rotate_left
      · intro w' _ hS; go_simp; (try go_bits); (first | rfl | rw [if_pos (by omega)])
      simp only [Act.put, List.setIfInBounds_toArray, List.set_cons_zero, List.set_cons_succ]
    refine Reg.WT.call (v := ?_) (f := ?_) (args := ?_) rfl rfl ?_ ?_ ?_
    rotate_left 3
    · intro w2; go_simp; exact ⟨by rfl, by rfl⟩
    · intro w2 hS; refine (ref_sum_any _ _ _ b3 b1 b4 b2).mono ?_; rintro e w3 ⟨rfl, hb⟩; exact ⟨by rfl, hS.trans (hb.mono hS.size)⟩
    simp only [Act.put, List.setIfInBounds_toArray, List.set_cons_zero, List.set_cons_succ]
    iterate 2
      refine Reg.WT.yield (v := ?_) rfl rfl ?_ ?_
      rotate_left
      · intro w' _ hS; go_simp; (try go_bits); (first | rfl | rw [if_pos (by omega)])
      simp only [Act.put, List.setIfInBounds_toArray, List.set_cons_zero, List.set_cons_succ]
    intro w6 hS
    have t6 := below_call (w := w) t5 hS
    have s6 := t6.size
    have C2 := (hS.cell (p := ⟨w.heap.size, 0, none⟩) B6.lt).trans (B6.cell 0)
    have C3 := (hS.cell (p := ⟨w.heap.size, 1, none⟩) B6.lt).trans (B6.cell 1)
    have C4 := (hS.cell (p := ⟨w.heap.size + 1, 0, none⟩) B7.lt).trans (B7.cell 0)
    have C5 := (hS.cell (p := ⟨w.heap.size + 1, 1, none⟩) B7.lt).trans (B7.cell 1)
    simp at C2 C3 C4 C5
    by_cases q0 : x2 < 0
    · go_wp2_with fail
      refine (works_any _).mono ?_
      rintro e w7 ⟨rfl, k7⟩
      have t7 := below_call (w := w) (by go_grown) k7
      go_wp2
      go_returns
      exact ⟨rfl, t7⟩
    by_cases q1 : 0 < y2
    · go_wp2_with fail
      refine (works_any _).mono ?_
      rintro e w7 ⟨rfl, k7⟩
      have t7 := below_call (w := w) (by go_grown) k7
      go_wp2
      go_returns
      exact ⟨rfl, t7⟩
    by_cases q2 : x3 < 0
    · go_wp2_with fail
      refine (works_any _).mono ?_
      rintro e w7 ⟨rfl, k7⟩
      have t7 := below_call (w := w) (by go_grown) k7
      go_wp2
      go_returns
      exact ⟨rfl, t7⟩
    by_cases q3 : 0 < y3
    · go_wp2_with fail
      refine (works_any _).mono ?_
      rintro e w7 ⟨rfl, k7⟩
      have t7 := below_call (w := w) (by go_grown) k7
      go_wp2
      go_returns
      exact ⟨rfl, t7⟩
    have hq : jn (jn (x2, y2) x3) y3 = (max x2 x3, min y2 y3) := jn_both (x2, y2) (x3, y3) (by simp only; omega) (by simp only; omega) (by simp only; omega) (by simp only; omega)
    have hq' : [x2, y2, x3, y3].foldl jn (0, 0) = (max x2 x3, min y2 y3) := by
      simp only [List.foldl, jn, Prod.mk.injEq]; constructor <;> omega
    have HQ := hide hq
    have HQ' := hide hq'
    clear hq hq'
    have D2 := keepc (p := ⟨w.heap.size, 0, none⟩) (Nat.lt_of_lt_of_le B6.lt hS.size) C2
    have D3 := keepc (p := ⟨w.heap.size, 1, none⟩) (Nat.lt_of_lt_of_le B6.lt hS.size) C3
    have D4 := keepc (p := ⟨w.heap.size + 1, 0, none⟩) (Nat.lt_of_lt_of_le B7.lt hS.size) C4
    have D5 := keepc (p := ⟨w.heap.size + 1, 1, none⟩) (Nat.lt_of_lt_of_le B7.lt hS.size) C5
    obtain ⟨u, hu⟩ : ∃ u, u = max x2 x3 := ⟨_, rfl⟩
    obtain ⟨v, hv⟩ : ∃ v, v = min y2 y3 := ⟨_, rfl⟩
    rw [← hu, ← hv] at HQ HQ'
    clear hu hv
    go_wp2_with fail
    refine Reg.region (by kernel_rfl) 10 [2, 5, 8] (fun _ w' => Below w6.heap.size w6 w') (by kernel_rfl) (by kernel_rfl) (Below.refl _ _).drew ?_
    iterate 2
      refine Reg.WT.yield (v := ?_) rfl rfl ?_ ?_
      rotate_left
      · intro w' _ hS; go_simp; (try go_bits); (first | rfl | rw [if_pos (by omega)])
      simp only [Act.put, List.setIfInBounds_toArray, List.set_cons_zero, List.set_cons_succ]
    refine Reg.WT.call (v := ?_) (f := ?_) (args := ?_) rfl rfl ?_ ?_ ?_
    rotate_left 3
    · intro w2; go_simp; exact ⟨by rfl, by rfl⟩
    · intro w2 hS; refine (both_eq HQ.out).mono ?_; rintro e w3 ⟨rfl, hb⟩; exact ⟨by rfl, hS.trans (hb.mono hS.size)⟩
    simp only [Act.put, List.setIfInBounds_toArray, List.set_cons_zero, List.set_cons_succ]
    iterate 2
      refine Reg.WT.yield (v := ?_) rfl rfl ?_ ?_
      rotate_left
      · intro w' _ hS; go_simp; (try go_bits); (first | rfl | rw [if_pos (by omega)])
      simp only [Act.put, List.setIfInBounds_toArray, List.set_cons_zero, List.set_cons_succ]
    refine Reg.WT.call (v := ?_) (f := ?_) (args := ?_) rfl rfl ?_ ?_ ?_
    rotate_left 3
    · intro w2; go_simp; exact ⟨by rfl, by rfl⟩
    · intro w2 hS; refine (ref_both_eq HQ'.out).mono ?_; rintro e w3 ⟨rfl, hb⟩; exact ⟨by rfl, hS.trans (hb.mono hS.size)⟩
    simp only [Act.put, List.setIfInBounds_toArray, List.set_cons_zero, List.set_cons_succ]
    iterate 2
      refine Reg.WT.yield (v := ?_) rfl rfl ?_ ?_
      rotate_left
      · intro w' _ hS; go_simp; (try go_bits); (first | rfl | rw [if_pos (by omega)])
      simp only [Act.put, List.setIfInBounds_toArray, List.set_cons_zero, List.set_cons_succ]
    refine Reg.WT.call (v := ?_) (f := ?_) (args := ?_) rfl rfl ?_ ?_ ?_
    rotate_left 3
    · intro w2; go_simp; exact ⟨by rfl, by rfl⟩
    · intro w2 hS; refine (works_any _).mono ?_; rintro e w3 ⟨rfl, hb⟩; exact ⟨by rfl, hS.trans (hb.mono hS.size)⟩
    simp only [Act.put, List.setIfInBounds_toArray, List.set_cons_zero, List.set_cons_succ]
    iterate 1
      refine Reg.WT.yield (v := ?_) rfl rfl ?_ ?_
      rotate_left
      · intro w' _ hS; go_simp; (try go_bits); (first | rfl | rw [if_pos (by omega)])
      simp only [Act.put, List.setIfInBounds_toArray, List.set_cons_zero, List.set_cons_succ]
    intro w8 hS8
    have t8 := below_call (w := w) t6 hS8
    go_wp2
    go_returns
    exact ⟨rfl, t8⟩
end Go.Proofs.Ytgljpedmmmnhbaa
