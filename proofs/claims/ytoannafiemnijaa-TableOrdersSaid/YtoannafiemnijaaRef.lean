/- The reference's table. -/
import Derived.Test.YtoannafiemnijaaAll
namespace Go.Proofs.Ytoannafiemnijaa
open Go.RowKit

def rc (o : Option (Int × ByteArray)) (j : Nat) : Value :=
  if j = 0 then .bool o.isSome else if j = 1 then .int .i64 (o.getD (0, ByteArray.empty)).1 else .string (o.getD (0, ByteArray.empty)).2
structure RTab (w : World) (gr gl n : Nat) (st : Nat → Option (Int × ByteArray)) : Prop where
  box : Blk w gr 42 #[.slice (some ⟨gl, 0, none⟩) n n]
  cells : Mat w gl 77 n 3 (fun i j => rc (st i) j)
  ne : gr ≠ gl
  le : n ≤ 65536
theorem RTab.foot {w w' : World} {gr gl n : Nat} {st : Nat → Option (Int × ByteArray)} {fs : List Nat} (h : RTab w gr gl n st) (hf : Foot fs w w') (h1 : gr ∉ fs) (h2 : gl ∉ fs) : RTab w' gr gl n st :=
  ⟨h.box.foot hf h1, h.cells.foot hf h2, h.ne, h.le⟩
theorem RTab.below {w w' : World} {gr gl n : Nat} {st : Nat → Option (Int × ByteArray)} (h : RTab w gr gl n st) (hb : Below w.heap.size w w') : RTab w' gr gl n st :=
  h.foot (Foot.of_below [] hb) (by simp) (by simp)
theorem RTab.drew {w : World} {gr gl n : Nat} {st : Nat → Option (Int × ByteArray)} (h : RTab w gr gl n st) : RTab w.drew gr gl n st := ⟨h.box.drew, h.cells.drew, h.ne, h.le⟩

theorem info77 : (Try.prog.info? 77).map (fun i => (i.zero, i.size, i.bytes)) = some (some (.agg #[.bool false, .int .i64 0, .string ByteArray.empty]), 3, 32) := by kernel_rfl

theorem rnew_bad (n : Int) (w : World) (h : n < 0 ∨ 65536 < n) :
    Calls Try.prog 10 #[.int .i64 n] w fun r w' => r = .returned (.tuple #[.pointer none, .int .i64 1]) ∧ w = w' := by
  by_cases h1 : n < 0
  · go_enter Try.func10, Try.ntmps10
    go_wp2
    go_returns
    exact ⟨rfl, rfl⟩
  · have h2 : 65536 < n := by omega
    clear h
    go_enter Try.func10, Try.ntmps10
    go_wp2
    go_returns
    exact ⟨rfl, rfl⟩
theorem madeR (w : World) (n : Nat) : Mat (w.alloc (.cells (madeCells #[.bool false, .int .i64 0, .string ByteArray.empty] (n * 3)) 77)) w.heap.size 77 n 3 (fun _ j => rc none j) := by
  refine Mat.made w 77 #[.bool false, .int .i64 0, .string ByteArray.empty] n (by simp) (fun j => rc none j) (fun j hj => ?_)
  match j, hj with
  | 0, _ => rfl
  | 1, _ => rfl
  | 2, _ => rfl
def RNewPost (n : Nat) (w : World) (r : Ending) (w' : World) : Prop :=
  ∃ gr gl, r = .returned (.tuple #[.pointer (some ⟨gr, 0, none⟩), .int .i64 0]) ∧ RTab w' gr gl n (fun _ => none) ∧ w.heap.size ≤ gr ∧ w.heap.size ≤ gl ∧ Below w.heap.size w w'
set_option maxHeartbeats 1000000 in
theorem rnew_ok (n : Nat) (w : World) (h : n ≤ 65536) : Calls Try.prog 10 #[.int .i64 n] w (RNewPost n w) := by
  obtain ⟨i1, hi1, hz1, hs1, hb1⟩ := info_parts info77
  have hm1 := fun W => run_makeN (P := Try.prog) 40 77 Try.underlying40 hi1 hz1 hs1 hb1 n (by omega) (by omega) W
  go_enter Try.func10, Try.ntmps10
  go_wp2
  go_returns
  have M := (madeR w n).alloc (.cells #[.slice (some ⟨w.heap.size, 0, none⟩) n n] 42)
  have B := Blk.new (w.alloc (.cells (madeCells #[.bool false, .int .i64 0, .string ByteArray.empty] (n * 3)) 77)) 42 #[.slice (some ⟨w.heap.size, 0, none⟩) n n]
  simp only [World.size_alloc] at B
  exact ⟨_, _, rfl, ⟨B, M, by omega, h⟩, by omega, by omega, by go_grown⟩

def RPutPost (gr gl n : Nat) (st : Nat → Option (Int × ByteArray)) (i : Int) (v : Int × ByteArray) (w : World) (r : Ending) (w' : World) : Prop :=
  r = .returned (.int .i64 (putE st n i)) ∧ RTab w' gr gl n (putS st n i v) ∧ Foot [gl] w w'
section
variable {gr gl n : Nat} {st : Nat → Option (Int × ByteArray)} {v : Int × ByteArray} {w W : World}
theorem rput_bad {i : Int} (h : RTab W gr gl n st) (hf : Foot [gl] w W) (hi : i < 0 ∨ (n : Int) ≤ i) : RPutPost gr gl n st i v w (.returned (.int .i64 1)) W := by
  have e : putE st n i = 1 := if_pos hi
  refine ⟨by rw [e], ?_, hf⟩
  unfold putS
  rw [if_neg (by rw [e]; decide)]
  exact h
theorem rput_there {k : Nat} {u : Int × ByteArray} (h : RTab W gr gl n st) (hf : Foot [gl] w W) (hi : k < n) (hs : st k = some u) : RPutPost gr gl n st (k : Int) v w (.returned (.int .i64 3)) W := by
  have e : putE st n (k : Int) = 3 := by unfold putE; rw [if_neg (by omega)]; simp [hs]
  refine ⟨by rw [e], ?_, hf⟩
  unfold putS
  rw [if_neg (by rw [e]; decide)]
  exact h
theorem rput_fine {k : Nat} (h : RTab W gr gl n (put st k v)) (hf : Foot [gl] w W) (hi : k < n) (hs : st k = none) : RPutPost gr gl n st (k : Int) v w (.returned (.int .i64 0)) W := by
  have e : putE st n (k : Int) = 0 := by unfold putE; rw [if_neg (by omega)]; simp [hs]
  refine ⟨by rw [e], ?_, hf⟩
  unfold putS
  rw [if_pos e]
  exact h
theorem RTab.rput (h : RTab W gr gl n st) {k : Nat} (hk : k < n) :
    RTab (((W.setCell ⟨gl, k * 3, none⟩ (.bool true)).setCell ⟨gl, k * 3 + 1, none⟩ (.int .i64 v.1)).setCell ⟨gl, k * 3 + 2, none⟩ (.string v.2)) gr gl n (put st k v) := by
  refine ⟨((h.box.far (p := ⟨gl, k * 3, none⟩) h.ne _).far (p := ⟨gl, k * 3 + 1, none⟩) h.ne _).far (p := ⟨gl, k * 3 + 2, none⟩) h.ne _, ?_, h.ne, h.le⟩
  have := ((h.cells.set_ (i := k) (j := 0) hk (by decide) (.bool true)).set_ (i := k) (j := 1) hk (by decide) (.int .i64 v.1)).set_ (i := k) (j := 2) hk (by decide) (.string v.2)
  rw [Nat.add_zero] at this
  refine this.congr fun i hi j hj => ?_
  unfold upd put
  by_cases e : i = k
  · subst e
    match j, hj with
    | 0, _ => simp [rc]
    | 1, _ => simp [rc]
    | 2, _ => simp [rc]
  · simp [e]
theorem RTab.c (h : RTab w gr gl n st) {k : Nat} (hk : k < n) : w.cell? ⟨gl, k * 3, none⟩ = some (.bool (st k).isSome) ∧ w.cell? ⟨gl, k * 3 + 1, none⟩ = some (.int .i64 ((st k).getD (0, ByteArray.empty)).1) ∧ w.cell? ⟨gl, k * 3 + 2, none⟩ = some (.string ((st k).getD (0, ByteArray.empty)).2) :=
  ⟨h.cells.cell (i := k) (j := 0) hk (by decide), h.cells.cell (i := k) (j := 1) hk (by decide), h.cells.cell (i := k) (j := 2) hk (by decide)⟩
end

theorem rput_any (gr gl n : Nat) (st : Nat → Option (Int × ByteArray)) (i : Int) (v : Int × ByteArray) (w : World) (h : RTab w gr gl n st) :
    Calls Try.prog 12 #[.pointer (some ⟨gr, 0, none⟩), .int .i64 i, .agg #[.int .i64 v.1, .string v.2]] w (RPutPost gr gl n st i v w) := by
  have hn := h.le
  have b0 := hide (h.box.cell 0)
  have q0 := h.box.lt
  have q1 := h.cells.lt
  have F0 : ∀ o, Foot [gl] w (w.alloc o) := fun o => (Foot.refl _ _).alloc o
  have T0 : ∀ o, RTab (w.alloc o) gr gl n st := fun o => h.below ((Below.refl _ _).alloc (Nat.le_refl _) o)
  by_cases h1 : i < 0
  · go_enter Try.func12, Try.ntmps12
    go_wp2_with fail
    go_returns
    exact rput_bad (T0 _) (F0 _) (by omega)
  by_cases h2 : (n : Int) ≤ i
  · go_enter Try.func12, Try.ntmps12
    have c0 := b0.out
    go_wp2_with fail
    go_returns
    exact rput_bad (T0 _) (F0 _) (by omega)
  obtain ⟨k, rfl⟩ : ∃ k : Nat, i = (k : Int) := ⟨i.toNat, by omega⟩
  have hk : k < n := by omega
  obtain ⟨m0, m1, m2⟩ := h.c hk
  cases hs : st k with
  | some u =>
    have HS := hide hs
    rw [hs] at m0 m1 m2
    clear hs
    have H0 := hide F0
    have H1 := hide T0
    clear F0 T0
    simp only [Option.isSome_some] at m0
    go_enter Try.func12, Try.ntmps12
    have c0 := b0.out
    go_wp2_with fail
    go_returns
    exact rput_there (H1.out _) (H0.out _) hk HS.out
  | none =>
    have HS := hide hs
    rw [hs] at m0 m1 m2
    clear hs
    have f0 := h.cells.frozen (k * 3)
    have f1 := h.cells.frozen (k * 3 + 1)
    have f2 := h.cells.frozen (k * 3 + 2)
    have H0 := hide F0
    have H1 := hide T0
    clear F0 T0
    simp only [Option.isSome_none] at m0
    go_enter Try.func12, Try.ntmps12
    have c0 := b0.out
    go_wp2_with fail
    obtain ⟨W, hW⟩ : ∃ W, w.alloc (Obj.cells #[Value.int IntKind.i64 v.fst, Value.string v.snd] 30) = W := ⟨_, rfl⟩
    have F1 : Hid (Foot [gl] w W) := hide (hW ▸ H0.out _)
    have T1 : Hid (RTab W gr gl n st) := hide (hW ▸ H1.out _)
    have G1 : Hid (Blk W w.heap.size 30 #[.int .i64 v.1, .string v.2]) := hide (hW ▸ Blk.new w 30 _)
    rw [hW]
    clear hW m0 m1 m2 f0 f1 f2 c0
    have c1 := keepd (T1.out.box.cell 0)
    have c2 := keepd (G1.out.cell 0)
    have c3 := keepd (G1.out.cell 1)
    refine Reg.region (by kernel_rfl) 8 [] (fun _ w' => w' = W.drew) (by kernel_rfl) (by kernel_rfl) rfl ?_
    iterate 8
      refine Reg.WT.yield (v := ?_) rfl rfl ?_ ?_
      rotate_left
      · intro w' _ hS; go_simp; (try go_bits); (first | rfl | rw [if_pos (by omega)])
      simp only [Act.put, List.setIfInBounds_toArray, List.set_cons_zero, List.set_cons_succ]
    intro w2 hS
    subst hS
    clear c1 c2 c3
    have D := hide (T1.out.c hk)
    rw [HS.out] at D
    simp only [Option.isSome_none, Option.getD_none] at D
    have e0 := D.out.1
    have e1 := D.out.2.1
    have e2 := D.out.2.2
    have f0 := T1.out.cells.frozen (k * 3)
    have f1 := T1.out.cells.frozen (k * 3 + 1)
    have f2 := T1.out.cells.frozen (k * 3 + 2)
    have R := hide (T1.out.rput (v := v) hk)
    have F2 := hide (((F1.out.setCell (p := ⟨gl, k * 3, none⟩) (.inl (by simp)) (.bool true)).setCell (p := ⟨gl, k * 3 + 1, none⟩) (.inl (by simp)) (.int .i64 v.1)).setCell (p := ⟨gl, k * 3 + 2, none⟩) (.inl (by simp)) (.string v.2))
    go_wp2_with fail
    go_returns
    exact rput_fine R.out.drew F2.out.drew hk HS.out

theorem rget_any (gr gl n : Nat) (st : Nat → Option (Int × ByteArray)) (i : Int) (w : World) (h : RTab w gr gl n st) :
    Calls Try.prog 14 #[.pointer (some ⟨gr, 0, none⟩), .int .i64 i] w (GetPost pairV (0, ByteArray.empty) n st i w) := by
  have hn := h.le
  have b0 := hide (h.box.cell 0)
  have q0 := h.box.lt
  have q1 := h.cells.lt
  by_cases h1 : i < 0
  · go_enter Try.func14, Try.ntmps14
    go_wp2_with fail
    go_returns
    exact get_bad (by go_grown) (by omega)
  by_cases h2 : (n : Int) ≤ i
  · go_enter Try.func14, Try.ntmps14
    have c0 := b0.out
    go_wp2_with fail
    go_returns
    exact get_bad (by go_grown) (by omega)
  obtain ⟨k, rfl⟩ : ∃ k : Nat, i = (k : Int) := ⟨i.toNat, by omega⟩
  have hk : k < n := by omega
  obtain ⟨m0, m1, m2⟩ := h.c hk
  cases hs : st k with
  | some u =>
    have HS := hide hs
    rw [hs] at m0 m1 m2
    clear hs
    simp only [Option.isSome_some, Option.getD_some] at m0 m1 m2
    go_enter Try.func14, Try.ntmps14
    have c0 := b0.out
    go_wp2_with fail
    go_returns
    exact get_some (by go_grown) hk HS.out
  | none =>
    have HS := hide hs
    rw [hs] at m0 m1 m2
    clear hs
    simp only [Option.isSome_none, Option.getD_none] at m0 m1 m2
    go_enter Try.func14, Try.ntmps14
    have c0 := b0.out
    go_wp2_with fail
    go_returns
    exact get_none (by go_grown) hk HS.out

theorem rleft_any (gr gl n : Nat) (st : Nat → Option (Int × ByteArray)) (w : World) (h : RTab w gr gl n st) :
    Calls Try.prog 16 #[.pointer (some ⟨gr, 0, none⟩)] w fun r w' => r = .returned (.int .i64 (left st n)) ∧ Below w.heap.size w w' := by
  have hn := h.le
  have c0 := h.box.cell 0
  go_enter Try.func16, Try.ntmps16
  go_wp2
  go_loop [3, 4] (fun c i => ∃ k : Nat, k ≤ n ∧ i = .int .i64 k ∧ c = .int .i64 (left st k)) (fun _ i => n - (intOf i).toNat)
  case atStart => exact ⟨0, Nat.zero_le _, rfl, rfl⟩
  case round =>
    obtain ⟨k, hk, rfl, rfl⟩ := hrel
    have hlk := left_le st k
    by_cases hlt : k < n
    · obtain ⟨m0, _, _⟩ := h.c hlt
      have HE : Hid (left st (k + 1) = left st k + if (st k).isSome then 0 else 1) := hide rfl
      cases hs : st k with
      | some u =>
        rw [hs] at m0 HE
        clear hs
        simp only [Option.isSome_some] at m0
        go_wp2_with fail
        go_round
        case rel => exact ⟨k + 1, hlt, by go_num, by rw [HE.out]; rfl⟩
        case measure => simp [intOf]; omega
      | none =>
        rw [hs] at m0 HE
        clear hs
        simp only [Option.isSome_none] at m0
        go_wp2_with fail
        go_round
        case rel => exact ⟨k + 1, hlt, by go_num, by rw [HE.out]; rfl⟩
        case measure => simp [intOf]; omega
    · obtain rfl : k = n := by omega
      go_wp2_with fail
      go_returns
      exact ⟨rfl, by go_grown⟩

theorem vals_succ {V : Type} (z : V) (st : Nat → Option V) (k : Nat) : vals z st (k + 1) = vals z st k ++ [(st k).getD z] := by
  unfold vals; rw [List.range_succ, List.map_append]; rfl
theorem flat_succ {V : Type} (f : V → List Value) (l : List V) (x : V) : ((l ++ [x]).map f).flatten = (l.map f).flatten ++ f x := by simp
theorem left_zero' {V : Type} (st : Nat → Option V) : ∀ n, (∀ i, i < n → (st i).isSome = true) → left st n = 0
  | 0, _ => rfl
  | n + 1, h => by unfold left; rw [left_zero' st n (fun i hi => h i (by omega)), h n (by omega)]; rfl
def RAllPost (n : Nat) (st : Nat → Option (Int × ByteArray)) (w : World) (r : Ending) (w' : World) : Prop :=
  (0 < left st n → r = .returned (.tuple #[.slice none 0 0, .int .i64 4]) ∧ Below w.heap.size w w') ∧ (left st n = 0 → AllPost 30 2 pc (vals (0, ByteArray.empty) st n) w r w')
theorem rall_any (gr gl n : Nat) (st : Nat → Option (Int × ByteArray)) (w : World) (h : RTab w gr gl n st) :
    Calls Try.prog 19 #[.pointer (some ⟨gr, 0, none⟩)] w (RAllPost n st w) := by
  have hn := h.le
  obtain ⟨i0, hi, hz0, hz1, hz2⟩ := info_parts info30
  have b0 := hide (h.box.cell 0)
  go_enter Try.func19, Try.ntmps19
  have c0 := b0.out
  go_wp2
  clear c0
  go_loopw [4, 5] (fun v i wr => ∃ k : Nat, k ≤ n ∧ i = .int .i64 k ∧ (∀ i, i < k → (st i).isSome = true) ∧ wr.ownsRow w.heap.size 30 2 v k ((vals (0, ByteArray.empty) st k).map pc).flatten ∧ Below w.heap.size w wr)
    (fun _ i _ => n - (intOf i).toNat)
  case atStart => exact ⟨0, Nat.zero_le _, rfl, fun i hi => absurd hi (by omega), World.ownsRow_nil _ _ _ _, Below.refl _ _⟩
  case round =>
    obtain ⟨k, hk, rfl, hs, hown, hbel⟩ := hrel
    have HO := hide hown
    have HS := hide hs
    clear hown hs
    have R := hide (h.below hbel)
    have c0 := R.out.box.cell 0
    have sz := hbel.size
    by_cases hlt : k < n
    · obtain ⟨m0, m1, m2⟩ := R.out.c hlt
      cases hs : st k with
      | none =>
        have HK := hide hs
        rw [hs] at m0
        clear hs
        simp only [Option.isSome_none] at m0
        go_wp2_with fail
        go_returns
        have hp := left_pos st n k hlt HK.out
        exact ⟨fun _ => ⟨rfl, hbel⟩, fun h0 => by omega⟩
      | some u =>
        have HK := hide hs
        rw [hs] at m0 m1 m2
        clear hs
        simp only [Option.isSome_some, Option.getD_some] at m0 m1 m2
        have HV := hide (vals_succ (0, ByteArray.empty) st k)
        have HF := hide (flat_succ pc (vals (0, ByteArray.empty) st k) u)
        have HN := hide (show (st k).getD (0, ByteArray.empty) = u by rw [HK.out]; rfl)
        go_wp2_with (at_builtin; refine wpList_append_own _ rfl _ _ 43 rfl w.heap.size 30 i0 (.agg #[.int .i64 0, .string ByteArray.empty]) 2 24 Try.underlying43 hi hz0 hz1 hz2 rfl (by decide) _ _ _ rfl (HO.out.alloc _) ⟨wr.heap.size, 0, none⟩ 1 1 [.int .i64 u.1, .string u.2] rfl rfl ?c1 ?c2 ?c3 ?c4 ?c5 ?_)
        case c1 => exact (Blk.new wr 30 #[.int .i64 u.1, .string u.2]).news
        case c2 => intro z hz; simp at hz; rcases hz with rfl | rfl <;> rfl
        case c3 => unfold maxLen; omega
        case c4 => omega
        case c5 => simp; omega
        intro v' w1 hown' hgrow _
        have t1 : Hid (Below w.heap.size w w1) := hide (below_grown (a := w) (by go_grown) hgrow (own_ge HO.out))
        have H1 : Hid (w1.ownsRow w.heap.size 30 2 v' (k + 1) ((vals (0, ByteArray.empty) st (k + 1)).map pc).flatten) := hide (by
          rw [HV.out, HN.out, HF.out]; exact hown')
        clear hown' hgrow m0 m1 m2 c0
        go_wp2
        go_roundw
        case rel => exact ⟨k + 1, hlt, by go_num, fun i hi => by
          by_cases e : i = k
          · rw [e, HK.out]; rfl
          · exact HS.out i (by omega), H1.out, t1.out⟩
        case measure => simp [intOf]; omega
    · obtain rfl : k = n := by omega
      have hvl := hide (vals_len (0, ByteArray.empty) st k)
      go_wp2_with fail
      go_returns
      refine ⟨fun hp => ?_, fun _ => ⟨_, rfl, by rw [hvl.out]; exact HO.out, hbel⟩⟩
      have := left_zero' st k HS.out
      omega
end Go.Proofs.Ytoannafiemnijaa
