/- Walks: the reader's small functions. -/
import Derived.Test.YtmngndmcidbakaaYP
import Derived.WalkLawsBesides
namespace Go.Proofs.Ytmngndmcidbakaa
open Go.RowKit
/-- What a reader panics with. -/
def CH : List PanicEntry := [{ v := .iface 88 (.agg #[]), recovered := false }]
theorem must_true (rb : Nat) (w : World) : Calls Try.prog 29 #[.pointer (some ⟨rb, 0, none⟩), .bool true] w fun r w' => r = .returned (.tuple #[]) ∧ Below w.heap.size w w' := by
  go_enter Try.func29, Try.ntmps29
  go_wp2_with fail
  go_end0
  exact ⟨rfl, Below.refl _ _⟩
theorem must_false (rb : Nat) (w : World) : Calls Try.prog 29 #[.pointer (some ⟨rb, 0, none⟩), .bool false] w fun r w' => r = .panicked CH ∧ Below w.heap.size w w' := by
  go_enter Try.func29, Try.ntmps29
  go_wp2_with fail
  exact ⟨rfl, rfl, Below.refl _ _⟩
/-- A reader: the bytes b from before W0 on; 'rest' is still to be read. -/
structure Rd (W0 W : World) (rb : Nat) (ra : Option Addr) (rc : Nat) (b rest : List Int) : Prop where
  row : BRow W0 ra b
  bel : Below W0.heap.size W0 W
  blk : Blk W rb 64 #[.slice ra b.length rc, .int .i64 ((b.length - rest.length : Nat) : Int)]
  ge : W0.heap.size ≤ rb
  suf : ∃ pre, b = pre ++ rest
  bts : Bts b
  len : b.length ≤ 10000000
  cap : b.length ≤ rc
  cap2 : rc ≤ maxLen
theorem Rd.drop {W0 W : World} {rb rc : Nat} {ra : Option Addr} {b rest : List Int} (h : Rd W0 W rb ra rc b rest) : b.drop (b.length - rest.length) = rest := by
  obtain ⟨pre, e⟩ := h.suf
  have : b.length - rest.length = pre.length := by rw [e]; simp
  rw [this, e]; simp
theorem Rd.below {W0 W W' : World} {rb rc : Nat} {ra : Option Addr} {b rest : List Int} (h : Rd W0 W rb ra rc b rest) (hb : Below W.heap.size W W') : Rd W0 W' rb ra rc b rest :=
  ⟨h.row, below_call h.bel hb, h.blk.below hb h.blk.lt, h.ge, h.suf, h.bts, h.len, h.cap, h.cap2⟩
theorem Rd.foot {W0 W W' : World} {fs : List Nat} {rb rc : Nat} {ra : Option Addr} {b rest : List Int} (h : Rd W0 W rb ra rc b rest) (hf : Foot fs W W') (hs : ∀ x ∈ fs, W0.heap.size ≤ x) (hn : rb ∉ fs) : Rd W0 W' rb ra rc b rest :=
  ⟨h.row, below_foot h.bel hf hs, h.blk.foot hf hn, h.ge, h.suf, h.bts, h.len, h.cap, h.cap2⟩
/-- The reader moved on. -/
theorem Rd.move {W0 W : World} {rb rc : Nat} {ra : Option Addr} {b rest r : List Int} (h : Rd W0 W rb ra rc b rest) (hr : ∃ p, rest = p ++ r) : Rd W0 (W.setCell ⟨rb, 1, none⟩ (.int .i64 ((b.length - r.length : Nat) : Int))) rb ra rc b r := by
  refine ⟨h.row, h.bel.setCell (p := ⟨rb, 1, none⟩) h.ge _, ?_, h.ge, ?_, h.bts, h.len, h.cap, h.cap2⟩
  · have := h.blk.set_ 1 (.int .i64 ((b.length - r.length : Nat) : Int))
    simpa using this
  · obtain ⟨pre, e⟩ := h.suf
    obtain ⟨p, e2⟩ := hr
    exact ⟨pre ++ p, by rw [e, e2, List.append_assoc]⟩
/-- What a reader's function does, as the plain function says. -/
def RP {α : Type} (W0 : World) (rb : Nat) (ra : Option Addr) (rc : Nat) (b : List Int) (w : World) (o : Option (α × List Int)) (val : α → Value) (r : Ending) (w' : World) : Prop :=
  match o with
  | some (x, rest) => r = .returned (val x) ∧ Rd W0 w' rb ra rc b rest ∧ Foot [rb] w w'
  | none => r = .panicked CH ∧ Below W0.heap.size W0 w'
theorem rdN_suf {l r : List Int} {n : Int} (h : rdN l = some (n, r)) : ∃ p, l = p ++ r := by
  obtain ⟨_, q, hq⟩ := rdN_len h
  exact ⟨l.take q, by rw [← hq, List.take_append_drop]⟩
theorem take_val {W0 W W' : World} {ra : Option Addr} {rc : Nat} {b : List Int} {p : Nat} {n m e : Int} (hB : Hid (BRow W ra b)) (hbt : Hid (Bts b)) (hw : Below W.heap.size W W') (hc : b.length ≤ rc) (hc2 : rc ≤ maxLen) (hl : b.length ≤ 10000000) (hp : p ≤ b.length) (ht : Hid (tk b p = (n, m, e))) :
    Calls Try.prog 10 #[.slice ra b.length rc, .int .i64 p] W' fun r w' => r = .returned (.tuple #[.int .i64 n, .int .i64 m, .int .i64 e]) ∧ Below W'.heap.size W' w' := by
  refine (take_any ra b rc p W' (hB.out.below hw) hbt.out hc hc2 hl (by omega)).mono ?_
  rintro r w' ⟨rfl, hb⟩
  rw [ht.out]
  exact ⟨rfl, hb⟩
theorem number_ok {W0 W : World} {rb rc : Nat} {ra : Option Addr} {b rest : List Int} (h : Rd W0 W rb ra rc b rest) : Calls Try.prog 25 #[.pointer (some ⟨rb, 0, none⟩)] W (RP W0 rb ra rc b W (rdN rest) (Value.int .i64)) := by
  obtain ⟨pre, hpre⟩ := h.suf
  have hpl : b.length - rest.length ≤ b.length := Nat.sub_le _ _
  have htk := tk_rdN hpl
  rw [h.drop] at htk
  have x0 := h.blk.cell 0
  have x1 := h.blk.cell 1
  have f1 := h.blk.frozen 1
  have hlt := h.blk.lt
  have hlen := h.len
  have hcap := h.cap
  have hcap2 := h.cap2
  have HB := hide (h.row.below h.bel)
  have HBT := hide h.bts
  have HR := hide h
  simp only [List.getElem?_toArray, List.getElem?_cons_zero, List.getElem?_cons_succ] at x0 x1
  clear h hpre
  generalize b.length - rest.length = p at htk x1 hpl
  have C0 := keepc (p := ⟨rb, 0, none⟩) hlt x0
  have C1 := keepc (p := ⟨rb, 1, none⟩) hlt x1
  cases e : rdN rest with
  | none =>
    rw [e] at htk
    have HTK : Hid (tk b p = (0, 0, 5)) := hide htk
    have HRP : ∀ w', Below W.heap.size W w' → RP W0 rb ra rc b W (none : Option (Int × List Int)) (Value.int .i64) (.panicked CH) w' := fun w' hb => ⟨rfl, below_call HR.out.bel hb⟩
    have HRP := hide HRP
    clear htk e
    go_enter Try.func25, Try.ntmps25
    go_wp2_with fail
    refine Reg.region (by kernel_rfl) 16 [8] (fun _ w' => Below W.heap.size W w') (by kernel_rfl) (by kernel_rfl) (Below.refl _ _).drew ?_
    iterate 8
      refine Reg.WT.yield (v := ?_) rfl rfl ?_ ?_
      rotate_left
      · intro w' _ hS; go_simp; (try go_bits); (first | rfl | rw [if_pos (by omega)])
      simp only [Act.put, List.setIfInBounds_toArray, List.set_cons_zero, List.set_cons_succ]
    refine Reg.WT.call (v := ?_) (f := ?_) (args := ?_) rfl rfl ?_ ?_ ?_
    rotate_left 3
    · intro w2; go_simp; exact ⟨by rfl, by rfl⟩
    · intro w2 hS; refine (take_val (W0 := W0) HB HBT hS hcap hcap2 hlen hpl HTK).mono ?_; rintro e w3 ⟨rfl, hb⟩; exact ⟨by rfl, hS.trans (hb.mono hS.size)⟩
    simp only [Act.put, List.setIfInBounds_toArray, List.set_cons_zero, List.set_cons_succ]
    iterate 7
      refine Reg.WT.yield (v := ?_) rfl rfl ?_ ?_
      rotate_left
      · intro w' _ hS; go_simp; (try go_bits); (first | rfl | rw [if_pos (by omega)])
      simp only [Act.put, List.setIfInBounds_toArray, List.set_cons_zero, List.set_cons_succ]
    intro w2 hS
    have t2 := hide hS
    clear hS x0 x1 f1 C0 C1
    go_wp2_with fail
    refine (must_false rb w2).mono ?_
    rintro r w3 ⟨rfl, k3⟩
    have t3 := hide (below_call t2.out k3)
    clear k3
    go_wp2_with fail
    exact ⟨rfl, HRP.out w3 t3.out⟩
  | some q =>
    obtain ⟨n, r⟩ := q
    rw [e] at htk
    dsimp only at htk
    have HTK : Hid (tk b p = (n, ((b.length - r.length : Nat) : Int), 0)) := hide htk
    have HSUF := hide (rdN_suf e)
    obtain ⟨m, hm⟩ : ∃ m, m = b.length - r.length := ⟨_, rfl⟩
    rw [← hm] at HTK
    have HM := hide hm
    clear htk e hm
    go_enter Try.func25, Try.ntmps25
    go_wp2_with fail
    refine Reg.region (by kernel_rfl) 16 [8] (fun _ w' => Below W.heap.size W w') (by kernel_rfl) (by kernel_rfl) (Below.refl _ _).drew ?_
    iterate 8
      refine Reg.WT.yield (v := ?_) rfl rfl ?_ ?_
      rotate_left
      · intro w' _ hS; go_simp; (try go_bits); (first | rfl | rw [if_pos (by omega)])
      simp only [Act.put, List.setIfInBounds_toArray, List.set_cons_zero, List.set_cons_succ]
    refine Reg.WT.call (v := ?_) (f := ?_) (args := ?_) rfl rfl ?_ ?_ ?_
    rotate_left 3
    · intro w2; go_simp; exact ⟨by rfl, by rfl⟩
    · intro w2 hS; refine (take_val (W0 := W0) HB HBT hS hcap hcap2 hlen hpl HTK).mono ?_; rintro e w3 ⟨rfl, hb⟩; exact ⟨by rfl, hS.trans (hb.mono hS.size)⟩
    simp only [Act.put, List.setIfInBounds_toArray, List.set_cons_zero, List.set_cons_succ]
    iterate 7
      refine Reg.WT.yield (v := ?_) rfl rfl ?_ ?_
      rotate_left
      · intro w' _ hS; go_simp; (try go_bits); (first | rfl | rw [if_pos (by omega)])
      simp only [Act.put, List.setIfInBounds_toArray, List.set_cons_zero, List.set_cons_succ]
    intro w2 hS
    have t2 := hide hS
    clear hS x0 x1 f1 C0 C1
    go_wp2_with fail
    refine (must_true rb w2).mono ?_
    rintro r' w3 ⟨rfl, k3⟩
    have t3 := hide (below_call t2.out k3)
    clear k3
    have R3 := hide (HR.out.below t3.out)
    have x1 := R3.out.blk.cell 1
    have f1 := R3.out.blk.frozen 1
    simp only [List.getElem?_toArray, List.getElem?_cons_zero, List.getElem?_cons_succ] at x1
    go_wp2_with fail
    go_returns
    refine ⟨rfl, ?_, ?_⟩
    · rw [HM.out]; exact R3.out.move HSUF.out
    · exact (Foot.of_below _ t3.out).setCell (.inl (by simp)) _
end Go.Proofs.Ytmngndmcidbakaa
