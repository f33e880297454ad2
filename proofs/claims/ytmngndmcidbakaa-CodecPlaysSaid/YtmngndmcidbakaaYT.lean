/- Walks: a field taken from bytes: flag, small, great, order. -/
import Derived.Test.YtmngndmcidbakaaYS
namespace Go.Proofs.Ytmngndmcidbakaa
open Go.RowKit
/-- What a field's take does, as the plain function says. -/
def TK (W0 : World) (rb : Nat) (ra : Option Addr) (rc : Nat) (b : List Int) (sb : Nat) (W : World) (o : Option (Array Value × List Int)) (r : Ending) (w' : World) : Prop :=
  match o with
  | some (cs, q) => r = .returned (.tuple #[]) ∧ Rd W0 w' rb ra rc b q ∧ Blk w' sb 49 cs ∧ Foot [rb, sb] W w'
  | none => r = .panicked CH ∧ Below W0.heap.size W0 w'
theorem keeps_rb {W0 W W' : World} {rb rc : Nat} {ra : Option Addr} {b rest : List Int} (h : Rd W0 W rb ra rc b rest) (hf : Foot [rb] W W') : Keeps W W' := Keeps.of_foot hf (fun k hk => by obtain rfl := List.mem_singleton.1 hk; exact ⟨_, _, h.blk, by decide⟩)
theorem at_cell {W : World} {sb off : Nat} {t : TypeId} {cs : Array Value} {x : Value} (h : Blk W sb t cs) (hx : cs[off]? = some x) : W.cell? ⟨sb, off, none⟩ = some x := (h.cell off).trans hx
theorem flag_take {W0 W : World} {rb rc sb B g off : Nat} {ra : Option Addr} {b rest : List Int} {cs : Array Value} {x : Bool} (h : Rd W0 W rb ra rc b rest) (hs : Blk W sb 49 cs) (hb : W0.heap.size ≤ sb) (hne : sb ≠ rb) (hof : OfV W B g off) (hx : cs[off]? = some (.bool x)) :
    Calls Try.prog 66 #[.pointer (some ⟨rb, 0, none⟩), .pointer (some ⟨sb, 0, none⟩), .pointer (some ⟨g, 0, none⟩)] W (TK W0 rb ra rc b sb W (some (cs.setIfInBounds off (.bool true), rest))) := by
  have HR := hide h
  have HS := hide hs
  have HOF := hide hof
  have HNE := hide hne
  have F1 := hide (Foot.refl [rb, sb] W)
  clear h hs hof hne
  obtain ⟨K, caps, hg, he, hc⟩ := (OfV.at_ HOF.out sb 0).ex
  have HC := hide hc
  clear hc
  go_enter Try.func66, Try.ntmps66
  go_wp2_with fail
  refine HC.out.mono ?_
  rintro r' w4 ⟨rfl, q, rfl⟩
  have R4 := hide (HR.out.below (below_drewN (Below.refl _ _) q))
  have F4 := hide ((F1.out.trans (Foot.of_below _ (below_drewN (Below.refl _ _) q))))
  have B4 := hide (HS.out.drewN q)
  clear hg HC
  have x1 := at_cell B4.out hx
  have f1 := B4.out.frozen off
  have z0 : 0 + off = off := Nat.zero_add _
  rw [z0]
  go_wp2_with fail
  go_end0
  exact ⟨rfl, R4.out.foot ((Foot.refl [sb] _).setCell (.inl (by simp)) _) (by simpa using hb) (by simpa using Ne.symm HNE.out), B4.out.set_ off _, F4.out.setCell (.inl (by simp)) _⟩
theorem small_take {W0 W : World} {rb rc sb B g off : Nat} {ra : Option Addr} {b rest : List Int} {cs : Array Value} {x : Int} (h : Rd W0 W rb ra rc b rest) (hs : Blk W sb 49 cs) (hb : W0.heap.size ≤ sb) (hne : sb ≠ rb) (hof : OfV W B g off) (hx : cs[off]? = some (.int .u8 x)) :
    Calls Try.prog 69 #[.pointer (some ⟨rb, 0, none⟩), .pointer (some ⟨sb, 0, none⟩), .pointer (some ⟨g, 0, none⟩)] W (TK W0 rb ra rc b sb W ((decF 1 rest).map fun p => (cs.setIfInBounds off (.int .u8 (p.1.getD 0 0)), p.2))) := by
  have hc := small_ok h
  have HR := hide h
  have HS := hide hs
  have HOF := hide hof
  have HNE := hide hne
  clear h hs hof hne
  cases e : rdSm rest with
  | none =>
    have HE : Hid (decF 1 rest = none) := hide (by unfold decF; simp only [e])
    rw [e] at hc
    rw [HE.out]
    have HC := hide hc
    clear hc e
    go_enter Try.func69, Try.ntmps69
    go_wp2_with fail
    refine HC.out.mono ?_
    rintro r' w2 ⟨rfl, k2⟩
    have K2 := hide k2
    clear k2 HC
    go_wp2_with fail
    exact ⟨rfl, rfl, K2.out⟩
  | some p =>
    obtain ⟨n, r⟩ := p
    rw [e] at hc
    have HC := hide hc
    clear hc
    by_cases h0 : n = 0
    · have HE : Hid (decF 1 rest = none) := hide (by unfold decF; simp only [e]; exact if_pos h0)
      rw [HE.out]
      have d0 : (n != 0) = false := by simp [h0]
      clear e
      go_enter Try.func69, Try.ntmps69
      go_wp2_with fail
      refine HC.out.mono ?_
      rintro r' w2 ⟨rfl, R2, F2⟩
      have K2 := keeps_rb HR.out F2
      have O2 := hide (HOF.out.keeps K2)
      have B2 := hide (HS.out.foot F2 (by simpa using HNE.out))
      have R2 := hide R2
      have F2 := hide F2
      clear HC K2
      go_wp2_with fail
      refine (must_false rb _).mono ?_
      rintro r' w3 ⟨rfl, k3⟩
      have R3 := hide (R2.out.below k3)
      clear k3
      go_wp2_with fail
      exact ⟨rfl, rfl, R3.out.bel⟩
    · have HE : Hid (decF 1 rest = some ([n], r)) := hide (by unfold decF; simp only [e]; exact if_neg h0)
      rw [HE.out]
      have d0 : (n != 0) = true := by simp [h0]
      clear e
      go_enter Try.func69, Try.ntmps69
      go_wp2_with fail
      refine HC.out.mono ?_
      rintro r' w2 ⟨rfl, R2, F2⟩
      have K2 := keeps_rb HR.out F2
      have O2 := hide (HOF.out.keeps K2)
      have B2 := hide (HS.out.foot F2 (by simpa using HNE.out))
      have R2 := hide R2
      have F2 := hide F2
      clear HC K2
      go_wp2_with fail
      refine (must_true rb _).mono ?_
      rintro r' w3 ⟨rfl, k3⟩
      have R3 := hide (R2.out.below k3)
      have F3 := hide (((F2.out.mono (gs := [rb, sb]) (by simp)).trans (Foot.of_below _ k3)))
      have B3 := hide (B2.out.below k3 B2.out.lt)
      have O3 := hide (O2.out.keeps (Keeps.of_below k3))
      clear k3
      obtain ⟨K, caps, hg, he, hc⟩ := (OfV.at_ O3.out sb 0).ex
      have HC := hide hc
      clear hc
      go_wp2_with fail
      refine HC.out.mono ?_
      rintro r' w4 ⟨rfl, q, rfl⟩
      have R4 := hide (R3.out.below (below_drewN (Below.refl _ _) q))
      have F4 := hide ((F3.out.trans (Foot.of_below _ (below_drewN (Below.refl _ _) q))))
      have B4 := hide (B3.out.drewN q)
      clear hg HC
      have x1 := at_cell B4.out hx
      have f1 := B4.out.frozen off
      have z0 : 0 + off = off := Nat.zero_add _
      rw [z0]
      go_wp2_with fail
      go_end0
      exact ⟨rfl, R4.out.foot ((Foot.refl [sb] _).setCell (.inl (by simp)) _) (by simpa using hb) (by simpa using Ne.symm HNE.out), B4.out.set_ off _, F4.out.setCell (.inl (by simp)) _⟩
theorem great_take {W0 W : World} {rb rc sb B g off : Nat} {ra : Option Addr} {b rest : List Int} {cs : Array Value} {x : Int} (h : Rd W0 W rb ra rc b rest) (hs : Blk W sb 49 cs) (hb : W0.heap.size ≤ sb) (hne : sb ≠ rb) (hof : OfV W B g off) (hx : cs[off]? = some (.int .i64 x)) :
    Calls Try.prog 73 #[.pointer (some ⟨rb, 0, none⟩), .pointer (some ⟨sb, 0, none⟩), .pointer (some ⟨g, 0, none⟩)] W (TK W0 rb ra rc b sb W ((decF 2 rest).map fun p => (cs.setIfInBounds off (.int .i64 (p.1.getD 0 0)), p.2))) := by
  have hc := number_ok h
  have HR := hide h
  have HS := hide hs
  have HOF := hide hof
  have HNE := hide hne
  clear h hs hof hne
  cases e : rdN rest with
  | none =>
    have HE : Hid (decF 2 rest = none) := hide (by unfold decF; simp only [e])
    rw [e] at hc
    rw [HE.out]
    have HC := hide hc
    clear hc e
    go_enter Try.func73, Try.ntmps73
    go_wp2_with fail
    refine HC.out.mono ?_
    rintro r' w2 ⟨rfl, k2⟩
    have K2 := hide k2
    clear k2 HC
    go_wp2_with fail
    exact ⟨rfl, rfl, K2.out⟩
  | some p =>
    obtain ⟨n, r⟩ := p
    rw [e] at hc
    have HC := hide hc
    clear hc
    by_cases h0 : n = 0
    · have HE : Hid (decF 2 rest = none) := hide (by unfold decF; simp only [e]; exact if_pos h0)
      rw [HE.out]
      have d0 : (n != 0) = false := by simp [h0]
      clear e
      go_enter Try.func73, Try.ntmps73
      go_wp2_with fail
      refine HC.out.mono ?_
      rintro r' w2 ⟨rfl, R2, F2⟩
      have K2 := keeps_rb HR.out F2
      have O2 := hide (HOF.out.keeps K2)
      have B2 := hide (HS.out.foot F2 (by simpa using HNE.out))
      have R2 := hide R2
      have F2 := hide F2
      clear HC K2
      go_wp2_with fail
      refine (must_false rb _).mono ?_
      rintro r' w3 ⟨rfl, k3⟩
      have R3 := hide (R2.out.below k3)
      clear k3
      go_wp2_with fail
      exact ⟨rfl, rfl, R3.out.bel⟩
    · have HE : Hid (decF 2 rest = some ([n], r)) := hide (by unfold decF; simp only [e]; exact if_neg h0)
      rw [HE.out]
      have d0 : (n != 0) = true := by simp [h0]
      clear e
      go_enter Try.func73, Try.ntmps73
      go_wp2_with fail
      refine HC.out.mono ?_
      rintro r' w2 ⟨rfl, R2, F2⟩
      have K2 := keeps_rb HR.out F2
      have O2 := hide (HOF.out.keeps K2)
      have B2 := hide (HS.out.foot F2 (by simpa using HNE.out))
      have R2 := hide R2
      have F2 := hide F2
      clear HC K2
      go_wp2_with fail
      refine (must_true rb _).mono ?_
      rintro r' w3 ⟨rfl, k3⟩
      have R3 := hide (R2.out.below k3)
      have F3 := hide (((F2.out.mono (gs := [rb, sb]) (by simp)).trans (Foot.of_below _ k3)))
      have B3 := hide (B2.out.below k3 B2.out.lt)
      have O3 := hide (O2.out.keeps (Keeps.of_below k3))
      clear k3
      obtain ⟨K, caps, hg, he, hc⟩ := (OfV.at_ O3.out sb 0).ex
      have HC := hide hc
      clear hc
      go_wp2_with fail
      refine HC.out.mono ?_
      rintro r' w4 ⟨rfl, q, rfl⟩
      have R4 := hide (R3.out.below (below_drewN (Below.refl _ _) q))
      have F4 := hide ((F3.out.trans (Foot.of_below _ (below_drewN (Below.refl _ _) q))))
      have B4 := hide (B3.out.drewN q)
      clear hg HC
      have x1 := at_cell B4.out hx
      have f1 := B4.out.frozen off
      have z0 : 0 + off = off := Nat.zero_add _
      rw [z0]
      go_wp2_with fail
      go_end0
      exact ⟨rfl, R4.out.foot ((Foot.refl [sb] _).setCell (.inl (by simp)) _) (by simpa using hb) (by simpa using Ne.symm HNE.out), B4.out.set_ off _, F4.out.setCell (.inl (by simp)) _⟩
theorem order_take {W0 W : World} {rb rc sb : Nat} {ra : Option Addr} {b rest : List Int} {cs : Array Value} {x : Int} (h : Rd W0 W rb ra rc b rest) (hs : Blk W sb 49 cs) (hb : W0.heap.size ≤ sb) (hne : sb ≠ rb) (hx : cs[37]? = some (.int .i64 x)) :
    Calls Try.prog 76 #[.pointer (some ⟨rb, 0, none⟩), .pointer (some ⟨sb, 0, none⟩)] W (TK W0 rb ra rc b sb W ((decF 3 rest).map fun p => (cs.setIfInBounds 37 (.int .i64 (p.1.getD 0 0)), p.2))) := by
  have hc := whole_ok h
  have HR := hide h
  have HS := hide hs
  have HNE := hide hne
  clear h hs hne
  cases e : rdN rest with
  | none =>
    have HE : Hid (decF 3 rest = none) := hide (by unfold decF; simp only [e])
    rw [e] at hc
    rw [HE.out]
    have HC := hide hc
    clear hc e
    go_enter Try.func76, Try.ntmps76
    go_wp2_with fail
    refine HC.out.mono ?_
    rintro r' w2 ⟨rfl, k2⟩
    have K2 := hide k2
    clear k2 HC
    go_wp2_with fail
    exact ⟨rfl, rfl, K2.out⟩
  | some p =>
    obtain ⟨n, r⟩ := p
    rw [e] at hc
    have HC := hide hc
    clear hc
    by_cases h0 : n = 0
    · have HE : Hid (decF 3 rest = none) := hide (by unfold decF; simp only [e]; exact if_pos h0)
      rw [HE.out]
      have d0 : (n != 0) = false := by simp [h0]
      clear e h0
      go_enter Try.func76, Try.ntmps76
      go_wp2_with fail
      refine HC.out.mono ?_
      rintro r' w2 ⟨rfl, R2, F2⟩
      have B2 := hide (HS.out.foot F2 (by simpa using HNE.out))
      have R2 := hide R2
      have F2 := hide F2
      clear HC
      have x1 := at_cell B2.out hx
      have f1 := B2.out.frozen 37
      go_upto_region 1 with fail
      obtain ⟨w3, hw3⟩ : ∃ w3, w3 = w2.setCell ⟨sb, 37, none⟩ (.int .i64 n) := ⟨_, rfl⟩
      have R3 : Hid (Rd W0 w3 rb ra rc b r) := hide (R2.out.foot (fs := [sb]) (by rw [hw3]; exact (Foot.refl [sb] _).setCell (.inl (by simp)) _) (by simpa using hb) (by simpa using Ne.symm HNE.out))
      have B3 := hide (hw3 ▸ B2.out.set_ 37 (.int .i64 n))
      have F3 := hide (hw3 ▸ (F2.out.mono (gs := [rb, sb]) (by simp)).setCell (p := ⟨sb, 37, none⟩) (.inl (by simp)) (.int .i64 n))
      rw [← hw3]
      have x3 : w3.cell? ⟨sb, 37, none⟩ = some (.int .i64 n) := at_cell B3.out (by rw [Array.getElem?_setIfInBounds_self_of_lt (Array.getElem?_eq_some_iff.1 hx).1])
      clear x1 f1 hw3
      go_wp2_with fail
      refine (must_false rb _).mono ?_
      rintro r' w4 ⟨rfl, k4⟩
      have R4 := hide (R3.out.below k4)
      clear k4
      go_wp2_with fail
      exact ⟨rfl, rfl, R4.out.bel⟩
    · have HE : Hid (decF 3 rest = some ([n], r)) := hide (by unfold decF; simp only [e]; exact if_neg h0)
      rw [HE.out]
      have d0 : (n != 0) = true := by simp [h0]
      clear e h0
      go_enter Try.func76, Try.ntmps76
      go_wp2_with fail
      refine HC.out.mono ?_
      rintro r' w2 ⟨rfl, R2, F2⟩
      have B2 := hide (HS.out.foot F2 (by simpa using HNE.out))
      have R2 := hide R2
      have F2 := hide F2
      clear HC
      have x1 := at_cell B2.out hx
      have f1 := B2.out.frozen 37
      go_upto_region 1 with fail
      obtain ⟨w3, hw3⟩ : ∃ w3, w3 = w2.setCell ⟨sb, 37, none⟩ (.int .i64 n) := ⟨_, rfl⟩
      have R3 : Hid (Rd W0 w3 rb ra rc b r) := hide (R2.out.foot (fs := [sb]) (by rw [hw3]; exact (Foot.refl [sb] _).setCell (.inl (by simp)) _) (by simpa using hb) (by simpa using Ne.symm HNE.out))
      have B3 := hide (hw3 ▸ B2.out.set_ 37 (.int .i64 n))
      have F3 := hide (hw3 ▸ (F2.out.mono (gs := [rb, sb]) (by simp)).setCell (p := ⟨sb, 37, none⟩) (.inl (by simp)) (.int .i64 n))
      rw [← hw3]
      have x3 : w3.cell? ⟨sb, 37, none⟩ = some (.int .i64 n) := at_cell B3.out (by rw [Array.getElem?_setIfInBounds_self_of_lt (Array.getElem?_eq_some_iff.1 hx).1])
      clear x1 f1 hw3
      go_wp2_with fail
      refine (must_true rb _).mono ?_
      rintro r' w4 ⟨rfl, k4⟩
      have K4 := hide k4
      clear k4
      go_wp2_with fail
      go_end0
      exact ⟨rfl, R3.out.below K4.out, B3.out.below K4.out B3.out.lt, F3.out.trans (Foot.of_below _ K4.out)⟩
end Go.Proofs.Ytmngndmcidbakaa
