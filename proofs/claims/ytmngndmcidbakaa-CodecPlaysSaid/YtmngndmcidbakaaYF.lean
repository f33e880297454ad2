/- Walks: the functions that hand back the address of a style's field. -/
import Derived.Test.YtmngndmcidbakaaYE
namespace Go.Proofs.Ytmngndmcidbakaa
open Go.RowKit
/-- A pointer moved on. -/
def MvPost (off b o : Nat) (w : World) (r : Ending) (w' : World) : Prop := r = .returned (.pointer (some ⟨b, o + off, none⟩)) ∧ ∃ q, w' = w.drewN q
theorem of1_any (b o : Nat) (w : World) : Calls Try.prog 34 #[.pointer (some ⟨b, o, none⟩)] w (MvPost 1 b o w) := by
  go_enter Try.func34, Try.ntmps34
  go_wp2
  go_returns
  exact ⟨rfl, 0, rfl⟩
theorem of2_any (b o : Nat) (w : World) : Calls Try.prog 35 #[.pointer (some ⟨b, o, none⟩)] w (MvPost 34 b o w) := by
  go_enter Try.func35, Try.ntmps35
  go_wp2
  go_returns
  exact ⟨rfl, 0, rfl⟩
theorem of3_any (b o : Nat) (w : World) : Calls Try.prog 37 #[.pointer (some ⟨b, o, none⟩)] w (MvPost 0 b o w) := by
  go_enter Try.func37, Try.ntmps37
  go_wp2
  go_returns
  exact ⟨rfl, 0, rfl⟩
theorem of4_any (b o : Nat) (w : World) : Calls Try.prog 38 #[.pointer (some ⟨b, o, none⟩)] w (MvPost 2 b o w) := by
  go_enter Try.func38, Try.ntmps38
  go_wp2
  go_returns
  exact ⟨rfl, 0, rfl⟩
theorem of5_any (b o : Nat) (w : World) : Calls Try.prog 39 #[.pointer (some ⟨b, o, none⟩)] w (MvPost 3 b o w) := by
  go_enter Try.func39, Try.ntmps39
  go_wp2
  go_returns
  exact ⟨rfl, 0, rfl⟩
theorem of6_any (b o : Nat) (w : World) : Calls Try.prog 40 #[.pointer (some ⟨b, o, none⟩)] w (MvPost 32 b o w) := by
  go_enter Try.func40, Try.ntmps40
  go_wp2
  go_returns
  exact ⟨rfl, 0, rfl⟩
theorem of7_any (b o : Nat) (w : World) : Calls Try.prog 41 #[.pointer (some ⟨b, o, none⟩)] w (MvPost 35 b o w) := by
  go_enter Try.func41, Try.ntmps41
  go_wp2
  go_returns
  exact ⟨rfl, 0, rfl⟩
theorem of8_any (b o : Nat) (w : World) : Calls Try.prog 42 #[.pointer (some ⟨b, o, none⟩)] w (MvPost 36 b o w) := by
  go_enter Try.func42, Try.ntmps42
  go_wp2
  go_returns
  exact ⟨rfl, 0, rfl⟩
theorem of9_any (b o : Nat) (w : World) : Calls Try.prog 44 #[.pointer (some ⟨b, o, none⟩)] w (MvPost 33 b o w) := by
  go_enter Try.func44, Try.ntmps44
  go_wp2
  go_returns
  exact ⟨rfl, 0, rfl⟩
theorem of10_any (b o : Nat) (w : World) : Calls Try.prog 46 #[.pointer (some ⟨b, o, none⟩)] w (MvPost 38 b o w) := by
  go_enter Try.func46, Try.ntmps46
  go_wp2
  go_returns
  exact ⟨rfl, 0, rfl⟩
theorem of11_any (b o : Nat) (w : World) : Calls Try.prog 47 #[.pointer (some ⟨b, o, none⟩)] w (MvPost 39 b o w) := by
  go_enter Try.func47, Try.ntmps47
  go_wp2
  go_returns
  exact ⟨rfl, 0, rfl⟩
theorem of12_any (b o : Nat) (w : World) : Calls Try.prog 49 #[.pointer (some ⟨b, o, none⟩)] w (MvPost 4 b o w) := by
  go_enter Try.func49, Try.ntmps49
  go_wp2
  go_returns
  exact ⟨rfl, 0, rfl⟩
theorem of13_any (b o : Nat) (w : World) : Calls Try.prog 50 #[.pointer (some ⟨b, o, none⟩)] w (MvPost 6 b o w) := by
  go_enter Try.func50, Try.ntmps50
  go_wp2
  go_returns
  exact ⟨rfl, 0, rfl⟩
theorem of14_any (b o : Nat) (w : World) : Calls Try.prog 51 #[.pointer (some ⟨b, o, none⟩)] w (MvPost 8 b o w) := by
  go_enter Try.func51, Try.ntmps51
  go_wp2
  go_returns
  exact ⟨rfl, 0, rfl⟩
theorem of15_any (b o : Nat) (w : World) : Calls Try.prog 52 #[.pointer (some ⟨b, o, none⟩)] w (MvPost 10 b o w) := by
  go_enter Try.func52, Try.ntmps52
  go_wp2
  go_returns
  exact ⟨rfl, 0, rfl⟩
theorem of16_any (b o : Nat) (w : World) : Calls Try.prog 53 #[.pointer (some ⟨b, o, none⟩)] w (MvPost 12 b o w) := by
  go_enter Try.func53, Try.ntmps53
  go_wp2
  go_returns
  exact ⟨rfl, 0, rfl⟩
theorem of17_any (b o : Nat) (w : World) : Calls Try.prog 54 #[.pointer (some ⟨b, o, none⟩)] w (MvPost 14 b o w) := by
  go_enter Try.func54, Try.ntmps54
  go_wp2
  go_returns
  exact ⟨rfl, 0, rfl⟩
theorem of18_any (b o : Nat) (w : World) : Calls Try.prog 55 #[.pointer (some ⟨b, o, none⟩)] w (MvPost 40 b o w) := by
  go_enter Try.func55, Try.ntmps55
  go_wp2
  go_returns
  exact ⟨rfl, 0, rfl⟩
theorem of19_any (g k b o : Nat) (w : World) (hk : k < 4) (hg : w.cell? ⟨g, 0, none⟩ = some (.int .i64 k)) : Calls Try.prog 56 #[.pointer (some ⟨b, o, none⟩), .pointer (some ⟨g, 0, none⟩)] w (MvPost (16 + 2 * k) b o w) := by
  have e : o + (16 + 2 * k) = o + 16 + k * 2 := by omega
  unfold MvPost
  rw [e]
  go_enter Try.func56, Try.ntmps56
  go_wp2_with fail
  have r0 := keepd hg
  refine Reg.region (by kernel_rfl) 6 [] (fun _ w' => w' = w.drew) (by kernel_rfl) (by kernel_rfl) rfl ?_
  iterate 6
    refine Reg.WT.yield (v := ?_) rfl rfl ?_ ?_
    rotate_left
    · intro w' _ hS; go_simp; (try go_bits); (first | rfl | rw [if_pos (by omega)])
    simp only [Act.put, List.setIfInBounds_toArray, List.set_cons_zero, List.set_cons_succ]
  intro w2 hS
  subst hS
  clear r0
  go_wp2_with fail
  go_returns
  exact ⟨rfl, 1, rfl⟩
theorem of20_any (g k b o : Nat) (w : World) (hk : k < 4) (hg : w.cell? ⟨g, 0, none⟩ = some (.int .i64 k)) : Calls Try.prog 57 #[.pointer (some ⟨b, o, none⟩), .pointer (some ⟨g, 0, none⟩)] w (MvPost (24 + 1 * k) b o w) := by
  have e : o + (24 + 1 * k) = o + 24 + k := by omega
  unfold MvPost
  rw [e]
  go_enter Try.func57, Try.ntmps57
  go_wp2_with fail
  have r0 := keepd hg
  refine Reg.region (by kernel_rfl) 6 [] (fun _ w' => w' = w.drew) (by kernel_rfl) (by kernel_rfl) rfl ?_
  iterate 6
    refine Reg.WT.yield (v := ?_) rfl rfl ?_ ?_
    rotate_left
    · intro w' _ hS; go_simp; (try go_bits); (first | rfl | rw [if_pos (by omega)])
    simp only [Act.put, List.setIfInBounds_toArray, List.set_cons_zero, List.set_cons_succ]
  intro w2 hS
  subst hS
  clear r0
  go_wp2_with fail
  go_returns
  exact ⟨rfl, 1, rfl⟩
theorem of21_any (g k b o : Nat) (w : World) (hk : k < 4) (hg : w.cell? ⟨g, 0, none⟩ = some (.int .i64 k)) : Calls Try.prog 58 #[.pointer (some ⟨b, o, none⟩), .pointer (some ⟨g, 0, none⟩)] w (MvPost (28 + 1 * k) b o w) := by
  have e : o + (28 + 1 * k) = o + 28 + k := by omega
  unfold MvPost
  rw [e]
  go_enter Try.func58, Try.ntmps58
  go_wp2_with fail
  have r0 := keepd hg
  refine Reg.region (by kernel_rfl) 6 [] (fun _ w' => w' = w.drew) (by kernel_rfl) (by kernel_rfl) rfl ?_
  iterate 6
    refine Reg.WT.yield (v := ?_) rfl rfl ?_ ?_
    rotate_left
    · intro w' _ hS; go_simp; (try go_bits); (first | rfl | rw [if_pos (by omega)])
    simp only [Act.put, List.setIfInBounds_toArray, List.set_cons_zero, List.set_cons_succ]
  intro w2 hS
  subst hS
  clear r0
  go_wp2_with fail
  go_returns
  exact ⟨rfl, 1, rfl⟩
end Go.Proofs.Ytmngndmcidbakaa
