/- Walk: one. -/
import Derived.Test.YtmngndmcidbakaaYR
namespace Go.Proofs.Ytmngndmcidbakaa
open Go.RowKit
def rd1 : List Int → Option (Int × List Int)
  | [] => none
  | x :: r => some (x, r)
theorem one_ok {W0 W : World} {rb rc : Nat} {ra : Option Addr} {b rest : List Int} (h : Rd W0 W rb ra rc b rest) : Calls Try.prog 60 #[.pointer (some ⟨rb, 0, none⟩)] W (RP W0 rb ra rc b W (rd1 rest) (Value.int .u8)) := by
  have x0 := h.blk.cell 0
  have x1 := h.blk.cell 1
  simp only [List.getElem?_toArray, List.getElem?_cons_zero, List.getElem?_cons_succ] at x0 x1
  have hlen := h.len
  have hdr := h.drop
  have hle := h.le
  have hcap := h.cap
  have hcap2 := h.cap2
  have HR := hide h
  clear h
  cases rest with
  | nil =>
    have HE : Hid (rd1 [] = none) := hide rfl
    rw [HE.out]
    simp only [List.length_nil, Nat.sub_zero] at x1
    clear hdr hle
    go_enter Try.func60, Try.ntmps60
    go_upto_region 1 with fail
    have C0 := keepd x0
    have C1 := keepd x1
    refine Reg.region (by kernel_rfl) 11 [] (fun _ w' => w' = W.drew) (by kernel_rfl) (by kernel_rfl) rfl ?_
    iterate 11
      first
        | refine Reg.WT.idle rfl rfl ?_
        | (refine Reg.WT.yield (v := ?_) rfl rfl ?_ ?_
           rotate_left
           · intro w' _ hS; go_simp; (try go_bits); (first | rfl | rw [if_pos (by omega)]))
      simp only [Act.put, List.setIfInBounds_toArray, List.set_cons_zero, List.set_cons_succ]
    intro w4 hS
    subst hS
    clear C0 C1
    go_wp2_with fail
    refine (must_false rb _).mono ?_
    rintro r' w3 ⟨rfl, k3⟩
    have R3 := hide (HR.out.below (below_call (Below.refl _ _).drew k3))
    clear k3
    go_wp2_with fail
    exact ⟨rfl, rfl, R3.out.bel⟩
  | cons x r =>
    have HE : Hid (rd1 (x :: r) = some (x, r)) := hide rfl
    rw [HE.out]
    rw [List.length_cons] at hle x1 hdr
    obtain ⟨p, hp⟩ : ∃ p, p = b.length - (r.length + 1) := ⟨_, rfl⟩
    rw [← hp] at x1 hdr
    have hpb : p < b.length := by omega
    have hpx : b[p] = x := by
      have := List.drop_eq_getElem_cons hpb
      rw [hdr] at this
      injection this with h1 _
      exact h1.symm
    obtain ⟨bb, bo, hra, hbb, hbc⟩ := b_at HR.out.row (by omega)
    subst hra
    have y0 := hbc p hpb
    rw [hpx] at y0
    have HM : Hid (p + 1 = b.length - r.length) := hide (by omega)
    have HY0 := hide y0
    have HBB := hide hbb
    clear hbc hpx hdr y0 hp hle hbb
    have d0 : decide ((p : Int) < (b.length : Int)) = true := decide_eq_true (by omega)
    go_enter Try.func60, Try.ntmps60
    go_upto_region 1 with fail
    have C0 := keepd x0
    have C1 := keepd x1
    refine Reg.region (by kernel_rfl) 11 [] (fun _ w' => w' = W.drew) (by kernel_rfl) (by kernel_rfl) rfl ?_
    iterate 11
      first
        | refine Reg.WT.idle rfl rfl ?_
        | (refine Reg.WT.yield (v := ?_) rfl rfl ?_ ?_
           rotate_left
           · intro w' _ hS; go_simp; (try go_bits); (first | rfl | rw [if_pos (by omega)]))
      simp only [Act.put, List.setIfInBounds_toArray, List.set_cons_zero, List.set_cons_succ]
    intro w4 hS
    subst hS
    clear C0 C1 d0
    go_wp2_with fail
    refine (must_true rb _).mono ?_
    rintro r' w3 ⟨rfl, k3⟩
    have t3 := hide (below_call (Below.refl _ _).drew k3 : Below W.heap.size W w3)
    have R3 := hide (HR.out.below t3.out)
    have F3 := hide (Foot.of_below [rb] t3.out)
    clear k3 x0 x1
    have x1 := R3.out.blk.cell 1
    have f1 := R3.out.blk.frozen 1
    simp only [List.getElem?_toArray, List.getElem?_cons_zero, List.getElem?_cons_succ, List.length_cons] at x1
    rw [show b.length - (r.length + 1) = p from by have := HM.out; omega] at x1
    go_upto_region 3 with fail
    obtain ⟨w5, hw5⟩ : ∃ w5, w5 = w3.setCell ⟨rb, 1, none⟩ (.int .i64 ((p : Int) + 1)) := ⟨_, rfl⟩
    have e1 : ((p : Int) + 1) = ((b.length - r.length : Nat) : Int) := by have := HM.out; omega
    have R5 : Hid (Rd W0 w5 rb (some ⟨bb, bo, none⟩) rc b r) := hide (by rw [hw5, e1]; exact R3.out.move ⟨[x], rfl⟩)
    have F5 : Hid (Foot [rb] W w5) := hide (by rw [hw5]; exact F3.out.setCell (.inl (by simp)) _)
    rw [← hw5]
    have x0 := R5.out.blk.cell 0
    have x1 := R5.out.blk.cell 1
    simp only [List.getElem?_toArray, List.getElem?_cons_zero, List.getElem?_cons_succ] at x0 x1
    rw [← e1] at x1
    have y0 : w5.cell? ⟨bb, bo + p, none⟩ = some (.int .u8 x) := (R5.out.bel.cell (p := ⟨bb, bo + p, none⟩) HBB.out).trans HY0.out
    have C0 := keepd x0
    have C1 := keepd x1
    have C2 := keepd y0
    clear hw5 e1 f1 x0 x1 y0
    refine Reg.region (by kernel_rfl) 12 [] (fun _ w' => w' = w5.drew) (by kernel_rfl) (by kernel_rfl) rfl ?_
    iterate 12
      refine Reg.WT.yield (v := ?_) rfl rfl ?_ ?_
      rotate_left
      · intro w' _ hS; go_simp; (try go_bits); (first | rfl | rw [if_pos (by omega)])
      simp only [Act.put, List.setIfInBounds_toArray, List.set_cons_zero, List.set_cons_succ]
    intro w6 hS
    subst hS
    clear C0 C1 C2
    go_wp2_with fail
    go_returns
    exact ⟨rfl, R5.out.below (Below.refl _ _).drew, F5.out.drew⟩
end Go.Proofs.Ytmngndmcidbakaa
