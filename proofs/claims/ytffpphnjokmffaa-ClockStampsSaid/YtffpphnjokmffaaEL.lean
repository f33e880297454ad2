/- Walks: the reference's reads; the law's apart and sames. -/
import Derived.Test.YtffpphnjokmffaaEI
namespace Go.Proofs.Ytffpphnjokmffaa
open Go.RowKit Go.Maps

theorem rreads_any (e : Ev) (w : World) : Calls Try.prog 26 #[eagg e] w (BPost (rdE e) w) := by
  unfold eagg rdE
  cases h1 : (e.k == 1) with
  | true =>
    go_enter Try.func26, Try.ntmps26
    go_wp2
    go_returns
    exact ⟨rfl, by go_grown⟩
  | false =>
    cases h3 : (e.k == 3) with
    | true =>
      go_enter Try.func26, Try.ntmps26
      go_wp2
      go_returns
      exact ⟨rfl, by go_grown⟩
    | false =>
      cases h4 : (e.k == 4) with
      | true =>
        go_enter Try.func26, Try.ntmps26
        go_wp2
        go_returns
        exact ⟨rfl, by go_grown⟩
      | false =>
        go_enter Try.func26, Try.ntmps26
        go_wp2
        go_returns
        exact ⟨rfl, by go_grown⟩
theorem sames_any (a b : Option Addr) (l : List Ev) (c d : Nat) (w : World) (ha : ERow w a l) (hb : ERow w b l) : Calls Try.prog 16 #[.slice a l.length c, .slice b l.length d] w (BPost true w) := by
  have hlen := ha.len
  have HA := hide ha
  have HB := hide hb
  clear ha hb
  go_enter Try.func16, Try.ntmps16
  go_wp2_with fail
  go_loopw [5] (fun i wr => ∃ j : Nat, j ≤ l.length ∧ i = .int .i64 j ∧ Below w.heap.size w wr) (fun i _ => l.length - (intOf i).toNat)
  case atStart => exact ⟨0, Nat.zero_le _, rfl, Below.refl _ _⟩
  case round =>
    obtain ⟨j, hj, rfl, hbel⟩ := hrel
    have t := hide hbel
    clear hbel
    by_cases hlt : j < l.length
    · obtain ⟨b1, o1, rfl, hb1, hc1⟩ := e_at (HA.out.below t.out) (by omega)
      obtain ⟨b2, o2, rfl, hb2, hc2⟩ := e_at (HB.out.below t.out) (by omega)
      obtain ⟨x0, x1, x2⟩ := hc1 j hlt
      obtain ⟨y0, y1, y2⟩ := hc2 j hlt
      clear hc1 hc2
      generalize l[j] = z at x0 x1 x2 y0 y1 y2
      go_upto_region 6 with fail
      have r0 := keepd x0
      have r1 := keepd x1
      have r2 := keepd x2
      have s0 := keepd y0
      have s1 := keepd y1
      have s2 := keepd y2
      refine Reg.region (by kernel_rfl) 9 [] (fun _ w' => w' = wr.drew) (by kernel_rfl) (by kernel_rfl) rfl ?_
      iterate 9
        refine Reg.WT.yield (v := ?_) rfl rfl ?_ ?_
        rotate_left
        · intro w' _ hS; go_simp; (try go_bits); (first | rfl | rw [if_pos (by omega)])
        simp only [Act.put, List.setIfInBounds_toArray, List.set_cons_zero, List.set_cons_succ]
      intro w2 hS
      subst hS
      clear r0 r1 r2 s0 s1 s2
      go_wp2_with fail
      go_roundw
      case rel => exact ⟨j + 1, hlt, by go_num, t.out.drew⟩
      case measure => simp [intOf]; omega
    · go_wp2_with fail
      go_returns
      exact ⟨rfl, t.out⟩
end Go.Proofs.Ytffpphnjokmffaa
