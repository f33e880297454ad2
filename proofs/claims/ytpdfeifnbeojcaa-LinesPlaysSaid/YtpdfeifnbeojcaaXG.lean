/- Walk: the reference's Same. -/
import Derived.Test.YtpdfeifnbeojcaaWW
namespace Go.Proofs.Ytpdfeifnbeojcaa
open Go.RowKit

set_option maxRecDepth 100000 in
set_option maxHeartbeats 4000000 in
theorem same_any (a b : Option Addr) (l : List Rw) (c d : Nat) (w : World) (ha : LRow w a l) (hb : LRow w b l) (hl : l.length ≤ 10000) (hx : ∀ x ∈ l, x.xs.length ≤ 10000) :
    Calls Try.prog 11 #[.slice a l.length c, .slice b l.length d] w fun r w' => r = .returned (.bool true) ∧ Below w.heap.size w w' := by
  have HA := hide ha
  have HB := hide hb
  clear ha hb
  go_enter Try.func11, Try.ntmps11
  go_wp2_with fail
  go_loopw [5] (fun iv wr => ∃ i : Nat, i ≤ l.length ∧ iv = .int .i64 i ∧ Below w.heap.size w wr) (fun iv _ => l.length - (intOf iv).toNat)
  case atStart => exact ⟨0, Nat.zero_le _, rfl, Below.refl _ _⟩
  case round =>
    obtain ⟨i, hi, rfl, hbel⟩ := hrel
    have t := hide hbel
    clear hbel
    by_cases hlt : i < l.length
    · obtain ⟨p1, o1, rfl, hp1, hc1⟩ := lrow_at (HA.out.below t.out) (by omega)
      obtain ⟨p2, o2, rfl, hp2, hc2⟩ := lrow_at (HB.out.below t.out) (by omega)
      obtain ⟨a1, d1, x0, x1, x2, x3, R1, n1, m1⟩ := hc1 i hlt
      obtain ⟨a2, d2, y0, y1, y2, y3, R2, n2, m2⟩ := hc2 i hlt
      have hxl := hx _ (List.getElem_mem hlt)
      have HR1 := hide R1
      have HR2 := hide R2
      unfold maxLen at m1 m2
      clear hc1 hc2 R1 R2
      generalize l[i] = zz at x0 x1 x2 x3 y0 y1 y2 y3 n1 n2 hxl HR1 HR2
      obtain ⟨ry, rf, rt, rxs⟩ := zz
      dsimp only at x0 x1 x2 x3 y0 y1 y2 y3 n1 n2 hxl HR1 HR2
      have X3 := hide x3
      have Y3 := hide y3
      go_upto_region 6 with fail
      have r0 := keepd x0
      have r1 := keepd x1
      have r2 := keepd x2
      have r3 := keepd x3
      have s0 := keepd y0
      have s1 := keepd y1
      have s2 := keepd y2
      have s3 := keepd y3
      clear x0 x1 x2 x3 y0 y1 y2 y3
      refine Reg.region (by kernel_rfl) 52 [] (fun _ w' => w' = wr.drew) (by kernel_rfl) (by kernel_rfl) rfl ?_
      iterate 52
        first
          | refine Reg.WT.idle rfl rfl ?_
          | (refine Reg.WT.yield (v := ?_) rfl rfl ?_ ?_
             rotate_left
             · intro w' _ hS; go_simp; (try go_bits); (first | rfl | rw [if_pos (by omega)]))
        simp only [Act.put, List.setIfInBounds_toArray, List.set_cons_zero, List.set_cons_succ]
      intro w6 hS
      subst hS
      clear r0 r1 r2 r3 s0 s1 s2 s3
      have z3 : wr.drew.cell? ⟨p1, o1 + i * 4 + 3, none⟩ = some (.slice a1 rxs.length d1) := X3.out
      go_wp2_with fail
      clear z3
      go_loopw [6] (fun jv wq => ∃ j : Nat, j ≤ rxs.length ∧ jv = .int .i64 j ∧ Below wr.heap.size wr wq) (fun jv _ => rxs.length - (intOf jv).toNat)
      case atStart => exact ⟨0, Nat.zero_le _, rfl, (Below.refl _ _).drew⟩
      case round =>
        obtain ⟨j, hj, rfl, hbq⟩ := hrel
        have c4 := hide hbq
        clear hbq
        have x3 := (c4.out.cell (p := ⟨p1, o1 + i * 4 + 3, none⟩) hp1).trans X3.out
        have y3 := (c4.out.cell (p := ⟨p2, o2 + i * 4 + 3, none⟩) hp2).trans Y3.out
        by_cases hjt : j < rxs.length
        · obtain ⟨q1, f1, rfl, _, hq1⟩ := row_int (HR1.out.below c4.out) (by omega)
          obtain ⟨q2, f2, rfl, _, hq2⟩ := row_int (HR2.out.below c4.out) (by omega)
          have u1 := hq1 j hjt
          have u2 := hq2 j hjt
          clear hq1 hq2
          generalize rxs[j] = z at u1 u2
          go_upto_region 11 with fail
          have r0 := keepd x3
          have r1 := keepd y3
          have r2 := keepd u1
          have r3 := keepd u2
          refine Reg.region (by kernel_rfl) 17 [] (fun _ w' => w' = wr.drew) (by kernel_rfl) (by kernel_rfl) rfl ?_
          iterate 17
            refine Reg.WT.yield (v := ?_) rfl rfl ?_ ?_
            rotate_left
            · intro w' _ hS; go_simp; (try go_bits); (first | rfl | rw [if_pos (by omega)])
            simp only [Act.put, List.setIfInBounds_toArray, List.set_cons_zero, List.set_cons_succ]
          intro w6 hS
          subst hS
          clear r0 r1 r2 r3 x3 y3 u1 u2
          go_wp2_with fail
          go_roundw
          case rel => exact ⟨j + 1, hjt, by go_num, c4.out.drew⟩
          case measure => simp [intOf]; omega
        · go_wp2_with fail
          go_roundw
          case rel => exact ⟨i + 1, hlt, by go_num, t.out.trans (c4.out.mono t.out.size)⟩
          case measure => simp [intOf]; omega
    · go_wp2_with fail
      go_returns
      exact ⟨rfl, t.out⟩
end Go.Proofs.Ytpdfeifnbeojcaa
