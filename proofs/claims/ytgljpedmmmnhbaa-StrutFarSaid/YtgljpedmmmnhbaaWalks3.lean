/- walks of the layer strut, third part: Both, its reference, the anchor. -/
import Derived.Test.YtgljpedmmmnhbaaWalks2
namespace Go.Proofs.Ytgljpedmmmnhbaa
open Go.RowKit

theorem both_any (a b c d : Int) (w : World) :
    Calls Try.prog 11 #[.agg #[.int .i64 a, .int .i64 b], .agg #[.int .i64 c, .int .i64 d]] w fun e w' => e = .returned (S (jn (jn (a, b) c) d)) ∧ Below w.heap.size w w' := by
  go_enter Try.func11, Try.ntmps11
  go_wp2_with fail
  refine (fold_any _ _ _ [c, d] _ _ ?_).mono ?_
  · have := Blk.new (((w.alloc (.cells #[.int .i64 a, .int .i64 b] 24)).alloc (.cells #[.int .i64 c, .int .i64 d] 24)).alloc (.cells #[.int .i64 0, .int .i64 0] 24)) 2 #[.int .i64 c, .int .i64 d]
    simp only [World.size_alloc] at this
    exact this.row (by simp)
  rintro e w2 ⟨rfl, hb⟩
  have B := Blk.below (g := w.heap.size + 2) (t := 24) (cs := #[.int .i64 0, .int .i64 0]) (by simpa using (Blk.new ((w.alloc (.cells #[.int .i64 a, .int .i64 b] 24)).alloc (.cells #[.int .i64 c, .int .i64 d] 24)) 24 #[.int .i64 0, .int .i64 0]).alloc (.cells #[.int .i64 c, .int .i64 d] 2)) hb (by simp)
  have hbel := below_call (w := w) (by go_grown) hb
  have hs := B.lt
  have c0 : w2.cell? ⟨w.heap.size + 2, 0, none⟩ = some (.int .i64 0) := B.cell 0
  have c1 : w2.cell? ⟨w.heap.size + 2, 1, none⟩ = some (.int .i64 0) := B.cell 1
  have f0 := B.frozen 0
  have f1 := B.frozen 1
  have R0 := fun u v => ((B.set_ 0 u).set_ 1 v).cell 0
  have R1 := fun u v => ((B.set_ 0 u).set_ 1 v).cell 1
  have R0' := hide R0
  have R1' := hide R1
  clear R0 R1
  go_wp2
  refine bodyPost_ret (v := S (jn (jn (a, b) c) d)) (by simp [results, Try.results11, go_sem, (R0').out, (R1').out]) rfl ⟨rfl, ?_⟩
  go_grown

theorem ref_both_any (a b c d : Int) (w : World) :
    Calls Try.prog 13 #[.agg #[.int .i64 a, .int .i64 b], .agg #[.int .i64 c, .int .i64 d]] w fun e w' => e = .returned (S ([a, b, c, d].foldl jn (0, 0))) ∧ Below w.heap.size w w' := by
  go_enter Try.func13, Try.ntmps13
  go_wp2_with fail
  refine (ref_of_any _ [a, b, c, d] _ _ ?_).mono ?_
  · have := Blk.new (((w.alloc (.cells #[.int .i64 a, .int .i64 b] 24)).alloc (.cells #[.int .i64 c, .int .i64 d] 24)).alloc (.cells #[.int .i64 0, .int .i64 0] 24)) 2 #[.int .i64 a, .int .i64 b, .int .i64 c, .int .i64 d]
    simp only [World.size_alloc] at this
    exact this.row (by simp)
  rintro e w2 ⟨rfl, hb⟩
  have B := Blk.below (g := w.heap.size + 2) (t := 24) (cs := #[.int .i64 0, .int .i64 0]) (by simpa using (Blk.new ((w.alloc (.cells #[.int .i64 a, .int .i64 b] 24)).alloc (.cells #[.int .i64 c, .int .i64 d] 24)) 24 #[.int .i64 0, .int .i64 0]).alloc (.cells #[.int .i64 a, .int .i64 b, .int .i64 c, .int .i64 d] 2)) hb (by simp)
  have hbel := below_call (w := w) (by go_grown) hb
  have hs := B.lt
  have c0 : w2.cell? ⟨w.heap.size + 2, 0, none⟩ = some (.int .i64 0) := B.cell 0
  have c1 : w2.cell? ⟨w.heap.size + 2, 1, none⟩ = some (.int .i64 0) := B.cell 1
  have f0 := B.frozen 0
  have f1 := B.frozen 1
  have R0 := fun u v => ((B.set_ 0 u).set_ 1 v).cell 0
  have R1 := fun u v => ((B.set_ 0 u).set_ 1 v).cell 1
  have R0' := hide R0
  have R1' := hide R1
  clear R0 R1
  go_wp2
  refine bodyPost_ret (v := S ([a, b, c, d].foldl jn (0, 0))) (by simp [results, Try.results13, go_sem, (R0').out, (R1').out]) rfl ⟨rfl, ?_⟩
  go_grown

theorem works_any (w : World) : Calls Try.prog 9 #[] w fun e w' => e = .returned (.bool true) ∧ Below w.heap.size w w' := by
  go_enter Try.func9, Try.ntmps9
  go_wp2_with fail
  refine (join_any _ _ _ _).mono ?_
  rintro e w2 ⟨rfl, hb⟩
  go_wp2_with fail
  refine (join_any _ _ _ _).mono ?_
  rintro e w3 ⟨rfl, hb3⟩
  go_wp2_with fail
  refine (join_any _ _ _ _).mono ?_
  rintro e w4 ⟨rfl, hb4⟩
  rw [show jn (jn (jn (0, 0) 10) (-8)) 25 = (25, -8) from by decide]
  have hbel := below_call (below_call hb hb3) hb4
  go_wp2_with fail
  refine (sum_any _ _ _ (by omega) (by omega) (by omega) (by omega)).mono ?_
  rintro e w5 ⟨rfl, hb5⟩
  go_wp2_with fail
  refine (sum_any _ _ _ (by omega) (by omega) (by omega) (by omega)).mono ?_
  rintro e w6 ⟨rfl, hb6⟩
  go_wp2
  go_returns
  exact ⟨rfl, below_call (below_call (hbel.alloc hbel.size _) hb5) hb6⟩
end Go.Proofs.Ytgljpedmmmnhbaa
