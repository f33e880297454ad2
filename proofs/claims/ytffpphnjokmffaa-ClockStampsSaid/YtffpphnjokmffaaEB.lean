/- Walk: join. -/
import Derived.Test.YtffpphnjokmffaaEA
import Derived.Test.YtffpphnjokmffaaFoot
import Derived.Deep.CutBlock
namespace Go.Proofs.Ytffpphnjokmffaa
open Go.RowKit

theorem keepd {W : World} {p : Addr} {v : Value} (h : W.cell? p = some v) : ∀ w', w' = W.drew → w'.cell? p = some v := fun _ e => e ▸ h
/-- The first j joined. -/
def jmid (xs ys : List Int) (j : Nat) : List Int := (List.zipWith max (xs.take j) (ys.take j)) ++ xs.drop j
theorem jmid_zero (xs ys : List Int) : jmid xs ys 0 = xs := by simp [jmid]
theorem jmid_len {xs ys : List Int} {j : Nat} (h1 : j ≤ xs.length) (h2 : j ≤ ys.length) : (jmid xs ys j).length = xs.length := by
  unfold jmid; rw [List.length_append, List.length_zipWith, List.length_take, List.length_take, List.length_drop]; omega
theorem jmid_at {xs ys : List Int} {j : Nat} (h1 : j < xs.length) (h2 : j < ys.length) : (ints (jmid xs ys j)).toArray[j]? = some (.int .i64 xs[j]) := by
  have hl : (List.zipWith max (xs.take j) (ys.take j)).length = j := by rw [List.length_zipWith, List.length_take, List.length_take]; omega
  unfold ints jmid
  rw [List.getElem?_toArray, List.getElem?_map, List.getElem?_append_right (by omega), hl, Nat.sub_self, List.drop_eq_getElem_cons h1]
  rfl
theorem jmid_set {xs ys : List Int} {j : Nat} (h1 : j < xs.length) (h2 : j < ys.length) : (jmid xs ys j).set j (max xs[j] ys[j]) = jmid xs ys (j + 1) := by
  unfold jmid
  have hl : (List.zipWith max (xs.take j) (ys.take j)).length = j := by rw [List.length_zipWith, List.length_take, List.length_take]; omega
  rw [List.set_append_right _ _ (by omega), hl, Nat.sub_self, List.drop_eq_getElem_cons h1, List.set_cons_zero, List.take_succ_eq_append_getElem h1, List.take_succ_eq_append_getElem h2,
    List.zipWith_append (by rw [List.length_take, List.length_take]; omega), List.append_assoc]
  rfl
def JPost (g : Nat) (xs ys : List Int) (w : World) (r : Ending) (w' : World) : Prop := (∃ v, r = .returned v) ∧ Foot [g] w w' ∧ Blk w' g 3 (ints (jmid xs ys ys.length)).toArray
set_option maxHeartbeats 1000000 in
theorem join_any (g n c : Nat) (xs ys : List Int) (A : Option Addr) (d : Nat) (w : World) (hb : Blk w g 3 (ints xs).toArray) (hn : xs.length = n) (hr : Row w A (ints ys)) (hm : ys.length ≤ n) (hA : ∀ q o, A = some ⟨q, o, none⟩ → q ≠ g) (hn2 : n ≤ 1000) :
    Calls Try.prog 24 #[.slice (some ⟨g, 0, none⟩) n c, .slice A ys.length d] w (JPost g xs ys w) := by
  have HN := hide hn
  have HA := hide hA
  have HR := hide hr
  have HB := hide hb
  clear hn hA hr hb
  go_enter Try.func24, Try.ntmps24
  go_wp2_with fail
  go_loopw [7] (fun i wr => ∃ j : Nat, j ≤ ys.length ∧ i = .int .i64 j ∧ Foot [g] w wr ∧ Blk wr g 3 (ints (jmid xs ys j)).toArray) (fun i _ => ys.length - (intOf i).toNat)
  case atStart => exact ⟨0, Nat.zero_le _, rfl, Foot.refl _ _, by rw [jmid_zero]; exact HB.out⟩
  case round =>
    obtain ⟨j, hj, rfl, hf, hB⟩ := hrel
    have F := hide hf
    have B := hide hB
    by_cases hlt : j < ys.length
    · obtain ⟨b, off, rfl, hbw, hc⟩ := row_int HR.out (by omega)
      have hne := HA.out b off rfl
      have hjx : j < xs.length := by have := HN.out; omega
      have y0 := (hf.cell (p := ⟨b, off + j, none⟩) hbw (by simpa using hne)).trans (hc j hlt)
      have x0 : wr.cell? ⟨g, j, none⟩ = some (.int .i64 xs[j]) := (hB.cell j).trans (jmid_at hjx hlt)
      have f0 := hB.frozen j
      have HS := hide (jmid_set hjx hlt)
      have B2 := hide (blk_int_set (hB.drew) j (max xs[j] ys[j]))
      rw [HS.out] at B2
      clear hc hf hB
      generalize xs[j] = x at x0 B2
      generalize ys[j] = y at y0 B2
      go_upto_region 3 with fail
      have z0 := keepd x0
      have z1 := keepd y0
      refine Reg.region (by kernel_rfl) 12 [] (fun _ w' => w' = wr.drew) (by kernel_rfl) (by kernel_rfl) rfl ?_
      iterate 12
        refine Reg.WT.yield (v := ?_) rfl rfl ?_ ?_
        rotate_left
        · intro w' _ hS; go_simp; (try go_bits); (first | rfl | rw [if_pos (by omega)])
        simp only [Act.put, List.setIfInBounds_toArray, List.set_cons_zero, List.set_cons_succ]
      intro w2 hS
      subst hS
      clear z0 z1
      go_wp2_with fail
      go_roundw
      case rel => exact ⟨j + 1, hlt, by go_num, (F.out.drew.setCell (p := ⟨g, j, none⟩) (.inl (by simp)) _), B2.out⟩
      case measure => simp [intOf]; omega
    · obtain rfl : j = ys.length := by omega
      go_wp2_with fail
      go_end0
      exact ⟨⟨_, rfl⟩, F.out, B.out⟩
end Go.Proofs.Ytffpphnjokmffaa
