/- All, short or whole, by one contract. -/
import Derived.Test.YtoannafiemnijaaOpens
namespace Go.Proofs.Ytoannafiemnijaa
open Go.RowKit

def allL (st : Nat → Option (Int × ByteArray)) (n : Nat) : List (Int × ByteArray) := if left st n = 0 then vals (0, ByteArray.empty) st n else []
def allE (st : Nat → Option (Int × ByteArray)) (n : Nat) : Int := if left st n = 0 then 0 else 4
def AllAny (n : Nat) (st : Nat → Option (Int × ByteArray)) (w : World) (r : Ending) (w' : World) : Prop :=
  ∃ a c, r = .returned (.tuple #[.slice a (allL st n).length c, .int .i64 (allE st n)]) ∧ RowG w' a 2 w.heap.size ((allL st n).map pc) ∧ Below w.heap.size w w'
theorem all_of_post {n : Nat} {st : Nat → Option (Int × ByteArray)} {w w' : World} {r : Ending} (hz : left st n = 0) (h : AllPost 30 2 pc (vals (0, ByteArray.empty) st n) w r w') : AllAny n st w r w' := by
  obtain ⟨v, rfl, own, hb⟩ := h
  obtain ⟨a, cap, rfl, _, _, _, hG⟩ := own_rowG (pc_len _) (by decide) own
  have e1 : allL st n = vals (0, ByteArray.empty) st n := if_pos hz
  have e2 : allE st n = 0 := if_pos hz
  refine ⟨a, cap, ?_, ?_, hb⟩
  · rw [e1, e2]
  · rw [e1]; exact hG
theorem all_of_short {n : Nat} {st : Nat → Option (Int × ByteArray)} {w w' : World} (hz : ¬ left st n = 0) (hb : Below w.heap.size w w') : AllAny n st w (.returned (.tuple #[.slice none 0 0, .int .i64 4])) w' := by
  have e1 : allL st n = [] := if_neg hz
  have e2 : allE st n = 4 := if_neg hz
  refine ⟨none, 0, ?_, ?_, hb⟩
  · rw [e1, e2]; rfl
  · rw [e1]; exact ⟨⟨by simp, fun h => by simp at h⟩, .inl ⟨rfl, rfl⟩⟩
theorem all_P (gt gm gc n : Nat) (st : Nat → Option (Int × ByteArray)) (w : World) (h : Tab kP w gt gm gc n st) : Calls Try.prog 18 #[.pointer (some ⟨gt, 0, none⟩)] w (AllAny n st w) := by
  by_cases hz : left st n = 0
  · exact (all_full_P gt gm gc n st w h hz).mono fun _ _ => all_of_post hz
  · refine (all_short_P gt gm gc n st w h (by omega)).mono fun _ _ hh => ?_
    obtain ⟨rfl, rfl⟩ := hh
    exact all_of_short hz (Below.refl _ _)
theorem rall_P (gr gl n : Nat) (st : Nat → Option (Int × ByteArray)) (w : World) (h : RTab w gr gl n st) : Calls Try.prog 19 #[.pointer (some ⟨gr, 0, none⟩)] w (AllAny n st w) := by
  refine (rall_any gr gl n st w h).mono fun _ _ hh => ?_
  by_cases hz : left st n = 0
  · exact all_of_post hz (hh.2 hz)
  · obtain ⟨rfl, hb⟩ := hh.1 (by omega)
    exact all_of_short hz hb
theorem allL_le (st : Nat → Option (Int × ByteArray)) (n : Nat) : (allL st n).length ≤ n := by
  unfold allL; split
  · rw [vals_len]; exact Nat.le_refl _
  · simp
end Go.Proofs.Ytoannafiemnijaa
