/- The law's own 'same' at equal lists; its anchor. -/
import Derived.Test.YtoannafiemnijaaRef
namespace Go.Proofs.Ytoannafiemnijaa
open Go.RowKit

theorem pc_at {w : World} {a : Option Addr} {L : List (Int × ByteArray)} (h : RowS w a 2 (L.map pc)) (hp : 0 < L.length) : ∃ b off, a = some ⟨b, off, none⟩ ∧ b < w.heap.size ∧
    ∀ i (hi : i < L.length), w.cell? ⟨b, off + i * 2, none⟩ = some (.int .i64 L[i].1) ∧ w.cell? ⟨b, off + i * 2 + 1, none⟩ = some (.string L[i].2) := by
  obtain ⟨b, off, ha, hb, hc⟩ := h.2 (by simpa using hp)
  refine ⟨b, off, ha, hb, fun i hi => ⟨?_, ?_⟩⟩
  · have := hc i (by simpa using hi) 0 (by simp [pc])
    simpa [pc] using this
  · have := hc i (by simpa using hi) 1 (by simp [pc])
    simpa [pc] using this

theorem same_eq (a b : Option Addr) (n ca cb : Nat) (L : List (Int × ByteArray)) (w : World) (ha : RowS w a 2 (L.map pc)) (hb : RowS w b 2 (L.map pc)) (hL : L.length = n) :
    Calls Try.prog 20 #[.slice a n ca, .slice b n cb] w fun r w' => r = .returned (.bool true) ∧ Below w.heap.size w w' := by
  have hn := ha.1
  rw [List.length_map, hL] at hn
  have HL := hide hL
  clear hL
  go_enter Try.func20, Try.ntmps20
  go_wp2
  go_loopw [5] (fun i wr => ∃ k : Nat, k ≤ n ∧ i = .int .i64 k ∧ Below w.heap.size w wr) (fun i _ => n - (intOf i).toNat)
  case atStart => exact ⟨0, Nat.zero_le _, rfl, Below.refl _ _⟩
  case round =>
    obtain ⟨k, hk, rfl, hbel⟩ := hrel
    by_cases hlt : k < n
    · obtain ⟨b1, o1, rfl, l1, c1⟩ := pc_at (ha.below hbel) (by have := HL.out; omega)
      obtain ⟨b2, o2, rfl, l2, c2⟩ := pc_at (hb.below hbel) (by have := HL.out; omega)
      obtain ⟨x1, x2⟩ := c1 k (by have := HL.out; omega)
      obtain ⟨y1, y2⟩ := c2 k (by have := HL.out; omega)
      clear c1 c2
      generalize L[k]'(by have := HL.out; omega) = v at x1 x2 y1 y2
      go_wp2_with fail
      have x1' := keepd x1
      have x2' := keepd x2
      have y1' := keepd y1
      have y2' := keepd y2
      clear x1 x2 y1 y2
      refine Reg.region (by kernel_rfl) 9 [] (fun _ w' => w' = wr.drew) (by kernel_rfl) (by kernel_rfl) rfl ?_
      iterate 9
        refine Reg.WT.yield (v := ?_) rfl rfl ?_ ?_
        rotate_left
        · intro w' _ hS; go_simp; (try go_bits); (first | rfl | rw [if_pos (by omega)])
        simp only [Act.put, List.setIfInBounds_toArray, List.set_cons_zero, List.set_cons_succ]
      intro w2 hS
      subst hS
      go_wp2
      go_roundw
      case rel => exact ⟨k + 1, hlt, by go_num, hbel.drew⟩
      case measure => simp [intOf]; omega
    · obtain rfl : k = n := by omega
      go_wp2_with fail
      go_returns
      exact ⟨rfl, hbel⟩
end Go.Proofs.Ytoannafiemnijaa
