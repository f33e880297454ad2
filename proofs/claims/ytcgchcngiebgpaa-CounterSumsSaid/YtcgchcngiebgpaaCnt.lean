/- walks of the layer counter: counters. -/
import Derived.Test.YtcgchcngiebgpaaLeast
import Derived.Test.YtcgchcngiebgpaaInts
namespace Go.Proofs.Ytcgchcngiebgpaa
open Go.RowKit

/-- Counters in memory: the struct's block, the numbers' block. -/
structure Cnt (w : World) (gc gn : Nat) (l : List Int) : Prop where
  box : Blk w gc 61 #[.slice (some ⟨gn, 0, none⟩) l.length l.length]
  row : Blk w gn 28 (ints l).toArray
  ne : gc ≠ gn

theorem info28 : (Try.prog.info? 28).map (fun i => (i.zero, i.size, i.bytes)) = some (some (.agg #[.int .i64 0]), 1, 8) := by kernel_rfl

def mid (l : List Int) (k : Nat) : List Int := l.take k ++ List.replicate (l.length - k) 0
theorem mid_len (l : List Int) (k : Nat) (h : k ≤ l.length) : (mid l k).length = l.length := by simp [mid]; omega
theorem mid_set (l : List Int) (k : Nat) (h : k < l.length) : (mid l k).set k l[k] = mid l (k + 1) := by
  apply List.ext_getElem
  · rw [List.length_set, mid_len _ _ (by omega), mid_len _ _ h]
  · intro i h1 h2
    rw [List.length_set, mid_len _ _ (by omega)] at h1
    rw [List.getElem_set]
    split
    · rename_i e; subst e
      simp [mid, List.getElem_append, h]
      intro hh
      omega
    · rename_i e
      simp only [mid, List.getElem_append, List.length_take, List.getElem_take, List.getElem_replicate]
      split <;> split <;> first | rfl | (exfalso; omega)

theorem new_many (a : Option Addr) (n cap : Nat) (w : World) (hn : 65536 < n) :
    Calls Try.prog 14 #[.slice a n cap] w fun r w' => r = .returned (.tuple #[.pointer none, .int .i64 1]) ∧ w = w' := by
  go_enter Try.func14, Try.ntmps14
  go_wp2
  go_returns
  exact ⟨rfl, rfl⟩

theorem new_neg (a : Option Addr) (l : List Int) (n cap : Nat) (w : World) (h : Row w a (ints l)) (hn : n = l.length) (hs : l.length ≤ 65536) (j : Nat) (hj : j < l.length) (hneg : l[j] < 0) :
    Calls Try.prog 14 #[.slice a n cap] w fun r w' => r = .returned (.tuple #[.pointer none, .int .i64 1]) ∧ w = w' := by
  subst hn
  obtain ⟨b, off, rfl, hb, hcell⟩ := row_int h (by omega)
  go_enter Try.func14, Try.ntmps14
  go_wp2
  go_loop [14] (fun i => ∃ k : Nat, k ≤ j ∧ i = .int .i64 k) (fun i => l.length - (intOf i).toNat)
  case atStart => exact ⟨0, Nat.zero_le _, rfl⟩
  case round =>
    obtain ⟨k, hk, rfl⟩ := hrel
    have hlt : k < l.length := by omega
    have hc := hcell k hlt
    clear hcell
    by_cases hx : l[k] < 0
    · go_wp2
      go_returns
      exact ⟨rfl, rfl⟩
    · have hne : k ≠ j := by rintro rfl; exact hx hneg
      go_wp2
      go_round
      case rel => exact ⟨k + 1, by omega, by go_num⟩
      case measure => simp [intOf]; omega

theorem new_ok (a : Option Addr) (l : List Int) (n cap : Nat) (w : World) (h : Row w a (ints l)) (hn : n = l.length) (hs : l.length ≤ 65536) (hpos : ∀ x ∈ l, 0 ≤ x) :
    Calls Try.prog 14 #[.slice a n cap] w fun r w' => r = .returned (.tuple #[.pointer (some ⟨w.heap.size + 1, 0, none⟩), .int .i64 0]) ∧ Cnt w' (w.heap.size + 1) w.heap.size l ∧ Below w.heap.size w w' := by
  subst hn
  obtain ⟨i0, hi, hz0, hz1, hz2⟩ := info_parts info28
  have hmk := fun W => run_make1 (P := Try.prog) 59 28 Try.underlying59 hi hz0 hz1 rfl hz2 l.length (by omega) (by omega) W
  go_enter Try.func14, Try.ntmps14
  go_wp2
  go_loop [14] (fun i => ∃ k : Nat, k ≤ l.length ∧ i = .int .i64 k) (fun i => l.length - (intOf i).toNat)
  case atStart => exact ⟨0, Nat.zero_le _, rfl⟩
  case round =>
    obtain ⟨k, hk, rfl⟩ := hrel
    by_cases hlt : k < l.length
    · obtain ⟨b, off, rfl, hb, hcell⟩ := row_int h (by omega)
      have hc := hcell k hlt
      have hx := hpos l[k] (List.getElem_mem hlt)
      clear hcell
      have hx' : ¬ l[k] < 0 := by omega
      go_wp2
      go_round
      case rel => exact ⟨k + 1, by omega, by go_num⟩
      case measure => simp [intOf]; omega
    · have : k = l.length := by omega
      subst this
      go_wp2_with fail
      go_loopw [28] (fun i wr => ∃ k : Nat, k ≤ l.length ∧ i = .int .i64 k ∧ Blk wr w.heap.size 28 (ints (mid l k)).toArray ∧ Blk wr (w.heap.size + 1) 61 #[.slice (some ⟨w.heap.size, 0, none⟩) l.length l.length] ∧ Below w.heap.size w wr) (fun i _ => l.length - (intOf i).toNat)
      case atStart =>
        refine ⟨0, Nat.zero_le _, rfl, ?_, by simpa using Blk.new (w.alloc _) 61 #[.slice (some ⟨w.heap.size, 0, none⟩) l.length l.length], by go_grown⟩
        have := (Blk.new w 28 (List.replicate l.length (Value.int .i64 0)).toArray).alloc (.cells #[.slice (some ⟨w.heap.size, 0, none⟩) l.length l.length] 61)
        simpa [mid, ints] using this
      case round =>
        obtain ⟨k, hk, rfl, B0, B1, hbel⟩ := hrel
        have c1 : wr.cell? ⟨w.heap.size + 1, 0, none⟩ = some (.slice (some ⟨w.heap.size, 0, none⟩) l.length l.length) := B1.cell 0
        have sz := hbel.size
        by_cases hlt : k < l.length
        · obtain ⟨b, off, rfl, hb, hcell⟩ := row_int h (by omega)
          have hc := (hbel.cell (p := ⟨b, off + k, none⟩) hb).trans (hcell k hlt)
          have c0 := blk_int (i := k) B0 (by rw [mid_len _ _ hk]; exact hlt)
          have f0 := B0.frozen k
          clear hcell
          go_wp2_with fail
          refine (store_any _ _ _ _ _ c0 f0).mono ?_
          rintro r w2 ⟨rfl, rfl⟩
          have B0' := blk_int_set B0 k l[k]
          rw [mid_set l k hlt] at B0'
          have B1' := B1.far (p := ⟨w.heap.size, k, none⟩) (by simp) (.int .i64 l[k])
          go_wp2
          go_roundw
          case rel => exact ⟨k + 1, hlt, by go_num, B0', B1', hbel.setCell (by simp) _⟩
          case measure => simp [intOf]; omega
        · have : k = l.length := by omega
          subst this
          have hm : mid l l.length = l := by simp [mid]
          rw [hm] at B0
          go_wp2
          go_returns
          exact ⟨rfl, ⟨B1, B0, by omega⟩, hbel⟩

/-! ### Down, Left -/
theorem down_arg (gc gn : Nat) (l : List Int) (i : Int) (w : World) (h : Cnt w gc gn l) (hi : i < 0 ∨ (l.length : Int) ≤ i) :
    Calls Try.prog 16 #[.pointer (some ⟨gc, 0, none⟩), .int .i64 i] w fun r w' => r = .returned (.tuple #[.int .i64 0, .int .i64 1]) ∧ w = w' := by
  have c1 : w.cell? ⟨gc, 0, none⟩ = some (.slice (some ⟨gn, 0, none⟩) l.length l.length) := h.box.cell 0
  by_cases h1 : i < 0
  · go_enter Try.func16, Try.ntmps16
    go_wp2_with fail
    go_step3
    go_wp2
    rw [Exit.noGoto_ret]
    go_returns
    exact ⟨rfl, rfl⟩
  · have h2 : (l.length : Int) ≤ i := by omega
    clear hi
    go_enter Try.func16, Try.ntmps16
    go_wp2_with fail
    go_step3
    go_wp2
    rw [Exit.noGoto_ret]
    go_returns
    exact ⟨rfl, rfl⟩

theorem down_zero (gc gn : Nat) (l : List Int) (i : Nat) (w : World) (h : Cnt w gc gn l) (hi : i < l.length) (hs : l.length ≤ 65536) (hz : l[i] = 0) :
    Calls Try.prog 16 #[.pointer (some ⟨gc, 0, none⟩), .int .i64 i] w fun r w' => r = .returned (.tuple #[.int .i64 0, .int .i64 3]) ∧ w = w' := by
  have c1 : w.cell? ⟨gc, 0, none⟩ = some (.slice (some ⟨gn, 0, none⟩) l.length l.length) := h.box.cell 0
  have c0 : w.cell? ⟨gn, i, none⟩ = some (.int .i64 0) := by rw [blk_int h.row hi, hz]
  clear hz
  go_enter Try.func16, Try.ntmps16
  go_wp2_with fail
  go_step3
  go_wp2_with fail
  go_step3
  go_wp2_with fail
  refine (load_any _ _ _ _ c0).mono ?_
  rintro r w2 ⟨rfl, rfl⟩
  go_wp2
  rw [Exit.noGoto_ret]
  go_returns
  exact ⟨rfl, rfl⟩

theorem down_ok (gc gn : Nat) (l : List Int) (i : Nat) (w : World) (h : Cnt w gc gn l) (hi : i < l.length) (hs : l.length ≤ 65536) {x : Int} (hx : l[i] = x) (h0 : 0 < x) (h1 : x ≤ 9223372036854775807) :
    Calls Try.prog 16 #[.pointer (some ⟨gc, 0, none⟩), .int .i64 i] w fun r w' => r = .returned (.tuple #[.int .i64 (x - 1), .int .i64 0]) ∧ Cnt w' gc gn (l.set i (x - 1)) ∧ w.grownBy w' (some gn) := by
  have c1 : w.cell? ⟨gc, 0, none⟩ = some (.slice (some ⟨gn, 0, none⟩) l.length l.length) := h.box.cell 0
  have c0 : w.cell? ⟨gn, i, none⟩ = some (.int .i64 x) := by rw [blk_int h.row hi, hx]
  have f0 := h.row.frozen i
  have hne : (x == 0) = false := by simp; omega
  clear hx
  go_enter Try.func16, Try.ntmps16
  go_wp2_with fail
  go_step3
  go_wp2_with fail
  go_step3
  go_wp2_with fail
  refine (load_any _ _ _ _ c0).mono ?_
  rintro r w2 ⟨rfl, rfl⟩
  go_wp2_with fail
  refine (cas_hit _ _ _ _ _ c0 f0).mono ?_
  rintro r w2 ⟨rfl, rfl⟩
  go_wp2
  rw [Exit.noGoto_ret]
  go_returns
  refine ⟨rfl, ⟨?_, blk_int_set h.row i _, h.ne⟩, grownBy_set _ rfl _⟩
  rw [List.length_set]
  exact h.box.far (p := ⟨gn, i, none⟩) h.ne _

theorem left_arg (gc gn : Nat) (l : List Int) (i : Int) (w : World) (h : Cnt w gc gn l) (hi : i < 0 ∨ (l.length : Int) ≤ i) :
    Calls Try.prog 18 #[.pointer (some ⟨gc, 0, none⟩), .int .i64 i] w fun r w' => r = .returned (.tuple #[.int .i64 0, .int .i64 1]) ∧ w = w' := by
  have c1 : w.cell? ⟨gc, 0, none⟩ = some (.slice (some ⟨gn, 0, none⟩) l.length l.length) := h.box.cell 0
  by_cases h1 : i < 0
  · go_enter Try.func18, Try.ntmps18
    go_wp2
    go_returns
    exact ⟨rfl, rfl⟩
  · have h2 : (l.length : Int) ≤ i := by omega
    clear hi
    go_enter Try.func18, Try.ntmps18
    go_wp2
    go_returns
    exact ⟨rfl, rfl⟩

theorem left_ok (gc gn : Nat) (l : List Int) (i : Nat) (w : World) (h : Cnt w gc gn l) (hi : i < l.length) (hs : l.length ≤ 65536) {x : Int} (hx : l[i] = x) (h0 : 0 ≤ x) (h1 : x ≤ 9223372036854775807) :
    Calls Try.prog 18 #[.pointer (some ⟨gc, 0, none⟩), .int .i64 i] w fun r w' => r = .returned (.tuple #[.int .i64 x, .int .i64 0]) ∧ w = w' := by
  have c1 : w.cell? ⟨gc, 0, none⟩ = some (.slice (some ⟨gn, 0, none⟩) l.length l.length) := h.box.cell 0
  have c0 : w.cell? ⟨gn, i, none⟩ = some (.int .i64 x) := by rw [blk_int h.row hi, hx]
  clear hx
  go_enter Try.func18, Try.ntmps18
  go_wp2_with fail
  refine (load_any _ _ _ _ c0).mono ?_
  rintro r w2 ⟨rfl, rfl⟩
  go_wp2
  go_returns
  exact ⟨rfl, rfl⟩
end Go.Proofs.Ytcgchcngiebgpaa
