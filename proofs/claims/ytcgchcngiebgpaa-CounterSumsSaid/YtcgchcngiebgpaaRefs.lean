/- walks of the reference of the layer counter: its counters. -/
import Derived.Test.YtcgchcngiebgpaaAnchor
import Derived.Test.YtcgchcngiebgpaaApp
namespace Go.Proofs.Ytcgchcngiebgpaa
open Go.RowKit

/-- The reference's counters in memory. -/
def RC (w : World) (gr gs : Nat) (l : List Int) : Prop :=
  ∃ cap cur, Blk w gr 64 #[.slice (some ⟨gs, 0, none⟩) l.length cap] ∧ Blk w gs 3 cur ∧ l.length ≤ cap ∧ cap ≤ maxLen ∧ cur.toList.take l.length = ints l ∧ gr ≠ gs

theorem RC.below {w w' : World} {gr gs : Nat} {l : List Int} (h : RC w gr gs l) (hb : Below w.heap.size w w') : RC w' gr gs l := by
  obtain ⟨cap, cur, h1, h2, r⟩ := h
  exact ⟨cap, cur, h1.below hb h1.lt, h2.below hb h2.lt, r⟩
theorem RC.grown {w w' : World} {gr gs g : Nat} {l : List Int} (h : RC w gr gs l) (hb : w.grownBy w' (some g)) (h1 : gr ≠ g) (h2 : gs ≠ g) : RC w' gr gs l := by
  obtain ⟨cap, cur, k1, k2, r⟩ := h
  exact ⟨cap, cur, k1.grown hb (by simpa using h1), k2.grown hb (by simpa using h2), r⟩
theorem RC.lt {w : World} {gr gs : Nat} {l : List Int} (h : RC w gr gs l) : gr < w.heap.size ∧ gs < w.heap.size := by
  obtain ⟨cap, cur, k1, k2, r⟩ := h
  exact ⟨k1.lt, k2.lt⟩
theorem RC.cell {w : World} {gr gs : Nat} {l : List Int} (h : RC w gr gs l) {i : Nat} (hi : i < l.length) : w.cell? ⟨gs, i, none⟩ = some (.int .i64 l[i]) := by
  obtain ⟨cap, cur, _, k2, _, _, ht, _⟩ := h
  rw [k2.cell]
  have : (cur.toList.take l.length)[i]? = (ints l)[i]? := by rw [ht]
  rw [List.getElem?_take_of_lt hi] at this
  rw [← Array.getElem?_toList, this]
  simp [ints, hi]
theorem RC.frozen {w : World} {gr gs : Nat} {l : List Int} (h : RC w gr gs l) (i : Nat) : w.frozen? ⟨gs, i, none⟩ = false := by
  obtain ⟨cap, cur, _, k2, _⟩ := h
  exact k2.frozen i
theorem RC.set_ {w : World} {gr gs : Nat} {l : List Int} (h : RC w gr gs l) (i : Nat) (x : Int) : RC (w.setCell ⟨gs, i, none⟩ (.int .i64 x)) gr gs (l.set i x) := by
  obtain ⟨cap, cur, k1, k2, h1, h2, ht, hne⟩ := h
  refine ⟨cap, cur.setIfInBounds i (.int .i64 x), ?_, k2.set_ i _, by rw [List.length_set]; exact h1, h2, ?_, hne⟩
  · rw [List.length_set]; exact k1.far (p := ⟨gs, i, none⟩) hne _
  · rw [List.length_set, Array.toList_setIfInBounds, List.take_set, ht]
    simp [ints, List.map_set]

theorem ref_new_many (a : Option Addr) (n cap : Nat) (w : World) (hn : 65536 < n) :
    Calls Try.prog 15 #[.slice a n cap] w fun r w' => r = .returned (.tuple #[.pointer none, .int .i64 1]) ∧ w = w' := by
  go_enter Try.func15, Try.ntmps15
  go_wp2
  go_returns
  exact ⟨rfl, rfl⟩

theorem ref_new_neg (a : Option Addr) (l : List Int) (n cap : Nat) (w : World) (h : Row w a (ints l)) (hn : n = l.length) (hs : l.length ≤ 65536) (j : Nat) (hj : j < l.length) (hneg : l[j] < 0) :
    Calls Try.prog 15 #[.slice a n cap] w fun r w' => r = .returned (.tuple #[.pointer none, .int .i64 1]) ∧ w = w' := by
  subst hn
  obtain ⟨b, off, rfl, hb, hcell⟩ := row_int h (by omega)
  go_enter Try.func15, Try.ntmps15
  go_wp2
  go_loop [4] (fun i => ∃ k : Nat, k ≤ j ∧ i = .int .i64 k) (fun i => l.length - (intOf i).toNat)
  case atStart => exact ⟨0, Nat.zero_le _, rfl⟩
  case round =>
    obtain ⟨k, hk, rfl⟩ := hrel
    have hlt : k < l.length := by omega
    have hc := hcell k hlt
    clear hcell
    by_cases hx : l[k] < 0
    · go_wp2
      go_returns
      exact ⟨rfl, rfl⟩
    · have hne : k ≠ j := by rintro rfl; exact hx hneg
      go_wp2
      go_round
      case rel => exact ⟨k + 1, by omega, by go_num⟩
      case measure => simp [intOf]; omega

theorem info3 : (Try.prog.info? 3).map (fun i => (i.zero, i.size, i.bytes)) = some (some (.int .i64 0), 1, 8) := by kernel_rfl

theorem ref_new_ok (a : Option Addr) (l : List Int) (n cap : Nat) (w : World) (h : Row w a (ints l)) (hn : n = l.length) (hs : l.length ≤ 65536) (hpos : ∀ x ∈ l, 0 ≤ x) :
    Calls Try.prog 15 #[.slice a n cap] w fun r w' => ∃ gr gs, r = .returned (.tuple #[.pointer (some ⟨gr, 0, none⟩), .int .i64 0]) ∧ RC w' gr gs l ∧ w.heap.size ≤ gr ∧ w.heap.size ≤ gs ∧ Below w.heap.size w w' := by
  subst hn
  obtain ⟨i0, hi, hz0, hz1, hz2⟩ := info_parts info3
  go_enter Try.func15, Try.ntmps15
  go_wp2
  go_loop [4] (fun i => ∃ k : Nat, k ≤ l.length ∧ i = .int .i64 k) (fun i => l.length - (intOf i).toNat)
  case atStart => exact ⟨0, Nat.zero_le _, rfl⟩
  case round =>
    obtain ⟨k, hk, rfl⟩ := hrel
    by_cases hlt : k < l.length
    · obtain ⟨b, off, rfl, hb, hcell⟩ := row_int h (by omega)
      have hc := hcell k hlt
      have hx := hpos l[k] (List.getElem_mem hlt)
      clear hcell
      have hx' : ¬ l[k] < 0 := by omega
      go_wp2
      go_round
      case rel => exact ⟨k + 1, by omega, by go_num⟩
      case measure => simp [intOf]; omega
    · have : k = l.length := by omega
      subst this
      have hown : (w.alloc (.cells #[] 3)).ownsRow w.heap.size 3 1 (.slice (some ⟨w.heap.size, 0, none⟩) 0 0) 0 [] := World.ownsRow_made w #[] 0 (Nat.le_refl _) (by simp) rfl
      have HO := hide hown
      clear hown
      go_wp2_with (at_builtin; refine wpList_append_row rfl _ _ 43 rfl w.heap.size 3 i0 (.int .i64 0) 8 Try.underlying43 hi hz0 hz1 hz2 rfl _ _ _ rfl HO.out a l.length cap (ints l) rfl (h.below ((Below.refl _ _).alloc (Nat.le_refl _) _)) (ints_len l) (ints_one l) ?c1 ?c2 ?c3 ?_)
      case c1 => unfold maxLen; omega
      case c2 => omega
      intro v' w1 hown' hgrow hnil
      have t1 : Below w.heap.size w w1 := below_grown (a := w) (by go_grown) hgrow (own_ge HO.out)
      have hv : ∃ g c cur, v' = .slice (some ⟨g, 0, none⟩) l.length c ∧ w.heap.size ≤ g ∧ Blk w1 g 3 cur ∧ l.length ≤ c ∧ c ≤ maxLen ∧ cur.toList.take l.length = ints l := by
        rcases hown'.2 with ⟨h1, _⟩ | ⟨g, c, cur, h1, h2, h3, h4, h5, _, h6⟩
        · exact absurd h1 (by first | exact hnil | (intro hh; exact absurd (hnil.1 hh).1 (by simp)))
        · exact ⟨g, c, cur, by simpa using h1, h2, h3, by omega, h5, by simpa using h6⟩
      obtain ⟨g, c, cur, hv, hg, hB, hc1, hc2, htk⟩ := hv
      have Hm := hide hc2
      have Ht := hide htk
      clear hown' hgrow hnil HO hc2 htk
      rw [hv]
      have s1 := t1.size
      have hgl := hB.lt
      go_wp2
      go_returns
      refine ⟨w1.heap.size, g, rfl, ⟨c, cur, Blk.new _ _ _, hB.alloc _, hc1, Hm.out, Ht.out, by omega⟩, s1, hg, by go_grown⟩

theorem rdown_arg (gr gs : Nat) (l : List Int) (i : Int) (w : World) (h : RC w gr gs l) (hi : i < 0 ∨ (l.length : Int) ≤ i) :
    Calls Try.prog 17 #[.pointer (some ⟨gr, 0, none⟩), .int .i64 i] w fun r w' => r = .returned (.tuple #[.int .i64 0, .int .i64 1]) ∧ w = w' := by
  obtain ⟨cap, cur, k1, k2, _⟩ := h
  have c1 : w.cell? ⟨gr, 0, none⟩ = some (.slice (some ⟨gs, 0, none⟩) l.length cap) := k1.cell 0
  by_cases h1 : i < 0
  · go_enter Try.func17, Try.ntmps17
    go_wp2
    go_returns
    exact ⟨rfl, rfl⟩
  · have h2 : (l.length : Int) ≤ i := by omega
    clear hi
    go_enter Try.func17, Try.ntmps17
    go_wp2
    go_returns
    exact ⟨rfl, rfl⟩
theorem rdown_zero (gr gs : Nat) (l : List Int) (i : Nat) (w : World) (h : RC w gr gs l) (hi : i < l.length) (hs : l.length ≤ 65536) (hz : l[i] = 0) :
    Calls Try.prog 17 #[.pointer (some ⟨gr, 0, none⟩), .int .i64 i] w fun r w' => r = .returned (.tuple #[.int .i64 0, .int .i64 3]) ∧ w = w' := by
  have c0 := h.cell hi
  rw [hz] at c0
  obtain ⟨cap, cur, k1, k2, _⟩ := h
  have c1 : w.cell? ⟨gr, 0, none⟩ = some (.slice (some ⟨gs, 0, none⟩) l.length cap) := k1.cell 0
  clear hz
  go_enter Try.func17, Try.ntmps17
  go_wp2
  go_returns
  exact ⟨rfl, rfl⟩
theorem rdown_ok (gr gs : Nat) (l : List Int) (i : Nat) (w : World) (h : RC w gr gs l) (hi : i < l.length) (hs : l.length ≤ 65536) {x : Int} (hx : l[i] = x) (h0 : 0 < x) (h1 : x ≤ 9223372036854775807) :
    Calls Try.prog 17 #[.pointer (some ⟨gr, 0, none⟩), .int .i64 i] w fun r w' => r = .returned (.tuple #[.int .i64 (x - 1), .int .i64 0]) ∧ RC w' gr gs (l.set i (x - 1)) ∧ w.grownBy w' (some gs) := by
  have c0 := h.cell hi
  rw [hx] at c0
  have f0 := h.frozen i
  have H := hide h
  have c2 : (w.setCell ⟨gs, i, none⟩ (.int .i64 (x - 1))).cell? ⟨gs, i, none⟩ = some (.int .i64 (x - 1)) := by
    have := (h.set_ i (x - 1)).cell (i := i) (by rw [List.length_set]; exact hi)
    rw [this, List.getElem_set_self]
  obtain ⟨cap, cur, k1, k2, _, _, _, hne⟩ := h
  have c1 : w.cell? ⟨gr, 0, none⟩ = some (.slice (some ⟨gs, 0, none⟩) l.length cap) := k1.cell 0
  have hxx : (x == 0) = false := by simp; omega
  have hne' : ¬ gr = gs := hne
  clear hx
  go_enter Try.func17, Try.ntmps17
  go_wp2
  go_returns
  exact ⟨rfl, H.out.set_ i _, grownBy_set _ rfl _⟩
theorem rleft_arg (gr gs : Nat) (l : List Int) (i : Int) (w : World) (h : RC w gr gs l) (hi : i < 0 ∨ (l.length : Int) ≤ i) :
    Calls Try.prog 19 #[.pointer (some ⟨gr, 0, none⟩), .int .i64 i] w fun r w' => r = .returned (.tuple #[.int .i64 0, .int .i64 1]) ∧ w = w' := by
  obtain ⟨cap, cur, k1, k2, _⟩ := h
  have c1 : w.cell? ⟨gr, 0, none⟩ = some (.slice (some ⟨gs, 0, none⟩) l.length cap) := k1.cell 0
  by_cases h1 : i < 0
  · go_enter Try.func19, Try.ntmps19
    go_wp2
    go_returns
    exact ⟨rfl, rfl⟩
  · have h2 : (l.length : Int) ≤ i := by omega
    clear hi
    go_enter Try.func19, Try.ntmps19
    go_wp2
    go_returns
    exact ⟨rfl, rfl⟩
theorem rleft_ok (gr gs : Nat) (l : List Int) (i : Nat) (w : World) (h : RC w gr gs l) (hi : i < l.length) (hs : l.length ≤ 65536) {x : Int} (hx : l[i] = x) :
    Calls Try.prog 19 #[.pointer (some ⟨gr, 0, none⟩), .int .i64 i] w fun r w' => r = .returned (.tuple #[.int .i64 x, .int .i64 0]) ∧ w = w' := by
  have c0 := h.cell hi
  rw [hx] at c0
  obtain ⟨cap, cur, k1, k2, _⟩ := h
  have c1 : w.cell? ⟨gr, 0, none⟩ = some (.slice (some ⟨gs, 0, none⟩) l.length cap) := k1.cell 0
  clear hx
  go_enter Try.func19, Try.ntmps19
  go_wp2
  go_returns
  exact ⟨rfl, rfl⟩
end Go.Proofs.Ytcgchcngiebgpaa
