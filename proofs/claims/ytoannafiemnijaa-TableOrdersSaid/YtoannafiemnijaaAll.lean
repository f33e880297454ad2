/- All. -/
import Derived.Test.YtoannafiemnijaaLeft
import Derived.Test.YtoannafiemnijaaRowsS
namespace Go.Proofs.Ytoannafiemnijaa
open Go.RowKit

def allB {V : Type} (st : Nat → Option V) (n : Nat) : Bool := decide (left st n = 0)
theorem left_zero {V : Type} (st : Nat → Option V) : ∀ n, left st n = 0 → ∀ i, i < n → (st i).isSome = true
  | 0, _, i, hi => absurd hi (by omega)
  | n + 1, h, i, hi => by
    unfold left at h
    by_cases e : i = n
    · subst e
      cases hs : (st i).isSome
      · simp [hs] at h
      · rfl
    · exact left_zero st n (by omega) i (by omega)
theorem left_pos {V : Type} (st : Nat → Option V) : ∀ n i, i < n → st i = none → 0 < left st n
  | 0, i, hi, _ => absurd hi (by omega)
  | n + 1, i, hi, h => by
    unfold left
    by_cases e : i = n
    · subst e; simp [h]
    · have := left_pos st n i (by omega) h; omega
theorem left_ex {V : Type} (st : Nat → Option V) : ∀ n, 0 < left st n → ∃ i, i < n ∧ st i = none
  | 0, h => absurd h (by simp [left])
  | n + 1, h => by
    unfold left at h
    cases hs : st n with
    | none => exact ⟨n, by omega, hs⟩
    | some u =>
      obtain ⟨i, hi, e⟩ := left_ex st n (by simpa [hs] using h)
      exact ⟨i, by omega, e⟩

theorem all_short_P (gt gm gc n : Nat) (st : Nat → Option (Int × ByteArray)) (w : World) (h : Tab kP w gt gm gc n st) (hl : 0 < left st n) :
    Calls Try.prog 18 #[.pointer (some ⟨gt, 0, none⟩)] w fun r w' => r = .returned (.tuple #[.slice none 0 0, .int .i64 4]) ∧ w = w' := by
  have hn := h.le
  have b0 := hide (h.box.cell 0)
  obtain ⟨j, hj, hs⟩ := left_ex st n hl
  have HS := hide hs
  clear hs hl
  go_enter Try.func18, Try.ntmps18
  have c0 := b0.out
  go_wp2
  go_loop [12] (fun i => ∃ k : Nat, k ≤ j ∧ i = .int .i64 k) (fun i => n - (intOf i).toNat)
  case atStart => exact ⟨0, Nat.zero_le _, rfl⟩
  case round =>
    obtain ⟨k, hk, rfl⟩ := hrel
    have hlt : k < n := by omega
    have m0 := hide (h.mark_at hlt)
    go_wp2_with fail
    cases hs : st k with
    | none =>
      rw [hs] at m0
      have HK := hide hs
      clear hs
      refine (load32_any _ _ 0 _ m0.out).mono ?_
      rintro r w2 ⟨rfl, rfl⟩
      go_wp2_with fail
      go_returns
      exact ⟨rfl, rfl⟩
    | some u =>
      rw [hs] at m0
      have hne : k ≠ j := by rintro rfl; rw [HS.out] at hs; cases hs
      clear hs
      refine (load32_any _ _ 2 _ m0.out).mono ?_
      rintro r w2 ⟨rfl, rfl⟩
      go_wp2_with fail
      go_round
      case rel => exact ⟨k + 1, by omega, by go_num⟩
      case measure => simp [intOf]; omega
theorem all_short_I (gt gm gc n : Nat) (st : Nat → Option (Int)) (w : World) (h : Tab kI w gt gm gc n st) (hl : 0 < left st n) :
    Calls Try.prog 22 #[.pointer (some ⟨gt, 0, none⟩)] w fun r w' => r = .returned (.tuple #[.slice none 0 0, .int .i64 4]) ∧ w = w' := by
  have hn := h.le
  have b0 := hide (h.box.cell 0)
  obtain ⟨j, hj, hs⟩ := left_ex st n hl
  have HS := hide hs
  clear hs hl
  go_enter Try.func22, Try.ntmps22
  have c0 := b0.out
  go_wp2
  go_loop [12] (fun i => ∃ k : Nat, k ≤ j ∧ i = .int .i64 k) (fun i => n - (intOf i).toNat)
  case atStart => exact ⟨0, Nat.zero_le _, rfl⟩
  case round =>
    obtain ⟨k, hk, rfl⟩ := hrel
    have hlt : k < n := by omega
    have m0 := hide (h.mark_at hlt)
    go_wp2_with fail
    cases hs : st k with
    | none =>
      rw [hs] at m0
      have HK := hide hs
      clear hs
      refine (load32_any _ _ 0 _ m0.out).mono ?_
      rintro r w2 ⟨rfl, rfl⟩
      go_wp2_with fail
      go_returns
      exact ⟨rfl, rfl⟩
    | some u =>
      rw [hs] at m0
      have hne : k ≠ j := by rintro rfl; rw [HS.out] at hs; cases hs
      clear hs
      refine (load32_any _ _ 2 _ m0.out).mono ?_
      rintro r w2 ⟨rfl, rfl⟩
      go_wp2_with fail
      go_round
      case rel => exact ⟨k + 1, by omega, by go_num⟩
      case measure => simp [intOf]; omega

def pc (v : Int × ByteArray) : List Value := [.int .i64 v.1, .string v.2]
def ic (v : Int) : List Value := [.int .i64 v]
def vals {V : Type} (z : V) (st : Nat → Option V) (n : Nat) : List V := (List.range n).map fun i => (st i).getD z
theorem vals_len {V : Type} (z : V) (st : Nat → Option V) (n : Nat) : (vals z st n).length = n := by simp [vals]
theorem vals_get {V : Type} (z : V) (st : Nat → Option V) (n i : Nat) (h : i < (vals z st n).length) : (vals z st n)[i] = (st i).getD z := by simp [vals]
theorem pc_len (L : List (Int × ByteArray)) : ∀ x ∈ L.map pc, x.length = 2 := by
  intro x hx; rw [List.mem_map] at hx; obtain ⟨y, _, rfl⟩ := hx; rfl
theorem ic_len (L : List Int) : ∀ x ∈ L.map ic, x.length = 1 := by
  intro x hx; rw [List.mem_map] at hx; obtain ⟨y, _, rfl⟩ := hx; rfl
theorem pc_one (L : List (Int × ByteArray)) : ∀ u ∈ L.map pc, ∀ z ∈ u, z.oneCell' = true := by
  intro x hx; rw [List.mem_map] at hx; obtain ⟨y, _, rfl⟩ := hx; intro z hz; simp [pc] at hz; rcases hz with rfl | rfl <;> rfl
theorem ic_one (L : List Int) : ∀ u ∈ L.map ic, ∀ z ∈ u, z.oneCell' = true := by
  intro x hx; rw [List.mem_map] at hx; obtain ⟨y, _, rfl⟩ := hx; intro z hz; simp [ic] at hz; subst hz; rfl
theorem Mat.rowS {w : World} {g n sz : Nat} {t : TypeId} {F : Nat → Nat → Value} (h : Mat w g t n sz F) {L : List (List Value)} (hL : L.length = n) (hn : n ≤ 9223372036854775807) (hl : ∀ x ∈ L, x.length = sz)
    (he : ∀ i (hi : i < L.length) j (hj : j < L[i].length), F i j = L[i][j]) : RowS w (some ⟨g, 0, none⟩) sz L :=
  ⟨by omega, fun _ => ⟨g, 0, rfl, h.lt, fun i hi j hj => by
    rw [show 0 + i * sz + j = i * sz + j from by omega, h.cell (by omega) (by rw [← hl _ (List.getElem_mem hi)]; exact hj), he i hi j hj]⟩⟩
theorem Tab.rowP {w : World} {gt gm gc n : Nat} {st : Nat → Option (Int × ByteArray)} (h : Tab kP w gt gm gc n st) : RowS w (some ⟨gc, 0, none⟩) 2 ((vals (0, ByteArray.empty) st n).map pc) :=
  h.cells.rowS (by simp [vals_len]) (by have := h.le; omega) (pc_len _) (fun i hi j hj => by
    simp only [List.getElem_map, vals_get] at hj ⊢
    match j, hj with
    | 0, _ => rfl
    | 1, _ => rfl)
theorem Tab.rowI {w : World} {gt gm gc n : Nat} {st : Nat → Option Int} (h : Tab kI w gt gm gc n st) : RowS w (some ⟨gc, 0, none⟩) 1 ((vals 0 st n).map ic) :=
  h.cells.rowS (by simp [vals_len]) (by have := h.le; omega) (ic_len _) (fun i hi j hj => by
    simp only [List.getElem_map, vals_get] at hj ⊢
    match j, hj with
    | 0, _ => rfl)

def AllPost {V : Type} (E sz : Nat) (f : V → List Value) (L : List V) (w : World) (r : Ending) (w' : World) : Prop :=
  ∃ v, r = .returned (.tuple #[v, .int .i64 0]) ∧ w'.ownsRow w.heap.size E sz v L.length (L.map f).flatten ∧ Below w.heap.size w w'

theorem all_full_P (gt gm gc n : Nat) (st : Nat → Option (Int × ByteArray)) (w : World) (h : Tab kP w gt gm gc n st) (hl : left st n = 0) :
    Calls Try.prog 18 #[.pointer (some ⟨gt, 0, none⟩)] w (AllPost 30 2 pc (vals (0, ByteArray.empty) st n) w) := by
  have hn := h.le
  obtain ⟨i0, hi, hz0, hz1, hz2⟩ := info_parts info30
  have b0 := hide (h.box.cell 0)
  have b1 := hide (h.box.cell 1)
  have HS := hide (left_zero st n hl)
  clear hl
  have hown := hide (World.ownsRow_nil w w.heap.size 30 2)
  have hrow := hide h.rowP
  have hvl := hide (vals_len (0, ByteArray.empty) st n)
  go_enter Try.func18, Try.ntmps18
  have c0 := b0.out
  go_wp2
  go_loop [12] (fun i => ∃ k : Nat, k ≤ n ∧ i = .int .i64 k) (fun i => n - (intOf i).toNat)
  case atStart => exact ⟨0, Nat.zero_le _, rfl⟩
  case round =>
    obtain ⟨k, hk, rfl⟩ := hrel
    by_cases hlt : k < n
    · have m0 := hide (h.mark_at hlt)
      have hs := HS.out k hlt
      go_wp2_with fail
      cases hs' : st k with
      | none => rw [hs'] at hs; cases hs
      | some u =>
        rw [hs'] at m0
        clear hs hs'
        refine (load32_any _ _ 2 _ m0.out).mono ?_
        rintro r w2 ⟨rfl, rfl⟩
        go_wp2_with fail
        go_round
        case rel => exact ⟨k + 1, by omega, by go_num⟩
        case measure => simp [intOf]; omega
    · have c1 := b1.out
      go_wp2_with (at_builtin; refine wpList_append_rows rfl _ _ 43 rfl w.heap.size 30 i0 (.agg #[.int .i64 0, .string ByteArray.empty]) 2 24 Try.underlying43 hi hz0 hz1 hz2 rfl (by decide) _ _ _ rfl hown.out (some ⟨gc, 0, none⟩) n n _ rfl hrow.out (by rw [List.length_map]; exact hvl.out) (pc_len _) (pc_one _) ?c1 ?c2 (Nat.le_refl _) ?_)
      case c1 => unfold maxLen; omega
      case c2 => omega
      intro v' w1 hown' hgrow _
      (try simp only [List.nil_append, Nat.zero_add] at hown')
      have HO := hide hown'
      have HB := hide (below_grown (a := w) (Below.refl _ _) hgrow (by simp [Value.ownBlock]))
      clear hown' hgrow
      go_wp2_with fail
      go_returns
      exact ⟨_, rfl, by rw [hvl.out]; exact HO.out, HB.out⟩

theorem all_full_I (gt gm gc n : Nat) (st : Nat → Option (Int)) (w : World) (h : Tab kI w gt gm gc n st) (hl : left st n = 0) :
    Calls Try.prog 22 #[.pointer (some ⟨gt, 0, none⟩)] w (AllPost 2 1 ic (vals 0 st n) w) := by
  have hn := h.le
  obtain ⟨i0, hi, hz0, hz1, hz2⟩ := info_parts info2
  have b0 := hide (h.box.cell 0)
  have b1 := hide (h.box.cell 1)
  have HS := hide (left_zero st n hl)
  clear hl
  have hown := hide (World.ownsRow_nil w w.heap.size 2 1)
  have hrow := hide h.rowI
  have hvl := hide (vals_len 0 st n)
  go_enter Try.func22, Try.ntmps22
  have c0 := b0.out
  go_wp2
  go_loop [12] (fun i => ∃ k : Nat, k ≤ n ∧ i = .int .i64 k) (fun i => n - (intOf i).toNat)
  case atStart => exact ⟨0, Nat.zero_le _, rfl⟩
  case round =>
    obtain ⟨k, hk, rfl⟩ := hrel
    by_cases hlt : k < n
    · have m0 := hide (h.mark_at hlt)
      have hs := HS.out k hlt
      go_wp2_with fail
      cases hs' : st k with
      | none => rw [hs'] at hs; cases hs
      | some u =>
        rw [hs'] at m0
        clear hs hs'
        refine (load32_any _ _ 2 _ m0.out).mono ?_
        rintro r w2 ⟨rfl, rfl⟩
        go_wp2_with fail
        go_round
        case rel => exact ⟨k + 1, by omega, by go_num⟩
        case measure => simp [intOf]; omega
    · have c1 := b1.out
      go_wp2_with (at_builtin; refine wpList_append_rows rfl _ _ 55 rfl w.heap.size 2 i0 (.int .i64 0) 1 8 Try.underlying55 hi hz0 hz1 hz2 rfl (by decide) _ _ _ rfl hown.out (some ⟨gc, 0, none⟩) n n _ rfl hrow.out (by rw [List.length_map]; exact hvl.out) (ic_len _) (ic_one _) ?c1 ?c2 (Nat.le_refl _) ?_)
      case c1 => unfold maxLen; omega
      case c2 => omega
      intro v' w1 hown' hgrow _
      (try simp only [List.nil_append, Nat.zero_add] at hown')
      have HO := hide hown'
      have HB := hide (below_grown (a := w) (Below.refl _ _) hgrow (by simp [Value.ownBlock]))
      clear hown' hgrow
      go_wp2_with fail
      go_returns
      exact ⟨_, rfl, by rw [hvl.out]; exact HO.out, HB.out⟩
end Go.Proofs.Ytoannafiemnijaa
