/- Walks: events in memory; may a log be. -/
import Derived.Test.YtffpphnjokmffaaRows
import Derived.Test.YtffpphnjokmffaaHbRace
import Derived.Test.YtffpphnjokmffaaRegA
import Derived.WalkMore
namespace Go.Proofs.Ytffpphnjokmffaa
open Go.RowKit

@[go_sem high] theorem run_max2 {P : Program} {w : World} (ts : Array TypeId) (t : TypeId) (k k' : IntKind) (x y : Int) : (Builtin.max_ ts t #[.int k x, .int k' y]).run P w = .ok (.int k (max x y)) w := by
  rw [run_max_int2]
  congr 2
  simp only [Int.max_def]
  split <;> split <;> omega
@[go_sem high] theorem run_min2 {P : Program} {w : World} (ts : Array TypeId) (t : TypeId) (k k' : IntKind) (x y : Int) : (Builtin.min_ ts t #[.int k x, .int k' y]).run P w = .ok (.int k (min x y)) w := by
  rw [run_min_int2]
  congr 2
  simp only [Int.min_def]
  split <;> split <;> omega
def ecell (e : Ev) : List Value := [.int .i64 e.w, .int .u8 e.k, .int .i64 e.c]
def eagg (e : Ev) : Value := .agg #[.int .i64 e.w, .int .u8 e.k, .int .i64 e.c]
def ERow (w : World) (a : Option Addr) (l : List Ev) : Prop := RowS w a 3 (l.map ecell)
theorem ERow.below {w w' : World} {a : Option Addr} {l : List Ev} (h : ERow w a l) (hb : Below w.heap.size w w') : ERow w' a l := RowS.below h hb
theorem ERow.len {w : World} {a : Option Addr} {l : List Ev} (h : ERow w a l) : l.length ≤ 9223372036854775807 := by have := RowS.mono_len h; rwa [List.length_map] at this
theorem e_at {w : World} {a : Option Addr} {l : List Ev} (h : ERow w a l) (hp : 0 < l.length) : ∃ b off, a = some ⟨b, off, none⟩ ∧ b < w.heap.size ∧
    ∀ i (hi : i < l.length), w.cell? ⟨b, off + i * 3, none⟩ = some (.int .i64 l[i].w) ∧ w.cell? ⟨b, off + i * 3 + 1, none⟩ = some (.int .u8 l[i].k) ∧ w.cell? ⟨b, off + i * 3 + 2, none⟩ = some (.int .i64 l[i].c) := by
  obtain ⟨b, off, ha, hb, hc⟩ := RowS.at_ h (by simpa using hp)
  refine ⟨b, off, ha, hb, fun i hi => ⟨?_, ?_, ?_⟩⟩
  · have := hc i (by simpa using hi) 0 (by simp [ecell]); simpa [ecell] using this
  · have := hc i (by simpa using hi) 1 (by simp [ecell]); simpa [ecell] using this
  · have := hc i (by simpa using hi) 2 (by simp [ecell]); simpa [ecell] using this
structure EvOk (n : Int) (e : Ev) : Prop where
  w : 0 ≤ e.w ∧ e.w < n
  c : 0 ≤ e.c
  k : 1 ≤ e.k ∧ e.k ≤ 6
structure LogOk (n : Int) (l : List Ev) : Prop where
  nb : 1 ≤ n ∧ n ≤ 65
  lb : l.length ≤ 65536
  ev : ∀ x ∈ l, EvOk n x
def BPost (x : Bool) (w : World) (r : Ending) (w' : World) : Prop := r = .returned (.bool x) ∧ Below w.heap.size w w'

set_option maxHeartbeats 1000000 in
theorem right_yes (a : Option Addr) (l : List Ev) (c : Nat) (n : Int) (w : World) (hr : ERow w a l) (hM : LogOk n l) : Calls Try.prog 23 #[.int .i64 n, .slice a l.length c] w (BPost true w) := by
  obtain ⟨⟨hn1, hn2⟩, hl, he⟩ := hM
  have hlen := hr.len
  have HE := hide he
  clear he
  have d0 : decide (n < 1) = false := by simp; omega
  have d1 : decide (65 < n) = false := by simp; omega
  have d2 : decide (65536 < (l.length : Int)) = false := by simp; omega
  go_enter Try.func23, Try.ntmps23
  go_wp2_with fail
  clear d0 d1 d2
  go_loopw [20] (fun i wr => ∃ j : Nat, j ≤ l.length ∧ i = .int .i64 j ∧ Below w.heap.size w wr) (fun i _ => l.length - (intOf i).toNat)
  case atStart => exact ⟨0, Nat.zero_le _, rfl, Below.refl _ _⟩
  case round =>
    obtain ⟨j, hj, rfl, hbel⟩ := hrel
    have t := hide hbel
    clear hbel
    by_cases hlt : j < l.length
    · obtain ⟨b, off, rfl, hb, hc⟩ := e_at (hr.below t.out) (by omega)
      obtain ⟨x0, x1, x2⟩ := hc j hlt
      clear hc
      obtain ⟨⟨p1, p2⟩, p3, p4, p5⟩ := HE.out _ (List.getElem_mem hlt)
      generalize l[j] = z at x0 x1 x2 p1 p2 p3 p4 p5
      have e1 : decide (z.w < 0) = false := by simp; omega
      have e2 : decide (n ≤ z.w) = false := by simp; omega
      have e3 : decide (z.c < 0) = false := by simp; omega
      have e4 : decide (z.k < 1) = false := by simp; omega
      have e5 : decide (6 < z.k) = false := by simp; omega
      go_wp2_with fail
      go_roundw
      case rel => exact ⟨j + 1, hlt, by go_num, t.out.alloc t.out.size _⟩
      case measure => simp [intOf]; omega
    · go_wp2_with fail
      go_returns
      exact ⟨rfl, t.out⟩
set_option maxHeartbeats 1000000 in
theorem right_no (a : Option Addr) (l : List Ev) (c : Nat) (n : Int) (w : World) (hr : ERow w a l) (hk : ∀ x ∈ l, 0 ≤ x.k ∧ x.k ≤ 255) (hM : ¬ LogOk n l) : Calls Try.prog 23 #[.int .i64 n, .slice a l.length c] w (BPost false w) := by
  have hlen := hr.len
  have HM := hide hM
  have HK := hide hk
  clear hM hk
  go_enter Try.func23, Try.ntmps23
  by_cases h1 : n < 1
  · go_wp2_with fail
    go_returns
    exact ⟨rfl, Below.refl _ _⟩
  have d0 : decide (n < 1) = false := by simpa using h1
  by_cases h2 : 65 < n
  · go_wp2_with fail
    go_returns
    exact ⟨rfl, Below.refl _ _⟩
  have d1 : decide (65 < n) = false := by simpa using h2
  by_cases h3 : 65536 < l.length
  · go_wp2_with fail
    go_returns
    exact ⟨rfl, Below.refl _ _⟩
  have d2 : decide (65536 < (l.length : Int)) = false := by simp; omega
  have hex : ∃ q, ∃ h : q < l.length, ¬ EvOk n l[q] := by
    refine Classical.byContradiction fun hno => HM.out ⟨⟨by omega, by omega⟩, by omega, fun x hx => ?_⟩
    obtain ⟨j, hj, rfl⟩ := List.getElem_of_mem hx
    exact Classical.byContradiction fun hc => hno ⟨j, hj, hc⟩
  obtain ⟨q, hq, hbad⟩ := hex
  have HB := hide hbad
  clear hbad
  go_wp2_with fail
  clear d0 d1 d2
  go_loopw [20] (fun i wr => ∃ j : Nat, j ≤ q ∧ i = .int .i64 j ∧ Below w.heap.size w wr) (fun i _ => l.length - (intOf i).toNat)
  case atStart => exact ⟨0, Nat.zero_le _, rfl, Below.refl _ _⟩
  case round =>
    obtain ⟨j, hj, rfl, hbel⟩ := hrel
    have t := hide hbel
    clear hbel
    have hlt : j < l.length := by omega
    obtain ⟨b, off, rfl, hb, hc⟩ := e_at (hr.below t.out) (by omega)
    obtain ⟨x0, x1, x2⟩ := hc j hlt
    clear hc
    have HE : Hid (j = q → ¬ EvOk n l[j]) := hide (fun e => by subst e; exact HB.out)
    obtain ⟨k1, k2⟩ := HK.out _ (List.getElem_mem hlt)
    generalize l[j] = z at x0 x1 x2 HE k1 k2
    by_cases p1 : z.w < 0
    · go_wp2_with fail
      go_returns
      exact ⟨rfl, t.out.alloc t.out.size _⟩
    have e1 : decide (z.w < 0) = false := by simpa using p1
    by_cases p2 : n ≤ z.w
    · go_wp2_with fail
      go_returns
      exact ⟨rfl, t.out.alloc t.out.size _⟩
    have e2 : decide (n ≤ z.w) = false := by simpa using p2
    by_cases p3 : z.c < 0
    · go_wp2_with fail
      go_returns
      exact ⟨rfl, t.out.alloc t.out.size _⟩
    have e3 : decide (z.c < 0) = false := by simpa using p3
    by_cases p4 : z.k < 1
    · go_wp2_with fail
      go_returns
      exact ⟨rfl, t.out.alloc t.out.size _⟩
    have e4 : decide (z.k < 1) = false := by simpa using p4
    by_cases p5 : 6 < z.k
    · go_wp2_with fail
      go_returns
      exact ⟨rfl, t.out.alloc t.out.size _⟩
    have e5 : decide (6 < z.k) = false := by simpa using p5
    have hne : j ≠ q := fun e => HE.out e ⟨by omega, by omega, by omega⟩
    go_wp2_with fail
    go_roundw
    case rel => exact ⟨j + 1, by omega, by go_num, t.out.alloc t.out.size _⟩
    case measure => simp [intOf]; omega
set_option maxHeartbeats 1000000 in
theorem may_yes (a : Option Addr) (l : List Ev) (c : Nat) (n : Int) (w : World) (hr : ERow w a l) (hM : LogOk n l) : Calls Try.prog 13 #[.int .i64 n, .slice a l.length c] w (BPost true w) := by
  obtain ⟨⟨hn1, hn2⟩, hl, he⟩ := hM
  have hlen := hr.len
  have HE := hide he
  clear he
  have d0 : decide (n < 1) = false := by simp; omega
  have d1 : decide (65 < n) = false := by simp; omega
  have d2 : decide (65536 < (l.length : Int)) = false := by simp; omega
  go_enter Try.func13, Try.ntmps13
  go_wp2_with fail
  clear d0 d1 d2
  go_loopw [5] (fun i wr => ∃ j : Nat, j ≤ l.length ∧ i = .int .i64 j ∧ Below w.heap.size w wr) (fun i _ => l.length - (intOf i).toNat)
  case atStart => exact ⟨0, Nat.zero_le _, rfl, Below.refl _ _⟩
  case round =>
    obtain ⟨j, hj, rfl, hbel⟩ := hrel
    have t := hide hbel
    clear hbel
    by_cases hlt : j < l.length
    · obtain ⟨b, off, rfl, hb, hc⟩ := e_at (hr.below t.out) (by omega)
      obtain ⟨x0, x1, x2⟩ := hc j hlt
      clear hc
      obtain ⟨⟨p1, p2⟩, p3, p4, p5⟩ := HE.out _ (List.getElem_mem hlt)
      generalize l[j] = z at x0 x1 x2 p1 p2 p3 p4 p5
      have e1 : decide (z.w < 0) = false := by simp; omega
      have e2 : decide (n ≤ z.w) = false := by simp; omega
      have e3 : decide (z.c < 0) = false := by simp; omega
      have e4 : decide (z.k < 1) = false := by simp; omega
      have e5 : decide (6 < z.k) = false := by simp; omega
      go_wp2_with fail
      go_roundw
      case rel => exact ⟨j + 1, hlt, by go_num, t.out.alloc t.out.size _⟩
      case measure => simp [intOf]; omega
    · go_wp2_with fail
      go_returns
      exact ⟨rfl, t.out⟩
set_option maxHeartbeats 1000000 in
theorem may_no (a : Option Addr) (l : List Ev) (c : Nat) (n : Int) (w : World) (hr : ERow w a l) (hk : ∀ x ∈ l, 0 ≤ x.k ∧ x.k ≤ 255) (hM : ¬ LogOk n l) : Calls Try.prog 13 #[.int .i64 n, .slice a l.length c] w (BPost false w) := by
  have hlen := hr.len
  have HM := hide hM
  have HK := hide hk
  clear hM hk
  go_enter Try.func13, Try.ntmps13
  by_cases h1 : n < 1
  · go_wp2_with fail
    go_returns
    exact ⟨rfl, Below.refl _ _⟩
  have d0 : decide (n < 1) = false := by simpa using h1
  by_cases h2 : 65 < n
  · go_wp2_with fail
    go_returns
    exact ⟨rfl, Below.refl _ _⟩
  have d1 : decide (65 < n) = false := by simpa using h2
  by_cases h3 : 65536 < l.length
  · go_wp2_with fail
    go_returns
    exact ⟨rfl, Below.refl _ _⟩
  have d2 : decide (65536 < (l.length : Int)) = false := by simp; omega
  have hex : ∃ q, ∃ h : q < l.length, ¬ EvOk n l[q] := by
    refine Classical.byContradiction fun hno => HM.out ⟨⟨by omega, by omega⟩, by omega, fun x hx => ?_⟩
    obtain ⟨j, hj, rfl⟩ := List.getElem_of_mem hx
    exact Classical.byContradiction fun hc => hno ⟨j, hj, hc⟩
  obtain ⟨q, hq, hbad⟩ := hex
  have HB := hide hbad
  clear hbad
  go_wp2_with fail
  clear d0 d1 d2
  go_loopw [5] (fun i wr => ∃ j : Nat, j ≤ q ∧ i = .int .i64 j ∧ Below w.heap.size w wr) (fun i _ => l.length - (intOf i).toNat)
  case atStart => exact ⟨0, Nat.zero_le _, rfl, Below.refl _ _⟩
  case round =>
    obtain ⟨j, hj, rfl, hbel⟩ := hrel
    have t := hide hbel
    clear hbel
    have hlt : j < l.length := by omega
    obtain ⟨b, off, rfl, hb, hc⟩ := e_at (hr.below t.out) (by omega)
    obtain ⟨x0, x1, x2⟩ := hc j hlt
    clear hc
    have HE : Hid (j = q → ¬ EvOk n l[j]) := hide (fun e => by subst e; exact HB.out)
    obtain ⟨k1, k2⟩ := HK.out _ (List.getElem_mem hlt)
    generalize l[j] = z at x0 x1 x2 HE k1 k2
    by_cases p1 : z.w < 0
    · go_wp2_with fail
      go_returns
      exact ⟨rfl, t.out.alloc t.out.size _⟩
    have e1 : decide (z.w < 0) = false := by simpa using p1
    by_cases p2 : n ≤ z.w
    · go_wp2_with fail
      go_returns
      exact ⟨rfl, t.out.alloc t.out.size _⟩
    have e2 : decide (n ≤ z.w) = false := by simpa using p2
    by_cases p3 : z.c < 0
    · go_wp2_with fail
      go_returns
      exact ⟨rfl, t.out.alloc t.out.size _⟩
    have e3 : decide (z.c < 0) = false := by simpa using p3
    by_cases p4 : z.k < 1
    · go_wp2_with fail
      go_returns
      exact ⟨rfl, t.out.alloc t.out.size _⟩
    have e4 : decide (z.k < 1) = false := by simpa using p4
    by_cases p5 : 6 < z.k
    · go_wp2_with fail
      go_returns
      exact ⟨rfl, t.out.alloc t.out.size _⟩
    have e5 : decide (6 < z.k) = false := by simpa using p5
    have hne : j ≠ q := fun e => HE.out e ⟨by omega, by omega, by omega⟩
    go_wp2_with fail
    go_roundw
    case rel => exact ⟨j + 1, by omega, by go_num, t.out.alloc t.out.size _⟩
    case measure => simp [intOf]; omega
theorem plain_any (k c : Int) (w : World) (hk : 1 ≤ k ∧ k ≤ 6) : Calls Try.prog 27 #[.agg #[.int .u8 k, .int .i64 c]] w (BPost (decide (5 ≤ k)) w) := by
  by_cases h5 : k = 5
  · subst h5
    go_enter Try.func27, Try.ntmps27
    go_wp2
    go_returns
    exact ⟨rfl, by go_grown⟩
  · by_cases h6 : k = 6
    · subst h6
      go_enter Try.func27, Try.ntmps27
      go_wp2
      go_returns
      exact ⟨rfl, by go_grown⟩
    · have b5 : (k == 5) = false := by simpa using h5
      have b6 : (k == 6) = false := by simpa using h6
      have HD : Hid (decide (5 ≤ k) = false) := hide (by simp; omega)
      rw [HD.out]
      go_enter Try.func27, Try.ntmps27
      go_wp2
      go_returns
      exact ⟨rfl, by go_grown⟩
theorem rplain_any (e : Ev) (w : World) : Calls Try.prog 21 #[eagg e] w (BPost (plE e) w) := by
  unfold eagg plE
  go_enter Try.func21, Try.ntmps21
  go_wp2
  go_returns
  exact ⟨rfl, by go_grown⟩
theorem rwrites_any (e : Ev) (w : World) : Calls Try.prog 25 #[eagg e] w (BPost (wrE e) w) := by
  unfold eagg wrE
  cases h2 : (e.k == 2) with
  | true =>
    go_enter Try.func25, Try.ntmps25
    go_wp2
    go_returns
    exact ⟨rfl, by go_grown⟩
  | false =>
    cases h3 : (e.k == 3) with
    | true =>
      go_enter Try.func25, Try.ntmps25
      go_wp2
      go_returns
      exact ⟨rfl, by go_grown⟩
    | false =>
      go_enter Try.func25, Try.ntmps25
      go_wp2
      go_returns
      exact ⟨rfl, by go_grown⟩
end Go.Proofs.Ytffpphnjokmffaa
