/- Walks: who stands, the room at a height, the next bottom. -/
import Derived.Test.YtdckhheinpfbjaaRows
import Derived.Test.YtdckhheinpfbjaaFl
import Derived.WalkMore
namespace Go.Proofs.Ytdckhheinpfbjaa
open Go.RowKit

@[go_sem high] theorem run_max2 {P : Program} {w : World} (ts : Array TypeId) (t : TypeId) (k k' : IntKind) (x y : Int) : (Builtin.max_ ts t #[.int k x, .int k' y]).run P w = .ok (.int k (max x y)) w := by
  rw [run_max_int2]
  congr 2
  simp only [Int.max_def]
  split <;> split <;> omega
@[go_sem high] theorem run_min2 {P : Program} {w : World} (ts : Array TypeId) (t : TypeId) (k k' : IntKind) (x y : Int) : (Builtin.min_ ts t #[.int k x, .int k' y]).run P w = .ok (.int k (min x y)) w := by
  rw [run_min_int2]
  congr 2
  simp only [Int.min_def]
  split <;> split <;> omega
def fagg (f : Flt) : Value := .agg #[.int .u8 f.s, .int .i64 f.x, .int .i64 f.y, .int .i64 f.w, .int .i64 f.h]
def FRow (w : World) (a : Option Addr) (l : List Flt) : Prop := RowS w a 5 (l.map fcell)
theorem FRow.below {w w' : World} {a : Option Addr} {l : List Flt} (h : FRow w a l) (hb : Below w.heap.size w w') : FRow w' a l := RowS.below h hb
theorem FRow.len {w : World} {a : Option Addr} {l : List Flt} (h : FRow w a l) : l.length ≤ 9223372036854775807 := by have := RowS.mono_len h; rwa [List.length_map] at this
theorem f_at {w : World} {a : Option Addr} {l : List Flt} (h : FRow w a l) (hp : 0 < l.length) : ∃ b off, a = some ⟨b, off, none⟩ ∧ b < w.heap.size ∧
    ∀ i (hi : i < l.length), w.cell? ⟨b, off + i * 5, none⟩ = some (.int .u8 l[i].s) ∧ w.cell? ⟨b, off + i * 5 + 1, none⟩ = some (.int .i64 l[i].x) ∧ w.cell? ⟨b, off + i * 5 + 2, none⟩ = some (.int .i64 l[i].y) ∧
      w.cell? ⟨b, off + i * 5 + 3, none⟩ = some (.int .i64 l[i].w) ∧ w.cell? ⟨b, off + i * 5 + 4, none⟩ = some (.int .i64 l[i].h) := by
  obtain ⟨b, off, ha, hb, hc⟩ := RowS.at_ h (by simpa using hp)
  refine ⟨b, off, ha, hb, fun i hi => ⟨?_, ?_, ?_, ?_, ?_⟩⟩
  · have := hc i (by simpa using hi) 0 (by simp [fcell]); simpa [fcell] using this
  · have := hc i (by simpa using hi) 1 (by simp [fcell]); simpa [fcell] using this
  · have := hc i (by simpa using hi) 2 (by simp [fcell]); simpa [fcell] using this
  · have := hc i (by simpa using hi) 3 (by simp [fcell]); simpa [fcell] using this
  · have := hc i (by simpa using hi) 4 (by simp [fcell]); simpa [fcell] using this
theorem fold_take {α β : Type} (f : β → α → β) (z : β) (l : List α) {k : Nat} (h : k < l.length) : (l.take (k + 1)).foldl f z = f ((l.take k).foldl f z) l[k] := by
  rw [List.take_succ_eq_append_getElem h, List.foldl_append]; rfl

theorem stands_any (f : Flt) (y h : Int) (w : World) (hf : Fit f) (hy : Far y) :
    Calls Try.prog 23 #[.agg #[.int .u8 f.s, .int .i64 f.x, .int .i64 f.y, .int .i64 f.w, .int .i64 f.h], .int .i64 y, .int .i64 h] w fun r w' => r = .returned (.bool (std f y h)) ∧ Below w.heap.size w w' := by
  obtain ⟨_, hx, hyb, hw, hh⟩ := hf
  unfold Far at hy
  obtain ⟨s, x, fy, fw, fh⟩ := f
  simp only at hx hyb hw hh ⊢
  by_cases h1 : 0 < fh
  · by_cases h2 : y < fy + fh
    · by_cases h3 : fy - y < h
      · rw [show std ⟨s, x, fy, fw, fh⟩ y h = true from by unfold std; simp; exact ⟨h1, h2, h3⟩]
        go_enter Try.func23, Try.ntmps23
        go_wp2
        go_returns
        exact ⟨rfl, by go_grown⟩
      · rw [show std ⟨s, x, fy, fw, fh⟩ y h = false from by unfold std; simp; intros; omega]
        have b3 : decide (fy - y < h) = false := by simp; omega
        go_enter Try.func23, Try.ntmps23
        go_wp2
        go_returns
        exact ⟨by first | rfl | (simp; omega), by go_grown⟩
    · rw [show std ⟨s, x, fy, fw, fh⟩ y h = false from by unfold std; simp; intros; omega]
      have b3 : decide (y < fy + fh) = false := by simp; omega
      go_enter Try.func23, Try.ntmps23
      go_wp2
      go_returns
      exact ⟨rfl, by go_grown⟩
  · rw [show std ⟨s, x, fy, fw, fh⟩ y h = false from by unfold std; simp; intros; omega]
    have b3 : decide (0 < fh) = false := by simp; omega
    go_enter Try.func23, Try.ntmps23
    go_wp2
    go_returns
    exact ⟨rfl, by go_grown⟩
end Go.Proofs.Ytdckhheinpfbjaa
