/- Lists of int as cells; what make leaves. -/
import Derived.Test.YtmngndmcidbakaaBase
namespace Go.Proofs.Ytmngndmcidbakaa
open Go.RowKit

def ints (l : List Int) : List Value := l.map (Value.int .i64)
theorem ints_len (l : List Int) : (ints l).length = l.length := by simp [ints]
theorem ints_get (l : List Int) (k : Nat) (h : k < (ints l).length) : (ints l)[k] = .int .i64 (l[k]'(by simpa [ints] using h)) := by simp [ints]
theorem row_int {w : World} {a : Option Addr} {l : List Int} (h : Row w a (ints l)) (hp : 0 < l.length) : ∃ b off, a = some ⟨b, off, none⟩ ∧ b < w.heap.size ∧
    ∀ i (hi : i < l.length), w.cell? ⟨b, off + i, none⟩ = some (.int .i64 l[i]) := by
  obtain ⟨b, off, ha, hb, hc⟩ := h.2 (by rw [ints_len]; exact hp)
  exact ⟨b, off, ha, hb, fun i hi => (hc i (by rw [ints_len]; exact hi)).trans (by rw [ints_get])⟩
theorem row_len {w : World} {a : Option Addr} {l : List Int} (h : Row w a (ints l)) : l.length ≤ 9223372036854775807 := by have := h.1; rwa [ints_len] at this
/-- Element i of a block that holds just these numbers. -/
theorem blk_int {w : World} {g : Nat} {t : TypeId} {l : List Int} (h : Blk w g t (ints l).toArray) {i : Nat} (hi : i < l.length) : w.cell? ⟨g, i, none⟩ = some (.int .i64 l[i]) := by
  rw [h.cell]; simp [ints, hi]
theorem blk_int_set {w : World} {g : Nat} {t : TypeId} {l : List Int} (h : Blk w g t (ints l).toArray) (i : Nat) (x : Int) : Blk (w.setCell ⟨g, i, none⟩ (.int .i64 x)) g t (ints (l.set i x)).toArray := by
  have := h.set_ i (.int .i64 x)
  simpa [ints, List.map_set] using this

/-- make([]T, n), T of one cell: an equation for every world. -/
theorem run_make1 {P : Program} (t e : TypeId) {i : TypeInfo} {z z1 : Value} (ht : P.underlying t = some (.slice e)) (hi : P.info? e = some i) (hz : i.zero = some z) (h1 : i.size = 1) (hz1 : z.cells = #[z1])
    {by_ : Nat} (hb : i.bytes = by_) (n : Nat) (hn : by_ * n ≤ 281474976710656) (hn2 : n ≤ 9223372036854775807) (w : World) :
    (Instr.makeSlice t (.int .i64 (n : Int)) (.int .i64 (n : Int))).run P w = .ok (.slice (some ⟨w.heap.size, 0, none⟩) n n) (w.alloc (.cells (List.replicate n z1).toArray e)) := by
  have h2 : (i.bytes : Int) * (n : Int) ≤ 281474976710656 := by
    rw [hb, ← Int.natCast_mul]; omega
  have hr := run_make (P := P) w t e i z ht hi hz .i64 .i64 n n (by omega) (by omega) h2 (by omega)
  simp only [Int.toNat_natCast] at hr
  rw [hr, h1, hz1, Nat.mul_one]
  have : madeCells #[z1] n = (List.replicate n z1).toArray := by
    apply Array.toList_inj.1
    rw [toList_madeCells_one]
  rw [this]
end Go.Proofs.Ytmngndmcidbakaa
