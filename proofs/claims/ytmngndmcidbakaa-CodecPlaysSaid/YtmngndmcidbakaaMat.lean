/- A block known as n elements of sz cells each, by a function of both numbers. -/
import Derived.Test.YtmngndmcidbakaaInts
namespace Go.Proofs.Ytmngndmcidbakaa
open Go.RowKit

def Mat (w : World) (g : Nat) (t : TypeId) (n sz : Nat) (F : Nat → Nat → Value) : Prop :=
  ∃ cs : Array Value, Blk w g t cs ∧ cs.size = n * sz ∧ ∀ i, i < n → ∀ j, j < sz → cs[i * sz + j]? = some (F i j)
section
variable {w w' : World} {g n sz : Nat} {t : TypeId} {F : Nat → Nat → Value}
theorem Mat.lt (h : Mat w g t n sz F) : g < w.heap.size := by obtain ⟨cs, hb, _⟩ := h; exact hb.lt
theorem Mat.cell (h : Mat w g t n sz F) {i j : Nat} (hi : i < n) (hj : j < sz) : w.cell? ⟨g, i * sz + j, none⟩ = some (F i j) := by
  obtain ⟨cs, hb, _, hc⟩ := h; rw [hb.cell]; exact hc i hi j hj
theorem Mat.frozen (h : Mat w g t n sz F) (o : Nat) : w.frozen? ⟨g, o, none⟩ = false := by obtain ⟨cs, hb, _⟩ := h; exact hb.frozen o
theorem Mat.drew (h : Mat w g t n sz F) : Mat w.drew g t n sz F := h
theorem Mat.below {B : Nat} (h : Mat w g t n sz F) (hb : Below B w w') (hg : g < B) : Mat w' g t n sz F := by
  obtain ⟨cs, h1, r⟩ := h; exact ⟨cs, h1.below hb hg, r⟩
theorem Mat.below' (h : Mat w g t n sz F) (hb : Below w.heap.size w w') : Mat w' g t n sz F := h.below hb h.lt
theorem Mat.alloc (h : Mat w g t n sz F) (o : Obj) : Mat (w.alloc o) g t n sz F := by
  obtain ⟨cs, h1, r⟩ := h; exact ⟨cs, h1.alloc o, r⟩
theorem Mat.grown {row : Option Nat} (h : Mat w g t n sz F) (hb : w.grownBy w' row) (hg : some g ≠ row) : Mat w' g t n sz F := by
  obtain ⟨cs, h1, r⟩ := h; exact ⟨cs, (hb.block g h1.lt hg).trans h1, r⟩
theorem Mat.far (h : Mat w g t n sz F) {p : Addr} (hp : g ≠ p.block) (u : Value) : Mat (w.setCell p u) g t n sz F := by
  obtain ⟨cs, h1, r⟩ := h; exact ⟨cs, h1.far hp u, r⟩
theorem idx_inj {sz i j i' j' : Nat} (hj : j < sz) (hj' : j' < sz) (h : i * sz + j = i' * sz + j') : i = i' ∧ j = j' := by
  have e1 : (i * sz + j) / sz = i := by rw [Nat.mul_comm, Nat.mul_add_div (by omega), Nat.div_eq_of_lt hj, Nat.add_zero]
  have e2 : (i' * sz + j') / sz = i' := by rw [Nat.mul_comm, Nat.mul_add_div (by omega), Nat.div_eq_of_lt hj', Nat.add_zero]
  rw [h, e2] at e1
  subst e1
  exact ⟨rfl, by omega⟩
def upd (F : Nat → Nat → Value) (i j : Nat) (u : Value) : Nat → Nat → Value := fun i' j' => if i' = i ∧ j' = j then u else F i' j'
theorem Mat.set_ (h : Mat w g t n sz F) {i j : Nat} (hi : i < n) (hj : j < sz) (u : Value) : Mat (w.setCell ⟨g, i * sz + j, none⟩ u) g t n sz (upd F i j u) := by
  obtain ⟨cs, h1, h2, h3⟩ := h
  refine ⟨_, h1.set_ _ u, by simpa using h2, fun i' hi' j' hj' => ?_⟩
  rw [Array.getElem?_setIfInBounds]
  unfold upd
  have hlt : i * sz + j < cs.size := by
    have := h3 i hi j hj
    exact (Array.getElem?_eq_some_iff.1 this).1
  by_cases e : i * sz + j = i' * sz + j'
  · obtain ⟨rfl, rfl⟩ := idx_inj hj hj' e
    simp [hlt]
  · rw [if_neg e, if_neg (by rintro ⟨rfl, rfl⟩; exact e rfl)]
    exact h3 i' hi' j' hj'
theorem Mat.congr {G : Nat → Nat → Value} (h : Mat w g t n sz F) (e : ∀ i, i < n → ∀ j, j < sz → F i j = G i j) : Mat w g t n sz G := by
  obtain ⟨cs, h1, h2, h3⟩ := h
  exact ⟨cs, h1, h2, fun i hi j hj => by rw [h3 i hi j hj, e i hi j hj]⟩
/-- What make leaves: every element the zero value. -/
theorem Mat.made (w : World) (t : TypeId) (z : Array Value) (n : Nat) (hz : 0 < z.size) (Z : Nat → Value) (hZ : ∀ j, j < z.size → z[j]? = some (Z j)) :
    Mat (w.alloc (.cells (madeCells z (n * z.size)) t)) w.heap.size t n z.size (fun _ j => Z j) := by
  refine ⟨_, Blk.new w t _, size_madeCells _ _, fun i hi j hj => ?_⟩
  have hlt : i * z.size + j < n * z.size := by
    have : (i + 1) * z.size ≤ n * z.size := Nat.mul_le_mul_right _ hi
    rw [Nat.add_mul, Nat.one_mul] at this
    omega
  have hm : (i * z.size + j) % z.size = j := by rw [Nat.mul_comm, Nat.mul_add_mod, Nat.mod_eq_of_lt hj]
  unfold madeCells
  rw [Array.getElem?_map, Array.getElem?_range]
  simp only [hlt, if_true, Option.map_some, hm]
  have h2 := hZ j hj
  rw [Array.getElem?_eq_getElem hj] at h2
  rw [getElem!_pos z j hj]
  exact h2
end

/-- make([]T, n), whatever T: an equation for every world. -/
theorem run_makeN {P : Program} (t e : TypeId) {i : TypeInfo} {z : Value} (ht : P.underlying t = some (.slice e)) (hi : P.info? e = some i) (hz : i.zero = some z) {sz : Nat} (h1 : i.size = sz)
    {by_ : Nat} (hb : i.bytes = by_) (n : Nat) (hn : by_ * n ≤ 281474976710656) (hn2 : n ≤ 9223372036854775807) (w : World) :
    (Instr.makeSlice t (.int .i64 (n : Int)) (.int .i64 (n : Int))).run P w = .ok (.slice (some ⟨w.heap.size, 0, none⟩) n n) (w.alloc (.cells (madeCells z.cells (n * sz)) e)) := by
  have h2 : (i.bytes : Int) * (n : Int) ≤ 281474976710656 := by
    rw [hb, ← Int.natCast_mul]; omega
  have hr := run_make (P := P) w t e i z ht hi hz .i64 .i64 n n (by omega) (by omega) h2 (by omega)
  simp only [Int.toNat_natCast] at hr
  rw [hr, h1]
end Go.Proofs.Ytmngndmcidbakaa
