/- Small laws on worlds: a block known whole, what stays below a block number, slices that read as lists. -/
import Derived.Handy
import Derived.Deep.Draws
import Derived.Test.YtmngndmcidbakaaReg
namespace Go.Proofs.Ytmngndmcidbakaa
open Go.RowKit

theorem hide {p : Prop} (h : p) : Hid p := h

def Blk (w : World) (g : Nat) (t : TypeId) (cs : Array Value) : Prop := w.heap[g]? = some (.cells cs t (0, 0))
section
variable {w w' : World} {g : Nat} {t : TypeId} {cs : Array Value}
theorem Blk.lt (h : Blk w g t cs) : g < w.heap.size := by
  rcases Nat.lt_or_ge g w.heap.size with hlt | hge
  · exact hlt
  · unfold Blk at h; rw [Array.getElem?_eq_none hge] at h; cases h
theorem Blk.cell (h : Blk w g t cs) (i : Nat) : w.cell? ⟨g, i, none⟩ = cs[i]? := cell_of_row w g i cs t (0, 0) h
theorem Blk.frozen (h : Blk w g t cs) (i : Nat) : w.frozen? ⟨g, i, none⟩ = false := by
  unfold Blk at h
  simp [World.frozen?, h]
theorem Blk.new (w : World) (t : TypeId) (cs : Array Value) : Blk (w.alloc (.cells cs t)) w.heap.size t cs := heap_alloc_new w _
theorem Blk.drew (h : Blk w g t cs) : Blk w.drew g t cs := h
theorem Blk.drewN (h : Blk w g t cs) (n : Nat) : Blk (w.drewN n) g t cs := h
theorem Blk.alloc (h : Blk w g t cs) (o : Obj) : Blk (w.alloc o) g t cs := (Below.heap_alloc w o g h.lt).trans h
theorem Blk.set_ (h : Blk w g t cs) (i : Nat) (u : Value) : Blk (w.setCell ⟨g, i, none⟩ u) g t (cs.setIfInBounds i u) := by
  unfold Blk at h ⊢
  simp [World.setCell, Array.getElem?_modify, h]
theorem Blk.far (h : Blk w g t cs) {p : Addr} (hp : g ≠ p.block) (u : Value) : Blk (w.setCell p u) g t cs := (Below.heap_setCell w p u g hp).trans h
theorem Blk.below {B : Nat} (h : Blk w g t cs) (hb : Below B w w') (hg : g < B) : Blk w' g t cs := (hb.block g hg).trans h
end

theorem below_call {w W w2 : World} (h : Below w.heap.size w W) (hb : Below W.heap.size W w2) : Below w.heap.size w w2 := h.trans (hb.mono h.size)
theorem keepc {W : World} {p : Addr} {v : Value} (hp : p.block < W.heap.size) (h : W.cell? p = some v) : ∀ w', Below W.heap.size W w' → w'.cell? p = some v := fun _ hb => (hb.cell hp).trans h
theorem keepf {W : World} {p : Addr} {v : Bool} (hp : p.block < W.heap.size) (h : W.frozen? p = v) : ∀ w', Below W.heap.size W w' → w'.frozen? p = v := fun _ hb => (hb.frozen hp).trans h
theorem below_drewN {B : Nat} {a w : World} (h : Below B a w) (n : Nat) : Below B a (w.drewN n) := ⟨h.os, h.tape, h.output, h.size, h.block⟩

/-- A slice value's first cells, as a list: nil or empty included. 'f' makes the cell of an element (one cell each). -/
def Row (w : World) (a : Option Addr) (l : List Value) : Prop :=
  l.length ≤ 9223372036854775807 ∧ (0 < l.length → ∃ b off, a = some ⟨b, off, none⟩ ∧ b < w.heap.size ∧ ∀ i (h : i < l.length), w.cell? ⟨b, off + i, none⟩ = some l[i])

theorem Row.below {w w' : World} {a : Option Addr} {l : List Value} (h : Row w a l) (hb : Below w.heap.size w w') : Row w' a l :=
  ⟨h.1, fun hp => by
    obtain ⟨b, off, ha, hlt, hc⟩ := h.2 hp
    exact ⟨b, off, ha, Nat.lt_of_lt_of_le hlt hb.size, fun i hi => (hb.cell (p := ⟨b, off + i, none⟩) hlt).trans (hc i hi)⟩⟩
theorem Blk.row {w : World} {g : Nat} {t : TypeId} {cs : Array Value} (h : Blk w g t cs) (hn : cs.size ≤ 9223372036854775807) : Row w (some ⟨g, 0, none⟩) cs.toList :=
  ⟨by simpa using hn, fun _ => ⟨g, 0, rfl, h.lt, fun i hi => by
    have hi' : i < cs.size := by simpa using hi
    rw [Nat.zero_add, h.cell, Array.getElem?_eq_getElem hi', Array.getElem_toList]⟩⟩
theorem Row.take {w : World} {a : Option Addr} {l : List Value} (h : Row w a l) (k : Nat) : Row w a (l.take k) :=
  ⟨by have := h.1; rw [List.length_take]; omega, fun hp => by
    rw [List.length_take] at hp
    obtain ⟨b, off, ha, hlt, hc⟩ := h.2 (by omega)
    refine ⟨b, off, ha, hlt, fun i hi => ?_⟩
    rw [List.length_take] at hi
    rw [hc i (by omega), List.getElem_take]⟩

theorem Blk.news {w : World} {g : Nat} {t : TypeId} {cs : Array Value} (h : Blk w g t cs) : ∀ j u, cs.toList[j]? = some u → w.cell? ((⟨g, 0, none⟩ : Addr).add j) = some u := by
  intro j u hu
  have : cs[j]? = some u := by simpa using hu
  have h2 := h.cell j
  rw [this] at h2
  by_cases h0 : j = 0
  · subst h0; simpa [Addr.add] using h2
  · simpa [Addr.add, h0] using h2

/-- A slice value whose elements take 'sz' cells each, as a list of their cells. -/
def RowS (w : World) (a : Option Addr) (sz : Nat) (l : List (List Value)) : Prop :=
  l.length ≤ 9223372036854775807 ∧ (0 < l.length → ∃ b off, a = some ⟨b, off, none⟩ ∧ b < w.heap.size ∧ ∀ i (h : i < l.length) j (hj : j < l[i].length), w.cell? ⟨b, off + i * sz + j, none⟩ = some l[i][j])
theorem RowS.below {w w' : World} {a : Option Addr} {sz : Nat} {l : List (List Value)} (h : RowS w a sz l) (hb : Below w.heap.size w w') : RowS w' a sz l :=
  ⟨h.1, fun hp => by
    obtain ⟨b, off, ha, hlt, hc⟩ := h.2 hp
    exact ⟨b, off, ha, Nat.lt_of_lt_of_le hlt hb.size, fun i hi j hj => (hb.cell (p := ⟨b, off + i * sz + j, none⟩) hlt).trans (hc i hi j hj)⟩⟩
theorem RowS.take {w : World} {a : Option Addr} {sz : Nat} {l : List (List Value)} (h : RowS w a sz l) (k : Nat) : RowS w a sz (l.take k) :=
  ⟨by have := h.1; rw [List.length_take]; omega, fun hp => by
    rw [List.length_take] at hp
    obtain ⟨b, off, ha, hlt, hc⟩ := h.2 (by omega)
    refine ⟨b, off, ha, hlt, fun i hi j hj => ?_⟩
    rw [List.length_take] at hi
    simp only [List.getElem_take] at hj ⊢
    exact hc i (by omega) j hj⟩

/-! ### A slice that the call itself makes by append -/
section
variable {w w' : World} {base : Nat} {e : TypeId} {size n : Nat} {v : Value} {xs : List Value}
theorem own_below (h : w.ownsRow base e size v n xs) (hb : Below w.heap.size w w') : w'.ownsRow base e size v n xs :=
  h.kept (row := none) ⟨hb.os, hb.tape, hb.output, hb.size, fun k hk _ => hb.block k hk⟩ (by cases hv : v.ownBlock <;> simp)
theorem own_ge (h : w.ownsRow base e size v n xs) : ∀ k, v.ownBlock = some k → base ≤ k := by
  intro k hk
  rcases h.2 with ⟨rfl, _⟩ | ⟨g, cap, cur, rfl, hg, _⟩
  · simp [Value.ownBlock] at hk
  · simp [Value.ownBlock] at hk; omega
theorem own_row (h : w.ownsRow base e 1 v n xs) : ∃ a cap, v = .slice a n cap ∧ n ≤ cap ∧ cap ≤ maxLen ∧ xs.length = n ∧ Row w a xs := by
  have hlen := h.1
  rcases h.2 with ⟨rfl, rfl⟩ | ⟨g, cap, cur, rfl, _, hh, hnc, hcap, _, htake⟩
  · have : xs = [] := List.eq_nil_of_length_eq_zero (by omega)
    subst this
    exact ⟨none, 0, rfl, by omega, by simp, rfl, by simp, fun h => by simp at h⟩
  · have hg : g < w.heap.size := by
      rcases Nat.lt_or_ge g w.heap.size with h1 | h1
      · exact h1
      · rw [Array.getElem?_eq_none h1] at hh; cases hh
    refine ⟨some ⟨g, 0, none⟩, cap, rfl, hnc, hcap, by omega, by unfold maxLen at hcap; omega, fun _ => ⟨g, 0, rfl, hg, fun i hi => ?_⟩⟩
    have := h.cells (g := g) rfl i xs[i] (List.getElem?_eq_getElem hi)
    by_cases h0 : i = 0
    · subst h0; simpa [Addr.add] using this
    · simpa [Addr.add, h0] using this
theorem below_grown {a : World} {row : Option Nat} (h : Below a.heap.size a w) (hg : w.grownBy w' row) (hr : ∀ k, row = some k → a.heap.size ≤ k) : Below a.heap.size a w' := h.grown hg h.size hr
end
end Go.Proofs.Ytmngndmcidbakaa
