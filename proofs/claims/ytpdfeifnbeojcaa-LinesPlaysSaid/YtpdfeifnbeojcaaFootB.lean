/- What a round may have written below a block's number: the blocks of a list. -/
import Derived.Test.YtpdfeifnbeojcaaFoot
import Derived.RangeFuncFrom
import Derived.RangeFuncCalls
namespace Go.Proofs.Ytpdfeifnbeojcaa
open Go.RowKit

structure Fb (fs : List Nat) (n0 : Nat) (w w' : World) : Prop where
  os : w'.os = w.os
  tape : w'.tape = w.tape
  output : w'.output = w.output
  size : w.heap.size ≤ w'.heap.size
  block : ∀ k, k < n0 → k ∉ fs → w'.heap[k]? = w.heap[k]?
section
variable {fs : List Nat} {n0 : Nat} {a b c w w' : World}
theorem Fb.refl (fs : List Nat) (n0 : Nat) (w : World) : Fb fs n0 w w := ⟨rfl, rfl, rfl, Nat.le_refl _, fun _ _ _ => rfl⟩
theorem Fb.trans (h : Fb fs n0 a b) (k : Fb fs n0 b c) : Fb fs n0 a c :=
  ⟨k.os.trans h.os, k.tape.trans h.tape, k.output.trans h.output, Nat.le_trans h.size k.size, fun i hi hn => (k.block i hi hn).trans (h.block i hi hn)⟩
theorem Fb.of_foot (h : Foot fs w w') (hn : n0 ≤ w.heap.size) : Fb fs n0 w w' := ⟨h.os, h.tape, h.output, h.size, fun k hk hf => h.block k (by omega) hf⟩
theorem Fb.of_below (h : Below n0 w w') : Fb fs n0 w w' := ⟨h.os, h.tape, h.output, h.size, fun k hk _ => h.block k hk⟩
theorem Fb.drew (h : Fb fs n0 a w) : Fb fs n0 a w.drew := ⟨h.os, h.tape, h.output, h.size, h.block⟩
theorem Fb.alloc (h : Fb fs n0 a w) (hn : n0 ≤ w.heap.size) (o : Obj) : Fb fs n0 a (w.alloc o) := h.trans (Fb.of_below ((Below.refl _ _).alloc hn o))
theorem Fb.setCell (h : Fb fs n0 a w) {p : Addr} (hp : p.block ∈ fs ∨ n0 ≤ p.block) (u : Value) : Fb fs n0 a (w.setCell p u) :=
  h.trans ⟨rfl, rfl, rfl, by simp [World.setCell], fun i hi hn => Below.heap_setCell w p u i (by
    rintro rfl
    rcases hp with hp | hp
    · exact hn hp
    · omega)⟩
theorem Fb.grown {row : Option Nat} (h : Fb fs n0 a w) (hg : w.grownBy w' row) (hn : n0 ≤ w.heap.size) (hr : ∀ k, row = some k → k ∈ fs ∨ n0 ≤ k) : Fb fs n0 a w' :=
  h.trans ⟨hg.os, hg.tape, hg.output, hg.size, fun i hi hf => hg.block i (by omega) (fun e => by
    rcases hr i e.symm with h1 | h1
    · exact hf h1
    · omega)⟩
theorem Fb.putObj (W : World) {l : Nat} (o' : Obj) (hl : n0 ≤ l) : Fb fs n0 W (W.putObj l o') :=
  ⟨rfl, rfl, rfl, by simp, fun i hi _ => World.putObj_heap_other (by omega)⟩
theorem Fb.to_below {B : Nat} (h : Fb fs n0 w w') (hB : B ≤ n0) (hf : ∀ x ∈ fs, B ≤ x) : Below B w w' :=
  ⟨h.os, h.tape, h.output, h.size, fun k hk => h.block k (by omega) (fun hm => by have := hf k hm; omega)⟩
theorem Fb.blk {g : Nat} {t : TypeId} {cs : Array Value} (h : Fb fs n0 w w') (hb : Blk w g t cs) (hg : g < n0) (hf : g ∉ fs) : Blk w' g t cs := (h.block g hg hf).trans hb
theorem Fb.cell {p : Addr} (h : Fb fs n0 w w') (hp : p.block < n0) (hf : p.block ∉ fs) : w'.cell? p = w.cell? p := World.cell?_of_block (w := w) (h.block p.block hp hf)
theorem fbK_t {A B C : World} (h : Fb fs n0 A B) (k : Fb fs n0 B C) : Fb fs n0 A C := h.trans k
theorem fbK_b (hn : n0 ≤ w.heap.size) (W : World) (l : Nat) (o o' : Obj) (hl : w.heap.size ≤ l) (_ : W.heap[l]? = some o) (_ : o.isCells = false) (_ : o.isWalk = false) : Fb fs n0 W (W.putObj l o') := Fb.putObj W o' (by omega)
theorem ownFrom_fb {β : Type} {B : Nat} {w₀ : World} (hn : n0 ≤ w₀.heap.size) (hB : n0 ≤ B) : OwnFrom B (fun (_ : β) W => Fb fs n0 w₀ W) :=
  fun _ _ _ _ hs hg hr => hs.grown hg (Nat.le_trans hn hs.size) (fun k e => .inr (Nat.le_trans hB (hr k e).1))
theorem keeps_foot (h : Foot fs w w') (hc : ∀ k ∈ fs, ∀ o : Obj, w.heap[k]? = some o → o.isCells = true) : KeepsOthers w w' :=
  ⟨h.size, fun k o hk ho => by
    have hlt : k < w.heap.size := (Array.getElem?_eq_some_iff.1 hk).1
    rw [h.block k hlt (fun hm => by have := hc k hm o hk; rw [ho] at this; cases this)]
    exact hk⟩
theorem keeps_below (h : Below w.heap.size w w') : KeepsOthers w w' := keeps_foot (Foot.of_below [] h) (fun k hk => by cases hk)
theorem Blk.isCells {g : Nat} {t : TypeId} {cs : Array Value} (h : Blk w g t cs) : ∀ o : Obj, w.heap[g]? = some o → o.isCells = true := fun o ho => by
  have h' : w.heap[g]? = some (.cells cs t (0, 0)) := h
  rw [h'] at ho; cases ho; rfl
theorem blk_kept {W W' : World} {g : Nat} {t : TypeId} {cs : Array Value} {row : Option Nat} (h : Blk W g t cs) (hg : W.grownBy W' row) (hr : ∀ r, row = some r → ∃ o : Obj, W.heap[r]? = some o ∧ o.isCells = false) : Blk W' g t cs :=
  (hg.block g h.lt (fun e => by
    obtain ⟨o, ho, hc⟩ := hr g e.symm
    rw [h.isCells o ho] at hc
    cases hc)).trans h
end
end Go.Proofs.Ytpdfeifnbeojcaa
