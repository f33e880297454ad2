/- What a call may have written of what was there: the blocks of a list. -/
import Derived.Test.YtmngndmcidbakaaMat
namespace Go.Proofs.Ytmngndmcidbakaa
open Go.RowKit

structure Foot (fs : List Nat) (w w' : World) : Prop where
  os : w'.os = w.os
  tape : w'.tape = w.tape
  output : w'.output = w.output
  size : w.heap.size ≤ w'.heap.size
  block : ∀ k, k < w.heap.size → k ∉ fs → w'.heap[k]? = w.heap[k]?
section
variable {fs : List Nat} {a b c w w' : World}
theorem Foot.refl (fs : List Nat) (w : World) : Foot fs w w := ⟨rfl, rfl, rfl, Nat.le_refl _, fun _ _ _ => rfl⟩
theorem Foot.trans (h : Foot fs a b) (k : Foot fs b c) : Foot fs a c :=
  ⟨k.os.trans h.os, k.tape.trans h.tape, k.output.trans h.output, Nat.le_trans h.size k.size, fun i hi hn => (k.block i (Nat.lt_of_lt_of_le hi h.size) hn).trans (h.block i hi hn)⟩
theorem Foot.mono {gs : List Nat} (h : Foot fs a b) (hs : ∀ x ∈ fs, x ∈ gs) : Foot gs a b := ⟨h.os, h.tape, h.output, h.size, fun i hi hn => h.block i hi (fun hm => hn (hs i hm))⟩
theorem Foot.of_below (fs : List Nat) (h : Below a.heap.size a b) : Foot fs a b := ⟨h.os, h.tape, h.output, h.size, fun i hi _ => h.block i hi⟩
theorem Foot.of_grown {g : Nat} (h : a.grownBy b (some g)) (hg : g ∈ fs) : Foot fs a b := ⟨h.os, h.tape, h.output, h.size, fun i hi hn => h.block i hi (fun e => hn (by injection e with e; rw [e]; exact hg))⟩
theorem Foot.drew (h : Foot fs a w) : Foot fs a w.drew := ⟨h.os, h.tape, h.output, h.size, h.block⟩
theorem Foot.alloc (h : Foot fs a w) (o : Obj) : Foot fs a (w.alloc o) := h.trans (Foot.of_below fs ((Below.refl _ _).alloc (Nat.le_refl _) o))
theorem Foot.setCell (h : Foot fs a w) {p : Addr} (hp : p.block ∈ fs ∨ a.heap.size ≤ p.block) (u : Value) : Foot fs a (w.setCell p u) :=
  ⟨h.os, h.tape, h.output, by simpa [World.setCell] using h.size, fun i hi hn => (Below.heap_setCell w p u i (by
    rintro rfl
    rcases hp with hp | hp
    · exact hn hp
    · omega)).trans (h.block i hi hn)⟩
theorem Foot.cell (h : Foot fs w w') {p : Addr} (hp : p.block < w.heap.size) (hn : p.block ∉ fs) : w'.cell? p = w.cell? p := World.cell?_of_block (w := w) (h.block p.block hp hn)
theorem Blk.foot {g : Nat} {t : TypeId} {cs : Array Value} (h : Blk w g t cs) (hf : Foot fs w w') (hn : g ∉ fs) : Blk w' g t cs := (hf.block g h.lt hn).trans h
theorem Mat.foot {g n sz : Nat} {t : TypeId} {F : Nat → Nat → Value} (h : Mat w g t n sz F) (hf : Foot fs w w') (hn : g ∉ fs) : Mat w' g t n sz F := by
  obtain ⟨cs, h1, r⟩ := h; exact ⟨cs, h1.foot hf hn, r⟩
theorem below_foot (h : Below a.heap.size a w) (hf : Foot fs w w') (hs : ∀ x ∈ fs, a.heap.size ≤ x) : Below a.heap.size a w' :=
  ⟨hf.os.trans h.os, hf.tape.trans h.tape, hf.output.trans h.output, Nat.le_trans h.size hf.size, fun k hk => (hf.block k (Nat.lt_of_lt_of_le hk h.size) (fun hm => by have := hs k hm; omega)).trans (h.block k hk)⟩
end
end Go.Proofs.Ytmngndmcidbakaa
