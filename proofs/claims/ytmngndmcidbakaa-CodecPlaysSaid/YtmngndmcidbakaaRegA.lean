/- A drawn region that makes just one block. -/
import Derived.Test.YtmngndmcidbakaaRegM
import Derived.Test.YtmngndmcidbakaaBase
namespace Go.Proofs.Ytmngndmcidbakaa
open Go.RowKit

def AS (W : World) (o : Obj) (c : Nat) (w' : World) : Prop := if c = 0 then w' = W.drew else w' = W.drew.alloc o
theorem as_cell {W : World} {o : Obj} {p : Addr} {v : Value} (hp : p.block < W.heap.size) (h : W.cell? p = some v) : ∀ w' c, AS W o c w' → w'.cell? p = some v := fun w' c hS => by
  unfold AS at hS
  split at hS
  · subst hS; exact h
  · subst hS; rw [World.cell?_alloc_lt W.drew _ p (by simpa using hp)]; exact h
theorem as_make {W w2 : World} {o : Obj} (h : AS W o 0 w2) : w2 = W.drew := h
theorem as_end {W w2 : World} {o : Obj} (h : AS W o 1 w2) : w2 = W.drew.alloc o := h
end Go.Proofs.Ytmngndmcidbakaa
namespace Go.Proofs.Ytmngndmcidbakaa.Reg
section
variable {P : Program} {ops : Array Oper} {effs : List Nat}
theorem WT.store {Q : Exit → Act → World → Prop} {S : Nat → World → Prop} {k i c : Nat} {o : Oper} {l : List Oper} {a : Act} (he : effs.contains i = true)
    (hw : Region.wanted o (yielded ops a.tmps) = true) (hr : ∀ w, S c w → ∃ w', (execOp a.eval o).run P w = .ok .skip w' ∧ S (c + 1) w')
    (h : WT P ops Q S effs k l (i + 1) (c + 1) (a.put o.dst undef)) : WT P ops Q S effs (k + 1) (o :: l) i c a :=
  WT.skip he hw (fun w hS => by
    obtain ⟨w', e, hS'⟩ := hr w hS
    unfold Oper.wp
    rw [e]
    exact ⟨rfl, hS'⟩) h
end
end Go.Proofs.Ytmngndmcidbakaa.Reg
namespace Go.Proofs.Ytmngndmcidbakaa
open Go.RowKit
/-- A drawn region that stores just once. -/
def SS (W : World) (p : Addr) (v : Value) (c : Nat) (w' : World) : Prop := if c = 0 then w' = W.drew else w' = W.drew.setCell p v
theorem ss_same {W : World} {g i : Nat} {t : TypeId} {cs : Array Value} {v : Value} (h : Blk W g t cs) (hi : cs[i]? = some v) : ∀ w' c, SS W ⟨g, i, none⟩ v c w' → w'.cell? ⟨g, i, none⟩ = some v := fun w' c hS => by
  unfold SS at hS
  split at hS
  · subst hS; exact (h.cell i).trans hi
  · subst hS
    rw [(h.drew.set_ i v).cell]
    have := (Array.getElem?_eq_some_iff.1 hi).1
    simp [this]
theorem ss_far {W : World} {p q : Addr} {u v : Value} (hne : q.block ≠ p.block) (h : W.cell? q = some u) : ∀ w' c, SS W p v c w' → w'.cell? q = some u := fun w' c hS => by
  unfold SS at hS
  split at hS
  · subst hS; exact h
  · subst hS
    rw [World.cell?_of_block (w := W.drew) (a := q) (Below.heap_setCell W.drew p v q.block hne)]
    exact h
theorem ss_make {W w2 : World} {p : Addr} {v : Value} (h : SS W p v 0 w2) : w2 = W.drew := h
theorem ss_end {W w2 : World} {p : Addr} {v : Value} (h : SS W p v 1 w2) : w2 = W.drew.setCell p v := h
end Go.Proofs.Ytmngndmcidbakaa
