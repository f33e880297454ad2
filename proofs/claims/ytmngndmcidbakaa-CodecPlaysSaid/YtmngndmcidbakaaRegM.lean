/- One more move of a drawn region: an operation that makes memory, or a call whose value hangs on the world. -/
import Derived.Test.YtmngndmcidbakaaReg
namespace Go.Proofs.Ytmngndmcidbakaa.Reg
section
variable {P : Program} {ops : Array Oper} {effs : List Nat}
theorem WT.make {Q : Exit → Act → World → Prop} {S : Nat → World → Prop} {k i c : Nat} {o : Oper} {l : List Oper} {a : Act} {v : Value} (he : effs.contains i = true)
    (hw : Region.wanted o (yielded ops a.tmps) = true) (hr : ∀ w, S c w → ∃ w', (execOp a.eval o).run P w = .ok (.value v) w' ∧ S (c + 1) w')
    (h : WT P ops Q S effs k l (i + 1) (c + 1) (a.put o.dst v)) : WT P ops Q S effs (k + 1) (o :: l) i c a :=
  WT.skip he hw (fun w hS => by
    obtain ⟨w', e, hS'⟩ := hr w hS
    unfold Oper.wp
    rw [e]
    exact ⟨rfl, hS'⟩) h
/-- An effect whose guard is not met. -/
theorem WT.pass {Q : Exit → Act → World → Prop} {S : Nat → World → Prop} {k i c : Nat} {o : Oper} {l : List Oper} {a : Act} (he : effs.contains i = false)
    (hw : Region.wanted o (yielded ops a.tmps) = false) (h : WT P ops Q S effs k l (i + 1) c (a.put o.dst undef)) : WT P ops Q S effs (k + 1) (o :: l) i c a := WT.idle he hw h
end
end Go.Proofs.Ytmngndmcidbakaa.Reg
