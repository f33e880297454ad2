/- One operation of a held region, by a law of lists of operations. -/
import Derived.Test.YtmngndmcidbakaaHold
namespace Go.Proofs.Ytmngndmcidbakaa.Hold
section
variable {P : Program} {ops : Array Oper} {Q : Exit → Act → World → Prop}
/-- K where it goes on; Q elsewhere. -/
def Qn (K : Act → World → Prop) (Q : Exit → Act → World → Prop) : Exit → Act → World → Prop
  | .normal, a, w => K a w
  | e, a, w => Q e a w
theorem list1 {i : Nat} {o : Oper} {K : Act → World → Prop} {a : Act} {w : World} (hi : ops[i]? = some o) (hgd : o.guard = none) (h : wpList P ops (Qn K Q) [o] a w) : wpOp P ops Q i K a w := by
  unfold wpOp
  have hw : Region.wanted o (yielded ops a.tmps) = true := by unfold Region.wanted; rw [hgd]
  simp only [hi, hw, if_true]
  unfold wpList at h
  rw [if_pos hw] at h
  have h' : o.wp P a w K (Qn K Q) ∨ (o.asks P a w ∧ LetsOut (Qn K Q)) := h
  rcases h' with h | ⟨h1, h2⟩
  · left
    unfold Oper.wp at *
    generalize (execOp a.eval o).run P w = r at *
    cases r with
    | ok n w' =>
      cases n <;> simp only [Oper.upon] at h ⊢
      case value => exact h
      case skip => exact h
      case defer => exact h
      case enter f args =>
        refine Calls.mono h fun e w'' he => ?_
        cases e with
        | returned u => exact he
        | panicked c => exact he
        | outgrown => exact he
      case row => exact h
    | halt x w' =>
      cases x <;> simp only [Oper.upon] at h ⊢
      case panic => exact h
  · exact .inr ⟨h1, h2⟩
end
end Go.Proofs.Ytmngndmcidbakaa.Hold
