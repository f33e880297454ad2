/- A drawn region in the round of a range over a function: the walk of Reg, all operations of the region one by one. -/
import Derived.Test.YtkjmknmcadloaaaReg
import Derived.OrdersIn
import Derived.RangeFuncCalls
namespace Go.Proofs.Ytkjmknmcadloaaa.Reg
section
variable {P : Program} {Q : Exit → Act → World → Prop}

theorem any {l : List Oper} {a : Act} {w : World} (k : Nat) (effs : List Nat) (S : Nat → World → Prop)
    (hok : ok l.toArray (Region.before l.toArray).toList k effs = true) (hk : decide (k ≤ l.length) = true) (hS : S 0 w.drew) (h : WT P l.toArray Q S effs k l 0 0 a) :
    wpAny P .any l.toArray Q l.toArray.size (Array.replicate l.toArray.size false) a w.drew := by
  obtain ⟨vs, _, h2, h3⟩ := WT.facts (a0 := a) k l 0 [] rfl h (fun j => by simp)
  have hok' := ok_spec hok
  have hrep : ∀ j, (Array.replicate l.toArray.size false).getD j false = false := fun j => by
    simp [Array.getElem?_replicate]; split <;> rfl
  have hkl : k ≤ l.length := of_decide_eq_true hk
  have hun : ∀ n, n ≤ l.length → unl (Array.replicate l.toArray.size false) n = n := by
    intro n hn
    induction n with
    | zero => rfl
    | succ n ih => unfold unl; rw [ih (by omega)]; simp [show n < l.length from hn]
  have hc0 : ∀ n, cnt effs (sel (Array.replicate l.toArray.size false)) n = 0 := by
    intro n
    induction n with
    | zero => rfl
    | succ n ih => unfold cnt; rw [ih]; unfold sel; rw [hrep]; simp
  have hfr : fr l.toArray vs (sel (Array.replicate l.toArray.size false)) a k = a := fr_cut (i := 0) k (Nat.zero_le _) (fun j _ _ => hrep j)
  have := all_any (P := P) (Q := Q) (S := S) (a0 := a) (vs := vs) hok' (by simpa using hkl) (fun j hj => h2 j (Nat.zero_le _) (by omega)) (by simpa using h3) l.toArray.size (Array.replicate l.toArray.size false) w.drew
    (by simp) (by simpa using hun l.length (Nat.le_refl _)) ?_ (fun j h1 h2 => ?_) (by rw [hc0]; exact hS)
  · rw [hfr] at this
    exact this
  · intro j o ho hl e he hb
    have hj : j < l.toArray.size := (Array.getElem?_eq_some_iff.1 ho).1
    rw [← getD_lt (by simpa using hj) false true, hrep] at hl
    cases hl
  · rw [← getD_lt (by simpa using h2) false true, hrep]

theorem rowsIn_wide {n : Nat} {row : String} {args : Array Value} {w : World} {R : Value → World → Prop} (l : Nat) (h : Rows P row args w R) : RowsIn (Fence.wide.inRound l) n P row args w R :=
  fun c cs _ => let ⟨v, w', r, s⟩ := h c cs; ⟨v, w', r, stepsIn_wide.2 s⟩

def noDefer (l : List Oper) : Bool := l.all fun o => match o.op with | .defer _ => false | _ => true
/-- Only a normal end. -/
def only (Q : Exit → Act → World → Prop) : Exit → Act → World → Prop := fun e a w => e = .normal ∧ Q .normal a w

theorem op_in {rl n : Nat} {ops : Array Oper} {i : Nat} {K : Act → World → Prop} {a : Act} {w : World} (hd : ∀ o, ops[i]? = some o → ∀ c, o.op ≠ .defer c) (h : wpOp P ops (only Q) i K a w) :
    wpOpIn (Fence.wide.inRound rl) n P ops (only Q) i K a w := by
  unfold wpOp at h
  unfold wpOpIn
  cases ho : ops[i]? with
  | none => simpa [ho] using h
  | some o =>
    simp only [ho] at h ⊢
    by_cases hw : Region.wanted o (yielded ops a.tmps) = true
    · rw [if_pos hw] at h ⊢
      rcases h with h | ⟨_, a0, w0, h0⟩
      · refine ⟨fun _ _ => trivial, ?_⟩
        rw [Oper.semAt_eq _ _ _ (hd o ho)]
        unfold Oper.wp at h
        generalize (execOp a.eval o).run P w = r at h
        cases r with
        | ok x w' =>
          cases x <;> simp only [Oper.upon] at h <;> simp only [Oper.uponIn]
          case value => exact h
          case skip => exact h
          case defer => exact h
          case enter f args =>
            refine ⟨fun h => (by cases h), CallsIn.inRound rl (callsIn_wide.2 (Calls.mono h fun e w'' he => ?_))⟩
            cases e with
            | returned u => exact he
            | panicked c => exact he
            | outgrown => exact he
          case row => exact ⟨fun h => (by cases h), rowsIn_wide rl h⟩
        | halt x w' =>
          cases x <;> simp only [Oper.upon] at h <;> simp only [Oper.uponIn]
          case panic => exact h
      · cases h0.1
    · rw [if_neg hw] at h ⊢
      exact ⟨fun _ _ => trivial, h⟩
theorem any_in {rl n : Nat} {ops : Array Oper} (hd : ∀ (i : Nat) (o : Oper), ops[i]? = some o → ∀ c, o.op ≠ .defer c) : ∀ (fuel : Nat) (listed : Array Bool) (a : Act) (w : World), wpAny P .any ops (only Q) fuel listed a w →
    wpAnyIn (Fence.wide.inRound rl) n P .any ops (only Q) fuel listed a w
  | 0, _, _, _, h => h
  | fuel + 1, _, _, _, h => ⟨h.1, fun i hi => op_in (hd i) (wpOp_mono (fun a' w' h' => any_in hd fuel _ a' w' h') (h.2 i hi))⟩
/-- **THE REGION IN A ROUND**: all operations one by one in the text's order. -/
theorem region_in {rl n : Nat} {id : Nat} {l : List Oper} {a : Act} {w : World} (hm : P.follows .mixedOrders = true) (k : Nat) (effs : List Nat) (S : Nat → World → Prop)
    (hok : ok l.toArray (Region.before l.toArray).toList k effs = true) (hk : decide (l.length = k) = true) (hd : noDefer l = true) (hS : S 0 w.drew) (h : WT P l.toArray (only Q) S effs k l 0 0 a) :
    (Code.region id l.toArray true).wpIn (Fence.wide.inRound rl) n P Q a w := by
  have hk' : l.length = k := of_decide_eq_true hk
  refine wpIn_mono (Q := only Q) (wpIn_region_any hm (any_in (fun i o ho c hc => ?_) _ _ _ _ (any k effs S hok (decide_eq_true (by omega)) hS h))) (fun e a w hq => by obtain ⟨rfl, hq⟩ := hq; exact hq)
  unfold noDefer at hd
  rw [List.all_eq_true] at hd
  have := hd o (List.mem_of_getElem? (by simpa using ho))
  rw [hc] at this
  cases this
theorem WT.done {ops : Array Oper} {S : Nat → World → Prop} {effs : List Nat} {i c : Nat} {a : Act} (h : ∀ w, S c w → Q .normal a w) : WT P ops (only Q) S effs 0 [] i c a := fun w hS => ⟨rfl, h w hS⟩
end
end Go.Proofs.Ytkjmknmcadloaaa.Reg
