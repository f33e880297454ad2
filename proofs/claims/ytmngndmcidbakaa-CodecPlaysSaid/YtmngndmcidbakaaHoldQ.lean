/- Taking a quiet call first: one that, in every world that meets S, hands back v and leaves the world alone. -/
import Derived.Test.YtmngndmcidbakaaHold
namespace Go.Proofs.Ytmngndmcidbakaa.Hold
section
variable {P : Program} {ops : Array Oper} {Q : Exit → Act → World → Prop} {S : World → Prop}

/-- What is asked of it: it hangs on what it looks at alone. -/
def Still (P : Program) (ops : Array Oper) (S : World → Prop) (o : Oper) (v : Value) (a : Act) : Prop :=
  Region.wanted o (yielded ops a.tmps) = true ∧ ∃ f args, (∀ w, S w → (execOp a.eval o).run P w = .ok (.enter f args) w) ∧ ∀ w, S w → Calls P f args w fun e w' => e = .returned v ∧ w = w'
theorem Still.same {o : Oper} {v : Value} {a b : Act} (h : Still P ops S o v a) (he : execOp b.eval o = execOp a.eval o) (hw : Region.wanted o (yielded ops b.tmps) = Region.wanted o (yielded ops a.tmps)) : Still P ops S o v b := by
  obtain ⟨h1, f, args, h2, h3⟩ := h
  exact ⟨hw.trans h1, f, args, fun w hS => by rw [he]; exact h2 w hS, h3⟩
theorem Still.go {i : Nat} {o : Oper} {v : Value} {a : Act} {w : World} {K : Act → World → Prop} (hi : ops[i]? = some o) (h : Still P ops S o v a) (hS : S w) (hK : K (a.put o.dst v) w) : wpOp P ops Q i K a w := by
  obtain ⟨h1, f, args, h2, h3⟩ := h
  refine Hold.call hi h1 (h2 w hS) ((h3 w hS).mono fun e w' he => ?_)
  obtain ⟨rfl, rfl⟩ := he
  exact ⟨v, rfl, hK⟩
/-- One that is apart from it goes the same way ahead of it. -/
theorem Still.past {i j : Nat} {o x : Oper} {v : Value} {a : Act} {w : World} {K : Act → World → Prop} (hx : ops[j]? = some x) (hap : o.apart ops x = true) (hso : ∀ cs b, o.op ≠ .select cs b) (hsx : ∀ cs b, x.op ≠ .select cs b)
    (hQ : ∀ c a w, Q (.panic c) (a.put o.dst v) w → Q (.panic c) a w) (h : Still P ops S o v a) (hw : wpOp P ops Q j K (a.put o.dst v) w) :
    wpOp P ops Q j (fun a' w' => Still P ops S o v a' ∧ K (a'.put o.dst v) w') a w := by
  obtain ⟨q1, q2, q3⟩ := Oper.apart_spec hap
  have k1 : ∀ (b : Act) u, Still P ops S o v b → Still P ops S o v (b.put x.dst u) := fun b u hb => hb.same (execOp_put o hso b x.dst u q3) (wanted_put o b x.dst u q3)
  have k2 : ∀ d, Still P ops S o v { a with defers := d :: a.defers } := fun d => h.same rfl rfl
  have e1 := execOp_put (ops := ops) x hsx a o.dst v q1
  unfold wpOp at hw ⊢
  simp only [hx] at hw ⊢
  rw [wanted_put x a o.dst v q1] at hw
  by_cases hc : Region.wanted x (yielded ops a.tmps) = true
  · rw [if_pos hc] at hw ⊢
    rcases hw with hw | ⟨ha, hl⟩
    · left
      unfold Oper.wp at hw ⊢
      rw [e1] at hw
      cases hr : (execOp a.eval x).run P w with
      | ok n w' =>
        rw [hr] at hw
        cases n with
        | value u => exact ⟨k1 a u h, by rw [← Act.put_comm a v u q2]; exact hw⟩
        | skip => exact ⟨k1 a _ h, by rw [← Act.put_comm a v undef q2]; exact hw⟩
        | defer d => exact ⟨k1 _ _ (k2 d), by rw [← Act.put_comm _ v undef q2, ← Act.put_defers]; exact hw⟩
        | enter f args =>
          refine Calls.mono hw fun e w'' he => ?_
          cases e with
          | returned u => exact ⟨k1 a u h, by rw [← Act.put_comm a v u q2]; exact he⟩
          | panicked c => exact hQ _ _ _ he
          | outgrown => exact he
        | row r args => exact Rows.mono hw fun u w'' he => ⟨k1 a u h, by rw [← Act.put_comm a v u q2]; exact he⟩
        | _ => exact hw.elim
      | halt t w' =>
        rw [hr] at hw
        cases t with
        | panic u => exact hQ _ _ _ hw
        | _ => exact hw.elim
    · right
      refine ⟨?_, hl⟩
      unfold Oper.asks at ha ⊢
      rw [e1] at ha
      exact ha
  · rw [if_neg hc] at hw ⊢
    exact ⟨k1 a _ h, by rw [← Act.put_comm a v undef q2]; exact hw⟩
theorem still_first {i : Nat} {o : Oper} {v : Value} (hi : ops[i]? = some o) (hsel : ∀ (j : Nat) (x : Oper) cs b, ops[j]? = some x → x.op ≠ .select cs b) (hQ : ∀ c a w, Q (.panic c) (a.put o.dst v) w → Q (.panic c) a w) :
    ∀ (n : Nat) (listed : Array Bool) (a : Act) (w : World), (∀ j x, ops[j]? = some x → j ≠ i → listed.getD j true = false → (∀ e ∈ x.after, Region.binds .any e = true → e.on ≠ i) → o.apart ops x = true) →
      i ∈ Region.ready .any ops listed → Still P ops S o v a → S w → wpAnyH P .any ops Q S n (listed.setIfInBounds i true) (a.put o.dst v) w → wpAnyH P .any ops Q S (n + 1) listed a w := by
  intro n
  induction n with
  | zero =>
    intro listed a w _ hr hy hS H
    refine ⟨fun h0 => absurd hr (by rw [h0]; simp), fun j hj => ?_⟩
    by_cases e : j = i
    · subst e; exact hy.go hi hS ⟨hS, H⟩
    · exact absurd (ready_mono hj e) (by rw [H.1]; simp)
  | succ n ih =>
    intro listed a w hfree hr hy hS H
    refine ⟨fun h0 => absurd hr (by rw [h0]; simp), fun j hj => ?_⟩
    by_cases e : j = i
    · subst e; exact hy.go hi hS ⟨hS, H⟩
    · obtain ⟨hjf, x, hx, hall⟩ := mem_ready.1 hj
      have hno : ∀ q ∈ x.after, Region.binds .any q = true → q.on ≠ i := fun q hq hb hqi => by
        have p1 := hall q hq hb
        have p0 := (mem_ready.1 hr).1
        rw [hqi] at p1
        rcases Nat.lt_or_ge i listed.size with hl | hl
        · simp [hl] at p0 p1; rw [p0] at p1; cases p1
        · simp [Array.getElem?_eq_none hl] at p1
      have h2 := Still.past (i := i) hx (hfree j x hx e hjf hno) (fun cs b => hsel i o cs b hi) (fun cs b => hsel j x cs b hx) hQ hy (H.2 j (ready_mono hj e))
      refine wpOp_mono (fun a' w' h3 => ⟨h3.2.1, ih (listed.setIfInBounds j true) a' w' (fun k y hy' hki hun hn2 => hfree k y hy' hki ?_ hn2) (ready_mono hr (Ne.symm e)) h3.1 h3.2.1 ?_⟩) h2
      · by_cases hjk : j = k
        · subst hjk; exact hjf
        · rw [getD_set_ne true hjk] at hun; exact hun
      · rw [Array.setIfInBounds_comm _ _ e]; exact h3.2.2
theorem quiet {i : Nat} {oi : Oper} {v : Value} {f : FuncId} {args : Array Value} {fuel : Nat} {listed : Array Bool} {a : Act} {w : World} (hi : ops[i]? = some oi)
    (hc : (Region.noSelect ops && Region.free .any ops listed i && (Region.ready .any ops listed).contains i) = true)
    (hQ : ∀ c a w, Q (.panic c) (a.put oi.dst v) w → Q (.panic c) a w) (hw : Region.wanted oi (yielded ops a.tmps) = true) (hr : ∀ w, S w → (execOp a.eval oi).run P w = .ok (.enter f args) w)
    (hy : ∀ w, S w → Calls P f args w fun e w' => e = .returned v ∧ w = w') (hS : S w)
    (h : wpAnyH P .any ops Q S fuel (listed.setIfInBounds i true) (a.put oi.dst v) w) : wpAnyH P .any ops Q S (fuel + 1) listed a w := by
  rw [Bool.and_eq_true, Bool.and_eq_true] at hc
  exact still_first hi (Region.noSelect_spec hc.1.1) hQ fuel listed a w (Region.free_spec hi hc.1.2) (by simpa using hc.2) ⟨hw, f, args, hr, hy⟩ hS h
end
end Go.Proofs.Ytmngndmcidbakaa.Hold
