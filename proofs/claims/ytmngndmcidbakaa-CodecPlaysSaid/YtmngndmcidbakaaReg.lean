/- A region whose order is drawn, walked once in the text's order: the operations ahead of number k yield one value each in every world of a class that moves on only at calls that stand in a chain; those from k on wait for all ahead of them. -/
import Derived.OrdersHeld
import Derived.Tactics
import Derived.KernelRfl
namespace Go.Proofs.Ytmngndmcidbakaa.Reg

/-- The conditions on the region itself: closed facts, for the kernel. -/
def bit (cl : List Nat) (j i : Nat) : Bool := (cl.getD j 0).testBit i
def edgesOk (ops : Array Oper) (cl : List Nat) (j : Nat) (o : Oper) : Bool :=
  (o.after.all fun e => !Region.binds .any e || decide (e.on < j)) &&
  ((List.range ops.size).all fun i => !bit cl j i || o.after.any fun e => Region.binds .any e && (e.on == i || bit cl e.on i))
def pairOk (ops : Array Oper) (cl : List Nat) (k : Nat) (effs : List Nat) (j : Nat) (o : Oper) (i : Nat) (x : Oper) : Bool :=
  -- i < j: whatever they share is in the chain; both effects: too; j from k on: too
  i ≥ j || bit cl j i ||
    (decide (j < k) && !(effs.contains i && effs.contains j) &&
     (match x.dst with | some d => !(o.looksAt ops).contains d && o.dst != some d | none => true) &&
     (match o.dst with | some d => !(x.looksAt ops).contains d | none => true))
def ok (ops : Array Oper) (cl : List Nat) (k : Nat) (effs : List Nat) : Bool :=
  Region.noSelect ops &&
  ops.zipIdx.toList.all fun (o, j) => edgesOk ops cl j o && ops.zipIdx.toList.all fun (x, i) => pairOk ops cl k effs j o i x

section
variable {P : Program} {ops : Array Oper}

structure Ok (ops : Array Oper) (cl : List Nat) (k : Nat) (effs : List Nat) : Prop where
  sel : Region.noSelect ops = true
  edge : ∀ (j : Nat) (o : Oper), ops[j]? = some o → ∀ e ∈ o.after, Region.binds .any e = true → e.on < j
  chain : ∀ (j : Nat) (o : Oper), ops[j]? = some o → ∀ i, i < ops.size → bit cl j i = true → ∃ e ∈ o.after, Region.binds .any e = true ∧ (e.on = i ∨ bit cl e.on i = true)
  late : ∀ (i j : Nat) (x o : Oper), ops[i]? = some x → ops[j]? = some o → i < j → k ≤ j → bit cl j i = true
  eff : ∀ (i j : Nat) (x o : Oper), ops[i]? = some x → ops[j]? = some o → i < j → effs.contains i = true → effs.contains j = true → bit cl j i = true
  look : ∀ (i j : Nat) (x o : Oper), ops[i]? = some x → ops[j]? = some o → i < j → bit cl j i = false →
    (∀ d, x.dst = some d → d ∉ o.looksAt ops ∧ o.dst ≠ some d) ∧ (∀ d, o.dst = some d → d ∉ x.looksAt ops)

theorem ok_spec {cl : List Nat} {k : Nat} {effs : List Nat} (h : ok ops cl k effs = true) : Ok ops cl k effs := by
  unfold ok at h
  rw [Bool.and_eq_true, List.all_eq_true] at h
  obtain ⟨hs, h⟩ := h
  have mem : ∀ (j : Nat) (o : Oper), ops[j]? = some o → (o, j) ∈ ops.zipIdx.toList := fun j o ho => by
    rw [Array.mem_toList_iff, Array.mem_zipIdx_iff_getElem?]; exact ho
  have he : ∀ (j : Nat) (o : Oper), ops[j]? = some o → edgesOk ops cl j o = true := fun j o ho => by
    have := h _ (mem j o ho)
    rw [Bool.and_eq_true] at this
    exact this.1
  have hp : ∀ (j : Nat) (o : Oper), ops[j]? = some o → ∀ (i : Nat) (x : Oper), ops[i]? = some x → pairOk ops cl k effs j o i x = true := fun j o ho i x hx => by
    have := h _ (mem j o ho)
    rw [Bool.and_eq_true, List.all_eq_true] at this
    exact this.2 _ (mem i x hx)
  refine ⟨hs, fun j o ho e hem hb => ?_, fun j o ho i hi hbit => ?_, fun i j x o hx ho hij hk => ?_, fun i j x o hx ho hij h1 h2 => ?_, fun i j x o hx ho hij hbit => ?_⟩
  · have := he j o ho
    unfold edgesOk at this
    rw [Bool.and_eq_true, Array.all_eq_true_iff_forall_mem] at this
    have := this.1 e hem
    rw [hb] at this
    simpa using this
  · have := he j o ho
    unfold edgesOk at this
    rw [Bool.and_eq_true, List.all_eq_true] at this
    have := this.2 i (List.mem_range.2 hi)
    rw [hbit] at this
    simp only [Bool.not_true, Bool.false_or] at this
    obtain ⟨e, hem, h2⟩ := Array.any_eq_true'.1 this
    simp only [Bool.and_eq_true, Bool.or_eq_true, beq_iff_eq] at h2
    exact ⟨e, hem, h2.1, h2.2⟩
  · have := hp j o ho i x hx
    unfold pairOk at this
    cases hb : bit cl j i
    · simp [hb, show ¬ j < k from by omega, show ¬ i ≥ j from by omega] at this
    · rfl
  · have := hp j o ho i x hx
    unfold pairOk at this
    cases hb : bit cl j i
    · simp [hb, show ¬ i ≥ j from by omega] at this
      simp_all
    · rfl
  · have := hp j o ho i x hx
    unfold pairOk at this
    rw [hbit] at this
    simp only [Bool.or_false, Bool.or_eq_true, decide_eq_true_eq, Bool.and_eq_true, show ¬ i ≥ j from by omega, false_or] at this
    obtain ⟨⟨_, h1⟩, h2⟩ := this
    refine ⟨fun d hd => ?_, fun d hd => ?_⟩
    · rw [hd] at h1
      simp at h1
      exact ⟨h1.1, h1.2⟩
    · rw [hd] at h2
      simpa using h2

/-! ### Frames: the first n operations' values, of those that 'sel' names -/
def fr (ops : Array Oper) (vs : List Value) (sel : Nat → Bool) (a : Act) : Nat → Act
  | 0 => a
  | i + 1 => if sel i then (fr ops vs sel a i).put ((ops[i]?).bind (·.dst)) (vs.getD i undef) else fr ops vs sel a i

theorem put_size (a : Act) (d : Option Tmp) (v : Value) : (a.put d v).tmps.size = a.tmps.size := by cases d <;> simp [Act.put]
theorem put_defers (a : Act) (d : Option Tmp) (v : Value) : (a.put d v).defers = a.defers := by cases d <;> rfl
theorem fr_size (vs : List Value) (sel : Nat → Bool) (a : Act) : ∀ n, (fr ops vs sel a n).tmps.size = a.tmps.size
  | 0 => rfl
  | n + 1 => by unfold fr; split <;> simp [put_size, fr_size vs sel a n]
theorem fr_defers (vs : List Value) (sel : Nat → Bool) (a : Act) : ∀ n, (fr ops vs sel a n).defers = a.defers
  | 0 => rfl
  | n + 1 => by unfold fr; split <;> simp [put_defers, fr_defers vs sel a n]
theorem put_get_ne (a : Act) {d : Option Tmp} (v : Value) {t : Tmp} (h : d ≠ some t) : (a.put d v).tmps[t]? = a.tmps[t]? := by
  cases d with
  | none => rfl
  | some d => simp [Act.put, Array.getElem?_setIfInBounds_ne (show d ≠ t from fun e => h (e ▸ rfl))]
theorem put_get_eq (a : Act) (v : Value) {t : Tmp} : (a.put (some t) v).tmps[t]? = if t < a.tmps.size then some v else none := by
  simp only [Act.put]
  split
  · rename_i h; simp [h]
  · rename_i h; simp [h]
/-- Two choices that agree wherever temporary t is written. -/
theorem fr_get {vs : List Value} {s s' : Nat → Bool} {a : Act} {t : Tmp} : ∀ n, (∀ j, j < n → (ops[j]?).bind (·.dst) = some t → s j = s' j) →
    (fr ops vs s a n).tmps[t]? = (fr ops vs s' a n).tmps[t]?
  | 0, _ => rfl
  | n + 1, h => by
    have ih := fr_get (vs := vs) (s := s) (s' := s') (a := a) n (fun j hj => h j (by omega))
    unfold fr
    by_cases hd : (ops[n]?).bind (·.dst) = some t
    · rw [h n (by omega) hd]
      split
      · rw [hd, put_get_eq, put_get_eq, fr_size, fr_size]
      · exact ih
    · have e : ∀ (sel : Nat → Bool), (if sel n = true then (fr ops vs sel a n).put ((ops[n]?).bind (·.dst)) (vs.getD n undef) else fr ops vs sel a n).tmps[t]? = (fr ops vs sel a n).tmps[t]? := by
        intro sel
        split
        · exact put_get_ne _ _ hd
        · rfl
      rw [e s, e s', ih]
theorem fr_congr {vs : List Value} {s s' : Nat → Bool} {a : Act} : ∀ n, (∀ j, j < n → s j = s' j) → fr ops vs s a n = fr ops vs s' a n
  | 0, _ => rfl
  | n + 1, h => by
    unfold fr
    rw [h n (by omega), fr_congr n (fun j hj => h j (by omega))]
/-- What lies from i on is not chosen. -/
theorem fr_cut {vs : List Value} {s : Nat → Bool} {a : Act} {i : Nat} : ∀ n, i ≤ n → (∀ j, i ≤ j → j < n → s j = false) → fr ops vs s a n = fr ops vs s a i
  | 0, h, _ => by obtain rfl : i = 0 := by omega
                  rfl
  | n + 1, h, hs => by
    by_cases he : i = n + 1
    · rw [he]
    · have : s n = false := hs n (by omega) (by omega)
      conv => lhs; unfold fr
      rw [this]
      simp only [Bool.false_eq_true, if_false]
      exact fr_cut n (by omega) (fun j h1 h2 => hs j h1 (by omega))
/-- One more is chosen: number i; none of those behind it that are chosen writes its temporary. -/
theorem fr_more {vs : List Value} {s : Nat → Bool} {a : Act} {i : Nat} (hi : s i = false) : ∀ n, i < n →
    (∀ j, i < j → j < n → s j = true → ∀ d, (ops[i]?).bind (·.dst) = some d → (ops[j]?).bind (·.dst) ≠ some d) →
    fr ops vs (fun j => j == i || s j) a n = (fr ops vs s a n).put ((ops[i]?).bind (·.dst)) (vs.getD i undef)
  | 0, h, _ => absurd h (by omega)
  | n + 1, h, hd => by
    by_cases he : n = i
    · subst he
      unfold fr
      simp only [beq_self_eq_true, Bool.true_or, if_true, hi, Bool.false_eq_true, if_false]
      rw [fr_congr (s := fun j => j == n || s j) (s' := s) n (fun j hj => by simp [show j ≠ n from by omega])]
    · have ih := fr_more (vs := vs) (a := a) hi n (by omega) (fun j h1 h2 => hd j h1 (by omega))
      unfold fr
      have e : (n == i) = false := by simpa using he
      simp only [e, Bool.false_or]
      split
      · rename_i hs
        rw [ih]
        exact Act.put_comm _ _ _ (fun d hdd => hd n (by omega) (by omega) hs d hdd)
      · exact ih

theorem eval_get {a b : Act} {t : Tmp} (h : a.tmps[t]? = b.tmps[t]?) : a.eval (.tmp t) = b.eval (.tmp t) := by
  simp only [Act.eval, Array.getD_eq_getD_getElem?, h]
theorem exec_same {o : Oper} (hs : ∀ cs b, o.op ≠ .select cs b) {a b : Act} (h : ∀ t, t ∈ o.looksAt ops → a.tmps[t]? = b.tmps[t]?) : execOp a.eval o = execOp b.eval o :=
  execOp_congr o hs fun x hx => by
    cases x with
    | tmp t => exact eval_get (h t (List.mem_append_left _ (List.mem_filterMap.2 ⟨.tmp t, by simpa using hx, rfl⟩)))
    | _ => rfl
theorem wanted_same {o : Oper} {a b : Act} (h : ∀ t, t ∈ o.looksAt ops → a.tmps[t]? = b.tmps[t]?) : Region.wanted o (yielded ops a.tmps) = Region.wanted o (yielded ops b.tmps) := by
  unfold Region.wanted
  cases hg : o.guard with
  | none => rfl
  | some gw =>
    obtain ⟨g, want⟩ := gw
    simp only
    have : yielded ops a.tmps g = yielded ops b.tmps g := by
      unfold yielded
      cases ht : (ops[g]?).bind (·.dst) with
      | none => rfl
      | some t =>
        simp only [Option.bind_some]
        rw [h t (by simp [Oper.looksAt, hg, ht])]
    rw [this]

/-! ### One operation -/
/-- In state a: it yields v and leaves the world alone, in every world of every class; or (an effect) it yields v and leads from class c into class c + 1. -/
def Gives (P : Program) (ops : Array Oper) (S : Nat → World → Prop) (e : Bool) (c : Nat) (o : Oper) (v : Value) (a : Act) : Prop :=
  match e with
  | false => YieldsIf P ops (fun w => ∃ c, S c w) o v a
  | true => Region.wanted o (yielded ops a.tmps) = true ∧ ∀ w, S c w → o.wp P a w (fun a' w' => a' = a.put o.dst v ∧ S (c + 1) w') (fun _ _ _ => False)

/-- The walk in the text's order: k operations one by one, then the rest as they stand. -/
def WT (P : Program) (ops : Array Oper) (Q : Exit → Act → World → Prop) (S : Nat → World → Prop) (effs : List Nat) : Nat → List Oper → Nat → Nat → Act → Prop
  | 0, l, _, c, a => ∀ w, S c w → wpList P ops Q l a w
  | _ + 1, [], _, _, _ => False
  | k + 1, o :: l, i, c, a => ∃ v, Gives P ops S (effs.contains i) c o v a ∧ WT P ops Q S effs k l (i + 1) (if effs.contains i then c + 1 else c) (a.put o.dst v)

theorem Gives.same {S : Nat → World → Prop} {e : Bool} {c : Nat} {o : Oper} {v : Value} {a b : Act} (hs : ∀ cs b, o.op ≠ .select cs b) (hz : a.tmps.size = b.tmps.size) (_hd : a.defers = b.defers)
    (hl : ∀ t, t ∈ o.looksAt ops → a.tmps[t]? = b.tmps[t]?) (h : Gives P ops S e c o v a) : Gives P ops S e c o v b := by
  cases e with
  | false =>
    unfold Gives at *
    exact h.of_same (exec_same hs hl).symm (wanted_same hl).symm
  | true =>
    unfold Gives at *
    obtain ⟨h1, h2⟩ := h
    refine ⟨by rw [← wanted_same hl]; exact h1, fun w hw => ?_⟩
    have h3 := h2 w hw
    unfold Oper.wp at *
    rw [exec_same hs hl] at h3
    have hput : ∀ u, a.put o.dst u = a.put o.dst v → b.put o.dst u = b.put o.dst v := fun u hu => by
      cases hdst : o.dst with
      | none => rfl
      | some d =>
        rw [hdst] at hu
        have e1 : (a.put (some d) u).tmps[d]? = (a.put (some d) v).tmps[d]? := by rw [hu]
        rw [put_get_eq, put_get_eq] at e1
        by_cases hlt : d < a.tmps.size
        · simp [hlt] at e1; rw [e1]
        · have hle : b.tmps.size ≤ d := by rw [← hz]; exact Nat.le_of_not_lt hlt
          simp only [Act.put]
          rw [Array.setIfInBounds_eq_of_size_le hle, Array.setIfInBounds_eq_of_size_le hle]
    generalize (execOp b.eval o).run P w = r at *
    cases r with
    | ok n w' =>
      cases n <;> simp only [Oper.upon] at h3 ⊢
      case value u => exact ⟨hput _ h3.1, h3.2⟩
      case skip => exact ⟨hput _ h3.1, h3.2⟩
      case defer d =>
        have h4 := congrArg Act.defers h3.1
        rw [put_defers, put_defers] at h4
        exact absurd (congrArg List.length h4) (by simp)
      case enter f args =>
        refine Calls.mono h3 fun e w'' he => ?_
        cases e with
        | returned u => exact ⟨hput _ he.1, he.2⟩
        | panicked ch => exact he
        | outgrown => exact he
      case row row args => exact Rows.mono h3 fun u w'' he => ⟨hput _ he.1, he.2⟩
    | halt x w' => cases x <;> simp only [Oper.upon] at h3 ⊢

theorem Gives.op {S : Nat → World → Prop} {e : Bool} {c : Nat} {i : Nat} {o : Oper} {v : Value} {a : Act} {Q : Exit → Act → World → Prop} (hi : ops[i]? = some o) (h : Gives P ops S e c o v a) {w : World} (hw : S c w)
    {K : Act → World → Prop} (hK : ∀ w', S (if e then c + 1 else c) w' → K (a.put o.dst v) w') : wpOp P ops Q i K a w := by
  cases e with
  | false =>
    unfold Gives at h
    exact YieldsIf.wpOp hi h (w := w) ⟨c, hw⟩ (hK w hw)
  | true =>
    unfold Gives at h
    unfold wpOp
    simp only [hi, h.1, if_true]
    have h2 := h.2 w hw
    refine .inl ?_
    unfold Oper.wp at *
    generalize (execOp a.eval o).run P w = r at *
    cases r with
    | ok n w' =>
      cases n <;> simp only [Oper.upon] at h2 ⊢
      case value u => obtain ⟨h3, h4⟩ := h2; rw [h3]; exact hK _ h4
      case skip => obtain ⟨h3, h4⟩ := h2; rw [h3]; exact hK _ h4
      case defer d => obtain ⟨h3, h4⟩ := h2; rw [h3]; exact hK _ h4
      case enter f args =>
        refine Calls.mono h2 fun e w'' he => ?_
        cases e with
        | returned u => obtain ⟨h3, h4⟩ := he; simp only at h3 ⊢; rw [h3]; exact hK _ h4
        | panicked ch => exact he.elim
        | outgrown => obtain ⟨_, _, h5⟩ := he; exact h5.elim
      case row row args => exact Rows.mono h2 fun u w'' he => by obtain ⟨h3, h4⟩ := he; rw [h3]; exact hK _ h4
    | halt x w' => cases x <;> simp only [Oper.upon] at h2

/-! ### The walk's facts, one for each number -/
def cnt (effs : List Nat) (s : Nat → Bool) : Nat → Nat
  | 0 => 0
  | n + 1 => cnt effs s n + (if effs.contains n && s n then 1 else 0)
theorem cnt_congr {effs : List Nat} {s s' : Nat → Bool} : ∀ n, (∀ j, j < n → effs.contains j = true → s j = s' j) → cnt effs s n = cnt effs s' n
  | 0, _ => rfl
  | n + 1, h => by
    unfold cnt
    rw [cnt_congr n (fun j hj => h j (by omega))]
    cases he : effs.contains n
    · simp
    · rw [h n (by omega) he]
theorem cnt_cut {effs : List Nat} {s : Nat → Bool} {i : Nat} : ∀ n, i ≤ n → (∀ j, i ≤ j → j < n → effs.contains j = true → s j = false) → cnt effs s n = cnt effs s i
  | 0, h, _ => by obtain rfl : i = 0 := by omega
                  rfl
  | n + 1, h, hs => by
    by_cases he : i = n + 1
    · rw [he]
    · conv => lhs; unfold cnt
      rw [cnt_cut n (by omega) (fun j h1 h2 => hs j h1 (by omega))]
      cases hc : effs.contains n
      · simp
      · simp [hs n (by omega) (by omega) hc]

def allT : Nat → Bool := fun _ => true

theorem fr_vs {vs vs' : List Value} {s : Nat → Bool} {a : Act} : ∀ n, (∀ j, j < n → vs.getD j undef = vs'.getD j undef) → fr ops vs s a n = fr ops vs' s a n
  | 0, _ => rfl
  | n + 1, h => by
    unfold fr
    rw [h n (by omega), fr_vs n (fun j hj => h j (by omega))]
theorem cnt_succ (effs : List Nat) (i : Nat) : cnt effs allT (i + 1) = if effs.contains i = true then cnt effs allT i + 1 else cnt effs allT i := by
  conv => lhs; unfold cnt
  cases effs.contains i <;> simp [allT]

theorem WT.facts {Q : Exit → Act → World → Prop} {S : Nat → World → Prop} {effs : List Nat} {a0 : Act} : ∀ (k : Nat) (l : List Oper) (i : Nat) (vs0 : List Value), vs0.length = i →
    WT P ops Q S effs k l i (cnt effs allT i) (fr ops vs0 allT a0 i) → (∀ j, l[j]? = ops[i + j]?) →
    ∃ vs : List Value, (∀ j, j < i → vs.getD j undef = vs0.getD j undef) ∧
      (∀ j, i ≤ j → j < i + k → ∃ o, ops[j]? = some o ∧ Gives P ops S (effs.contains j) (cnt effs allT j) o (vs.getD j undef) (fr ops vs allT a0 j)) ∧
      ∀ w, S (cnt effs allT (i + k)) w → wpList P ops Q (l.drop k) (fr ops vs allT a0 (i + k)) w
  | 0, l, i, vs0, _, h, _ => ⟨vs0, fun _ _ => rfl, fun j h1 h2 => absurd h2 (by omega), fun w hw => h w (by simpa using hw)⟩
  | k + 1, [], i, vs0, _, h, _ => h.elim
  | k + 1, o :: l, i, vs0, hlen, h, hl => by
    obtain ⟨v, hg, hr⟩ := h
    have ho : ops[i]? = some o := by simpa using (hl 0).symm
    have hsame : ∀ j, j < i → (vs0 ++ [v]).getD j undef = vs0.getD j undef := fun j hj => by
      simp [List.getElem?_append_left (show j < vs0.length from by omega)]
    have hat : (vs0 ++ [v]).getD i undef = v := by simp [← hlen]
    have hnext : fr ops (vs0 ++ [v]) allT a0 (i + 1) = (fr ops vs0 allT a0 i).put o.dst v := by
      conv => lhs; unfold fr
      rw [fr_vs i hsame, hat]
      simp [allT, ho]
    rw [← hnext, ← cnt_succ] at hr
    obtain ⟨vs, h1, h2, h3⟩ := WT.facts k l (i + 1) (vs0 ++ [v]) (by simp [hlen]) hr (fun j => by have := hl (j + 1); simpa [Nat.add_assoc, Nat.add_comm 1 j] using this)
    have e : i + (k + 1) = i + 1 + k := by omega
    refine ⟨vs, fun j hj => (h1 j (by omega)).trans (hsame j hj), fun j hj1 hj2 => ?_, fun w hw => ?_⟩
    · by_cases hji : j = i
      · subst hji
        refine ⟨o, ho, ?_⟩
        rw [h1 j (by omega), hat, fr_vs j (vs' := vs0) (fun m hm => (h1 m (by omega)).trans (hsame m hm))]
        exact hg
      · exact h2 j (by omega) (by omega)
    · rw [e] at hw ⊢
      exact h3 w hw

/-! ### The orders -/
def good (ops : Array Oper) (listed : Array Bool) : Prop :=
  ∀ (j : Nat) (o : Oper), ops[j]? = some o → listed.getD j true = true → ∀ e ∈ o.after, Region.binds .any e = true → listed.getD e.on true = true

variable {cl : List Nat} {k : Nat} {effs : List Nat}

theorem good_chain (hok : Ok ops cl k effs) {listed : Array Bool} (hg : good ops listed) : ∀ (j : Nat) (o : Oper), ops[j]? = some o →
    (∀ e ∈ o.after, Region.binds .any e = true → listed.getD e.on true = true) → ∀ i, i < ops.size → bit cl j i = true → listed.getD i true = true := by
  intro j
  induction j using Nat.strongRecOn with
  | _ j ih =>
    intro o ho he i hi hb
    obtain ⟨e, hem, hbi, h⟩ := hok.chain j o ho i hi hb
    have hlt := hok.edge j o ho e hem hbi
    rcases h with h | h
    · rw [← h]; exact he e hem hbi
    · have hj : j < ops.size := (Array.getElem?_eq_some_iff.1 ho).1
      obtain ⟨o', ho'⟩ : ∃ o', ops[e.on]? = some o' := ⟨ops[e.on]'(by omega), Array.getElem?_eq_getElem (by omega)⟩
      exact ih e.on hlt o' ho' (fun e' he' hb' => hg e.on o' ho' (he e hem hbi) e' he' hb') i hi h

theorem getD_lt {listed : Array Bool} {j : Nat} (h : j < listed.size) (d d' : Bool) : listed.getD j d = listed.getD j d' := by
  simp [Array.getD_eq_getD_getElem?, h]

/-- What may come up: not listed; all that it waits for is. -/
theorem ready_iff {listed : Array Bool} (hz : listed.size = ops.size) (hok : Ok ops cl k effs) {j : Nat} : j ∈ Region.ready .any ops listed ↔
    listed.getD j true = false ∧ ∃ o, ops[j]? = some o ∧ ∀ e ∈ o.after, Region.binds .any e = true → listed.getD e.on true = true := by
  rw [mem_ready]
  refine and_congr Iff.rfl ⟨fun ⟨o, ho, h⟩ => ⟨o, ho, fun e he hb => ?_⟩, fun ⟨o, ho, h⟩ => ⟨o, ho, fun e he hb => ?_⟩⟩
  · have hj : j < ops.size := (Array.getElem?_eq_some_iff.1 ho).1
    have := hok.edge j o ho e he hb
    rw [getD_lt (by omega) true false]
    exact h e he hb
  · have hj : j < ops.size := (Array.getElem?_eq_some_iff.1 ho).1
    have := hok.edge j o ho e he hb
    rw [getD_lt (by omega) false true]
    exact h e he hb

def unl (listed : Array Bool) : Nat → Nat
  | 0 => 0
  | n + 1 => unl listed n + (if listed.getD n true then 0 else 1)
theorem unl_zero {listed : Array Bool} : ∀ n, unl listed n = 0 → ∀ j, j < n → listed.getD j true = true
  | 0, _, j, hj => absurd hj (by omega)
  | n + 1, h, j, hj => by
    unfold unl at h
    by_cases e : j = n
    · subst e
      cases hb : listed.getD j true
      · rw [hb] at h; simp at h
      · rfl
    · exact unl_zero n (by omega) j (by omega)
theorem unl_far {listed : Array Bool} {j : Nat} : ∀ n, n ≤ j → unl (listed.setIfInBounds j true) n = unl listed n
  | 0, _ => rfl
  | n + 1, h => by
    unfold unl
    rw [unl_far n (by omega), getD_set_ne true (show j ≠ n from by omega)]
theorem getD_set_eq (listed : Array Bool) (j : Nat) : (listed.setIfInBounds j true).getD j true = true := by
  by_cases h : j < listed.size
  · simp [h]
  · simp [h]
theorem unl_set {listed : Array Bool} {j : Nat} (hj : listed.getD j true = false) : ∀ n, j < n → unl (listed.setIfInBounds j true) n + 1 = unl listed n
  | 0, h => absurd h (by omega)
  | n + 1, h => by
    unfold unl
    by_cases e : j = n
    · subst e
      rw [unl_far j (Nat.le_refl _), getD_set_eq, hj]
      simp
    · rw [getD_set_ne true e]
      have := unl_set hj n (by omega)
      omega
theorem cnt_set {s : Nat → Bool} {j : Nat} (hj : s j = false) : ∀ n, j < n → cnt effs (fun i => i == j || s i) n = cnt effs s n + (if effs.contains j then 1 else 0)
  | 0, h => absurd h (by omega)
  | n + 1, h => by
    unfold cnt
    by_cases e : j = n
    · subst e
      rw [cnt_congr (s' := s) j (fun i hi _ => by simp [show i ≠ j from by omega])]
      simp [hj]
    · rw [cnt_set hj n (by omega)]
      have : (n == j) = false := by simpa using fun h => e h.symm
      simp only [this, Bool.false_or]
      omega

def sel (listed : Array Bool) : Nat → Bool := fun j => listed.getD j false
theorem sel_true {listed : Array Bool} {j : Nat} (h : j < listed.size) : sel listed j = listed.getD j true := getD_lt h _ _
theorem sel_set {listed : Array Bool} {j : Nat} (h : j < listed.size) : sel (listed.setIfInBounds j true) = fun i => i == j || sel listed i := by
  funext i
  unfold sel
  by_cases e : i = j
  · subst e; simp [h]
  · rw [getD_set_ne false (Ne.symm e)]; simp [e]

theorem ready_some (hok : Ok ops cl k effs) {listed : Array Bool} (hz : listed.size = ops.size) : ∀ j, j < ops.size → listed.getD j true = false → Region.ready .any ops listed ≠ [] := by
  intro j
  induction j using Nat.strongRecOn with
  | _ j ih =>
    intro hj hl hnil
    have hno : j ∉ Region.ready .any ops listed := by rw [hnil]; simp
    apply hno
    rw [ready_iff hz hok]
    refine ⟨hl, ops[j], Array.getElem?_eq_getElem hj, fun e he hb => ?_⟩
    have hlt := hok.edge j _ (Array.getElem?_eq_getElem hj) e he hb
    cases hc : listed.getD e.on true
    · exact absurd hnil (ih e.on hlt (by omega) hc)
    · rfl

section
variable {Q : Exit → Act → World → Prop} {S : Nat → World → Prop} {a0 : Act} {vs : List Value}

/-- Only those from k on are left, and they come in the text's order. -/
theorem tail_any (hok : Ok ops cl k effs) : ∀ (fuel m : Nat) (listed : Array Bool) (a : Act) (w : World), listed.size = ops.size → k ≤ m → m + fuel = ops.size →
    (∀ j, j < ops.size → (listed.getD j true = true ↔ j < m)) → wpList P ops Q (ops.toList.drop m) a w → wpAny P .any ops Q fuel listed a w := by
  intro fuel
  induction fuel with
  | zero =>
    intro m listed a w hz hk hm hl h
    refine ⟨?_, ?_⟩
    · cases hr : Region.ready .any ops listed with
      | nil => rfl
      | cons x xs =>
        have hx : x ∈ Region.ready .any ops listed := by rw [hr]; exact List.mem_cons_self
        obtain ⟨h0, o, ho, _⟩ := (ready_iff hz hok).1 hx
        have hx : x < ops.size := (Array.getElem?_eq_some_iff.1 ho).1
        rw [(hl x hx).2 (by omega)] at h0
        cases h0
    · rw [List.drop_eq_nil_of_le (by simp; omega)] at h
      exact h
  | succ fuel ih =>
    intro m listed a w hz hk hm hl h
    have hmn : m < ops.size := by omega
    refine ⟨fun hnil => absurd hnil (ready_some hok hz m hmn ?_), fun i hi => ?_⟩
    · cases hc : listed.getD m true
      · rfl
      · exact absurd ((hl m hmn).1 hc) (by omega)
    · obtain ⟨h0, o, ho, hall⟩ := (ready_iff hz hok).1 hi
      have hin : i < ops.size := (Array.getElem?_eq_some_iff.1 ho).1
      have him : m ≤ i := by
        rcases Nat.lt_or_ge i m with h1 | h1
        · rw [(hl i hin).2 h1] at h0; cases h0
        · exact h1
      have hg : good ops listed := by
        intro j o' ho' hlj e he hb
        have hjn : j < ops.size := (Array.getElem?_eq_some_iff.1 ho').1
        have := hok.edge j o' ho' e he hb
        exact (hl _ (by omega)).2 (by have := (hl j hjn).1 hlj; omega)
      have hie : i = m := by
        rcases Nat.eq_or_lt_of_le him with h1 | h1
        · exact h1.symm
        · have hb := hok.late m i ops[m] o (Array.getElem?_eq_getElem hmn) ho h1 (by omega)
          have := good_chain hok hg i o ho hall m hmn hb
          exact absurd ((hl m hmn).1 this) (by omega)
      subst hie
      have hd : ops.toList.drop i = o :: ops.toList.drop (i + 1) := by
        rw [List.drop_eq_getElem_cons (by simpa using hin)]
        congr 1
        have := Array.getElem?_eq_getElem hin
        rw [ho] at this
        simpa using this.symm
      rw [hd] at h
      have hnext : ∀ a' w', wpList P ops Q (ops.toList.drop (i + 1)) a' w' → wpAny P .any ops Q fuel (listed.setIfInBounds i true) a' w' := fun a' w' h' => by
        refine ih (i + 1) _ a' w' (by simpa using hz) (by omega) (by omega) (fun j hj => ?_) h'
        by_cases e : j = i
        · subst e; rw [getD_set_eq]; simp
        · rw [getD_set_ne true (Ne.symm e), hl j hj]; omega
      unfold wpOp
      simp only [ho]
      unfold wpList at h
      split
      · rename_i hw
        rw [if_pos hw] at h
        exact h.imp (Oper.wp_mono hnext) id
      · rename_i hw
        rw [if_neg hw] at h
        exact hnext _ _ h

theorem all_any (hok : Ok ops cl k effs) (hkn : k ≤ ops.size)
    (hf : ∀ j, j < k → ∃ o, ops[j]? = some o ∧ Gives P ops S (effs.contains j) (cnt effs allT j) o (vs.getD j undef) (fr ops vs allT a0 j))
    (hend : ∀ w, S (cnt effs allT k) w → wpList P ops Q (ops.toList.drop k) (fr ops vs allT a0 k) w) :
    ∀ (fuel : Nat) (listed : Array Bool) (w : World), listed.size = ops.size → unl listed ops.size = fuel → good ops listed → (∀ j, k ≤ j → j < ops.size → listed.getD j true = false) →
      S (cnt effs (sel listed) k) w → wpAny P .any ops Q fuel listed (fr ops vs (sel listed) a0 k) w := by
  -- where all ahead of k have come up
  have conv : ∀ (fuel : Nat) (listed : Array Bool) (w : World), listed.size = ops.size → unl listed ops.size = fuel → (∀ j, k ≤ j → j < ops.size → listed.getD j true = false) →
      (∀ j, j < k → listed.getD j true = true) → S (cnt effs (sel listed) k) w → wpAny P .any ops Q fuel listed (fr ops vs (sel listed) a0 k) w := by
    intro fuel listed w hz hu hlate hall hS
    have hs : ∀ j, j < k → sel listed j = allT j := fun j hj => by rw [sel_true (by omega), hall j hj]; rfl
    rw [cnt_congr (s' := allT) k (fun j hj _ => hs j hj)] at hS
    rw [fr_congr (s' := allT) k hs]
    refine tail_any hok fuel k listed _ w hz (Nat.le_refl _) ?_ (fun j hj => ?_) (hend w hS)
    · rw [← hu]
      have : ∀ n, k ≤ n → n ≤ ops.size → k + unl listed n = n := by
        intro n h1 h2
        induction n with
        | zero => have : k = 0 := by omega
                  subst this; rfl
        | succ n ih =>
          unfold unl
          by_cases e : k = n + 1
          · have h0 : ∀ m, m ≤ k → unl listed m = 0 := by
              intro m hm
              induction m with
              | zero => rfl
              | succ m ih' => unfold unl; rw [ih' (by omega), hall m (by omega)]; rfl
            rw [h0 n (by omega), hall n (by omega)]; simp; omega
          · rw [hlate n (by omega) (by omega)]
            have := ih (by omega) (by omega)
            simp
            omega
      exact this ops.size hkn (Nat.le_refl _)
    · rcases Nat.lt_or_ge j k with h1 | h1
      · simp [h1]; simpa using hall j h1
      · rw [hlate j h1 hj]; simp; omega
  intro fuel
  induction fuel with
  | zero =>
    intro listed w hz hu hg hlate hS
    have hall := unl_zero ops.size hu
    exact conv 0 listed w hz hu hlate (fun j hj => hall j (by omega)) hS
  | succ fuel ih =>
    intro listed w hz hu hg hlate hS
    by_cases hallk : ∀ j, j < k → listed.getD j true = true
    · exact conv _ listed w hz hu hlate hallk hS
    · have hex : ∃ j, j < k ∧ listed.getD j true = false := by
        refine Classical.byContradiction fun hno => hallk fun j hj => ?_
        cases hc : listed.getD j true
        · exact absurd ⟨j, hj, hc⟩ hno
        · rfl
      obtain ⟨j0, hj0, hl0⟩ := hex
      refine ⟨fun hnil => absurd hnil (ready_some hok hz j0 (by omega) hl0), fun i hi => ?_⟩
      obtain ⟨h0, o, ho, hedges⟩ := (ready_iff hz hok).1 hi
      have hin : i < ops.size := (Array.getElem?_eq_some_iff.1 ho).1
      have hchain : ∀ j, j < ops.size → bit cl i j = true → listed.getD j true = true := fun j hj hb => good_chain hok hg i o ho hedges j hj hb
      have hik : i < k := by
        rcases Nat.lt_or_ge i k with h1 | h1
        · exact h1
        · have hb := hok.late j0 i ops[j0] o (Array.getElem?_eq_getElem (by omega)) ho (by omega) h1
          rw [hchain j0 (by omega) hb] at hl0
          cases hl0
      obtain ⟨o', ho', hgive⟩ := hf i hik
      rw [ho] at ho'
      obtain rfl : o = o' := by simpa using ho'
      -- those behind i that wait for it have not come up
      have hbehind : ∀ j, i < j → j < k → sel listed j = true → bit cl j i = false := fun j hij hjk hs => by
        cases hb : bit cl j i
        · rfl
        · rw [sel_true (by omega)] at hs
          have hjn : j < ops.size := by omega
          have := good_chain hok hg j ops[j] (Array.getElem?_eq_getElem hjn) (fun e he hb' => hg j _ (Array.getElem?_eq_getElem hjn) hs e he hb') i hin hb
          rw [this] at h0; cases h0
      have hahead : ∀ j, j < i → sel listed j = false → bit cl i j = false := fun j hji hs => by
        cases hb : bit cl i j
        · rfl
        · rw [sel_true (by omega), hchain j (by omega) hb] at hs; cases hs
      -- the frame at hand and the text's agree on what i looks at
      have hlook : ∀ t, t ∈ o.looksAt ops → (fr ops vs allT a0 i).tmps[t]? = (fr ops vs (sel listed) a0 k).tmps[t]? := fun t ht => by
        have e1 : fr ops vs allT a0 i = fr ops vs (fun j => decide (j < i)) a0 k := by
          rw [fr_cut (i := i) k (by omega) (fun j h1 _ => by simp; omega)]
          exact fr_congr i (fun j hj => by simp [allT, hj])
        rw [e1]
        refine fr_get k fun j hj hd => ?_
        have hjn : j < ops.size := by omega
        obtain ⟨oj, hoj⟩ : ∃ oj, ops[j]? = some oj := ⟨_, Array.getElem?_eq_getElem hjn⟩
        rw [hoj] at hd
        have hd' : oj.dst = some t := hd
        rcases Nat.lt_trichotomy j i with h1 | h1 | h1
        · cases hs : sel listed j
          · exact absurd ht ((hok.look j i oj o hoj ho h1 (hahead j h1 hs)).1 t hd').1
          · simp [h1]
        · subst h1
          rw [sel_true (by omega), h0]; simp
        · cases hs : sel listed j
          · simp; omega
          · exact absurd ht ((hok.look i j o oj ho hoj h1 (hbehind j h1 hj hs)).2 t hd')
      have hgive' := Gives.same (fun cs b => Region.noSelect_spec hok.sel i o cs b ho) (by rw [fr_size, fr_size]) (by rw [fr_defers, fr_defers]) hlook hgive
      have hsi : sel listed i = false := by rw [sel_true (by omega)]; exact h0
      have hcnt : effs.contains i = true → cnt effs (sel listed) k = cnt effs allT i := fun he => by
        rw [cnt_cut (i := i) k (by omega) (fun j h1 h2 h3 => ?_)]
        · refine cnt_congr i fun j hj hej => ?_
          have := hok.eff j i ops[j] o (Array.getElem?_eq_getElem (by omega)) ho hj hej he
          rw [sel_true (by omega), hchain j (by omega) this]; rfl
        · by_cases e : j = i
          · rw [e]; exact hsi
          · cases hs : sel listed j
            · rfl
            · have hb := hok.eff i j o ops[j] ho (Array.getElem?_eq_getElem (by omega)) (by omega) he h3
              rw [hbehind j (by omega) h2 hs] at hb; cases hb
      have hput : (fr ops vs (sel listed) a0 k).put o.dst (vs.getD i undef) = fr ops vs (sel (listed.setIfInBounds i true)) a0 k := by
        rw [sel_set (by omega), fr_more hsi k hik (fun j h1 h2 hs d hd => ?_), ho]
        · rfl
        · have hjn : j < ops.size := by omega
          rw [ho] at hd
          rw [Array.getElem?_eq_getElem hjn]
          exact ((hok.look i j o ops[j] ho (Array.getElem?_eq_getElem hjn) h1 (hbehind j h1 h2 hs)).1 d hd).2
      have hS' : S (if effs.contains i then cnt effs allT i else cnt effs (sel listed) k) w := by
        split
        · rename_i he; rw [← hcnt he]; exact hS
        · exact hS
      have hgive2 : Gives P ops S (effs.contains i) (if effs.contains i then cnt effs allT i else cnt effs (sel listed) k) o (vs.getD i undef) (fr ops vs (sel listed) a0 k) := by
        cases he : effs.contains i
        · rw [he] at hgive'; exact hgive'
        · rw [he] at hgive'; exact hgive'
      refine hgive2.op ho hS' fun w' hw' => ?_
      rw [hput]
      refine ih _ w' (by simpa using hz) (by have := unl_set h0 ops.size hin; omega) ?_ (fun j h1 h2 => ?_) ?_
      · intro j oj hoj hlj e he hb
        by_cases e1 : j = i
        · subst e1
          rw [ho] at hoj
          obtain rfl : o = oj := by simpa using hoj
          have := hedges e he hb
          by_cases e2 : j = e.on
          · rw [← e2]; exact getD_set_eq _ _
          · rw [getD_set_ne true e2]; exact this
        · rw [getD_set_ne true (Ne.symm e1)] at hlj
          have := hg j oj hoj hlj e he hb
          by_cases e2 : i = e.on
          · rw [← e2]; exact getD_set_eq _ _
          · rw [getD_set_ne true e2]; exact this
      · rw [getD_set_ne true (show i ≠ j from by omega)]; exact hlate j h1 h2
      · rw [sel_set (by omega), cnt_set hsi k hik]
        cases he : effs.contains i
        · rw [he] at hw'; simpa using hw'
        · rw [he] at hw'; rw [hcnt he]; simpa using hw'

/-- **THE REGION**: k operations one by one in the text's order, the rest as they stand. -/
theorem region {id : Nat} {l : List Oper} {a : Act} {w : World} (hm : P.follows .mixedOrders = true) (k : Nat) (effs : List Nat) (S : Nat → World → Prop)
    (hok : ok l.toArray (Region.before l.toArray).toList k effs = true) (hk : decide (k ≤ l.length) = true) (hS : S 0 w.drew) (h : WT P l.toArray Q S effs k l 0 0 a) : (Code.region id l.toArray true).wp P Q a w := by
  refine wp_region_any hm ?_
  obtain ⟨vs, _, h2, h3⟩ := WT.facts (a0 := a) k l 0 [] rfl h (fun j => by simp)
  have hok' := ok_spec hok
  have hrep : ∀ j, (Array.replicate l.toArray.size false).getD j false = false := fun j => by
    simp [Array.getElem?_replicate]; split <;> rfl
  have hkl : k ≤ l.length := of_decide_eq_true hk
  have hun : ∀ n, n ≤ l.length → unl (Array.replicate l.toArray.size false) n = n := by
    intro n hn
    induction n with
    | zero => rfl
    | succ n ih => unfold unl; rw [ih (by omega)]; simp [show n < l.length from hn]
  have hc0 : ∀ n, cnt effs (sel (Array.replicate l.toArray.size false)) n = 0 := by
    intro n
    induction n with
    | zero => rfl
    | succ n ih => unfold cnt; rw [ih]; unfold sel; rw [hrep]; simp
  have hfr : fr l.toArray vs (sel (Array.replicate l.toArray.size false)) a k = a := fr_cut (i := 0) k (Nat.zero_le _) (fun j _ _ => hrep j)
  have := all_any (P := P) (Q := Q) (S := S) (a0 := a) (vs := vs) hok' (by simpa using hkl) (fun j hj => h2 j (Nat.zero_le _) (by omega)) (by simpa using h3) l.toArray.size (Array.replicate l.toArray.size false) w.drew
    (by simp) (by simpa using hun l.length (Nat.le_refl _)) ?_ (fun j h1 h2 => ?_) (by rw [hc0]; exact hS)
  · rw [hfr] at this
    exact this
  · intro j o ho hl e he hb
    have hj : j < l.toArray.size := (Array.getElem?_eq_some_iff.1 ho).1
    rw [← getD_lt (by simpa using hj) false true, hrep] at hl
    cases hl
  · rw [← getD_lt (by simpa using h2) false true, hrep]
/-! ### The moves of the walk -/
theorem WT.yield {Q : Exit → Act → World → Prop} {S : Nat → World → Prop} {k i c : Nat} {o : Oper} {l : List Oper} {v : Value} {a : Act} (he : effs.contains i = false)
    (hw : Region.wanted o (yielded ops a.tmps) = true) (hy : ∀ w c, S c w → (execOp a.eval o).run P w = .ok (.value v) w) (h : WT P ops Q S effs k l (i + 1) c (a.put o.dst v)) :
    WT P ops Q S effs (k + 1) (o :: l) i c a := by
  refine ⟨v, ?_, ?_⟩
  · rw [he]; exact .inl ⟨hw, fun w ⟨c, hc⟩ => hy w c hc⟩
  · rw [he]; exact h
theorem WT.idle {Q : Exit → Act → World → Prop} {S : Nat → World → Prop} {k i c : Nat} {o : Oper} {l : List Oper} {a : Act} (he : effs.contains i = false)
    (hw : Region.wanted o (yielded ops a.tmps) = false) (h : WT P ops Q S effs k l (i + 1) c (a.put o.dst undef)) :
    WT P ops Q S effs (k + 1) (o :: l) i c a := by
  refine ⟨undef, ?_, ?_⟩
  · rw [he]; exact .inr ⟨hw, rfl⟩
  · rw [he]; exact h
theorem WT.skip {Q : Exit → Act → World → Prop} {S : Nat → World → Prop} {k i c : Nat} {o : Oper} {l : List Oper} {a : Act} {v : Value} (he : effs.contains i = true)
    (hw : Region.wanted o (yielded ops a.tmps) = true) (hy : ∀ w, S c w → o.wp P a w (fun a' w' => a' = a.put o.dst v ∧ S (c + 1) w') (fun _ _ _ => False)) (h : WT P ops Q S effs k l (i + 1) (c + 1) (a.put o.dst v)) :
    WT P ops Q S effs (k + 1) (o :: l) i c a := by
  refine ⟨v, ?_, ?_⟩
  · rw [he]; exact ⟨hw, hy⟩
  · rw [he]; exact h
/-- A call of a Go function: its contract in every world of the class. -/
theorem WT.call {Q : Exit → Act → World → Prop} {S : Nat → World → Prop} {k i c : Nat} {o : Oper} {l : List Oper} {a : Act} {v : Value} {f : FuncId} {args : Array Value} (he : effs.contains i = true)
    (hw : Region.wanted o (yielded ops a.tmps) = true) (hr : ∀ w, (execOp a.eval o).run P w = .ok (.enter f args) w) (hy : ∀ w, S c w → Calls P f args w fun e w' => e = .returned v ∧ S (c + 1) w')
    (h : WT P ops Q S effs k l (i + 1) (c + 1) (a.put o.dst v)) : WT P ops Q S effs (k + 1) (o :: l) i c a :=
  WT.skip he hw (fun w hS => by
    unfold Oper.wp
    rw [hr w]
    refine (hy w hS).mono fun e w' hh => ?_
    obtain ⟨rfl, h2⟩ := hh
    exact ⟨rfl, h2⟩) h
theorem WT.rest {Q : Exit → Act → World → Prop} {S : Nat → World → Prop} {i c : Nat} {l : List Oper} {a : Act} (h : ∀ w, S c w → wpList P ops Q l a w) : WT P ops Q S effs 0 l i c a := h
end
end
end Go.Proofs.Ytmngndmcidbakaa.Reg
