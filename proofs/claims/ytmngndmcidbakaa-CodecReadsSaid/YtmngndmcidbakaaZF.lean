/- A chain of guarded comparisons, walked over frames that are not written out. -/
import Derived.Test.YtmngndmcidbakaaZC
namespace Go.Proofs.Ytmngndmcidbakaa
open Go.RowKit
section
variable {P : Program} {ops : Array Oper} {Q : Exit → Act → World → Prop} {rest : List Oper} {w : World}
theorem wpList_yes {o : Oper} {a : Act} {v : Value} (hw : Region.wanted o (yielded ops a.tmps) = true) (hr : (execOp a.eval o).run P w = .ok (.value v) w) (h : wpList P ops Q rest (a.put o.dst v) w) : wpList P ops Q (o :: rest) a w := by
  unfold wpList
  rw [if_pos hw]
  left
  unfold Oper.wp
  rw [hr]
  exact h
theorem wpList_no {o : Oper} {a : Act} (hw : Region.wanted o (yielded ops a.tmps) = false) (h : wpList P ops Q rest (a.put o.dst undef) w) : wpList P ops Q (o :: rest) a w := by
  unfold wpList
  rw [if_neg (by rw [hw]; decide)]
  exact h
theorem wanted_g {o : Oper} {a : Act} {gi p : Nat} {g : Bool} (h : o.guard = some (gi, true)) (hd : (ops[gi]?).bind (·.dst) = some p) (hg : a.tmps[p]? = some (.bool g)) : Region.wanted o (yielded ops a.tmps) = g := by
  unfold Region.wanted yielded
  rw [h]
  dsimp only
  rw [hd, Option.bind_some, hg]
  cases g <;> rfl
theorem wanted_none {o : Oper} {a : Act} (h : o.guard = none) : Region.wanted o (yielded ops a.tmps) = true := by
  unfold Region.wanted; rw [h]
end
theorem put_get {a : Act} {d t : Nat} {v : Value} : (a.put (some d) v).tmps[t]? = if d = t then (if d < a.tmps.size then some v else none) else a.tmps[t]? := by
  simp only [Act.put, Array.getElem?_setIfInBounds]
theorem put_sz {a : Act} {d : Nat} {v : Value} : (a.put (some d) v).tmps.size = a.tmps.size := by simp [Act.put]
theorem ev_tmp {a : Act} {t : Nat} {v : Value} (h : a.tmps[t]? = some v) : a.eval (.tmp t) = v := by
  show a.tmps.getD t undef = v
  rw [Array.getD_eq_getD_getElem?, h]; rfl
/-- A frame of Same: the two styles' blocks. -/
structure Iv (ga gb : Nat) (a : Act) : Prop where
  sz : a.tmps.size = 187
  t2 : a.tmps[2]? = some (.pointer (some ⟨ga, 0, none⟩))
  t3 : a.tmps[3]? = some (.pointer (some ⟨gb, 0, none⟩))
  ds : a.defers = []
theorem Iv.put {ga gb : Nat} {a : Act} (h : Iv ga gb a) {d : Nat} (hd : 4 ≤ d) (v : Value) : Iv ga gb (a.put (some d) v) :=
  ⟨by rw [put_sz]; exact h.sz, by rw [put_get, if_neg (by omega)]; exact h.t2, by rw [put_get, if_neg (by omega)]; exact h.t3, h.ds⟩
theorem Iv.get {ga gb : Nat} {a : Act} (h : Iv ga gb a) {d : Nat} (hd : d < 187) (v : Value) : (a.put (some d) v).tmps[d]? = some v := by
  rw [put_get, if_pos rfl, if_pos (by rw [h.sz]; exact hd)]
/-- Field k of the two styles is compared: e. -/
def Cmp (w : World) (ga gb k : Nat) (T : TypeId) (e : Bool) : Prop := ∃ pa pb x y : Value,
  (∀ (ev : Operand → Value) (o : Oper), o.op = .fieldAddr 49 (.tmp 2) k → ev (.tmp 2) = .pointer (some ⟨ga, 0, none⟩) → (execOp ev o).run Try.prog w = .ok (.value pa) w) ∧
  (∀ (ev : Operand → Value) (o : Oper), o.op = .fieldAddr 49 (.tmp 3) k → ev (.tmp 3) = .pointer (some ⟨gb, 0, none⟩) → (execOp ev o).run Try.prog w = .ok (.value pb) w) ∧
  (∀ (ev : Operand → Value) (o : Oper) (s : Nat), o.op = .load T (.tmp s) → ev (.tmp s) = pa → (execOp ev o).run Try.prog w = .ok (.value x) w) ∧
  (∀ (ev : Operand → Value) (o : Oper) (s : Nat), o.op = .load T (.tmp s) → ev (.tmp s) = pb → (execOp ev o).run Try.prog w = .ok (.value y) w) ∧
  (∀ (ev : Operand → Value) (o : Oper) (s t : Nat), o.op = .binOp .eql T (.tmp s) (.tmp t) T → ev (.tmp s) = x → ev (.tmp t) = y → (execOp ev o).run Try.prog w = .ok (.value (.bool e)) w)
section
variable {ops : Array Oper} {Q : Exit → Act → World → Prop} {rest : List Oper} {w : World} {a : Act} {ga gb k : Nat} {T : TypeId} {e g : Bool} {d : Nat} {o1 o2 o3 o4 o5 o6 o7 : Oper}
theorem chain5 (hC : Cmp w ga gb k T e) (hI : Iv ga gb a) (hd8 : 8 ≤ d) (hd : d + 4 < 187)
    (hW : ∀ o ∈ [o1, o2, o3, o4, o5], ∀ a' : Act, (∀ t, t < d → a'.tmps[t]? = a.tmps[t]?) → Region.wanted o (yielded ops a'.tmps) = g)
    (q1 : o1.op = .fieldAddr 49 (.tmp 2) k) (q2 : o2.op = .load T (.tmp d)) (q3 : o3.op = .fieldAddr 49 (.tmp 3) k) (q4 : o4.op = .load T (.tmp (d + 2))) (q5 : o5.op = .binOp .eql T (.tmp (d + 1)) (.tmp (d + 3)) T)
    (s1 : o1.dst = some d) (s2 : o2.dst = some (d + 1)) (s3 : o3.dst = some (d + 2)) (s4 : o4.dst = some (d + 3)) (s5 : o5.dst = some (d + 4))
    (h : ∀ a', Iv ga gb a' → (∀ t, t < d → a'.tmps[t]? = a.tmps[t]?) → (g = true → a'.tmps[d + 4]? = some (.bool e)) → wpList Try.prog ops Q rest a' w) :
    wpList Try.prog ops Q (o1 :: o2 :: o3 :: o4 :: o5 :: rest) a w := by
  obtain ⟨pa, pb, x, y, c1, c3, c2, c4, c5⟩ := hC
  have stay : ∀ (a' : Act) (n : Nat) (v : Value), d ≤ n → (∀ t, t < d → a'.tmps[t]? = a.tmps[t]?) → ∀ t, t < d → (a'.put (some n) v).tmps[t]? = a.tmps[t]? := fun a' n v hn hh t ht => by
    rw [put_get, if_neg (by omega)]; exact hh t ht
  have st0 : ∀ t, t < d → a.tmps[t]? = a.tmps[t]? := fun _ _ => rfl
  cases g with
  | true =>
    have r1 := c1 a.eval o1 q1 (ev_tmp hI.t2)
    refine wpList_yes (hW o1 (by simp) a st0) r1 ?_
    rw [s1]
    have I1 := hI.put (d := d) (by omega) pa
    have st1 := stay a d pa (Nat.le_refl _) st0
    have v1 := hI.get (d := d) (by omega) pa
    generalize a.put (some d) pa = a1 at I1 st1 v1
    refine wpList_yes (hW o2 (by simp) a1 st1) (c2 a1.eval o2 d q2 (ev_tmp v1)) ?_
    rw [s2]
    have I2 := I1.put (d := d + 1) (by omega) x
    have st2 := stay a1 (d + 1) x (by omega) st1
    have v2 := I1.get (d := d + 1) (by omega) x
    generalize a1.put (some (d + 1)) x = a2 at I2 st2 v2
    refine wpList_yes (hW o3 (by simp) a2 st2) (c3 a2.eval o3 q3 (ev_tmp I2.t3)) ?_
    rw [s3]
    have I3 := I2.put (d := d + 2) (by omega) pb
    have st3 := stay a2 (d + 2) pb (by omega) st2
    have v3 := I2.get (d := d + 2) (by omega) pb
    have v2 : (a2.put (some (d + 2)) pb).tmps[d + 1]? = some x := by rw [put_get, if_neg (by omega)]; exact v2
    generalize a2.put (some (d + 2)) pb = a3 at I3 st3 v3 v2
    refine wpList_yes (hW o4 (by simp) a3 st3) (c4 a3.eval o4 (d + 2) q4 (ev_tmp v3)) ?_
    rw [s4]
    have I4 := I3.put (d := d + 3) (by omega) y
    have st4 := stay a3 (d + 3) y (by omega) st3
    have v4 := I3.get (d := d + 3) (by omega) y
    have v2 : (a3.put (some (d + 3)) y).tmps[d + 1]? = some x := by rw [put_get, if_neg (by omega)]; exact v2
    generalize a3.put (some (d + 3)) y = a4 at I4 st4 v4 v2
    refine wpList_yes (hW o5 (by simp) a4 st4) (c5 a4.eval o5 (d + 1) (d + 3) q5 (ev_tmp v2) (ev_tmp v4)) ?_
    rw [s5]
    exact h _ (I4.put (by omega) _) (stay a4 (d + 4) _ (by omega) st4) (fun _ => I4.get (by omega) _)
  | false =>
    refine wpList_no (hW o1 (by simp) a st0) ?_
    rw [s1]
    have I1 := hI.put (d := d) (by omega) undef
    have st1 := stay a d undef (Nat.le_refl _) st0
    generalize a.put (some d) undef = a1 at I1 st1
    refine wpList_no (hW o2 (by simp) a1 st1) ?_
    rw [s2]
    have I2 := I1.put (d := d + 1) (by omega) undef
    have st2 := stay a1 (d + 1) undef (by omega) st1
    generalize a1.put (some (d + 1)) undef = a2 at I2 st2
    refine wpList_no (hW o3 (by simp) a2 st2) ?_
    rw [s3]
    have I3 := I2.put (d := d + 2) (by omega) undef
    have st3 := stay a2 (d + 2) undef (by omega) st2
    generalize a2.put (some (d + 2)) undef = a3 at I3 st3
    refine wpList_no (hW o4 (by simp) a3 st3) ?_
    rw [s4]
    have I4 := I3.put (d := d + 3) (by omega) undef
    have st4 := stay a3 (d + 3) undef (by omega) st3
    generalize a3.put (some (d + 3)) undef = a4 at I4 st4
    refine wpList_no (hW o5 (by simp) a4 st4) ?_
    rw [s5]
    exact h _ (I4.put (by omega) _) (stay a4 (d + 4) _ (by omega) st4) (fun h => by cases h)
theorem run_move {o : Oper} {x : Operand} {v : Value} {ev : Operand → Value} (h : o.op = .move x) (hv : ev x = v) : (execOp ev o).run Try.prog w = .ok (.value v) w := by
  unfold execOp; rw [h]; simp [hv]
theorem run_assign {o : Oper} {x : Operand} {v : Value} {ev : Operand → Value} (h : o.op = .assign x) (hv : ev x = v) : (execOp ev o).run Try.prog w = .ok (.value v) w := by
  unfold execOp; rw [h]; simp [hv]
theorem run_pick {o : Oper} {c x y : Operand} {b : Bool} {v : Value} {ev : Operand → Value} (h : o.op = .pick c x y) (hc : ev c = .bool b) (hv : (if b then ev x else ev y) = v) : (execOp ev o).run Try.prog w = .ok (.value v) w := by
  unfold execOp; rw [h]; cases b <;> simp_all [asBool]
/-- A link of the chain. -/
theorem chain6 {p gi : Nat} (hC : Cmp w ga gb k T e) (hI : Iv ga gb a) (hg : a.tmps[p]? = some (.bool g)) (hgi : (ops[gi]?).bind (·.dst) = some p) (hd8 : 8 ≤ d) (hd : d + 5 < 187) (hp : p < d)
    (g1 : o1.guard = some (gi, true)) (g2 : o2.guard = some (gi, true)) (g3 : o3.guard = some (gi, true)) (g4 : o4.guard = some (gi, true)) (g5 : o5.guard = some (gi, true)) (g6 : o6.guard = none)
    (q1 : o1.op = .fieldAddr 49 (.tmp 2) k) (q2 : o2.op = .load T (.tmp d)) (q3 : o3.op = .fieldAddr 49 (.tmp 3) k) (q4 : o4.op = .load T (.tmp (d + 2))) (q5 : o5.op = .binOp .eql T (.tmp (d + 1)) (.tmp (d + 3)) T)
    (q6 : o6.op = .pick (.tmp p) (.tmp (d + 4)) (.const (.bool false)))
    (s1 : o1.dst = some d) (s2 : o2.dst = some (d + 1)) (s3 : o3.dst = some (d + 2)) (s4 : o4.dst = some (d + 3)) (s5 : o5.dst = some (d + 4)) (s6 : o6.dst = some (d + 5))
    (h : ∀ a', Iv ga gb a' → (∀ t, t < d → a'.tmps[t]? = a.tmps[t]?) → a'.tmps[d + 5]? = some (.bool (g && e)) → wpList Try.prog ops Q rest a' w) :
    wpList Try.prog ops Q (o1 :: o2 :: o3 :: o4 :: o5 :: o6 :: rest) a w := by
  refine chain5 hC hI hd8 (by omega) (g := g) (fun o ho a' hs => ?_) q1 q2 q3 q4 q5 s1 s2 s3 s4 s5 (fun a1 I1 st1 v1 => ?_)
  · have hgo : o.guard = some (gi, true) := by
      simp only [List.mem_cons, List.not_mem_nil, or_false] at ho
      rcases ho with rfl | rfl | rfl | rfl | rfl <;> assumption
    exact wanted_g hgo hgi ((hs p hp).trans hg)
  have hp1 : a1.tmps[p]? = some (.bool g) := (st1 p hp).trans hg
  refine wpList_yes (v := .bool (g && e)) (wanted_none g6) (run_pick q6 (ev_tmp hp1) ?_) ?_
  · cases g with
    | true => exact ev_tmp (v1 rfl)
    | false => rfl
  rw [s6]
  exact h _ (I1.put (by omega) _) (fun t ht => by rw [put_get, if_neg (by omega)]; exact st1 t ht) (I1.get (by omega) _)
theorem chain7 {p gi : Nat} (hC : Cmp w ga gb k T e) (hI : Iv ga gb a) (hg : a.tmps[p]? = some (.bool g)) (hgi : (ops[gi]?).bind (·.dst) = some p) (hd8 : 8 ≤ d) (hd : d + 6 < 187) (hp : p < d)
    (g1 : o1.guard = some (gi, true)) (g2 : o2.guard = some (gi, true)) (g3 : o3.guard = some (gi, true)) (g4 : o4.guard = some (gi, true)) (g5 : o5.guard = some (gi, true)) (g6 : o6.guard = none) (g7 : o7.guard = none)
    (q1 : o1.op = .fieldAddr 49 (.tmp 2) k) (q2 : o2.op = .load T (.tmp d)) (q3 : o3.op = .fieldAddr 49 (.tmp 3) k) (q4 : o4.op = .load T (.tmp (d + 2))) (q5 : o5.op = .binOp .eql T (.tmp (d + 1)) (.tmp (d + 3)) T)
    (q6 : o6.op = .pick (.tmp p) (.tmp (d + 4)) (.const (.bool false))) (q7 : o7.op = .move (.tmp (d + 5)))
    (s1 : o1.dst = some d) (s2 : o2.dst = some (d + 1)) (s3 : o3.dst = some (d + 2)) (s4 : o4.dst = some (d + 3)) (s5 : o5.dst = some (d + 4)) (s6 : o6.dst = some (d + 5)) (s7 : o7.dst = some (d + 6))
    (h : ∀ a', Iv ga gb a' → (∀ t, t < d → a'.tmps[t]? = a.tmps[t]?) → a'.tmps[d + 6]? = some (.bool (g && e)) → wpList Try.prog ops Q rest a' w) :
    wpList Try.prog ops Q (o1 :: o2 :: o3 :: o4 :: o5 :: o6 :: o7 :: rest) a w := by
  refine chain6 hC hI hg hgi hd8 (by omega) hp g1 g2 g3 g4 g5 g6 q1 q2 q3 q4 q5 q6 s1 s2 s3 s4 s5 s6 (fun a1 I1 st1 v1 => ?_)
  refine wpList_yes (wanted_none g7) (run_move q7 (ev_tmp v1)) ?_
  rw [s7]
  exact h _ (I1.put (by omega) _) (fun t ht => by rw [put_get, if_neg (by omega)]; exact st1 t ht) (I1.get (by omega) _)
/-- The chain's first link. -/
theorem chain0 (hC : Cmp w ga gb k T e) (hI : Iv ga gb a) (hd8 : 8 ≤ d) (hd : d + 5 < 187)
    (g1 : o1.guard = none) (g2 : o2.guard = none) (g3 : o3.guard = none) (g4 : o4.guard = none) (g5 : o5.guard = none) (g6 : o6.guard = none)
    (q1 : o1.op = .fieldAddr 49 (.tmp 2) k) (q2 : o2.op = .load T (.tmp d)) (q3 : o3.op = .fieldAddr 49 (.tmp 3) k) (q4 : o4.op = .load T (.tmp (d + 2))) (q5 : o5.op = .binOp .eql T (.tmp (d + 1)) (.tmp (d + 3)) T)
    (q6 : o6.op = .move (.tmp (d + 4)))
    (s1 : o1.dst = some d) (s2 : o2.dst = some (d + 1)) (s3 : o3.dst = some (d + 2)) (s4 : o4.dst = some (d + 3)) (s5 : o5.dst = some (d + 4)) (s6 : o6.dst = some (d + 5))
    (h : ∀ a', Iv ga gb a' → (∀ t, t < d → a'.tmps[t]? = a.tmps[t]?) → a'.tmps[d + 5]? = some (.bool e) → wpList Try.prog ops Q rest a' w) :
    wpList Try.prog ops Q (o1 :: o2 :: o3 :: o4 :: o5 :: o6 :: rest) a w := by
  refine chain5 hC hI hd8 (by omega) (g := true) (fun o ho a' hs => ?_) q1 q2 q3 q4 q5 s1 s2 s3 s4 s5 (fun a1 I1 st1 v1 => ?_)
  · simp only [List.mem_cons, List.not_mem_nil, or_false] at ho
    rcases ho with rfl | rfl | rfl | rfl | rfl <;> exact wanted_none (by assumption)
  refine wpList_yes (wanted_none g6) (run_move q6 (ev_tmp (v1 rfl))) ?_
  rw [s6]
  exact h _ (I1.put (by omega) _) (fun t ht => by rw [put_get, if_neg (by omega)]; exact st1 t ht) (I1.get (by omega) _)
/-- Two flags. -/
theorem chain2 {b6 b7 : Bool} (hI : Iv ga gb a) (v6 : a.tmps[6]? = some (.bool b6)) (v7 : a.tmps[7]? = some (.bool b7))
    (g1 : o1.guard = none) (g2 : o2.guard = none) (g3 : o3.guard = some (1, true)) (g4 : o4.guard = none) (g5 : o5.guard = none)
    (hgi : (ops[1]?).bind (·.dst) = some 163)
    (q1 : o1.op = .move (.tmp 6)) (q2 : o2.op = .move (.tmp 162)) (q3 : o3.op = .move (.tmp 7)) (q4 : o4.op = .pick (.tmp 163) (.tmp 164) (.const (.bool false))) (q5 : o5.op = .move (.tmp 165))
    (s1 : o1.dst = some 162) (s2 : o2.dst = some 163) (s3 : o3.dst = some 164) (s4 : o4.dst = some 165) (s5 : o5.dst = some 166)
    (h : ∀ a', Iv ga gb a' → a'.tmps[166]? = some (.bool (b6 && b7)) → wpList Try.prog ops Q rest a' w) :
    wpList Try.prog ops Q (o1 :: o2 :: o3 :: o4 :: o5 :: rest) a w := by
  refine wpList_yes (wanted_none g1) (run_move q1 (ev_tmp v6)) ?_
  rw [s1]
  have I1 := hI.put (d := 162) (by decide) (.bool b6)
  have w1 := hI.get (d := 162) (by decide) (.bool b6)
  have v7 : (a.put (some 162) (.bool b6)).tmps[7]? = some (.bool b7) := by rw [put_get, if_neg (by decide)]; exact v7
  generalize a.put (some 162) (.bool b6) = a1 at I1 w1 v7
  refine wpList_yes (wanted_none g2) (run_move q2 (ev_tmp w1)) ?_
  rw [s2]
  have I2 := I1.put (d := 163) (by decide) (.bool b6)
  have w2 := I1.get (d := 163) (by decide) (.bool b6)
  have v7 : (a1.put (some 163) (.bool b6)).tmps[7]? = some (.bool b7) := by rw [put_get, if_neg (by decide)]; exact v7
  generalize a1.put (some 163) (.bool b6) = a2 at I2 w2 v7
  have fin : ∀ a3 : Act, Iv ga gb a3 → a3.tmps[163]? = some (.bool b6) → (b6 = true → a3.tmps[164]? = some (.bool b7)) → wpList Try.prog ops Q (o4 :: o5 :: rest) a3 w := fun a3 I3 u1 u2 => by
    refine wpList_yes (v := .bool (b6 && b7)) (wanted_none g4) (run_pick q4 (ev_tmp u1) ?_) ?_
    · cases b6 with
      | true => exact ev_tmp (u2 rfl)
      | false => rfl
    rw [s4]
    have I4 := I3.put (d := 165) (by decide) (.bool (b6 && b7))
    have w4 := I3.get (d := 165) (by decide) (.bool (b6 && b7))
    generalize a3.put (some 165) (.bool (b6 && b7)) = a4 at I4 w4
    refine wpList_yes (wanted_none g5) (run_move q5 (ev_tmp w4)) ?_
    rw [s5]
    exact h _ (I4.put (by decide) _) (I4.get (by decide) _)
  cases b6 with
  | true =>
    refine wpList_yes (wanted_g g3 hgi w2) (run_move q3 (ev_tmp v7)) ?_
    rw [s3]
    exact fin _ (I2.put (by decide) _) (by rw [put_get, if_neg (by decide)]; exact w2) (fun _ => I2.get (by decide) _)
  | false =>
    refine wpList_no (wanted_g g3 hgi w2) ?_
    rw [s3]
    exact fin _ (I2.put (by decide) _) (by rw [put_get, if_neg (by decide)]; exact w2) (fun h => by cases h)
end
end Go.Proofs.Ytmngndmcidbakaa
