/- A chain of guarded comparisons, walked over frames that are not written out. The comparisons of two styles' fields. (Printed by gen_cmp.py.) Walk: the reference's Same of styles. -/
import Derived.Test.YtmngndmcidbakaaZC
namespace Go.Proofs.Ytmngndmcidbakaa
open Go.RowKit
section
variable {P : Program} {ops : Array Oper} {Q : Exit → Act → World → Prop} {rest : List Oper} {w : World}
theorem wpList_yes {o : Oper} {a : Act} {v : Value} (hw : Region.wanted o (yielded ops a.tmps) = true) (hr : (execOp a.eval o).run P w = .ok (.value v) w) (h : wpList P ops Q rest (a.put o.dst v) w) : wpList P ops Q (o :: rest) a w := by
  unfold wpList
  rw [if_pos hw]
  left
  unfold Oper.wp
  rw [hr]
  exact h
theorem wpList_no {o : Oper} {a : Act} (hw : Region.wanted o (yielded ops a.tmps) = false) (h : wpList P ops Q rest (a.put o.dst undef) w) : wpList P ops Q (o :: rest) a w := by
  unfold wpList
  rw [if_neg (by rw [hw]; decide)]
  exact h
theorem wanted_g {o : Oper} {a : Act} {gi p : Nat} {g : Bool} (h : o.guard = some (gi, true)) (hd : (ops[gi]?).bind (·.dst) = some p) (hg : a.tmps[p]? = some (.bool g)) : Region.wanted o (yielded ops a.tmps) = g := by
  unfold Region.wanted yielded
  rw [h]
  dsimp only
  rw [hd, Option.bind_some, hg]
  cases g <;> rfl
theorem wanted_none {o : Oper} {a : Act} (h : o.guard = none) : Region.wanted o (yielded ops a.tmps) = true := by
  unfold Region.wanted; rw [h]
end
theorem put_get {a : Act} {d t : Nat} {v : Value} : (a.put (some d) v).tmps[t]? = if d = t then (if d < a.tmps.size then some v else none) else a.tmps[t]? := by
  simp only [Act.put, Array.getElem?_setIfInBounds]
theorem put_sz {a : Act} {d : Nat} {v : Value} : (a.put (some d) v).tmps.size = a.tmps.size := by simp [Act.put]
theorem ev_tmp {a : Act} {t : Nat} {v : Value} (h : a.tmps[t]? = some v) : a.eval (.tmp t) = v := by
  show a.tmps.getD t undef = v
  rw [Array.getD_eq_getD_getElem?, h]; rfl
/-- A frame of Same: the two styles' blocks. -/
structure Iv (ga gb : Nat) (a : Act) : Prop where
  sz : a.tmps.size = 187
  t2 : a.tmps[2]? = some (.pointer (some ⟨ga, 0, none⟩))
  t3 : a.tmps[3]? = some (.pointer (some ⟨gb, 0, none⟩))
  ds : a.defers = []
theorem Iv.put {ga gb : Nat} {a : Act} (h : Iv ga gb a) {d : Nat} (hd : 4 ≤ d) (v : Value) : Iv ga gb (a.put (some d) v) :=
  ⟨by rw [put_sz]; exact h.sz, by rw [put_get, if_neg (by omega)]; exact h.t2, by rw [put_get, if_neg (by omega)]; exact h.t3, h.ds⟩
theorem Iv.get {ga gb : Nat} {a : Act} (h : Iv ga gb a) {d : Nat} (hd : d < 187) (v : Value) : (a.put (some d) v).tmps[d]? = some v := by
  rw [put_get, if_pos rfl, if_pos (by rw [h.sz]; exact hd)]
/-- Field k of the two styles is compared: e. -/
def Cmp (w : World) (ga gb k : Nat) (T : TypeId) (e : Bool) : Prop := ∃ pa pb x y : Value,
  (∀ (ev : Operand → Value) (o : Oper), o.op = .fieldAddr 49 (.tmp 2) k → ev (.tmp 2) = .pointer (some ⟨ga, 0, none⟩) → (execOp ev o).run Try.prog w = .ok (.value pa) w) ∧
  (∀ (ev : Operand → Value) (o : Oper), o.op = .fieldAddr 49 (.tmp 3) k → ev (.tmp 3) = .pointer (some ⟨gb, 0, none⟩) → (execOp ev o).run Try.prog w = .ok (.value pb) w) ∧
  (∀ (ev : Operand → Value) (o : Oper) (s : Nat), o.op = .load T (.tmp s) → ev (.tmp s) = pa → (execOp ev o).run Try.prog w = .ok (.value x) w) ∧
  (∀ (ev : Operand → Value) (o : Oper) (s : Nat), o.op = .load T (.tmp s) → ev (.tmp s) = pb → (execOp ev o).run Try.prog w = .ok (.value y) w) ∧
  (∀ (ev : Operand → Value) (o : Oper) (s t : Nat), o.op = .binOp .eql T (.tmp s) (.tmp t) T → ev (.tmp s) = x → ev (.tmp t) = y → (execOp ev o).run Try.prog w = .ok (.value (.bool e)) w)
section
variable {ops : Array Oper} {Q : Exit → Act → World → Prop} {rest : List Oper} {w : World} {a : Act} {ga gb k : Nat} {T : TypeId} {e g : Bool} {d : Nat} {o1 o2 o3 o4 o5 o6 o7 : Oper}
theorem chain5 (hC : Cmp w ga gb k T e) (hI : Iv ga gb a) (hd8 : 8 ≤ d) (hd : d + 4 < 187)
    (hW : ∀ o ∈ [o1, o2, o3, o4, o5], ∀ a' : Act, (∀ t, t < d → a'.tmps[t]? = a.tmps[t]?) → Region.wanted o (yielded ops a'.tmps) = g)
    (q1 : o1.op = .fieldAddr 49 (.tmp 2) k) (q2 : o2.op = .load T (.tmp d)) (q3 : o3.op = .fieldAddr 49 (.tmp 3) k) (q4 : o4.op = .load T (.tmp (d + 2))) (q5 : o5.op = .binOp .eql T (.tmp (d + 1)) (.tmp (d + 3)) T)
    (s1 : o1.dst = some d) (s2 : o2.dst = some (d + 1)) (s3 : o3.dst = some (d + 2)) (s4 : o4.dst = some (d + 3)) (s5 : o5.dst = some (d + 4))
    (h : ∀ a', Iv ga gb a' → (∀ t, t < d → a'.tmps[t]? = a.tmps[t]?) → (g = true → a'.tmps[d + 4]? = some (.bool e)) → wpList Try.prog ops Q rest a' w) :
    wpList Try.prog ops Q (o1 :: o2 :: o3 :: o4 :: o5 :: rest) a w := by
  obtain ⟨pa, pb, x, y, c1, c3, c2, c4, c5⟩ := hC
  have stay : ∀ (a' : Act) (n : Nat) (v : Value), d ≤ n → (∀ t, t < d → a'.tmps[t]? = a.tmps[t]?) → ∀ t, t < d → (a'.put (some n) v).tmps[t]? = a.tmps[t]? := fun a' n v hn hh t ht => by
    rw [put_get, if_neg (by omega)]; exact hh t ht
  have st0 : ∀ t, t < d → a.tmps[t]? = a.tmps[t]? := fun _ _ => rfl
  cases g with
  | true =>
    have r1 := c1 a.eval o1 q1 (ev_tmp hI.t2)
    refine wpList_yes (hW o1 (by simp) a st0) r1 ?_
    rw [s1]
    have I1 := hI.put (d := d) (by omega) pa
    have st1 := stay a d pa (Nat.le_refl _) st0
    have v1 := hI.get (d := d) (by omega) pa
    generalize a.put (some d) pa = a1 at I1 st1 v1
    refine wpList_yes (hW o2 (by simp) a1 st1) (c2 a1.eval o2 d q2 (ev_tmp v1)) ?_
    rw [s2]
    have I2 := I1.put (d := d + 1) (by omega) x
    have st2 := stay a1 (d + 1) x (by omega) st1
    have v2 := I1.get (d := d + 1) (by omega) x
    generalize a1.put (some (d + 1)) x = a2 at I2 st2 v2
    refine wpList_yes (hW o3 (by simp) a2 st2) (c3 a2.eval o3 q3 (ev_tmp I2.t3)) ?_
    rw [s3]
    have I3 := I2.put (d := d + 2) (by omega) pb
    have st3 := stay a2 (d + 2) pb (by omega) st2
    have v3 := I2.get (d := d + 2) (by omega) pb
    have v2 : (a2.put (some (d + 2)) pb).tmps[d + 1]? = some x := by rw [put_get, if_neg (by omega)]; exact v2
    generalize a2.put (some (d + 2)) pb = a3 at I3 st3 v3 v2
    refine wpList_yes (hW o4 (by simp) a3 st3) (c4 a3.eval o4 (d + 2) q4 (ev_tmp v3)) ?_
    rw [s4]
    have I4 := I3.put (d := d + 3) (by omega) y
    have st4 := stay a3 (d + 3) y (by omega) st3
    have v4 := I3.get (d := d + 3) (by omega) y
    have v2 : (a3.put (some (d + 3)) y).tmps[d + 1]? = some x := by rw [put_get, if_neg (by omega)]; exact v2
    generalize a3.put (some (d + 3)) y = a4 at I4 st4 v4 v2
    refine wpList_yes (hW o5 (by simp) a4 st4) (c5 a4.eval o5 (d + 1) (d + 3) q5 (ev_tmp v2) (ev_tmp v4)) ?_
    rw [s5]
    exact h _ (I4.put (by omega) _) (stay a4 (d + 4) _ (by omega) st4) (fun _ => I4.get (by omega) _)
  | false =>
    refine wpList_no (hW o1 (by simp) a st0) ?_
    rw [s1]
    have I1 := hI.put (d := d) (by omega) undef
    have st1 := stay a d undef (Nat.le_refl _) st0
    generalize a.put (some d) undef = a1 at I1 st1
    refine wpList_no (hW o2 (by simp) a1 st1) ?_
    rw [s2]
    have I2 := I1.put (d := d + 1) (by omega) undef
    have st2 := stay a1 (d + 1) undef (by omega) st1
    generalize a1.put (some (d + 1)) undef = a2 at I2 st2
    refine wpList_no (hW o3 (by simp) a2 st2) ?_
    rw [s3]
    have I3 := I2.put (d := d + 2) (by omega) undef
    have st3 := stay a2 (d + 2) undef (by omega) st2
    generalize a2.put (some (d + 2)) undef = a3 at I3 st3
    refine wpList_no (hW o4 (by simp) a3 st3) ?_
    rw [s4]
    have I4 := I3.put (d := d + 3) (by omega) undef
    have st4 := stay a3 (d + 3) undef (by omega) st3
    generalize a3.put (some (d + 3)) undef = a4 at I4 st4
    refine wpList_no (hW o5 (by simp) a4 st4) ?_
    rw [s5]
    exact h _ (I4.put (by omega) _) (stay a4 (d + 4) _ (by omega) st4) (fun h => by cases h)
theorem run_move {o : Oper} {x : Operand} {v : Value} {ev : Operand → Value} (h : o.op = .move x) (hv : ev x = v) : (execOp ev o).run Try.prog w = .ok (.value v) w := by
  unfold execOp; rw [h]; simp [hv]
theorem run_assign {o : Oper} {x : Operand} {v : Value} {ev : Operand → Value} (h : o.op = .assign x) (hv : ev x = v) : (execOp ev o).run Try.prog w = .ok (.value v) w := by
  unfold execOp; rw [h]; simp [hv]
theorem run_pick {o : Oper} {c x y : Operand} {b : Bool} {v : Value} {ev : Operand → Value} (h : o.op = .pick c x y) (hc : ev c = .bool b) (hv : (if b then ev x else ev y) = v) : (execOp ev o).run Try.prog w = .ok (.value v) w := by
  unfold execOp; rw [h]; cases b <;> simp_all [asBool]
/-- A link of the chain. -/
theorem chain6 {p gi : Nat} (hC : Cmp w ga gb k T e) (hI : Iv ga gb a) (hg : a.tmps[p]? = some (.bool g)) (hgi : (ops[gi]?).bind (·.dst) = some p) (hd8 : 8 ≤ d) (hd : d + 5 < 187) (hp : p < d)
    (g1 : o1.guard = some (gi, true)) (g2 : o2.guard = some (gi, true)) (g3 : o3.guard = some (gi, true)) (g4 : o4.guard = some (gi, true)) (g5 : o5.guard = some (gi, true)) (g6 : o6.guard = none)
    (q1 : o1.op = .fieldAddr 49 (.tmp 2) k) (q2 : o2.op = .load T (.tmp d)) (q3 : o3.op = .fieldAddr 49 (.tmp 3) k) (q4 : o4.op = .load T (.tmp (d + 2))) (q5 : o5.op = .binOp .eql T (.tmp (d + 1)) (.tmp (d + 3)) T)
    (q6 : o6.op = .pick (.tmp p) (.tmp (d + 4)) (.const (.bool false)))
    (s1 : o1.dst = some d) (s2 : o2.dst = some (d + 1)) (s3 : o3.dst = some (d + 2)) (s4 : o4.dst = some (d + 3)) (s5 : o5.dst = some (d + 4)) (s6 : o6.dst = some (d + 5))
    (h : ∀ a', Iv ga gb a' → (∀ t, t < d → a'.tmps[t]? = a.tmps[t]?) → a'.tmps[d + 5]? = some (.bool (g && e)) → wpList Try.prog ops Q rest a' w) :
    wpList Try.prog ops Q (o1 :: o2 :: o3 :: o4 :: o5 :: o6 :: rest) a w := by
  refine chain5 hC hI hd8 (by omega) (g := g) (fun o ho a' hs => ?_) q1 q2 q3 q4 q5 s1 s2 s3 s4 s5 (fun a1 I1 st1 v1 => ?_)
  · have hgo : o.guard = some (gi, true) := by
      simp only [List.mem_cons, List.not_mem_nil, or_false] at ho
      rcases ho with rfl | rfl | rfl | rfl | rfl <;> assumption
    exact wanted_g hgo hgi ((hs p hp).trans hg)
  have hp1 : a1.tmps[p]? = some (.bool g) := (st1 p hp).trans hg
  refine wpList_yes (v := .bool (g && e)) (wanted_none g6) (run_pick q6 (ev_tmp hp1) ?_) ?_
  · cases g with
    | true => exact ev_tmp (v1 rfl)
    | false => rfl
  rw [s6]
  exact h _ (I1.put (by omega) _) (fun t ht => by rw [put_get, if_neg (by omega)]; exact st1 t ht) (I1.get (by omega) _)
theorem chain7 {p gi : Nat} (hC : Cmp w ga gb k T e) (hI : Iv ga gb a) (hg : a.tmps[p]? = some (.bool g)) (hgi : (ops[gi]?).bind (·.dst) = some p) (hd8 : 8 ≤ d) (hd : d + 6 < 187) (hp : p < d)
    (g1 : o1.guard = some (gi, true)) (g2 : o2.guard = some (gi, true)) (g3 : o3.guard = some (gi, true)) (g4 : o4.guard = some (gi, true)) (g5 : o5.guard = some (gi, true)) (g6 : o6.guard = none) (g7 : o7.guard = none)
    (q1 : o1.op = .fieldAddr 49 (.tmp 2) k) (q2 : o2.op = .load T (.tmp d)) (q3 : o3.op = .fieldAddr 49 (.tmp 3) k) (q4 : o4.op = .load T (.tmp (d + 2))) (q5 : o5.op = .binOp .eql T (.tmp (d + 1)) (.tmp (d + 3)) T)
    (q6 : o6.op = .pick (.tmp p) (.tmp (d + 4)) (.const (.bool false))) (q7 : o7.op = .move (.tmp (d + 5)))
    (s1 : o1.dst = some d) (s2 : o2.dst = some (d + 1)) (s3 : o3.dst = some (d + 2)) (s4 : o4.dst = some (d + 3)) (s5 : o5.dst = some (d + 4)) (s6 : o6.dst = some (d + 5)) (s7 : o7.dst = some (d + 6))
    (h : ∀ a', Iv ga gb a' → (∀ t, t < d → a'.tmps[t]? = a.tmps[t]?) → a'.tmps[d + 6]? = some (.bool (g && e)) → wpList Try.prog ops Q rest a' w) :
    wpList Try.prog ops Q (o1 :: o2 :: o3 :: o4 :: o5 :: o6 :: o7 :: rest) a w := by
  refine chain6 hC hI hg hgi hd8 (by omega) hp g1 g2 g3 g4 g5 g6 q1 q2 q3 q4 q5 q6 s1 s2 s3 s4 s5 s6 (fun a1 I1 st1 v1 => ?_)
  refine wpList_yes (wanted_none g7) (run_move q7 (ev_tmp v1)) ?_
  rw [s7]
  exact h _ (I1.put (by omega) _) (fun t ht => by rw [put_get, if_neg (by omega)]; exact st1 t ht) (I1.get (by omega) _)
/-- The chain's first link. -/
theorem chain0 (hC : Cmp w ga gb k T e) (hI : Iv ga gb a) (hd8 : 8 ≤ d) (hd : d + 5 < 187)
    (g1 : o1.guard = none) (g2 : o2.guard = none) (g3 : o3.guard = none) (g4 : o4.guard = none) (g5 : o5.guard = none) (g6 : o6.guard = none)
    (q1 : o1.op = .fieldAddr 49 (.tmp 2) k) (q2 : o2.op = .load T (.tmp d)) (q3 : o3.op = .fieldAddr 49 (.tmp 3) k) (q4 : o4.op = .load T (.tmp (d + 2))) (q5 : o5.op = .binOp .eql T (.tmp (d + 1)) (.tmp (d + 3)) T)
    (q6 : o6.op = .move (.tmp (d + 4)))
    (s1 : o1.dst = some d) (s2 : o2.dst = some (d + 1)) (s3 : o3.dst = some (d + 2)) (s4 : o4.dst = some (d + 3)) (s5 : o5.dst = some (d + 4)) (s6 : o6.dst = some (d + 5))
    (h : ∀ a', Iv ga gb a' → (∀ t, t < d → a'.tmps[t]? = a.tmps[t]?) → a'.tmps[d + 5]? = some (.bool e) → wpList Try.prog ops Q rest a' w) :
    wpList Try.prog ops Q (o1 :: o2 :: o3 :: o4 :: o5 :: o6 :: rest) a w := by
  refine chain5 hC hI hd8 (by omega) (g := true) (fun o ho a' hs => ?_) q1 q2 q3 q4 q5 s1 s2 s3 s4 s5 (fun a1 I1 st1 v1 => ?_)
  · simp only [List.mem_cons, List.not_mem_nil, or_false] at ho
    rcases ho with rfl | rfl | rfl | rfl | rfl <;> exact wanted_none (by assumption)
  refine wpList_yes (wanted_none g6) (run_move q6 (ev_tmp (v1 rfl))) ?_
  rw [s6]
  exact h _ (I1.put (by omega) _) (fun t ht => by rw [put_get, if_neg (by omega)]; exact st1 t ht) (I1.get (by omega) _)
/-- Two flags. -/
theorem chain2 {b6 b7 : Bool} (hI : Iv ga gb a) (v6 : a.tmps[6]? = some (.bool b6)) (v7 : a.tmps[7]? = some (.bool b7))
    (g1 : o1.guard = none) (g2 : o2.guard = none) (g3 : o3.guard = some (1, true)) (g4 : o4.guard = none) (g5 : o5.guard = none)
    (hgi : (ops[1]?).bind (·.dst) = some 163)
    (q1 : o1.op = .move (.tmp 6)) (q2 : o2.op = .move (.tmp 162)) (q3 : o3.op = .move (.tmp 7)) (q4 : o4.op = .pick (.tmp 163) (.tmp 164) (.const (.bool false))) (q5 : o5.op = .move (.tmp 165))
    (s1 : o1.dst = some 162) (s2 : o2.dst = some 163) (s3 : o3.dst = some 164) (s4 : o4.dst = some 165) (s5 : o5.dst = some 166)
    (h : ∀ a', Iv ga gb a' → a'.tmps[166]? = some (.bool (b6 && b7)) → wpList Try.prog ops Q rest a' w) :
    wpList Try.prog ops Q (o1 :: o2 :: o3 :: o4 :: o5 :: rest) a w := by
  refine wpList_yes (wanted_none g1) (run_move q1 (ev_tmp v6)) ?_
  rw [s1]
  have I1 := hI.put (d := 162) (by decide) (.bool b6)
  have w1 := hI.get (d := 162) (by decide) (.bool b6)
  have v7 : (a.put (some 162) (.bool b6)).tmps[7]? = some (.bool b7) := by rw [put_get, if_neg (by decide)]; exact v7
  generalize a.put (some 162) (.bool b6) = a1 at I1 w1 v7
  refine wpList_yes (wanted_none g2) (run_move q2 (ev_tmp w1)) ?_
  rw [s2]
  have I2 := I1.put (d := 163) (by decide) (.bool b6)
  have w2 := I1.get (d := 163) (by decide) (.bool b6)
  have v7 : (a1.put (some 163) (.bool b6)).tmps[7]? = some (.bool b7) := by rw [put_get, if_neg (by decide)]; exact v7
  generalize a1.put (some 163) (.bool b6) = a2 at I2 w2 v7
  have fin : ∀ a3 : Act, Iv ga gb a3 → a3.tmps[163]? = some (.bool b6) → (b6 = true → a3.tmps[164]? = some (.bool b7)) → wpList Try.prog ops Q (o4 :: o5 :: rest) a3 w := fun a3 I3 u1 u2 => by
    refine wpList_yes (v := .bool (b6 && b7)) (wanted_none g4) (run_pick q4 (ev_tmp u1) ?_) ?_
    · cases b6 with
      | true => exact ev_tmp (u2 rfl)
      | false => rfl
    rw [s4]
    have I4 := I3.put (d := 165) (by decide) (.bool (b6 && b7))
    have w4 := I3.get (d := 165) (by decide) (.bool (b6 && b7))
    generalize a3.put (some 165) (.bool (b6 && b7)) = a4 at I4 w4
    refine wpList_yes (wanted_none g5) (run_move q5 (ev_tmp w4)) ?_
    rw [s5]
    exact h _ (I4.put (by decide) _) (I4.get (by decide) _)
  cases b6 with
  | true =>
    refine wpList_yes (wanted_g g3 hgi w2) (run_move q3 (ev_tmp v7)) ?_
    rw [s3]
    exact fin _ (I2.put (by decide) _) (by rw [put_get, if_neg (by decide)]; exact w2) (fun _ => I2.get (by decide) _)
  | false =>
    refine wpList_no (wanted_g g3 hgi w2) ?_
    rw [s3]
    exact fin _ (I2.put (by decide) _) (by rw [put_get, if_neg (by decide)]; exact w2) (fun h => by cases h)
end
theorem eqI (x0 x1 x2 x3 y0 y1 y2 y3 : Int) (w : World) : (Op.equalIn 10000 46 (.agg #[.int .i64 x0, .int .i64 x1, .int .i64 x2, .int .i64 x3]) (.agg #[.int .i64 y0, .int .i64 y1, .int .i64 y2, .int .i64 y3])).run Try.prog w = .ok (x0 == y0 && (x1 == y1 && (x2 == y2 && x3 == y3))) w := by
  rw [Op.equalIn]
  rw [Sem.run_bind, run_underlying Try.underlying46 w, Result.andThen_ok]
  dsimp only
  go_simp
  cases h0 : (x0 == y0) with
  | false => simp [List.range'_succ, go_sem, h0]
  | true =>
    cases h1 : (x1 == y1) with
    | false => simp [List.range'_succ, go_sem, h0, h1]
    | true =>
      cases h2 : (x2 == y2) with
      | false => simp [List.range'_succ, go_sem, h0, h1, h2]
      | true =>
        cases h3 : (x3 == y3) with
        | false => simp [List.range'_succ, go_sem, h0, h1, h2, h3]
        | true => simp [List.range'_succ, go_sem, h0, h1, h2, h3]
theorem eqL (d : Nat) (x0 x1 y0 y1 : Int) (w : World) : (Op.equalIn (d + 1 + 1) 44 (.agg #[.int .u8 x0, .int .i64 x1]) (.agg #[.int .u8 y0, .int .i64 y1])).run Try.prog w = .ok (x0 == y0 && x1 == y1) w := by
  cases h0 : (x0 == y0) <;> cases h1 : (x1 == y1) <;> simp [go_sem, h0, h1]
theorem eqA (x0 x1 x2 x3 x4 x5 x6 x7 y0 y1 y2 y3 y4 y5 y6 y7 : Int) (w : World) : (Op.equalIn 10000 45 (.agg #[.int .u8 x0, .int .i64 x1, .int .u8 x2, .int .i64 x3, .int .u8 x4, .int .i64 x5, .int .u8 x6, .int .i64 x7]) (.agg #[.int .u8 y0, .int .i64 y1, .int .u8 y2, .int .i64 y3, .int .u8 y4, .int .i64 y5, .int .u8 y6, .int .i64 y7])).run Try.prog w = .ok ((x0 == y0 && x1 == y1) && ((x2 == y2 && x3 == y3) && ((x4 == y4 && x5 == y5) && (x6 == y6 && x7 == y7)))) w := by
  rw [Op.equalIn]
  rw [Sem.run_bind, run_underlying Try.underlying45 w, Result.andThen_ok]
  dsimp only
  simp [List.range'_succ, go_sem, part]
  (repeat' split) <;> simp_all
theorem cmp0 {w : World} {ga gb : Nat} {a0 b0 : Int} (hx0 : w.cell? ⟨ga, 0, none⟩ = some (.int .u8 a0)) (hy0 : w.cell? ⟨gb, 0, none⟩ = some (.int .u8 b0)) : Cmp w ga gb 0 5 (a0 == b0) := by
  refine ⟨.pointer (some ⟨ga, 0, none⟩), .pointer (some ⟨gb, 0, none⟩), .int .u8 a0, .int .u8 b0, ?_, ?_, ?_, ?_, ?_⟩
  · intro ev o h1 h2
    unfold execOp
    rw [h1]
    go_simp
  · intro ev o h1 h2
    unfold execOp
    rw [h1]
    go_simp
  · intro ev o s h1 h2
    unfold execOp
    rw [h1]
    go_simp
  · intro ev o s h1 h2
    unfold execOp
    rw [h1]
    go_simp
  · intro ev o s t h1 h2 h3
    unfold execOp
    rw [h1]
    go_simp
theorem cmp1 {w : World} {ga gb : Nat} {a1 b1 : Bool} (hx1 : w.cell? ⟨ga, 1, none⟩ = some (.bool a1)) (hy1 : w.cell? ⟨gb, 1, none⟩ = some (.bool b1)) : Cmp w ga gb 1 4 (a1 == b1) := by
  refine ⟨.pointer (some ⟨ga, 1, none⟩), .pointer (some ⟨gb, 1, none⟩), .bool a1, .bool b1, ?_, ?_, ?_, ?_, ?_⟩
  · intro ev o h1 h2
    unfold execOp
    rw [h1]
    go_simp
  · intro ev o h1 h2
    unfold execOp
    rw [h1]
    go_simp
  · intro ev o s h1 h2
    unfold execOp
    rw [h1]
    go_simp
  · intro ev o s h1 h2
    unfold execOp
    rw [h1]
    go_simp
  · intro ev o s t h1 h2 h3
    unfold execOp
    rw [h1]
    go_simp
theorem cmp2 {w : World} {ga gb : Nat} {a2 b2 : Int} (hx2 : w.cell? ⟨ga, 2, none⟩ = some (.int .u8 a2)) (hy2 : w.cell? ⟨gb, 2, none⟩ = some (.int .u8 b2)) : Cmp w ga gb 2 5 (a2 == b2) := by
  refine ⟨.pointer (some ⟨ga, 2, none⟩), .pointer (some ⟨gb, 2, none⟩), .int .u8 a2, .int .u8 b2, ?_, ?_, ?_, ?_, ?_⟩
  · intro ev o h1 h2
    unfold execOp
    rw [h1]
    go_simp
  · intro ev o h1 h2
    unfold execOp
    rw [h1]
    go_simp
  · intro ev o s h1 h2
    unfold execOp
    rw [h1]
    go_simp
  · intro ev o s h1 h2
    unfold execOp
    rw [h1]
    go_simp
  · intro ev o s t h1 h2 h3
    unfold execOp
    rw [h1]
    go_simp
theorem cmp3 {w : World} {ga gb : Nat} {a3 b3 : Int} (hx3 : w.cell? ⟨ga, 3, none⟩ = some (.int .u8 a3)) (hy3 : w.cell? ⟨gb, 3, none⟩ = some (.int .u8 b3)) : Cmp w ga gb 3 5 (a3 == b3) := by
  refine ⟨.pointer (some ⟨ga, 3, none⟩), .pointer (some ⟨gb, 3, none⟩), .int .u8 a3, .int .u8 b3, ?_, ?_, ?_, ?_, ?_⟩
  · intro ev o h1 h2
    unfold execOp
    rw [h1]
    go_simp
  · intro ev o h1 h2
    unfold execOp
    rw [h1]
    go_simp
  · intro ev o s h1 h2
    unfold execOp
    rw [h1]
    go_simp
  · intro ev o s h1 h2
    unfold execOp
    rw [h1]
    go_simp
  · intro ev o s t h1 h2 h3
    unfold execOp
    rw [h1]
    go_simp
theorem cmp4 {w : World} {ga gb : Nat} {a4 b4 a5 b5 : Int} (hx4 : w.cell? ⟨ga, 4, none⟩ = some (.int .u8 a4)) (hy4 : w.cell? ⟨gb, 4, none⟩ = some (.int .u8 b4)) (hx5 : w.cell? ⟨ga, 5, none⟩ = some (.int .i64 a5)) (hy5 : w.cell? ⟨gb, 5, none⟩ = some (.int .i64 b5)) : Cmp w ga gb 4 44 (a4 == b4 && a5 == b5) := by
  refine ⟨.pointer (some ⟨ga, 4, none⟩), .pointer (some ⟨gb, 4, none⟩), .agg #[.int .u8 a4, .int .i64 a5], .agg #[.int .u8 b4, .int .i64 b5], ?_, ?_, ?_, ?_, ?_⟩
  · intro ev o h1 h2
    unfold execOp
    rw [h1]
    go_simp
  · intro ev o h1 h2
    unfold execOp
    rw [h1]
    go_simp
  · intro ev o s h1 h2
    unfold execOp
    rw [h1]
    go_simp
  · intro ev o s h1 h2
    unfold execOp
    rw [h1]
    go_simp
  · intro ev o s t h1 h2 h3
    unfold execOp
    rw [h1]
    cases z0 : (a4 == b4) <;> cases z1 : (a5 == b5) <;> go_simp
theorem cmp5 {w : World} {ga gb : Nat} {a6 b6 a7 b7 : Int} (hx6 : w.cell? ⟨ga, 6, none⟩ = some (.int .u8 a6)) (hy6 : w.cell? ⟨gb, 6, none⟩ = some (.int .u8 b6)) (hx7 : w.cell? ⟨ga, 7, none⟩ = some (.int .i64 a7)) (hy7 : w.cell? ⟨gb, 7, none⟩ = some (.int .i64 b7)) : Cmp w ga gb 5 44 (a6 == b6 && a7 == b7) := by
  refine ⟨.pointer (some ⟨ga, 6, none⟩), .pointer (some ⟨gb, 6, none⟩), .agg #[.int .u8 a6, .int .i64 a7], .agg #[.int .u8 b6, .int .i64 b7], ?_, ?_, ?_, ?_, ?_⟩
  · intro ev o h1 h2
    unfold execOp
    rw [h1]
    go_simp
  · intro ev o h1 h2
    unfold execOp
    rw [h1]
    go_simp
  · intro ev o s h1 h2
    unfold execOp
    rw [h1]
    go_simp
  · intro ev o s h1 h2
    unfold execOp
    rw [h1]
    go_simp
  · intro ev o s t h1 h2 h3
    unfold execOp
    rw [h1]
    cases z0 : (a6 == b6) <;> cases z1 : (a7 == b7) <;> go_simp
theorem cmp6 {w : World} {ga gb : Nat} {a8 b8 a9 b9 : Int} (hx8 : w.cell? ⟨ga, 8, none⟩ = some (.int .u8 a8)) (hy8 : w.cell? ⟨gb, 8, none⟩ = some (.int .u8 b8)) (hx9 : w.cell? ⟨ga, 9, none⟩ = some (.int .i64 a9)) (hy9 : w.cell? ⟨gb, 9, none⟩ = some (.int .i64 b9)) : Cmp w ga gb 6 44 (a8 == b8 && a9 == b9) := by
  refine ⟨.pointer (some ⟨ga, 8, none⟩), .pointer (some ⟨gb, 8, none⟩), .agg #[.int .u8 a8, .int .i64 a9], .agg #[.int .u8 b8, .int .i64 b9], ?_, ?_, ?_, ?_, ?_⟩
  · intro ev o h1 h2
    unfold execOp
    rw [h1]
    go_simp
  · intro ev o h1 h2
    unfold execOp
    rw [h1]
    go_simp
  · intro ev o s h1 h2
    unfold execOp
    rw [h1]
    go_simp
  · intro ev o s h1 h2
    unfold execOp
    rw [h1]
    go_simp
  · intro ev o s t h1 h2 h3
    unfold execOp
    rw [h1]
    cases z0 : (a8 == b8) <;> cases z1 : (a9 == b9) <;> go_simp
theorem cmp7 {w : World} {ga gb : Nat} {a10 b10 a11 b11 : Int} (hx10 : w.cell? ⟨ga, 10, none⟩ = some (.int .u8 a10)) (hy10 : w.cell? ⟨gb, 10, none⟩ = some (.int .u8 b10)) (hx11 : w.cell? ⟨ga, 11, none⟩ = some (.int .i64 a11)) (hy11 : w.cell? ⟨gb, 11, none⟩ = some (.int .i64 b11)) : Cmp w ga gb 7 44 (a10 == b10 && a11 == b11) := by
  refine ⟨.pointer (some ⟨ga, 10, none⟩), .pointer (some ⟨gb, 10, none⟩), .agg #[.int .u8 a10, .int .i64 a11], .agg #[.int .u8 b10, .int .i64 b11], ?_, ?_, ?_, ?_, ?_⟩
  · intro ev o h1 h2
    unfold execOp
    rw [h1]
    go_simp
  · intro ev o h1 h2
    unfold execOp
    rw [h1]
    go_simp
  · intro ev o s h1 h2
    unfold execOp
    rw [h1]
    go_simp
  · intro ev o s h1 h2
    unfold execOp
    rw [h1]
    go_simp
  · intro ev o s t h1 h2 h3
    unfold execOp
    rw [h1]
    cases z0 : (a10 == b10) <;> cases z1 : (a11 == b11) <;> go_simp
theorem cmp8 {w : World} {ga gb : Nat} {a12 b12 a13 b13 : Int} (hx12 : w.cell? ⟨ga, 12, none⟩ = some (.int .u8 a12)) (hy12 : w.cell? ⟨gb, 12, none⟩ = some (.int .u8 b12)) (hx13 : w.cell? ⟨ga, 13, none⟩ = some (.int .i64 a13)) (hy13 : w.cell? ⟨gb, 13, none⟩ = some (.int .i64 b13)) : Cmp w ga gb 8 44 (a12 == b12 && a13 == b13) := by
  refine ⟨.pointer (some ⟨ga, 12, none⟩), .pointer (some ⟨gb, 12, none⟩), .agg #[.int .u8 a12, .int .i64 a13], .agg #[.int .u8 b12, .int .i64 b13], ?_, ?_, ?_, ?_, ?_⟩
  · intro ev o h1 h2
    unfold execOp
    rw [h1]
    go_simp
  · intro ev o h1 h2
    unfold execOp
    rw [h1]
    go_simp
  · intro ev o s h1 h2
    unfold execOp
    rw [h1]
    go_simp
  · intro ev o s h1 h2
    unfold execOp
    rw [h1]
    go_simp
  · intro ev o s t h1 h2 h3
    unfold execOp
    rw [h1]
    cases z0 : (a12 == b12) <;> cases z1 : (a13 == b13) <;> go_simp
theorem cmp9 {w : World} {ga gb : Nat} {a14 b14 a15 b15 : Int} (hx14 : w.cell? ⟨ga, 14, none⟩ = some (.int .u8 a14)) (hy14 : w.cell? ⟨gb, 14, none⟩ = some (.int .u8 b14)) (hx15 : w.cell? ⟨ga, 15, none⟩ = some (.int .i64 a15)) (hy15 : w.cell? ⟨gb, 15, none⟩ = some (.int .i64 b15)) : Cmp w ga gb 9 44 (a14 == b14 && a15 == b15) := by
  refine ⟨.pointer (some ⟨ga, 14, none⟩), .pointer (some ⟨gb, 14, none⟩), .agg #[.int .u8 a14, .int .i64 a15], .agg #[.int .u8 b14, .int .i64 b15], ?_, ?_, ?_, ?_, ?_⟩
  · intro ev o h1 h2
    unfold execOp
    rw [h1]
    go_simp
  · intro ev o h1 h2
    unfold execOp
    rw [h1]
    go_simp
  · intro ev o s h1 h2
    unfold execOp
    rw [h1]
    go_simp
  · intro ev o s h1 h2
    unfold execOp
    rw [h1]
    go_simp
  · intro ev o s t h1 h2 h3
    unfold execOp
    rw [h1]
    cases z0 : (a14 == b14) <;> cases z1 : (a15 == b15) <;> go_simp
theorem cmp10 {w : World} {ga gb : Nat} {a16 b16 a17 b17 a18 b18 a19 b19 a20 b20 a21 b21 a22 b22 a23 b23 : Int} (hx16 : w.cell? ⟨ga, 16, none⟩ = some (.int .u8 a16)) (hy16 : w.cell? ⟨gb, 16, none⟩ = some (.int .u8 b16)) (hx17 : w.cell? ⟨ga, 17, none⟩ = some (.int .i64 a17)) (hy17 : w.cell? ⟨gb, 17, none⟩ = some (.int .i64 b17)) (hx18 : w.cell? ⟨ga, 18, none⟩ = some (.int .u8 a18)) (hy18 : w.cell? ⟨gb, 18, none⟩ = some (.int .u8 b18)) (hx19 : w.cell? ⟨ga, 19, none⟩ = some (.int .i64 a19)) (hy19 : w.cell? ⟨gb, 19, none⟩ = some (.int .i64 b19)) (hx20 : w.cell? ⟨ga, 20, none⟩ = some (.int .u8 a20)) (hy20 : w.cell? ⟨gb, 20, none⟩ = some (.int .u8 b20)) (hx21 : w.cell? ⟨ga, 21, none⟩ = some (.int .i64 a21)) (hy21 : w.cell? ⟨gb, 21, none⟩ = some (.int .i64 b21)) (hx22 : w.cell? ⟨ga, 22, none⟩ = some (.int .u8 a22)) (hy22 : w.cell? ⟨gb, 22, none⟩ = some (.int .u8 b22)) (hx23 : w.cell? ⟨ga, 23, none⟩ = some (.int .i64 a23)) (hy23 : w.cell? ⟨gb, 23, none⟩ = some (.int .i64 b23)) : Cmp w ga gb 10 45 ((a16 == b16 && a17 == b17) && ((a18 == b18 && a19 == b19) && ((a20 == b20 && a21 == b21) && (a22 == b22 && a23 == b23)))) := by
  refine ⟨.pointer (some ⟨ga, 16, none⟩), .pointer (some ⟨gb, 16, none⟩), .agg #[.int .u8 a16, .int .i64 a17, .int .u8 a18, .int .i64 a19, .int .u8 a20, .int .i64 a21, .int .u8 a22, .int .i64 a23], .agg #[.int .u8 b16, .int .i64 b17, .int .u8 b18, .int .i64 b19, .int .u8 b20, .int .i64 b21, .int .u8 b22, .int .i64 b23], ?_, ?_, ?_, ?_, ?_⟩
  · intro ev o h1 h2
    unfold execOp
    rw [h1]
    go_simp
  · intro ev o h1 h2
    unfold execOp
    rw [h1]
    go_simp
  · intro ev o s h1 h2
    unfold execOp
    rw [h1]
    go_simp
  · intro ev o s h1 h2
    unfold execOp
    rw [h1]
    go_simp
  · intro ev o s t h1 h2 h3
    unfold execOp
    rw [h1]
    have := eqA a16 a17 a18 a19 a20 a21 a22 a23 b16 b17 b18 b19 b20 b21 b22 b23 w
    go_simp
theorem cmp11 {w : World} {ga gb : Nat} {a24 b24 a25 b25 a26 b26 a27 b27 : Int} (hx24 : w.cell? ⟨ga, 24, none⟩ = some (.int .i64 a24)) (hy24 : w.cell? ⟨gb, 24, none⟩ = some (.int .i64 b24)) (hx25 : w.cell? ⟨ga, 25, none⟩ = some (.int .i64 a25)) (hy25 : w.cell? ⟨gb, 25, none⟩ = some (.int .i64 b25)) (hx26 : w.cell? ⟨ga, 26, none⟩ = some (.int .i64 a26)) (hy26 : w.cell? ⟨gb, 26, none⟩ = some (.int .i64 b26)) (hx27 : w.cell? ⟨ga, 27, none⟩ = some (.int .i64 a27)) (hy27 : w.cell? ⟨gb, 27, none⟩ = some (.int .i64 b27)) : Cmp w ga gb 11 46 (a24 == b24 && (a25 == b25 && (a26 == b26 && a27 == b27))) := by
  refine ⟨.pointer (some ⟨ga, 24, none⟩), .pointer (some ⟨gb, 24, none⟩), .agg #[.int .i64 a24, .int .i64 a25, .int .i64 a26, .int .i64 a27], .agg #[.int .i64 b24, .int .i64 b25, .int .i64 b26, .int .i64 b27], ?_, ?_, ?_, ?_, ?_⟩
  · intro ev o h1 h2
    unfold execOp
    rw [h1]
    go_simp
  · intro ev o h1 h2
    unfold execOp
    rw [h1]
    go_simp
  · intro ev o s h1 h2
    unfold execOp
    rw [h1]
    go_simp
  · intro ev o s h1 h2
    unfold execOp
    rw [h1]
    go_simp
  · intro ev o s t h1 h2 h3
    unfold execOp
    rw [h1]
    have := eqI a24 a25 a26 a27 b24 b25 b26 b27 w
    go_simp
theorem cmp12 {w : World} {ga gb : Nat} {a28 b28 a29 b29 a30 b30 a31 b31 : Int} (hx28 : w.cell? ⟨ga, 28, none⟩ = some (.int .i64 a28)) (hy28 : w.cell? ⟨gb, 28, none⟩ = some (.int .i64 b28)) (hx29 : w.cell? ⟨ga, 29, none⟩ = some (.int .i64 a29)) (hy29 : w.cell? ⟨gb, 29, none⟩ = some (.int .i64 b29)) (hx30 : w.cell? ⟨ga, 30, none⟩ = some (.int .i64 a30)) (hy30 : w.cell? ⟨gb, 30, none⟩ = some (.int .i64 b30)) (hx31 : w.cell? ⟨ga, 31, none⟩ = some (.int .i64 a31)) (hy31 : w.cell? ⟨gb, 31, none⟩ = some (.int .i64 b31)) : Cmp w ga gb 12 46 (a28 == b28 && (a29 == b29 && (a30 == b30 && a31 == b31))) := by
  refine ⟨.pointer (some ⟨ga, 28, none⟩), .pointer (some ⟨gb, 28, none⟩), .agg #[.int .i64 a28, .int .i64 a29, .int .i64 a30, .int .i64 a31], .agg #[.int .i64 b28, .int .i64 b29, .int .i64 b30, .int .i64 b31], ?_, ?_, ?_, ?_, ?_⟩
  · intro ev o h1 h2
    unfold execOp
    rw [h1]
    go_simp
  · intro ev o h1 h2
    unfold execOp
    rw [h1]
    go_simp
  · intro ev o s h1 h2
    unfold execOp
    rw [h1]
    go_simp
  · intro ev o s h1 h2
    unfold execOp
    rw [h1]
    go_simp
  · intro ev o s t h1 h2 h3
    unfold execOp
    rw [h1]
    have := eqI a28 a29 a30 a31 b28 b29 b30 b31 w
    go_simp
theorem cmp13 {w : World} {ga gb : Nat} {a32 b32 : Int} (hx32 : w.cell? ⟨ga, 32, none⟩ = some (.int .u8 a32)) (hy32 : w.cell? ⟨gb, 32, none⟩ = some (.int .u8 b32)) : Cmp w ga gb 13 5 (a32 == b32) := by
  refine ⟨.pointer (some ⟨ga, 32, none⟩), .pointer (some ⟨gb, 32, none⟩), .int .u8 a32, .int .u8 b32, ?_, ?_, ?_, ?_, ?_⟩
  · intro ev o h1 h2
    unfold execOp
    rw [h1]
    go_simp
  · intro ev o h1 h2
    unfold execOp
    rw [h1]
    go_simp
  · intro ev o s h1 h2
    unfold execOp
    rw [h1]
    go_simp
  · intro ev o s h1 h2
    unfold execOp
    rw [h1]
    go_simp
  · intro ev o s t h1 h2 h3
    unfold execOp
    rw [h1]
    go_simp
theorem cmp14 {w : World} {ga gb : Nat} {a33 b33 : Int} (hx33 : w.cell? ⟨ga, 33, none⟩ = some (.int .i64 a33)) (hy33 : w.cell? ⟨gb, 33, none⟩ = some (.int .i64 b33)) : Cmp w ga gb 14 2 (a33 == b33) := by
  refine ⟨.pointer (some ⟨ga, 33, none⟩), .pointer (some ⟨gb, 33, none⟩), .int .i64 a33, .int .i64 b33, ?_, ?_, ?_, ?_, ?_⟩
  · intro ev o h1 h2
    unfold execOp
    rw [h1]
    go_simp
  · intro ev o h1 h2
    unfold execOp
    rw [h1]
    go_simp
  · intro ev o s h1 h2
    unfold execOp
    rw [h1]
    go_simp
  · intro ev o s h1 h2
    unfold execOp
    rw [h1]
    go_simp
  · intro ev o s t h1 h2 h3
    unfold execOp
    rw [h1]
    go_simp
theorem cmp15 {w : World} {ga gb : Nat} {a34 b34 : Bool} (hx34 : w.cell? ⟨ga, 34, none⟩ = some (.bool a34)) (hy34 : w.cell? ⟨gb, 34, none⟩ = some (.bool b34)) : Cmp w ga gb 15 4 (a34 == b34) := by
  refine ⟨.pointer (some ⟨ga, 34, none⟩), .pointer (some ⟨gb, 34, none⟩), .bool a34, .bool b34, ?_, ?_, ?_, ?_, ?_⟩
  · intro ev o h1 h2
    unfold execOp
    rw [h1]
    go_simp
  · intro ev o h1 h2
    unfold execOp
    rw [h1]
    go_simp
  · intro ev o s h1 h2
    unfold execOp
    rw [h1]
    go_simp
  · intro ev o s h1 h2
    unfold execOp
    rw [h1]
    go_simp
  · intro ev o s t h1 h2 h3
    unfold execOp
    rw [h1]
    go_simp
theorem cmp16 {w : World} {ga gb : Nat} {a35 b35 : Int} (hx35 : w.cell? ⟨ga, 35, none⟩ = some (.int .u8 a35)) (hy35 : w.cell? ⟨gb, 35, none⟩ = some (.int .u8 b35)) : Cmp w ga gb 16 5 (a35 == b35) := by
  refine ⟨.pointer (some ⟨ga, 35, none⟩), .pointer (some ⟨gb, 35, none⟩), .int .u8 a35, .int .u8 b35, ?_, ?_, ?_, ?_, ?_⟩
  · intro ev o h1 h2
    unfold execOp
    rw [h1]
    go_simp
  · intro ev o h1 h2
    unfold execOp
    rw [h1]
    go_simp
  · intro ev o s h1 h2
    unfold execOp
    rw [h1]
    go_simp
  · intro ev o s h1 h2
    unfold execOp
    rw [h1]
    go_simp
  · intro ev o s t h1 h2 h3
    unfold execOp
    rw [h1]
    go_simp
theorem cmp17 {w : World} {ga gb : Nat} {a36 b36 : Int} (hx36 : w.cell? ⟨ga, 36, none⟩ = some (.int .u8 a36)) (hy36 : w.cell? ⟨gb, 36, none⟩ = some (.int .u8 b36)) : Cmp w ga gb 17 5 (a36 == b36) := by
  refine ⟨.pointer (some ⟨ga, 36, none⟩), .pointer (some ⟨gb, 36, none⟩), .int .u8 a36, .int .u8 b36, ?_, ?_, ?_, ?_, ?_⟩
  · intro ev o h1 h2
    unfold execOp
    rw [h1]
    go_simp
  · intro ev o h1 h2
    unfold execOp
    rw [h1]
    go_simp
  · intro ev o s h1 h2
    unfold execOp
    rw [h1]
    go_simp
  · intro ev o s h1 h2
    unfold execOp
    rw [h1]
    go_simp
  · intro ev o s t h1 h2 h3
    unfold execOp
    rw [h1]
    go_simp
theorem cmp18 {w : World} {ga gb : Nat} {a37 b37 : Int} (hx37 : w.cell? ⟨ga, 37, none⟩ = some (.int .i64 a37)) (hy37 : w.cell? ⟨gb, 37, none⟩ = some (.int .i64 b37)) : Cmp w ga gb 18 3 (a37 == b37) := by
  refine ⟨.pointer (some ⟨ga, 37, none⟩), .pointer (some ⟨gb, 37, none⟩), .int .i64 a37, .int .i64 b37, ?_, ?_, ?_, ?_, ?_⟩
  · intro ev o h1 h2
    unfold execOp
    rw [h1]
    go_simp
  · intro ev o h1 h2
    unfold execOp
    rw [h1]
    go_simp
  · intro ev o s h1 h2
    unfold execOp
    rw [h1]
    go_simp
  · intro ev o s h1 h2
    unfold execOp
    rw [h1]
    go_simp
  · intro ev o s t h1 h2 h3
    unfold execOp
    rw [h1]
    go_simp
theorem cmp19 {w : World} {ga gb : Nat} {a38 b38 : Int} (hx38 : w.cell? ⟨ga, 38, none⟩ = some (.int .i64 a38)) (hy38 : w.cell? ⟨gb, 38, none⟩ = some (.int .i64 b38)) : Cmp w ga gb 19 2 (a38 == b38) := by
  refine ⟨.pointer (some ⟨ga, 38, none⟩), .pointer (some ⟨gb, 38, none⟩), .int .i64 a38, .int .i64 b38, ?_, ?_, ?_, ?_, ?_⟩
  · intro ev o h1 h2
    unfold execOp
    rw [h1]
    go_simp
  · intro ev o h1 h2
    unfold execOp
    rw [h1]
    go_simp
  · intro ev o s h1 h2
    unfold execOp
    rw [h1]
    go_simp
  · intro ev o s h1 h2
    unfold execOp
    rw [h1]
    go_simp
  · intro ev o s t h1 h2 h3
    unfold execOp
    rw [h1]
    go_simp
theorem cmp20 {w : World} {ga gb : Nat} {a39 b39 : Int} (hx39 : w.cell? ⟨ga, 39, none⟩ = some (.int .i64 a39)) (hy39 : w.cell? ⟨gb, 39, none⟩ = some (.int .i64 b39)) : Cmp w ga gb 20 2 (a39 == b39) := by
  refine ⟨.pointer (some ⟨ga, 39, none⟩), .pointer (some ⟨gb, 39, none⟩), .int .i64 a39, .int .i64 b39, ?_, ?_, ?_, ?_, ?_⟩
  · intro ev o h1 h2
    unfold execOp
    rw [h1]
    go_simp
  · intro ev o h1 h2
    unfold execOp
    rw [h1]
    go_simp
  · intro ev o s h1 h2
    unfold execOp
    rw [h1]
    go_simp
  · intro ev o s h1 h2
    unfold execOp
    rw [h1]
    go_simp
  · intro ev o s t h1 h2 h3
    unfold execOp
    rw [h1]
    go_simp
theorem cmp21 {w : World} {ga gb : Nat} {a40 b40 a41 b41 : Int} (hx40 : w.cell? ⟨ga, 40, none⟩ = some (.int .u8 a40)) (hy40 : w.cell? ⟨gb, 40, none⟩ = some (.int .u8 b40)) (hx41 : w.cell? ⟨ga, 41, none⟩ = some (.int .i64 a41)) (hy41 : w.cell? ⟨gb, 41, none⟩ = some (.int .i64 b41)) : Cmp w ga gb 21 44 (a40 == b40 && a41 == b41) := by
  refine ⟨.pointer (some ⟨ga, 40, none⟩), .pointer (some ⟨gb, 40, none⟩), .agg #[.int .u8 a40, .int .i64 a41], .agg #[.int .u8 b40, .int .i64 b41], ?_, ?_, ?_, ?_, ?_⟩
  · intro ev o h1 h2
    unfold execOp
    rw [h1]
    go_simp
  · intro ev o h1 h2
    unfold execOp
    rw [h1]
    go_simp
  · intro ev o s h1 h2
    unfold execOp
    rw [h1]
    go_simp
  · intro ev o s h1 h2
    unfold execOp
    rw [h1]
    go_simp
  · intro ev o s t h1 h2 h3
    unfold execOp
    rw [h1]
    cases z0 : (a40 == b40) <;> cases z1 : (a41 == b41) <;> go_simp
theorem lists_eq {L M : List (List Int)} (hL : okS KD L) (hM : okS KD M) (h : ∀ k, k < 32 → L.getD k [] = M.getD k []) : L = M := by
  have l1 := okS_len hL
  have l2 := okS_len hM
  have l3 : KD.length = 32 := rfl
  apply List.ext_getElem (by omega)
  intro i h1 h2
  have := h i (by omega)
  rwa [List.getD_eq_getElem?_getD, List.getD_eq_getElem?_getD, List.getElem?_eq_getElem h1, List.getElem?_eq_getElem h2] at this
theorem field_eq {κ : Nat} {v u : List Int} (hv : okF κ v) (hu : okF κ u) (h5 : κ ≠ 5) (h0 : κ = 0 → ((v.getD 0 0 != 0) = (u.getD 0 0 != 0))) (h1 : κ ≠ 0 → v.getD 0 0 = u.getD 0 0) (h4 : κ = 4 → v.getD 1 0 = u.getD 1 0) : v = u := by
  rcases kcase κ with h | h | h | h | ⟨k0, k1, k4, k5⟩
  · subst h
    have h := h0 rfl
    rcases hv with rfl | rfl <;> rcases hu with rfl | rfl <;> first | rfl | (simp at h)
  · subst h
    obtain ⟨x, rfl, _⟩ := hv
    obtain ⟨y, rfl, _⟩ := hu
    have := h1 (by decide)
    simpa using this
  · subst h
    obtain ⟨x, n, rfl, _⟩ := hv
    obtain ⟨y, m, rfl, _⟩ := hu
    have e1 := h1 (by decide)
    have e2 := h4 rfl
    simp at e1 e2
    rw [e1, e2]
  · exact absurd h h5
  · rw [okF_o k0 k1 k4 k5] at hv hu
    obtain ⟨x, rfl, _⟩ := hv
    obtain ⟨y, rfl, _⟩ := hu
    have := h1 k0
    simpa using this
/-- Cell o of two styles is the same. -/
def ceq (L M : List (List Int)) (o : Nat) : Prop := if kd (OF.getD o (0, 0)).1 = 0 then ((gof L (OF.getD o (0, 0)).1 0 != 0) = (gof M (OF.getD o (0, 0)).1 0 != 0)) else gof L (OF.getD o (0, 0)).1 (OF.getD o (0, 0)).2 = gof M (OF.getD o (0, 0)).1 (OF.getD o (0, 0)).2
theorem kd_off : ∀ k, k < 31 → off k < 42 ∧ OF.getD (off k) (0, 0) = (k, 0) ∧ kd k ≠ 5 ∧ (kd k = 4 → off k + 1 < 42 ∧ OF.getD (off k + 1) (0, 0) = (k, 1)) := by decide
theorem same_of_cells {L M : List (List Int)} (hL : okS KD L) (hM : okS KD M) (hu : L.getD 31 [] = M.getD 31 []) (h : ∀ o, o < 42 → ceq L M o) : L = M := by
  refine lists_eq hL hM fun k hk => ?_
  by_cases h31 : k = 31
  · subst h31; exact hu
  obtain ⟨c1, c2, c3, c4⟩ := kd_off k (by omega)
  have hv := okS_at hL k hk
  have hw := okS_at hM k hk
  have h0 := h (off k) c1
  unfold ceq at h0
  rw [c2] at h0
  dsimp only at h0
  refine field_eq hv hw c3 (fun e => ?_) (fun e => ?_) (fun e => ?_)
  · split at h0
    · exact h0
    · rename_i hn; exact absurd e hn
  · split at h0
    · rename_i hn; exact absurd hn e
    · exact h0
  · have h1 := h (off k + 1) (c4 e).1
    unfold ceq at h1
    rw [(c4 e).2] at h1
    dsimp only at h1
    split at h1
    · rename_i hn; rw [show kd k = 4 from e] at hn; exact absurd hn (by decide)
    · exact h1
theorem same_bool {L M : List (List Int)} (hL : okS KD L) (hM : okS KD M) (hu : L.getD 31 [] = M.getD 31 []) : ((((((((((((((((gof L 2 0 == gof M 2 0) && ((gof L 0 0 != 0) == (gof M 0 0 != 0))) && (gof L 3 0 == gof M 3 0)) && (gof L 4 0 == gof M 4 0)) && (gof L 5 0 == gof M 5 0)) && (gof L 8 0 == gof M 8 0)) && ((gof L 1 0 != 0) == (gof M 1 0 != 0))) && (gof L 6 0 == gof M 6 0)) && (gof L 7 0 == gof M 7 0)) && (gof L 9 0 == gof M 9 0)) && (gof L 10 0 == gof M 10 0)) && (gof L 11 0 == gof M 11 0)) && ((((((((gof L 12 0 == gof M 12 0) && (gof L 12 1 == gof M 12 1)) && ((gof L 13 0 == gof M 13 0) && (gof L 13 1 == gof M 13 1))) && ((gof L 14 0 == gof M 14 0) && (gof L 14 1 == gof M 14 1))) && ((gof L 15 0 == gof M 15 0) && (gof L 15 1 == gof M 15 1))) && ((gof L 16 0 == gof M 16 0) && (gof L 16 1 == gof M 16 1))) && ((gof L 17 0 == gof M 17 0) && (gof L 17 1 == gof M 17 1))) && ((gof L 18 0 == gof M 18 0) && (gof L 18 1 == gof M 18 1)))) && (((gof L 19 0 == gof M 19 0) && (gof L 19 1 == gof M 19 1)) && (((gof L 20 0 == gof M 20 0) && (gof L 20 1 == gof M 20 1)) && (((gof L 21 0 == gof M 21 0) && (gof L 21 1 == gof M 21 1)) && ((gof L 22 0 == gof M 22 0) && (gof L 22 1 == gof M 22 1)))))) && ((gof L 23 0 == gof M 23 0) && ((gof L 24 0 == gof M 24 0) && ((gof L 25 0 == gof M 25 0) && (gof L 26 0 == gof M 26 0))))) && ((gof L 27 0 == gof M 27 0) && ((gof L 28 0 == gof M 28 0) && ((gof L 29 0 == gof M 29 0) && (gof L 30 0 == gof M 30 0))))) = decide (L = M) := by
  rw [Bool.eq_iff_iff, decide_eq_true_eq]
  constructor
  · intro h
    simp only [Bool.and_eq_true, beq_iff_eq] at h
    obtain ⟨⟨⟨⟨⟨⟨⟨⟨⟨⟨⟨⟨⟨⟨⟨h0, h1⟩, h2⟩, h3⟩, h32⟩, h33⟩, h34⟩, h35⟩, h36⟩, h37⟩, h38⟩, h39⟩, ⟨⟨⟨⟨⟨⟨⟨h4, h5⟩, ⟨h6, h7⟩⟩, ⟨h8, h9⟩⟩, ⟨h10, h11⟩⟩, ⟨h12, h13⟩⟩, ⟨h14, h15⟩⟩, ⟨h40, h41⟩⟩⟩, ⟨⟨h16, h17⟩, ⟨h18, h19⟩, ⟨h20, h21⟩, ⟨h22, h23⟩⟩⟩, ⟨h24, h25, h26, h27⟩⟩, ⟨h28, h29, h30, h31⟩⟩ := h
    refine same_of_cells hL hM hu fun o ho => ?_
    match o, ho with
    | 0, _ => exact h0
    | 1, _ => exact h1
    | 2, _ => exact h2
    | 3, _ => exact h3
    | 4, _ => exact h4
    | 5, _ => exact h5
    | 6, _ => exact h6
    | 7, _ => exact h7
    | 8, _ => exact h8
    | 9, _ => exact h9
    | 10, _ => exact h10
    | 11, _ => exact h11
    | 12, _ => exact h12
    | 13, _ => exact h13
    | 14, _ => exact h14
    | 15, _ => exact h15
    | 16, _ => exact h16
    | 17, _ => exact h17
    | 18, _ => exact h18
    | 19, _ => exact h19
    | 20, _ => exact h20
    | 21, _ => exact h21
    | 22, _ => exact h22
    | 23, _ => exact h23
    | 24, _ => exact h24
    | 25, _ => exact h25
    | 26, _ => exact h26
    | 27, _ => exact h27
    | 28, _ => exact h28
    | 29, _ => exact h29
    | 30, _ => exact h30
    | 31, _ => exact h31
    | 32, _ => exact h32
    | 33, _ => exact h33
    | 34, _ => exact h34
    | 35, _ => exact h35
    | 36, _ => exact h36
    | 37, _ => exact h37
    | 38, _ => exact h38
    | 39, _ => exact h39
    | 40, _ => exact h40
    | 41, _ => exact h41
    | n + 42, h => exact absurd h (by omega)
  · rintro rfl
    simp
set_option maxRecDepth 100000 in
set_option maxHeartbeats 4000000 in
theorem ssame_any (L M : List (List Int)) (u1 u2 : Value) (w : World) (hL : okS KD L) (hM : okS KD M) (h1 : UR w u1 (L.getD 31 [])) (h2 : UR w u2 (M.getD 31 [])) (hl1 : (L.getD 31 []).length ≤ 10000000) (hl2 : (M.getD 31 []).length ≤ 10000000) :
    Calls Try.prog 31 #[.agg (SC (gof L) u1).toArray, .agg (SC (gof M) u2).toArray] w fun r w' => r = .returned (.bool (decide (L = M))) ∧ Below w.heap.size w w' := by
  obtain ⟨a1, c1, rfl, hr1, hc1, hm1⟩ := h1
  obtain ⟨a2, c2, rfl, hr2, hc2, hm2⟩ := h2
  obtain ⟨us, hus⟩ : ∃ us, us = L.getD 31 [] := ⟨_, rfl⟩
  obtain ⟨vs, hvs⟩ : ∃ vs, vs = M.getD 31 [] := ⟨_, rfl⟩
  rw [← hus] at hl1 hr1 hc1 ⊢
  rw [← hvs] at hl2 hr2 hc2 ⊢
  have HUS := hide hus
  have HVS := hide hvs
  have HL := hide hL
  have HM := hide hM
  obtain ⟨W2, hW2⟩ : ∃ W2, W2 = (w.alloc (.cells (SC (gof L) (.slice a1 us.length c1)).toArray 49)).alloc (.cells (SC (gof M) (.slice a2 vs.length c2)).toArray 49) := ⟨_, rfl⟩
  have k2 : Below w.heap.size w W2 := by rw [hW2]; exact ((Below.refl _ _).alloc (Nat.le_refl _) _).alloc (by simp) _
  obtain ⟨ga, hga⟩ : ∃ ga, ga = w.heap.size := ⟨_, rfl⟩
  have BA : Blk W2 ga 49 (SC (gof L) (.slice a1 us.length c1)).toArray := by rw [hW2, hga]; exact (Blk.new w _ _).alloc _
  have BB : Blk W2 (ga + 1) 49 (SC (gof M) (.slice a2 vs.length c2)).toArray := by
    rw [hW2, hga]
    have := Blk.new (w.alloc (.cells (SC (gof L) (.slice a1 us.length c1)).toArray 49)) 49 (SC (gof M) (.slice a2 vs.length c2)).toArray
    simpa using this
  have R1 := hide (hr1.below k2)
  have R2 := hide (hr2.below k2)
  have K2 : Hid (Below ga w W2) := hide (hga ▸ k2)
  have HW2 := hide hW2
  have HGA := hide hga
  have BA := hide BA
  have BB := hide BB
  clear hus hvs hL hM hr1 hr2 hW2 k2 hga
  rw [← HGA.out]
  go_enter Try.func31, Try.ntmps31
  go_upto_region 1 with fail
  rw [← HW2.out, ← HGA.out]
  have x0 : W2.cell? ⟨ga, 42, none⟩ = some (.slice a1 us.length c1) := BA.out.cell 42
  have y0 : W2.cell? ⟨ga + 1, 42, none⟩ = some (.slice a2 vs.length c2) := BB.out.cell 42
  by_cases hlen : us.length = vs.length
  · have d0 : ((us.length : Int) != (vs.length : Int)) = false := by simp [hlen]
    go_wp2_with fail
    go_loopw [5] (fun s5 wr => ∃ i : Nat, i ≤ us.length ∧ s5 = .int .i64 i ∧ Hid (us.take i = vs.take i) ∧ ∃ q, wr = W2.drewN q) (fun s5 _ => us.length - (intOf s5).toNat)
    case atStart => exact ⟨0, Nat.zero_le _, rfl, hide rfl, 0, rfl⟩
    case round =>
      clear d0
      obtain ⟨i, hi, rfl, htk, q, rfl⟩ := hrel
      have x0 : (W2.drewN q).cell? ⟨ga, 42, none⟩ = some (.slice a1 us.length c1) := x0
      have y0 : (W2.drewN q).cell? ⟨ga + 1, 42, none⟩ = some (.slice a2 vs.length c2) := y0
      by_cases hlt : i < us.length
      · obtain ⟨b1, o1, e1, hb1, hc1'⟩ := R1.out.2 (by rw [List.length_map]; omega)
        obtain ⟨b2, o2, e2, hb2, hc2'⟩ := R2.out.2 (by rw [List.length_map]; omega)
        subst e1 e2
        have z1 := hc1' i (by rw [List.length_map]; exact hlt)
        have z2 := hc2' i (by rw [List.length_map]; omega)
        rw [List.getElem_map] at z1 z2
        have hlt2 : i < vs.length := by omega
        have HT1 := hide (List.take_succ_eq_append_getElem hlt)
        have HT2 := hide (List.take_succ_eq_append_getElem hlt2)
        clear hc1' hc2'
        have HG : Hid (us[i] ≠ vs[i] → decide (L = M) = false) := hide (fun hne => by
          rw [decide_eq_false_iff_not]
          rintro rfl
          apply hne
          have : us = vs := by rw [HUS.out, HVS.out]
          subst this
          rfl)
        generalize us[i] = u at z1 HT1 HG
        generalize vs[i] = v at z2 HT2 HG
        have z1 : (W2.drewN q).cell? ⟨b1, o1 + i, none⟩ = some (.int .u16 u) := z1
        have z2 : (W2.drewN q).cell? ⟨b2, o2 + i, none⟩ = some (.int .u16 v) := z2
        have hd : decide ((i : Int) < (us.length : Int)) = true := by rw [decide_eq_true_eq]; omega
        go_upto_region 6 with fail
        have C0 := keepd x0
        have C1 := keepd y0
        have C2 := keepd z1
        have C3 := keepd z2
        refine Reg.region (by kernel_rfl) 11 [] (fun _ w' => w' = (W2.drewN q).drew) (by kernel_rfl) (by kernel_rfl) rfl ?_
        iterate 11
          first
            | refine Reg.WT.idle rfl rfl ?_
            | (refine Reg.WT.yield (v := ?_) rfl rfl ?_ ?_
               rotate_left
               · intro w' _ hS; go_simp; (try go_bits); (first | rfl | rw [if_pos (by omega)]))
          simp only [Act.put, List.setIfInBounds_toArray, List.set_cons_zero, List.set_cons_succ]
        intro w4 hS
        subst hS
        clear C0 C1 C2 C3
        by_cases hne : u = v
        · have d1 : (u != v) = false := by simp [hne]
          have HTT : Hid (us.take (i + 1) = vs.take (i + 1)) := hide (by rw [HT1.out, HT2.out, htk.out, hne])
          clear HT1 HT2 HG htk
          go_wp2_with fail
          go_roundw
          case rel => exact ⟨i + 1, hlt, by go_num, HTT, q + 1, rfl⟩
          case measure => simp [intOf]; omega
        · have d1 : (u != v) = true := by simp [hne]
          have HD := hide (HG.out hne)
          go_wp2_with fail
          go_returns
          rw [HD.out]
          exact ⟨rfl, (below_drewN K2.out _).drew⟩
      · obtain rfl : i = us.length := by omega
        have HE : Hid (us = vs) := hide (by have := htk.out; rw [List.take_length, hlen, List.take_length] at this; exact this)
        clear htk
        obtain ⟨w5, hw5⟩ : ∃ w5, w5 = W2.drewN q := ⟨_, rfl⟩
        have BA5 := hide (hw5 ▸ BA.out.drewN q)
        have BB5 := hide (hw5 ▸ BB.out.drewN q)
        have K5 := hide (hw5 ▸ below_drewN K2.out q)
        have x0 : w5.cell? ⟨ga, 42, none⟩ = some (.slice a1 us.length c1) := BA5.out.cell 42
        have y0 : w5.cell? ⟨ga + 1, 42, none⟩ = some (.slice a2 vs.length c2) := BB5.out.cell 42
        rw [← hw5]
        clear hw5
        have C0 : Hid (Cmp w5 ga (ga + 1) 0 5 (gof L 2 0 == gof M 2 0)) := hide (cmp0 (BA5.out.cell 0) (BB5.out.cell 0))
        have C1 : Hid (Cmp w5 ga (ga + 1) 1 4 ((gof L 0 0 != 0) == (gof M 0 0 != 0))) := hide (cmp1 (BA5.out.cell 1) (BB5.out.cell 1))
        have C2 : Hid (Cmp w5 ga (ga + 1) 2 5 (gof L 3 0 == gof M 3 0)) := hide (cmp2 (BA5.out.cell 2) (BB5.out.cell 2))
        have C3 : Hid (Cmp w5 ga (ga + 1) 3 5 (gof L 4 0 == gof M 4 0)) := hide (cmp3 (BA5.out.cell 3) (BB5.out.cell 3))
        have C13 : Hid (Cmp w5 ga (ga + 1) 13 5 (gof L 5 0 == gof M 5 0)) := hide (cmp13 (BA5.out.cell 32) (BB5.out.cell 32))
        have C14 : Hid (Cmp w5 ga (ga + 1) 14 2 (gof L 8 0 == gof M 8 0)) := hide (cmp14 (BA5.out.cell 33) (BB5.out.cell 33))
        have C15 : Hid (Cmp w5 ga (ga + 1) 15 4 ((gof L 1 0 != 0) == (gof M 1 0 != 0))) := hide (cmp15 (BA5.out.cell 34) (BB5.out.cell 34))
        have C16 : Hid (Cmp w5 ga (ga + 1) 16 5 (gof L 6 0 == gof M 6 0)) := hide (cmp16 (BA5.out.cell 35) (BB5.out.cell 35))
        have C17 : Hid (Cmp w5 ga (ga + 1) 17 5 (gof L 7 0 == gof M 7 0)) := hide (cmp17 (BA5.out.cell 36) (BB5.out.cell 36))
        have C18 : Hid (Cmp w5 ga (ga + 1) 18 3 (gof L 9 0 == gof M 9 0)) := hide (cmp18 (BA5.out.cell 37) (BB5.out.cell 37))
        have C19 : Hid (Cmp w5 ga (ga + 1) 19 2 (gof L 10 0 == gof M 10 0)) := hide (cmp19 (BA5.out.cell 38) (BB5.out.cell 38))
        have C20 : Hid (Cmp w5 ga (ga + 1) 20 2 (gof L 11 0 == gof M 11 0)) := hide (cmp20 (BA5.out.cell 39) (BB5.out.cell 39))
        have C4 : Hid (Cmp w5 ga (ga + 1) 4 44 ((gof L 12 0 == gof M 12 0) && (gof L 12 1 == gof M 12 1))) := hide (cmp4 (BA5.out.cell 4) (BB5.out.cell 4) (BA5.out.cell 5) (BB5.out.cell 5))
        have C5 : Hid (Cmp w5 ga (ga + 1) 5 44 ((gof L 13 0 == gof M 13 0) && (gof L 13 1 == gof M 13 1))) := hide (cmp5 (BA5.out.cell 6) (BB5.out.cell 6) (BA5.out.cell 7) (BB5.out.cell 7))
        have C6 : Hid (Cmp w5 ga (ga + 1) 6 44 ((gof L 14 0 == gof M 14 0) && (gof L 14 1 == gof M 14 1))) := hide (cmp6 (BA5.out.cell 8) (BB5.out.cell 8) (BA5.out.cell 9) (BB5.out.cell 9))
        have C7 : Hid (Cmp w5 ga (ga + 1) 7 44 ((gof L 15 0 == gof M 15 0) && (gof L 15 1 == gof M 15 1))) := hide (cmp7 (BA5.out.cell 10) (BB5.out.cell 10) (BA5.out.cell 11) (BB5.out.cell 11))
        have C8 : Hid (Cmp w5 ga (ga + 1) 8 44 ((gof L 16 0 == gof M 16 0) && (gof L 16 1 == gof M 16 1))) := hide (cmp8 (BA5.out.cell 12) (BB5.out.cell 12) (BA5.out.cell 13) (BB5.out.cell 13))
        have C9 : Hid (Cmp w5 ga (ga + 1) 9 44 ((gof L 17 0 == gof M 17 0) && (gof L 17 1 == gof M 17 1))) := hide (cmp9 (BA5.out.cell 14) (BB5.out.cell 14) (BA5.out.cell 15) (BB5.out.cell 15))
        have C21 : Hid (Cmp w5 ga (ga + 1) 21 44 ((gof L 18 0 == gof M 18 0) && (gof L 18 1 == gof M 18 1))) := hide (cmp21 (BA5.out.cell 40) (BB5.out.cell 40) (BA5.out.cell 41) (BB5.out.cell 41))
        have C10 : Hid (Cmp w5 ga (ga + 1) 10 45 (((gof L 19 0 == gof M 19 0) && (gof L 19 1 == gof M 19 1)) && (((gof L 20 0 == gof M 20 0) && (gof L 20 1 == gof M 20 1)) && (((gof L 21 0 == gof M 21 0) && (gof L 21 1 == gof M 21 1)) && ((gof L 22 0 == gof M 22 0) && (gof L 22 1 == gof M 22 1)))))) := hide (cmp10 (BA5.out.cell 16) (BB5.out.cell 16) (BA5.out.cell 17) (BB5.out.cell 17) (BA5.out.cell 18) (BB5.out.cell 18) (BA5.out.cell 19) (BB5.out.cell 19) (BA5.out.cell 20) (BB5.out.cell 20) (BA5.out.cell 21) (BB5.out.cell 21) (BA5.out.cell 22) (BB5.out.cell 22) (BA5.out.cell 23) (BB5.out.cell 23))
        have C11 : Hid (Cmp w5 ga (ga + 1) 11 46 ((gof L 23 0 == gof M 23 0) && ((gof L 24 0 == gof M 24 0) && ((gof L 25 0 == gof M 25 0) && (gof L 26 0 == gof M 26 0))))) := hide (cmp11 (BA5.out.cell 24) (BB5.out.cell 24) (BA5.out.cell 25) (BB5.out.cell 25) (BA5.out.cell 26) (BB5.out.cell 26) (BA5.out.cell 27) (BB5.out.cell 27))
        have C12 : Hid (Cmp w5 ga (ga + 1) 12 46 ((gof L 27 0 == gof M 27 0) && ((gof L 28 0 == gof M 28 0) && ((gof L 29 0 == gof M 29 0) && (gof L 30 0 == gof M 30 0))))) := hide (cmp12 (BA5.out.cell 28) (BB5.out.cell 28) (BA5.out.cell 29) (BB5.out.cell 29) (BA5.out.cell 30) (BB5.out.cell 30) (BA5.out.cell 31) (BB5.out.cell 31))
        go_upto_region 8 with fail
        apply wp_region_lit
        refine chain0 (d := 33) C0.out (⟨rfl, rfl, rfl, rfl⟩ : Iv ga (ga + 1) _) (by decide) (by decide) rfl rfl rfl rfl rfl rfl rfl rfl rfl rfl rfl rfl rfl rfl rfl rfl rfl rfl (fun a hI st hv => ?_)
        clear st
        refine chain7 (d := 39) (p := 38) (gi := 5) C1.out hI hv rfl (by decide) (by decide) (by decide) rfl rfl rfl rfl rfl rfl rfl rfl rfl rfl rfl rfl rfl rfl rfl rfl rfl rfl rfl rfl rfl (fun a hI st hv => ?_)
        clear st
        refine chain7 (d := 46) (p := 45) (gi := 12) C2.out hI hv rfl (by decide) (by decide) (by decide) rfl rfl rfl rfl rfl rfl rfl rfl rfl rfl rfl rfl rfl rfl rfl rfl rfl rfl rfl rfl rfl (fun a hI st hv => ?_)
        clear st
        refine chain7 (d := 53) (p := 52) (gi := 19) C3.out hI hv rfl (by decide) (by decide) (by decide) rfl rfl rfl rfl rfl rfl rfl rfl rfl rfl rfl rfl rfl rfl rfl rfl rfl rfl rfl rfl rfl (fun a hI st hv => ?_)
        clear st
        refine chain7 (d := 60) (p := 59) (gi := 26) C13.out hI hv rfl (by decide) (by decide) (by decide) rfl rfl rfl rfl rfl rfl rfl rfl rfl rfl rfl rfl rfl rfl rfl rfl rfl rfl rfl rfl rfl (fun a hI st hv => ?_)
        clear st
        refine chain7 (d := 67) (p := 66) (gi := 33) C14.out hI hv rfl (by decide) (by decide) (by decide) rfl rfl rfl rfl rfl rfl rfl rfl rfl rfl rfl rfl rfl rfl rfl rfl rfl rfl rfl rfl rfl (fun a hI st hv => ?_)
        clear st
        refine chain7 (d := 74) (p := 73) (gi := 40) C15.out hI hv rfl (by decide) (by decide) (by decide) rfl rfl rfl rfl rfl rfl rfl rfl rfl rfl rfl rfl rfl rfl rfl rfl rfl rfl rfl rfl rfl (fun a hI st hv => ?_)
        clear st
        refine chain7 (d := 81) (p := 80) (gi := 47) C16.out hI hv rfl (by decide) (by decide) (by decide) rfl rfl rfl rfl rfl rfl rfl rfl rfl rfl rfl rfl rfl rfl rfl rfl rfl rfl rfl rfl rfl (fun a hI st hv => ?_)
        clear st
        refine chain7 (d := 88) (p := 87) (gi := 54) C17.out hI hv rfl (by decide) (by decide) (by decide) rfl rfl rfl rfl rfl rfl rfl rfl rfl rfl rfl rfl rfl rfl rfl rfl rfl rfl rfl rfl rfl (fun a hI st hv => ?_)
        clear st
        refine chain7 (d := 95) (p := 94) (gi := 61) C18.out hI hv rfl (by decide) (by decide) (by decide) rfl rfl rfl rfl rfl rfl rfl rfl rfl rfl rfl rfl rfl rfl rfl rfl rfl rfl rfl rfl rfl (fun a hI st hv => ?_)
        clear st
        refine chain7 (d := 102) (p := 101) (gi := 68) C19.out hI hv rfl (by decide) (by decide) (by decide) rfl rfl rfl rfl rfl rfl rfl rfl rfl rfl rfl rfl rfl rfl rfl rfl rfl rfl rfl rfl rfl (fun a hI st hv => ?_)
        clear st
        refine chain6 (d := 109) (p := 108) (gi := 75) C20.out hI hv rfl (by decide) (by decide) (by decide) rfl rfl rfl rfl rfl rfl rfl rfl rfl rfl rfl rfl rfl rfl rfl rfl rfl rfl (fun a hI st hv => ?_)
        clear st
        generalize he8 : ((((((((((((gof L 2 0 == gof M 2 0) && ((gof L 0 0 != 0) == (gof M 0 0 != 0))) && (gof L 3 0 == gof M 3 0)) && (gof L 4 0 == gof M 4 0)) && (gof L 5 0 == gof M 5 0)) && (gof L 8 0 == gof M 8 0)) && ((gof L 1 0 != 0) == (gof M 1 0 != 0))) && (gof L 6 0 == gof M 6 0)) && (gof L 7 0 == gof M 7 0)) && (gof L 9 0 == gof M 9 0)) && (gof L 10 0 == gof M 10 0)) && (gof L 11 0 == gof M 11 0)) = e8 at hv
        have He8 := hide he8
        clear he8
        refine wpList_yes (wanted_none rfl) (run_assign rfl (ev_tmp hv)) ?_
        have v6 : (a.put (some 6) (.bool e8)).tmps[6]? = some (.bool e8) := by rw [put_get, if_pos rfl, if_pos (by rw [hI.sz]; decide)]
        have hI := hI.put (d := 6) (by decide) (.bool e8)
        clear hv
        generalize a.put (some 6) (.bool e8) = a at hI v6 ⊢
        go_upto_region 9 with fail
        apply wp_region_lit
        refine chain0 (d := 115) C4.out hI (by decide) (by decide) rfl rfl rfl rfl rfl rfl rfl rfl rfl rfl rfl rfl rfl rfl rfl rfl rfl rfl (fun a hI st hv => ?_)
        have v6 := (st 6 (by decide)).trans v6
        clear st
        refine chain7 (d := 121) (p := 120) (gi := 5) C5.out hI hv rfl (by decide) (by decide) (by decide) rfl rfl rfl rfl rfl rfl rfl rfl rfl rfl rfl rfl rfl rfl rfl rfl rfl rfl rfl rfl rfl (fun a hI st hv => ?_)
        have v6 := (st 6 (by decide)).trans v6
        clear st
        refine chain7 (d := 128) (p := 127) (gi := 12) C6.out hI hv rfl (by decide) (by decide) (by decide) rfl rfl rfl rfl rfl rfl rfl rfl rfl rfl rfl rfl rfl rfl rfl rfl rfl rfl rfl rfl rfl (fun a hI st hv => ?_)
        have v6 := (st 6 (by decide)).trans v6
        clear st
        refine chain7 (d := 135) (p := 134) (gi := 19) C7.out hI hv rfl (by decide) (by decide) (by decide) rfl rfl rfl rfl rfl rfl rfl rfl rfl rfl rfl rfl rfl rfl rfl rfl rfl rfl rfl rfl rfl (fun a hI st hv => ?_)
        have v6 := (st 6 (by decide)).trans v6
        clear st
        refine chain7 (d := 142) (p := 141) (gi := 26) C8.out hI hv rfl (by decide) (by decide) (by decide) rfl rfl rfl rfl rfl rfl rfl rfl rfl rfl rfl rfl rfl rfl rfl rfl rfl rfl rfl rfl rfl (fun a hI st hv => ?_)
        have v6 := (st 6 (by decide)).trans v6
        clear st
        refine chain7 (d := 149) (p := 148) (gi := 33) C9.out hI hv rfl (by decide) (by decide) (by decide) rfl rfl rfl rfl rfl rfl rfl rfl rfl rfl rfl rfl rfl rfl rfl rfl rfl rfl rfl rfl rfl (fun a hI st hv => ?_)
        have v6 := (st 6 (by decide)).trans v6
        clear st
        refine chain6 (d := 156) (p := 155) (gi := 40) C21.out hI hv rfl (by decide) (by decide) (by decide) rfl rfl rfl rfl rfl rfl rfl rfl rfl rfl rfl rfl rfl rfl rfl rfl rfl rfl (fun a hI st hv => ?_)
        have v6 := (st 6 (by decide)).trans v6
        clear st
        generalize he9 : ((((((((gof L 12 0 == gof M 12 0) && (gof L 12 1 == gof M 12 1)) && ((gof L 13 0 == gof M 13 0) && (gof L 13 1 == gof M 13 1))) && ((gof L 14 0 == gof M 14 0) && (gof L 14 1 == gof M 14 1))) && ((gof L 15 0 == gof M 15 0) && (gof L 15 1 == gof M 15 1))) && ((gof L 16 0 == gof M 16 0) && (gof L 16 1 == gof M 16 1))) && ((gof L 17 0 == gof M 17 0) && (gof L 17 1 == gof M 17 1))) && ((gof L 18 0 == gof M 18 0) && (gof L 18 1 == gof M 18 1))) = e9 at hv
        have He9 := hide he9
        clear he9
        refine wpList_yes (wanted_none rfl) (run_assign rfl (ev_tmp hv)) ?_
        have v7 : (a.put (some 7) (.bool e9)).tmps[7]? = some (.bool e9) := by rw [put_get, if_pos rfl, if_pos (by rw [hI.sz]; decide)]
        have v6 : (a.put (some 7) (.bool e9)).tmps[6]? = _ := (put_get.trans (if_neg (by decide))).trans v6
        have hI := hI.put (d := 7) (by decide) (.bool e9)
        clear hv
        generalize a.put (some 7) (.bool e9) = a at hI v7 v6 ⊢
        go_upto_region 10 with fail
        apply wp_region_lit
        refine chain2 hI v6 v7 rfl rfl rfl rfl rfl rfl rfl rfl rfl rfl rfl rfl rfl rfl rfl rfl (fun a hI hv => ?_)
        refine chain7 (d := 167) (p := 166) (gi := 4) C10.out hI hv rfl (by decide) (by decide) (by decide) rfl rfl rfl rfl rfl rfl rfl rfl rfl rfl rfl rfl rfl rfl rfl rfl rfl rfl rfl rfl rfl (fun a hI st hv => ?_)
        clear st
        refine chain7 (d := 174) (p := 173) (gi := 11) C11.out hI hv rfl (by decide) (by decide) (by decide) rfl rfl rfl rfl rfl rfl rfl rfl rfl rfl rfl rfl rfl rfl rfl rfl rfl rfl rfl rfl rfl (fun a hI st hv => ?_)
        clear st
        refine chain6 (d := 181) (p := 180) (gi := 18) C12.out hI hv rfl (by decide) (by decide) (by decide) rfl rfl rfl rfl rfl rfl rfl rfl rfl rfl rfl rfl rfl rfl rfl rfl rfl rfl (fun a hI st hv => ?_)
        clear st
        generalize he4 : ((((e8 && e9) && (((gof L 19 0 == gof M 19 0) && (gof L 19 1 == gof M 19 1)) && (((gof L 20 0 == gof M 20 0) && (gof L 20 1 == gof M 20 1)) && (((gof L 21 0 == gof M 21 0) && (gof L 21 1 == gof M 21 1)) && ((gof L 22 0 == gof M 22 0) && (gof L 22 1 == gof M 22 1)))))) && ((gof L 23 0 == gof M 23 0) && ((gof L 24 0 == gof M 24 0) && ((gof L 25 0 == gof M 25 0) && (gof L 26 0 == gof M 26 0))))) && ((gof L 27 0 == gof M 27 0) && ((gof L 28 0 == gof M 28 0) && ((gof L 29 0 == gof M 29 0) && (gof L 30 0 == gof M 30 0))))) = e4 at hv
        have He4 := hide he4
        clear he4
        refine wpList_yes (wanted_none rfl) (run_assign rfl (ev_tmp hv)) ?_
        have v4 : (a.put (some 4) (.bool e4)).tmps[4]? = some (.bool e4) := by rw [put_get, if_pos rfl, if_pos (by rw [hI.sz]; decide)]
        have hI := hI.put (d := 4) (by decide) (.bool e4)
        clear hv
        generalize a.put (some 4) (.bool e4) = a at hI v4 ⊢
        go_wp2_with fail
        refine bodyPost_ret (results_tmp rfl _ _ _) hI.ds ?_
        have hv4 : a.tmps.getD 4 undef = .bool e4 := ev_tmp v4
        have hb : e4 = decide (L = M) := by rw [← He4.out, ← He8.out, ← He9.out]; exact same_bool HL.out HM.out (by rw [← HUS.out, ← HVS.out]; exact HE.out)
        exact ⟨by rw [hv4, hb], K5.out⟩
  · have d0 : ((us.length : Int) != (vs.length : Int)) = true := by simp; omega
    have HD : Hid (decide (L = M) = false) := hide (by
      rw [decide_eq_false_iff_not]
      rintro rfl
      exact hlen (by rw [HUS.out, HVS.out]))
    go_wp2_with fail
    go_returns
    rw [HD.out]
    exact ⟨rfl, K2.out⟩
end Go.Proofs.Ytmngndmcidbakaa
