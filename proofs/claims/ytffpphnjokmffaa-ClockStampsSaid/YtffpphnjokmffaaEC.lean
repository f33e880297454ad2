/- What Stamps keeps in memory. -/
import Derived.Test.YtffpphnjokmffaaEB
import Derived.Test.YtffpphnjokmffaaApp
import Derived.Maps.Own
import Derived.Maps.OwnOps
import Derived.Maps.Views
import Derived.WalkKit
namespace Go.Proofs.Ytffpphnjokmffaa
open Go.RowKit Go.Maps

/-- The log as a function. -/
def gl (l : List Ev) : Nat → Ev := fun i => l.getD i ⟨0, 1, 0⟩
theorem gl_at {l : List Ev} {i : Nat} (h : i < l.length) : gl l i = l[i] := by unfold gl; rw [List.getD_eq_getElem?_getD, List.getElem?_eq_getElem h]; rfl
/-- How a slice of a stamp reads. -/
def SR : Value → Option (DataW Unit × List MemPlace)
  | .slice none 0 0 => some (.nil, [])
  | .slice (some ⟨g, 0, none⟩) n c => some (.agg [.lit (.int .i64 (g : Int)), .lit (.int .i64 (n : Int)), .lit (.int .i64 (c : Int))], [])
  | _ => none
def encO (n : Nat) : Option (Nat × Nat) → DataW Unit
  | none => .nil
  | some p => .agg [.lit (.int .i64 (p.1 : Int)), .lit (.int .i64 (n : Int)), .lit (.int .i64 (p.2 : Int))]
def valO (n : Nat) : Option (Nat × Nat) → Value
  | none => .slice none 0 0
  | some p => .slice (some ⟨p.1, 0, none⟩) n p.2
theorem SR_val (n : Nat) (o : Option (Nat × Nat)) : SR (valO n o) = some (encO n o, []) := by
  cases o <;> rfl
theorem SR_inv {n : Nat} {o : Option (Nat × Nat)} {v : Value} {ps : List MemPlace} (h : SR v = some (encO n o, ps)) : v = valO n o := by
  unfold SR at h
  split at h
  · cases o with
    | none => rfl
    | some p => simp [encO] at h
  · cases o with
    | none => simp [encO] at h
    | some p =>
      simp only [encO, Option.some.injEq, Prod.mk.injEq, DataW.agg.injEq, List.cons.injEq, DataW.lit.injEq, Lit.int.injEq, true_and, and_true] at h
      obtain ⟨⟨h1, h2, h3⟩, _⟩ := h
      have h1 : _ = p.1 := Int.ofNat_inj.1 h1
      have h2 : _ = n := Int.ofNat_inj.1 h2
      have h3 : _ = p.2 := Int.ofNat_inj.1 h3
      subst h1 h2 h3
      rfl
  · cases h
def nowRow (e : Nat → Ev) (n i : Nat) (u : Int) : List Int := (List.range n).map fun (v : Nat) => ((optS e (prevW e u i) v : Nat) : Int)
def stRow (e : Nat → Ev) (n j : Nat) : List Int := (List.range n).map fun (v : Nat) => ((stamp e j v : Nat) : Int)
/-- Behind the join. -/
def joRow (e : Nat → Ev) (n i : Nat) : List Int := (List.range n).map fun (v : Nat) => ((max (optS e (prevW e (e i).w i) v) (if rdE (e i) = true then optS e (lastW e (e i).c i) v else 0) : Nat) : Int)
theorem nowRow_len (e : Nat → Ev) (n i : Nat) (u : Int) : (nowRow e n i u).length = n := by simp [nowRow]
theorem stRow_len (e : Nat → Ev) (n j : Nat) : (stRow e n j).length = n := by simp [stRow]
theorem joRow_len (e : Nat → Ev) (n j : Nat) : (joRow e n j).length = n := by simp [joRow]
theorem nowRow_zero (e : Nat → Ev) (n : Nat) (u : Int) : nowRow e n 0 u = List.replicate n 0 := by
  apply List.ext_getElem
  · simp [nowRow]
  · intro i h1 h2; simp [nowRow, prevW, optS]
theorem nowRow_succ (e : Nat → Ev) (n i : Nat) (u : Int) : nowRow e n (i + 1) u = if (e i).w = u then stRow e n i else nowRow e n i u := by
  unfold nowRow stRow
  show List.map (fun (v : Nat) => ((optS e (if (e i).w == u then some i else prevW e u i) v : Nat) : Int)) _ = _
  by_cases h : (e i).w = u
  · rw [if_pos h, if_pos (by simpa using h)]; rfl
  · rw [if_neg h, if_neg (by simpa using h)]
theorem join_some {e : Nat → Ev} {n i k : Nat} (hr : rdE (e i) = true) (hl : lastW e (e i).c i = some k) : jmid (nowRow e n i (e i).w) (stRow e n k) (stRow e n k).length = joRow e n i := by
  unfold jmid
  rw [stRow_len, List.take_of_length_le (by rw [nowRow_len]; exact Nat.le_refl _), List.take_of_length_le (by rw [stRow_len]; exact Nat.le_refl _), List.drop_eq_nil_of_le (by rw [nowRow_len]; exact Nat.le_refl _), List.append_nil]
  apply List.ext_getElem
  · simp [nowRow, stRow, joRow]
  · intro v h1 h2
    simp only [nowRow, stRow, joRow, List.getElem_zipWith, List.getElem_map, List.getElem_range, hr, hl, if_true]
    show max ((optS e (prevW e (e i).w i) v : Nat) : Int) ((stamp e k v : Nat) : Int) = ((max (optS e (prevW e (e i).w i) v) (stamp e k v) : Nat) : Int)
    omega
theorem join_none {e : Nat → Ev} {n i : Nat} (hl : rdE (e i) = true → lastW e (e i).c i = none) : nowRow e n i (e i).w = joRow e n i := by
  unfold nowRow joRow
  apply List.map_congr_left
  intro v _
  have : (if rdE (e i) = true then optS e (lastW e (e i).c i) v else 0) = 0 := by
    split
    · next h => rw [hl h]; rfl
    · rfl
  rw [this]; simp
theorem st_set {e : Nat → Ev} {n i u : Nat} (hu : (e i).w = (u : Int)) (hun : u < n) (h : u < (joRow e n i).length) : (joRow e n i).set u ((joRow e n i)[u] + 1) = stRow e n i := by
  apply List.ext_getElem
  · rw [List.length_set, joRow_len, stRow_len]
  · intro v h1 h2
    rw [List.getElem_set]
    simp only [joRow, stRow, List.getElem_map, List.getElem_range]
    rw [stamp_eq]
    have key : (((v : Nat) : Int) = (e i).w) ↔ u = v := by rw [hu]; omega
    by_cases huv : u = v
    · subst huv
      rw [if_pos rfl, if_pos (key.2 rfl)]; omega
    · rw [if_neg huv, if_neg (fun h => huv (key.1 h))]; omega
theorem jo_bound {e : Nat → Ev} {n i u : Nat} (hu : (e i).w = (u : Int)) (hun : u < n) (h : u < (joRow e n i).length) : 0 ≤ (joRow e n i)[u] ∧ (joRow e n i)[u] ≤ i := by
  have h1 := stamp_le (e := e) i (u : Int)
  rw [stamp_eq, if_pos hu.symm] at h1
  simp only [joRow, List.getElem_map, List.getElem_range]
  omega
def nowCells (N0 n : Nat) : List Value := (List.range n).map fun u => .slice (some ⟨N0 + 1 + u, 0, none⟩) n n
def outV (n : Nat) (p : Nat × Nat) : Value := .slice (some ⟨p.1, 0, none⟩) n p.2
def outCells (n L : Nat) (obs : List (Nat × Nat)) : List Value := obs.map (outV n) ++ List.replicate (L - obs.length) (.slice none 0 0)
theorem out_set {n L : Nat} {obs : List (Nat × Nat)} (h : obs.length < L) (p : Nat × Nat) : (outCells n L obs).set obs.length (outV n p) = outCells n L (obs ++ [p]) := by
  unfold outCells
  have hl : (obs.map (outV n)).length = obs.length := by simp
  rw [List.set_append_right _ _ (by omega), hl, Nat.sub_self, show L - obs.length = (L - (obs.length + 1)) + 1 from by omega, List.replicate_succ, List.set_cons_zero]
  simp
/-- What holds of the map of the cells' last stamps. -/
def MapIs (W : World) (b im : Nat) (e : Nat → Ev) (n : Nat) (obs : List (Nat × Nat)) : Prop :=
  ∃ D, W.ownsMap Try.prog 3 SR b im D ∧ IsMap D ∧ ∀ c : Int, D.atKey (.int .i64 c) .nil = encO n ((lastW e c im).bind fun k => obs[k]?)
structure SW (W : World) (e : Nat → Ev) (n L N0 M0 O0 : Nat) (R : Nat → List Int) (im : Nat) (obs : List (Nat × Nat)) : Prop where
  nb : Blk W N0 34 (nowCells N0 n).toArray
  nr : ∀ u, u < n → Blk W (N0 + 1 + u) 3 (ints (R u)).toArray
  mp : MapIs W M0 im e n obs
  ob : Blk W O0 34 (outCells n L obs).toArray
  or : ∀ j (h : j < obs.length), O0 < obs[j].1 ∧ n ≤ obs[j].2 ∧ obs[j].2 ≤ maxLen ∧ W.ownsRow (O0 + 1) 3 1 (outV n obs[j]) n (ints (stRow e n j))
theorem grown_of_below {w w' : World} (hb : Below w.heap.size w w') : w.grownBy w' none := ⟨hb.os, hb.tape, hb.output, hb.size, fun k hk _ => hb.block k hk⟩
section
variable {W W' : World} {e : Nat → Ev} {n L N0 M0 O0 im : Nat} {R : Nat → List Int} {obs : List (Nat × Nat)}
theorem MapIs.kept {row : Option Nat} (h : MapIs W M0 im e n obs) (hg : W.grownBy W' row) (hne : some M0 ≠ row) : MapIs W' M0 im e n obs := by
  obtain ⟨D, h1, h2⟩ := h
  exact ⟨D, h1.kept hg hne, h2⟩
theorem SW.below (h : SW W e n L N0 M0 O0 R im obs) (hb : Below W.heap.size W W') : SW W' e n L N0 M0 O0 R im obs :=
  ⟨h.nb.below hb h.nb.lt, fun u hu => (h.nr u hu).below hb (h.nr u hu).lt, h.mp.kept (grown_of_below hb) (by simp), h.ob.below hb h.ob.lt, fun j hj => by
    obtain ⟨a1, a2, a3, a4⟩ := h.or j hj
    exact ⟨a1, a2, a3, own_below a4 hb⟩⟩
theorem SW.drew (h : SW W e n L N0 M0 O0 R im obs) : SW W.drew e n L N0 M0 O0 R im obs := h.below (Below.refl _ _).drew
theorem foot_grown {g : Nat} {w w' : World} (h : Foot [g] w w') : w.grownBy w' (some g) := ⟨h.os, h.tape, h.output, h.size, fun k hk hne => h.block k hk (by simpa using fun e => hne (by rw [e]))⟩
def updR (R : Nat → List Int) (u : Nat) (xs : List Int) : Nat → List Int := fun v => if v = u then xs else R v
theorem SW.foot {u : Nat} {xs : List Int} (h : SW W e n L N0 M0 O0 R im obs) (hM : N0 + n < M0) (hO : M0 < O0) (hu : u < n) (hf : Foot [N0 + 1 + u] W W') (hb : Blk W' (N0 + 1 + u) 3 (ints xs).toArray) : SW W' e n L N0 M0 O0 (updR R u xs) im obs :=
  ⟨h.nb.foot hf (by simp; omega), fun v hv => by
    unfold updR
    split
    · next hvu => subst hvu; exact hb
    · next hvu => exact (h.nr v hv).foot hf (by simp; omega), h.mp.kept (foot_grown hf) (by simp; omega), h.ob.foot hf (by simp; omega), fun j hj => by
    obtain ⟨a1, a2, a3, a4⟩ := h.or j hj
    exact ⟨a1, a2, a3, a4.kept (foot_grown hf) (.inr (by simp [outV, Value.ownBlock]; omega))⟩⟩
theorem foot_set (W : World) (g i : Nat) (v : Value) : Foot [g] W (W.setCell ⟨g, i, none⟩ v) := (Foot.refl _ _).setCell (p := ⟨g, i, none⟩) (.inl (by simp)) v
/-- A new stamp in the list. -/
theorem SW.push {g cap : Nat} (h : SW W e n L N0 M0 O0 R im obs) (hM : N0 + n < M0) (hO : M0 < O0) (hl : obs.length < L) (hg : O0 < g) (h1 : n ≤ cap) (h2 : cap ≤ maxLen)
    (ho : W.ownsRow (O0 + 1) 3 1 (outV n (g, cap)) n (ints (stRow e n obs.length))) (hmo : ∀ c k, lastW e c im = some k → k < obs.length) :
    SW (W.setCell ⟨O0, obs.length, none⟩ (outV n (g, cap))) e n L N0 M0 O0 R im (obs ++ [(g, cap)]) := by
  have hf := foot_set W O0 obs.length (outV n (g, cap))
  refine ⟨h.nb.foot hf (by simp; omega), fun v hv => (h.nr v hv).foot hf (by simp; omega), ?_, ?_, fun j hj => ?_⟩
  · obtain ⟨D, d1, d2, d3⟩ := h.mp
    refine ⟨D, d1.kept (foot_grown hf) (by simp; omega), d2, fun c => ?_⟩
    rw [d3 c]
    cases hk : lastW e c im with
    | none => rfl
    | some k => show encO n (obs[k]?) = encO n ((obs ++ [(g, cap)])[k]?); rw [List.getElem?_append_left (hmo c k hk)]
  · have := h.ob.set_ obs.length (outV n (g, cap))
    rw [← out_set hl]
    simpa using this
  · by_cases hjo : j < obs.length
    · rw [List.getElem_append_left hjo]
      obtain ⟨a1, a2, a3, a4⟩ := h.or j hjo
      exact ⟨a1, a2, a3, ownsRow_setCell_other a4 (by simp [outV, Value.ownBlock]; omega) _⟩
    · have hje : j = obs.length := by simp at hj; omega
      subst hje
      rw [List.getElem_append_right (Nat.le_refl _)]
      simp only [Nat.sub_self, List.getElem_cons_zero]
      exact ⟨hg, h1, h2, ownsRow_setCell_other ho (by simp [outV, Value.ownBlock]; omega) _⟩
/-- The map is written, or not. -/
theorem SW.mapped {c : Int} {p : Nat × Nat} (h : SW W e n L N0 M0 O0 R im obs) (hM : N0 + n < M0) (hO : M0 < O0) (hg : W.grownBy W' (some M0)) (hp : obs[im]? = some p) (hw : wrE (e im) = true) (hc : (e im).c = c)
    {D : DataW Unit} (hD : IsMap D) (hat : ∀ c : Int, D.atKey (.int .i64 c) .nil = encO n ((lastW e c im).bind fun k => obs[k]?)) (hk : W'.ownsMap Try.prog 3 SR M0 (im + 1) (D.put (.int .i64 c) (encO n (some p)))) (hK : WideAt.IsKeyLit (.int .i64 c)) :
    SW W' e n L N0 M0 O0 R (im + 1) obs := by
  refine ⟨(hg.block _ h.nb.lt (by simp; omega)).trans h.nb, fun v hv => (hg.block _ (h.nr v hv).lt (by simp; omega)).trans (h.nr v hv), ⟨_, hk, ?_, fun c' => ?_⟩, (hg.block _ h.ob.lt (by simp; omega)).trans h.ob, fun j hj => ?_⟩
  · obtain ⟨es, rfl⟩ := hD; exact ⟨_, rfl⟩
  · show _ = encO n ((if wrE (e im) && (e im).c == c' then some im else lastW e c' im).bind fun k => obs[k]?)
    rw [hw, hc]
    by_cases hcc : c = c'
    · subst hcc
      rw [atKey_put_same hD hK]
      simp [hp]
    · rw [atKey_put_other (by intro h; injection h with h1 h2; exact hcc h2.symm), hat]
      simp [hcc]
  · obtain ⟨a1, a2, a3, a4⟩ := h.or j hj
    exact ⟨a1, a2, a3, a4.kept hg (.inr (by simp [outV, Value.ownBlock]; omega))⟩
theorem SW.passed (h : SW W e n L N0 M0 O0 R im obs) (hw : wrE (e im) = false) : SW W e n L N0 M0 O0 R (im + 1) obs :=
  ⟨h.nb, h.nr, by
    obtain ⟨D, d1, d2, d3⟩ := h.mp
    refine ⟨D, d1.mono (by omega), d2, fun c => ?_⟩
    rw [d3 c]
    show _ = encO n ((if wrE (e im) && (e im).c == c then some im else lastW e c im).bind fun k => obs[k]?)
    rw [hw]; simp, h.ob, h.or⟩
end
end Go.Proofs.Ytffpphnjokmffaa
