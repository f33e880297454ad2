/- Neighbours that change places, again and again: the plain law of ClockSwaps. -/
import Derived.Test.YtffpphnjokmffaaEP
import Derived.Test.YtffpphnjokmffaaEQ
namespace Go.Proofs.Ytffpphnjokmffaa
open Go.RowKit Go.Maps

/-- Places p and p + 1 of a list change. -/
def ex {α : Type} (l : List α) (p : Nat) (h : p + 1 < l.length) : List α := (l.set p l[p + 1]).set (p + 1) l[p]
theorem ex_len {α : Type} {l : List α} {p : Nat} (h : p + 1 < l.length) : (ex l p h).length = l.length := by simp [ex]
theorem ex_at {α : Type} {l : List α} {p : Nat} (h : p + 1 < l.length) (d : α) (j : Nat) : (ex l p h).getD j d = l.getD (swp p j) d := by
  unfold ex swp
  rw [List.getD_eq_getElem?_getD, List.getD_eq_getElem?_getD, List.getElem?_set]
  split
  · next e =>
    subst e
    simp [show ¬ p + 1 = p by omega, show p < l.length by omega, h]
  · next e1 =>
    rw [List.getElem?_set]
    split
    · next e =>
      subst e
      simp [h, show p < l.length by omega]
    · next e2 =>
      rw [if_neg (fun x => e2 x.symm), if_neg (fun x => e1 x.symm)]
theorem ex_mem {α : Type} {l : List α} {p : Nat} (h : p + 1 < l.length) : ∀ x ∈ ex l p h, x ∈ l := fun x hx => by
  unfold ex at hx
  rcases List.mem_or_eq_of_mem_set hx with hx | rfl
  · rcases List.mem_or_eq_of_mem_set hx with hx | rfl
    · exact hx
    · exact List.getElem_mem _
  · exact List.getElem_mem _
/-- What the changes keep: each event has the stamp that it had where it came from. -/
structure PS (l m : List Ev) (s : List Nat) : Prop where
  ml : m.length = l.length
  sl : s.length = l.length
  lt : ∀ x ∈ s, x < l.length
  st : ∀ i, i < l.length → ∀ v, stamp (gl m) i v = stamp (gl l) (s.getD i 0) v
  rc : Race (gl m) l.length ↔ Race (gl l) l.length
  me : ∀ x ∈ m, x ∈ l
theorem ps_start (l : List Ev) : PS l l (List.range l.length) :=
  ⟨rfl, List.length_range, fun x hx => by simpa using hx, fun i hi v => by rw [List.getD_eq_getElem?_getD, List.getElem?_range hi]; rfl, Iff.rfl, fun x hx => hx⟩
theorem ps_step {l m : List Ev} {s : List Nat} {p : Nat} (h : PS l m s) (hp : p + 1 < m.length) (hs : p + 1 < s.length) (ha : apE m[p] m[p + 1] = true) : PS l (ex m p hp) (ex s p hs) := by
  have hpl : p + 1 < l.length := by rw [← h.ml]; exact hp
  have hap : Apart (gl m p) (gl m (p + 1)) := by rw [gl_at (show p < m.length by omega), gl_at hp]; exact apE_apart ha
  have hg : ∀ j, gl (ex m p hp) j = gl m (swp p j) := fun j => by unfold gl; exact ex_at hp _ j
  refine ⟨by rw [ex_len]; exact h.ml, by rw [ex_len]; exact h.sl, fun x hx => h.lt x (ex_mem hs x hx), fun i hi v => ?_, ?_, fun x hx => h.me x (ex_mem hp x hx)⟩
  · rw [swp_stamp hap hg, h.st _ (swp_lt hpl hi), ex_at hs]
  · rw [swp_race hpl hap hg]; exact h.rc
theorem ps_log {l m : List Ev} {s : List Nat} {n : Int} (h : PS l m s) (hM : LogOk n l) : LogOk n m := ⟨hM.nb, by rw [h.ml]; exact hM.lb, fun x hx => hM.ev x (h.me x hx)⟩
theorem ps_race {l m : List Ev} {s : List Nat} {a b c d : Nat} {is so : Bool} (h : PS l m s) (h1 : RaceIs (gl l) l.length a b is) (h2 : RaceIs (gl m) m.length c d so) : is = so := by
  rw [h.ml] at h2
  rw [Bool.eq_iff_iff, h1.race, h2.race, h.rc]
theorem eflat_put : ∀ (l : List Ev) (k : Nat) (h : k < l.length) (e : Ev), (((l.map ecell).flatten.set (k * 3) (.int .i64 e.w)).set (k * 3 + 1) (.int .u8 e.k)).set (k * 3 + 2) (.int .i64 e.c) = ((l.set k e).map ecell).flatten
  | [], k, h, e => by simp at h
  | x :: l, 0, _, e => by simp [ecell]
  | x :: l, k + 1, h, e => by
    have ih := eflat_put l k (by simpa using h) e
    simp only [List.map_cons, List.flatten_cons, List.set_cons_succ]
    have e3 : (ecell x).length = 3 := rfl
    have q : ∀ (y : List Value) j v, (ecell x ++ y).set (3 + j) v = ecell x ++ y.set j v := fun y j v => by rw [List.set_append_right _ _ (by rw [e3]; omega), e3]; congr 2; omega
    rw [show (k + 1) * 3 = 3 + k * 3 from by omega, show 3 + k * 3 + 1 = 3 + (k * 3 + 1) from by omega, show 3 + k * 3 + 2 = 3 + (k * 3 + 2) from by omega, q, q, q, ih]
theorem log_range {l : List Ev} : (List.range l.length).length = l.length := List.length_range
end Go.Proofs.Ytffpphnjokmffaa
