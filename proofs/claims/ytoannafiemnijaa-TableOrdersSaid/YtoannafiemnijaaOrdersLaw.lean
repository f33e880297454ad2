/- Cells published in any order: what is there then. -/
import Derived.Test.YtoannafiemnijaaAllAny
namespace Go.Proofs.Ytoannafiemnijaa
open Go.RowKit

structure Inj (N : Nat) (f : Nat → Nat) : Prop where
  lt : ∀ i, i < N → f i < N
  inj : ∀ i j, i < N → j < N → f i = f j → i = j
def swap (f : Nat → Nat) (i j : Nat) : Nat → Nat := fun k => if k = j then f i else if k = i then f j else f k
theorem Inj.swap {N : Nat} {f : Nat → Nat} (h : Inj N f) {i j : Nat} (hi : i < N) (hj : j < N) : Inj N (swap f i j) := by
  unfold Proofs.Ytoannafiemnijaa.swap
  refine ⟨fun k hk => ?_, fun a b ha hb e => ?_⟩
  · show (if k = j then f i else if k = i then f j else f k) < N
    split
    · exact h.lt _ hi
    · split
      · exact h.lt _ hj
      · exact h.lt _ hk
  · change (if a = j then f i else if a = i then f j else f a) = (if b = j then f i else if b = i then f j else f b) at e
    have key := h.inj
    split at e <;> split at e <;> (try split at e) <;> (try split at e) <;> (try (have := key _ _ (by assumption) (by assumption) e)) <;> omega
def lst (f : Nat → Nat) (N : Nat) : List Int := (List.range N).map fun i => (f i : Int)
theorem lst_len (f : Nat → Nat) (N : Nat) : (lst f N).length = N := by simp [lst]
theorem lst_get (f : Nat → Nat) (N i : Nat) (h : i < (lst f N).length) : (lst f N)[i] = (f i : Int) := by simp [lst]
theorem lst_swap {f : Nat → Nat} {N i j : Nat} : ((lst f N).set i (f j : Int)).set j (f i : Int) = lst (swap f i j) N := by
  apply List.ext_getElem
  · simp [lst]
  · intro k h1 h2
    simp only [List.getElem_set, lst_get]
    unfold swap
    by_cases e1 : k = j
    · subst e1; simp
    · rw [if_neg (Ne.symm e1), if_neg e1]
      by_cases e2 : k = i
      · subst e2; simp
      · rw [if_neg (Ne.symm e2), if_neg e2]

def pub (l : List (Int × ByteArray)) (f : Nat → Nat) : Nat → Nat → Option (Int × ByteArray)
  | 0 => fun _ => none
  | k + 1 => put (pub l f k) (f k) (l.getD (f k) (0, ByteArray.empty))
theorem pub_none {l : List (Int × ByteArray)} {f : Nat → Nat} {i : Nat} : ∀ k, (∀ j, j < k → f j ≠ i) → pub l f k i = none
  | 0, _ => rfl
  | k + 1, h => by
    unfold pub put
    rw [if_neg (fun e => h k (by omega) e.symm)]
    exact pub_none k fun j hj => h j (by omega)
theorem pub_some {l : List (Int × ByteArray)} {f : Nat → Nat} {i : Nat} {v : Int × ByteArray} : ∀ k, pub l f k i = some v → v = l.getD i (0, ByteArray.empty)
  | 0, h => by cases h
  | k + 1, h => by
    unfold pub put at h
    split at h
    · rename_i e; subst e; exact (by simpa using h.symm)
    · exact pub_some k h
theorem pub_left {l : List (Int × ByteArray)} {f : Nat → Nat} {N : Nat} (h : Inj N f) : ∀ k, k ≤ N → left (pub l f k) N + k = N
  | 0, _ => by show left (fun _ => none) N + 0 = N; rw [left_none]; rfl
  | k + 1, hk => by
    have ih := pub_left (l := l) h k (by omega)
    have hn : pub l f k (f k) = none := pub_none k fun j hj e => by have := h.inj j k (by omega) (by omega) e; omega
    have := left_put (pub l f k) (f k) (l.getD (f k) (0, ByteArray.empty)) hn N (h.lt k (by omega))
    show left (put (pub l f k) (f k) _) N + (k + 1) = N
    omega
theorem pub_next {l : List (Int × ByteArray)} {f : Nat → Nat} {N k : Nat} (h : Inj N f) (hN : l.length = N) (hk : k < N) (hf : f k < l.length) :
    putE (pub l f k) N (f k : Int) = 0 ∧ putS (pub l f k) N (f k : Int) l[f k] = pub l f (k + 1) := by
  have hn : pub l f k (f k) = none := pub_none k fun j hj e => by have := h.inj j k (by omega) (by omega) e; omega
  have e1 : putE (pub l f k) N (f k : Int) = 0 := by unfold putE; rw [if_neg (by have := h.lt k hk; omega)]; simp [hn]
  refine ⟨e1, ?_⟩
  unfold putS
  rw [if_pos e1, Int.toNat_natCast]
  show put _ _ _ = put _ _ _
  rw [List.getD_eq_getElem?_getD, List.getElem?_eq_getElem hf]; rfl
theorem pub_all {l : List (Int × ByteArray)} {f : Nat → Nat} (h : Inj l.length f) : left (pub l f l.length) l.length = 0 ∧ vals (0, ByteArray.empty) (pub l f l.length) l.length = l := by
  have hl := pub_left (l := l) h l.length (Nat.le_refl _)
  have h0 : left (pub l f l.length) l.length = 0 := by omega
  refine ⟨h0, List.ext_getElem (by rw [vals_len]) fun i h1 h2 => ?_⟩
  rw [vals_get]
  have := left_zero _ _ h0 i h2
  cases hs : pub l f l.length i with
  | none => rw [hs] at this; cases this
  | some v =>
    rw [pub_some _ hs, List.getD_eq_getElem?_getD, List.getElem?_eq_getElem h2]; rfl
theorem Inj.id (N : Nat) : Inj N (fun i => i) := ⟨fun _ h => h, fun _ _ _ _ e => e⟩
end Go.Proofs.Ytoannafiemnijaa
