/- The tally's states, window by window. -/
import Derived.Test.YtkjmknmcadloaaaWinIt
namespace Go.Proofs.Ytkjmknmcadloaaa
open Go.RowKit

theorem bump_ne {f : Nat → Nat} {j : Nat} : ∀ i, i ≠ j → bump f j i = f i := fun i h => by unfold bump; rw [if_neg h]
theorem drop_ne {f : Nat → Nat} {j : Nat} : ∀ i, i ≠ j → drop1 f j i = f i := fun i h => by unfold drop1; rw [if_neg h]
theorem bump_at (f : Nat → Nat) (j : Nat) : bump f j j = f j + 1 := by unfold bump; rw [if_pos rfl]
theorem drop_at (f : Nat → Nat) (j : Nat) : drop1 f j j = f j - 1 := by unfold drop1; rw [if_pos rfl]
def ofN (n : Nat) (f : Nat → Nat) : Ts := ⟨fun j => (f j : Int), (zeros n f : Int)⟩
theorem w64 {x : Int} (h : -9223372036854775808 ≤ x ∧ x ≤ 9223372036854775807) : wrap64 x = x := by unfold wrap64; omega
theorem more_ofN {n j : Nat} {f : Nat → Nat} (hn : n ≤ 64) (hj : j < n) (hf : f j ≤ 1000000) : moreS (ofN n f) j = ofN n (bump f j) := by
  have hz := zeros_bump (f := f) n hj
  have hl := zeros_le n f
  unfold moreS ofN
  congr 1
  · funext i
    by_cases e : i = j
    · subst e; rw [updf_at, bump_at]; show wrap64 ((f i : Int) + 1) = _; rw [w64 (by omega)]; rfl
    · rw [updf_ne i e, bump_ne i e]
  · show (if (f j : Int) = 0 then wrap64 ((zeros n f : Int) - 1) else (zeros n f : Int)) = _
    by_cases e : f j = 0
    · rw [if_pos e] at hz; rw [if_pos (by omega), w64 (by omega)]; omega
    · rw [if_neg e] at hz; rw [if_neg (by omega)]; omega
theorem less_ofN {n j : Nat} {f : Nat → Nat} (hn : n ≤ 64) (hj : j < n) (hf : f j ≤ 1000000) (hp : 0 < f j) : lessS (ofN n f) j = ofN n (drop1 f j) := by
  have hz := zeros_drop (f := f) hp n hj
  have hl := zeros_le n f
  unfold lessS ofN
  congr 1
  · funext i
    by_cases e : i = j
    · subst e; rw [updf_at, drop_at]; show wrap64 ((f i : Int) - 1) = _; rw [w64 (by omega)]; omega
    · rw [updf_ne i e, drop_ne i e]
  · show (if wrap64 ((f j : Int) - 1) = 0 then wrap64 ((zeros n f : Int) + 1) else (zeros n f : Int)) = _
    rw [w64 (x := (f j : Int) - 1) (by omega)]
    by_cases e : f j - 1 = 0
    · rw [if_pos e] at hz; rw [if_pos (by omega), w64 (by omega)]; omega
    · rw [if_neg e] at hz; rw [if_neg (by omega)]; omega
def jx (n : Nat) (l : List Pk) (i : Nat) : Nat := match l[i]? with | some p => jw n p | none => 0
theorem jx_eq {n : Nat} {l : List Pk} {i : Nat} (h : i < l.length) : jx n l i = jw n l[i] := by unfold jx; rw [List.getElem?_eq_getElem h]
def addN (n : Nat) (l : List Pk) : Nat → Ts → Ts
  | 0, s => s
  | m + 1, s => moreS (addN n l m s) (jx n l m)
def stp (n : Nat) (l : List Pk) (k : Nat) (s : Ts) (a : Nat) : Ts := if a = 0 then addN n l k s else moreS (lessS s (jx n l (a - 1))) (jx n l (a + (k - 1)))
def st0 (n : Nat) : Ts := ⟨fun _ => 0, (n : Int)⟩
def st (n : Nat) (l : List Pk) (k : Nat) (xs : List Nat) : Ts := xs.foldl (stp n l k) (st0 n)
theorem st_snoc (n : Nat) (l : List Pk) (k : Nat) (xs : List Nat) (a : Nat) : st n l k (xs ++ [a]) = stp n l k (st n l k xs) a := by unfold st; rw [List.foldl_append]; rfl
theorem zeros_all : ∀ n, zeros n (fun _ => 0) = n
  | 0 => rfl
  | n + 1 => by rw [zeros_succ, zeros_all n]; simp
theorem st0_eq (n : Nat) : st0 n = ofN n (cntW n []) := by rw [cntW_nil]; unfold st0 ofN; rw [zeros_all]; rfl
theorem addN_eq {n : Nat} (hn : 1 ≤ n) (hn2 : n ≤ 64) {l : List Pk} (hl : l.length ≤ 1000000) : ∀ m, m ≤ l.length → addN n l m (st0 n) = ofN n (cntW n (win l 0 m))
  | 0, _ => by rw [show win l 0 0 = [] from by simp [win]]; exact st0_eq n
  | m + 1, h => by
    have e := win_snoc (l := l) (a := 0) (k := m) (by omega)
    simp only [Nat.zero_add] at e
    show moreS (addN n l m (st0 n)) (jx n l m) = _
    rw [addN_eq hn hn2 hl m (by omega), jx_eq (by omega), more_ofN hn2 (jw_lt hn _), e, cntW_snoc hn]
    have := cntW_le n (win l 0 m) (jw n l[m])
    rw [win_len (by omega)] at this; omega
theorem st_range {n : Nat} (hn : 1 ≤ n) (hn2 : n ≤ 64) {l : List Pk} {k : Nat} (hk : 1 ≤ k) (hl : l.length ≤ 1000000) : ∀ m, m + k ≤ l.length → st n l k (List.range (m + 1)) = ofN n (cntW n (win l m k))
  | 0, h => by
    show stp n l k (st n l k []) 0 = _
    unfold stp; rw [if_pos rfl]
    exact addN_eq hn hn2 hl k (by omega)
  | m + 1, h => by
    rw [List.range_succ, st_snoc, st_range hn hn2 hk hl m (by omega)]
    unfold stp
    rw [if_neg (by omega), show m + 1 - 1 = m from rfl, show m + 1 + (k - 1) = m + k from by omega, jx_eq (show m < l.length by omega), jx_eq (show m + k < l.length by omega)]
    have h1 := cntW_le n (win l m k) (jw n l[m])
    rw [win_len (by omega)] at h1
    rw [less_ofN hn2 (jw_lt hn _) (by omega) (slide_pos hn hk (by omega)), more_ofN hn2 (jw_lt hn _), slide hn hk (by omega)]
    · have h2 := cntW_le n (win l m k) (jw n (l[m + k]'(by omega)))
      rw [win_len (by omega)] at h2
      unfold drop1
      split <;> omega
theorem st_fair {n : Nat} (hn : 1 ≤ n) (hn2 : n ≤ 64) {l : List Pk} {k : Nat} (hk : 1 ≤ k) (hl : l.length ≤ 1000000) {m : Nat} (h : m + k ≤ l.length) : fairAt n l m k = decide ((st n l k (List.range (m + 1))).z ≤ 0) := by
  rw [st_range hn hn2 hk hl m h]
  unfold fairAt ofN
  rw [Bool.eq_iff_iff]
  simp
/-- All so far had each worker. -/
def Fgood (n : Nat) (l : List Pk) (k : Nat) (xs : List Nat) : Prop := ∀ m, m < xs.length → (st n l k (xs.take (m + 1))).z ≤ 0
theorem good_nil (n : Nat) (l : List Pk) (k : Nat) : Fgood n l k [] := fun m h => by simp at h
theorem good_snoc {n : Nat} {l : List Pk} {k : Nat} {xs : List Nat} {a : Nat} (h : Fgood n l k xs) (hz : (stp n l k (st n l k xs) a).z ≤ 0) : Fgood n l k (xs ++ [a]) := fun m hm => by
  rw [List.length_append] at hm
  simp at hm
  by_cases e : m < xs.length
  · rw [List.take_append_of_le_length (by omega)]; exact h m e
  · obtain rfl : m = xs.length := by omega
    rw [List.take_of_length_le (by simp), st_snoc]; exact hz
theorem good_fair {n : Nat} (hn : 1 ≤ n) (hn2 : n ≤ 64) {l : List Pk} {k : Nat} (hk : 1 ≤ k) (hl : l.length ≤ 1000000) (h : Fgood n l k (List.range (l.length + 1 - k))) : fair n l k = true :=
  fair_take (m := l.length + 1 - k) (Nat.le_refl _) (fun a ha => by
    rw [st_fair hn hn2 hk hl (by omega), decide_eq_true_eq]
    have := h a (by simpa using ha)
    rwa [List.take_range, Nat.min_eq_left (by omega)] at this) rfl
theorem bad_fair {n : Nat} (hn : 1 ≤ n) (hn2 : n ≤ 64) {l : List Pk} {k : Nat} (hk : 1 ≤ k) (hl : l.length ≤ 1000000) {m : Nat} (hm : m + k ≤ l.length) (h : 0 < (st n l k (List.range (m + 1))).z) : fair n l k = false :=
  fair_not hm (by rw [st_fair hn hn2 hk hl hm, decide_eq_false_iff_not]; omega)
end Go.Proofs.Ytkjmknmcadloaaa
