/- What all counters are together, plainly. -/
import Derived.Test.YtcgchcngiebgpaaOnceLaw
namespace Go.Proofs.Ytcgchcngiebgpaa

def isum : List Int → Int
  | [] => 0
  | x :: l => x + isum l
theorem isum_append (l m : List Int) : isum (l ++ m) = isum l + isum m := by
  induction l with
  | nil => simp [isum]
  | cons x l ih => simp only [List.cons_append, isum, ih]; omega
theorem isum_take {l : List Int} {k : Nat} (h : k < l.length) : isum (l.take (k + 1)) = isum (l.take k) + l[k] := by
  rw [List.take_succ_eq_append_getElem h, isum_append]; simp [isum]
theorem isum_set {l : List Int} : ∀ {q : Nat} (h : q < l.length) (y : Int), isum (l.set q y) = isum l - l[q] + y := by
  induction l with
  | nil => intro q h; simp at h
  | cons x l ih =>
    intro q h y
    cases q with
    | zero => simp only [List.set_cons_zero, isum, List.getElem_cons_zero]; omega
    | succ q =>
      simp only [List.set_cons_succ, isum, List.getElem_cons_succ]
      rw [ih (by simpa using h)]; omega
theorem isum_bd {l : List Int} (B : Int) (h : ∀ x ∈ l, 0 ≤ x ∧ x ≤ B) : 0 ≤ isum l ∧ isum l ≤ B * l.length := by
  induction l with
  | nil => simp [isum]
  | cons x l ih =>
    have h1 := h x List.mem_cons_self
    have h2 := ih (fun y hy => h y (List.mem_cons_of_mem _ hy))
    simp only [isum, List.length_cons, Int.natCast_add, Int.natCast_one, Int.mul_add, Int.mul_one]
    omega
theorem isum_take_bd {l : List Int} (h : ∀ x ∈ l, 0 ≤ x ∧ x ≤ 8) (hl : l.length ≤ 60) (k : Nat) : 0 ≤ isum (l.take k) ∧ isum (l.take k) ≤ 480 := by
  have := isum_bd 8 (l := l.take k) (fun x hx => h x (List.mem_of_mem_take hx))
  have h2 : (l.take k).length ≤ 60 := by rw [List.length_take]; omega
  omega

/-- What has gone down so far. -/
def fn (l s : List Int) : List Int := (List.range l.length).map fun i => l.getD i 0 - s.getD i 0
theorem fn_len (l s : List Int) : (fn l s).length = l.length := by simp [fn]
theorem fn_at {l s : List Int} (hl : s.length = l.length) {i : Nat} (hi : i < l.length) : (fn l s)[i]'(by rw [fn_len]; exact hi) = l[i] - s[i] := by
  simp [fn, List.getElem?_eq_getElem hi, List.getElem?_eq_getElem (show i < s.length from by omega)]
theorem fn_set {l s : List Int} (hl : s.length = l.length) {q : Nat} (hq : q < l.length) (y : Int) : fn l (s.set q y) = (fn l s).set q (l[q] - y) := by
  apply List.ext_getElem
  · simp [fn_len]
  · intro i a b
    rw [fn_len] at a
    rw [fn_at (by simpa using hl) a, List.getElem_set, List.getElem_set, fn_at hl a]
    split
    · rename_i e; subst e; rfl
    · rfl
theorem fn_self (l : List Int) : fn l l = List.replicate l.length 0 := by
  apply List.ext_getElem
  · simp [fn_len]
  · intro i a b
    rw [fn_len] at a
    rw [fn_at rfl a, List.getElem_replicate]; omega
def m9 (l : List Int) : List Int := l.map (· % 9)
theorem m9_bd (l : List Int) : ∀ x ∈ m9 l, 0 ≤ x ∧ x ≤ 8 := by
  intro x hx
  unfold m9 at hx
  rw [List.mem_map] at hx
  obtain ⟨y, _, rfl⟩ := hx
  omega
end Go.Proofs.Ytcgchcngiebgpaa
