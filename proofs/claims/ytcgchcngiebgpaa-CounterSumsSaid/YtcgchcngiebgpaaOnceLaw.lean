/- Which counters have come to 0, plainly. -/
import Derived.Test.YtcgchcngiebgpaaBoth
namespace Go.Proofs.Ytcgchcngiebgpaa

def zs (l s : List Int) : List Int := (List.range l.length).map fun i => if s.getD i 0 = 0 ∧ 0 < l.getD i 0 then 1 else 0
theorem zs_len (l s : List Int) : (zs l s).length = l.length := by simp [zs]
theorem zs_at {l s : List Int} (hl : s.length = l.length) {i : Nat} (hi : i < l.length) : (zs l s)[i]'(by rw [zs_len]; exact hi) = if s[i] = 0 ∧ 0 < l[i] then 1 else 0 := by
  simp [zs, List.getElem?_eq_getElem hi, List.getElem?_eq_getElem (show i < s.length from by omega)]
theorem zs_same {l s : List Int} (hl : s.length = l.length) {q : Nat} (hq : q < l.length) {x : Int} (hx : s[q] = x) (h0 : x ≠ 0) (h1 : x - 1 ≠ 0) : zs l (s.set q (x - 1)) = zs l s := by
  apply List.ext_getElem
  · simp [zs_len]
  · intro i a b
    rw [zs_len] at a
    rw [zs_at (by simpa using hl) a, zs_at hl a, List.getElem_set]
    split
    · rename_i e; subst e
      rw [if_neg (by omega), if_neg (by omega)]
    · rfl
theorem zs_one {l s : List Int} (hl : s.length = l.length) {q : Nat} (hq : q < l.length) (hx : s[q] = 1) (hp : 0 < l[q]) : zs l (s.set q 0) = (zs l s).set q 1 := by
  apply List.ext_getElem
  · simp [zs_len]
  · intro i a b
    rw [zs_len] at a
    rw [zs_at (by simpa using hl) a, List.getElem_set, List.getElem_set, zs_at hl a]
    split
    · rename_i e; subst e
      rw [if_pos ⟨rfl, hp⟩]
    · rfl
/-- No counter has gone up. -/
def Low (l s : List Int) : Prop := s.length = l.length ∧ ∀ i (h : i < s.length) (h' : i < l.length), 0 ≤ s[i] ∧ s[i] ≤ l[i]
theorem Low.set_ {l s : List Int} (h : Low l s) {q : Nat} {x : Int} (hq : q < s.length) (hx : s[q] = x) (h0 : 0 < x) : Low l (s.set q (x - 1)) := by
  refine ⟨by rw [List.length_set]; exact h.1, fun i a b => ?_⟩
  rw [List.length_set] at a
  have := h.2 i a b
  rw [List.getElem_set]
  split
  · rename_i e; subst e; omega
  · exact this
theorem Low.refl (l : List Int) (h : ∀ x ∈ l, 0 ≤ x) : Low l l := ⟨rfl, fun i a b => ⟨h _ (List.getElem_mem a), Int.le_refl _⟩⟩
end Go.Proofs.Ytcgchcngiebgpaa
