/- Down and Left of the counters and of the reference's, each by one plain function. -/
import Derived.Test.YtcgchcngiebgpaaRefs
namespace Go.Proofs.Ytcgchcngiebgpaa
open Go.RowKit

def dn (s : List Int) (i : Int) : Int × Int × List Int :=
  if i < 0 ∨ (s.length : Int) ≤ i then (0, 1, s) else if s.getD i.toNat 0 = 0 then (0, 3, s) else (s.getD i.toNat 0 - 1, 0, s.set i.toNat (s.getD i.toNat 0 - 1))
def lf (s : List Int) (i : Int) : Int × Int := if i < 0 ∨ (s.length : Int) ≤ i then (0, 1) else (s.getD i.toNat 0, 0)
structure Fit (s : List Int) : Prop where
  len : s.length ≤ 65536
  bd : ∀ x ∈ s, 0 ≤ x ∧ x ≤ 9223372036854775807
theorem Fit.at_ {s : List Int} (h : Fit s) {i : Nat} (hi : i < s.length) : 0 ≤ s[i] ∧ s[i] ≤ 9223372036854775807 := h.bd _ (List.getElem_mem hi)
theorem Fit.dn {s : List Int} (h : Fit s) (i : Int) : Fit (dn s i).2.2 := by
  unfold Proofs.Ytcgchcngiebgpaa.dn
  split
  · exact h
  · split
    · exact h
    · rename_i h1 h2
      refine ⟨by rw [List.length_set]; exact h.len, fun x hx => ?_⟩
      rcases List.mem_or_eq_of_mem_set hx with hx | hx
      · exact h.bd x hx
      · have hi : i.toNat < s.length := by omega
        have := h.at_ hi
        rw [List.getD_eq_getElem?_getD, List.getElem?_eq_getElem hi] at h2 hx
        simp only [Option.getD_some] at h2 hx
        omega
theorem dn_len (s : List Int) (i : Int) : (dn s i).2.2.length = s.length := by
  unfold dn; split
  · rfl
  · split
    · rfl
    · simp

theorem getD_at {s : List Int} {i : Nat} (hi : i < s.length) : s.getD i 0 = s[i] := by rw [List.getD_eq_getElem?_getD, List.getElem?_eq_getElem hi]; rfl

theorem down_any (gc gn : Nat) (s : List Int) (i : Int) (w : World) (h : Cnt w gc gn s) (hf : Fit s) :
    Calls Try.prog 16 #[.pointer (some ⟨gc, 0, none⟩), .int .i64 i] w fun r w' => r = .returned (.tuple #[.int .i64 (dn s i).1, .int .i64 (dn s i).2.1]) ∧ Cnt w' gc gn (dn s i).2.2 ∧ w.grownBy w' (some gn) := by
  unfold dn
  by_cases h1 : i < 0 ∨ (s.length : Int) ≤ i
  · simp only [h1, if_true]
    exact (down_arg gc gn s i w h h1).mono fun r w' ⟨e1, e2⟩ => by subst e2; exact ⟨e1, h, World.grownBy.refl w _⟩
  · simp only [h1, if_false]
    obtain ⟨n, rfl⟩ := Int.eq_ofNat_of_zero_le (show 0 ≤ i by omega)
    have hn : n < s.length := by omega
    rw [Int.toNat_natCast, getD_at hn]
    by_cases h2 : s[n] = 0
    · simp only [h2, if_true]
      exact (down_zero gc gn s n w h hn hf.len h2).mono fun r w' ⟨e1, e2⟩ => by subst e2; exact ⟨e1, h, World.grownBy.refl w _⟩
    · simp only [h2, if_false]
      have := hf.at_ hn
      exact down_ok gc gn s n w h hn hf.len rfl (by omega) this.2
theorem rdown_any (gr gs : Nat) (s : List Int) (i : Int) (w : World) (h : RC w gr gs s) (hf : Fit s) :
    Calls Try.prog 17 #[.pointer (some ⟨gr, 0, none⟩), .int .i64 i] w fun r w' => r = .returned (.tuple #[.int .i64 (dn s i).1, .int .i64 (dn s i).2.1]) ∧ RC w' gr gs (dn s i).2.2 ∧ w.grownBy w' (some gs) := by
  unfold dn
  by_cases h1 : i < 0 ∨ (s.length : Int) ≤ i
  · simp only [h1, if_true]
    exact (rdown_arg gr gs s i w h h1).mono fun r w' ⟨e1, e2⟩ => by subst e2; exact ⟨e1, h, World.grownBy.refl w _⟩
  · simp only [h1, if_false]
    obtain ⟨n, rfl⟩ := Int.eq_ofNat_of_zero_le (show 0 ≤ i by omega)
    have hn : n < s.length := by omega
    rw [Int.toNat_natCast, getD_at hn]
    by_cases h2 : s[n] = 0
    · simp only [h2, if_true]
      exact (rdown_zero gr gs s n w h hn hf.len h2).mono fun r w' ⟨e1, e2⟩ => by subst e2; exact ⟨e1, h, World.grownBy.refl w _⟩
    · simp only [h2, if_false]
      have := hf.at_ hn
      exact rdown_ok gr gs s n w h hn hf.len rfl (by omega) this.2
theorem left_any (gc gn : Nat) (s : List Int) (i : Int) (w : World) (h : Cnt w gc gn s) (hf : Fit s) :
    Calls Try.prog 18 #[.pointer (some ⟨gc, 0, none⟩), .int .i64 i] w fun r w' => r = .returned (.tuple #[.int .i64 (lf s i).1, .int .i64 (lf s i).2]) ∧ w = w' := by
  unfold lf
  by_cases h1 : i < 0 ∨ (s.length : Int) ≤ i
  · simp only [h1, if_true]
    exact left_arg gc gn s i w h h1
  · simp only [h1, if_false]
    obtain ⟨n, rfl⟩ := Int.eq_ofNat_of_zero_le (show 0 ≤ i by omega)
    have hn : n < s.length := by omega
    rw [Int.toNat_natCast, getD_at hn]
    have := hf.at_ hn
    exact left_ok gc gn s n w h hn hf.len rfl this.1 this.2
theorem rleft_any (gr gs : Nat) (s : List Int) (i : Int) (w : World) (h : RC w gr gs s) (hf : Fit s) :
    Calls Try.prog 19 #[.pointer (some ⟨gr, 0, none⟩), .int .i64 i] w fun r w' => r = .returned (.tuple #[.int .i64 (lf s i).1, .int .i64 (lf s i).2]) ∧ w = w' := by
  unfold lf
  by_cases h1 : i < 0 ∨ (s.length : Int) ≤ i
  · simp only [h1, if_true]
    exact rleft_arg gr gs s i w h h1
  · simp only [h1, if_false]
    obtain ⟨n, rfl⟩ := Int.eq_ofNat_of_zero_le (show 0 ≤ i by omega)
    have hn : n < s.length := by omega
    rw [Int.toNat_natCast, getD_at hn]
    exact rleft_ok gr gs s n w h hn hf.len rfl
end Go.Proofs.Ytcgchcngiebgpaa
