/- Trees as bytes, as plain lists: what is written, what is read. -/
import Derived.Test.YtmngndmcidbakaaNm
namespace Go.Proofs.Ytmngndmcidbakaa
open Go.RowKit
def I64 (n : Int) : Prop := -9223372036854775808 ≤ n ∧ n ≤ 9223372036854775807
def Bts (l : List Int) : Prop := ∀ x ∈ l, Byt x
/-- A number at the head, and what stands behind it. -/
def rdN : List Int → Option (Int × List Int)
  | [] => none
  | h :: t => if (tkc 0 h t).2.2 = 0 then some ((tkc 0 h t).1, (h :: t).drop (tkc 0 h t).2.1.toNat) else none
theorem rdN_cons (h : Int) (t : List Int) : rdN (h :: t) = if (tkc 0 h t).2.2 = 0 then some ((tkc 0 h t).1, (h :: t).drop (tkc 0 h t).2.1.toNat) else none := rfl
theorem tkc_form (at_ h : Int) (t : List Int) : tkc at_ h t = (0, 0, 5) ∧ (tkc 0 h t).2.2 ≠ 0 ∨ ∃ k : Nat, k ≤ t.length ∧ tkc at_ h t = ((tkc 0 h t).1, at_ + 1 + k, 0) ∧ (tkc 0 h t).2 = (1 + (k : Int), 0) := by
  unfold tkc
  by_cases h0 : h = 0
  · simp only [if_pos h0]
    exact .inr ⟨0, by omega, by simp, by simp⟩
  · simp only [if_neg h0]
    generalize (if 16 < h then h - 16 else h) = K
    by_cases hc : K < 1 ∨ 8 < K ∨ (t.length : Int) < K ∨ t.headD 0 = 0
    · left; simp only [if_pos hc]; exact ⟨trivial, by decide⟩
    · obtain ⟨k, rfl⟩ : ∃ k : Nat, K = (k : Int) := ⟨K.toNat, by omega⟩
      simp only [if_neg hc]
      split
      · right; exact ⟨k, by omega, rfl, by simp⟩
      · split
        · right; exact ⟨k, by omega, rfl, by simp⟩
        · left; exact ⟨rfl, by decide⟩
theorem tk_rdN {b : List Int} {p : Nat} (h : p ≤ b.length) : tk b p = match rdN (b.drop p) with
    | some (n, r) => (n, ((b.length - r.length : Nat) : Int), 0)
    | none => (0, 0, 5) := by
  by_cases hp : p = b.length
  · subst hp; rw [tk_end, List.drop_eq_nil_of_le (Nat.le_refl _)]; rfl
  have hlt : p < b.length := by omega
  rw [tk_at hlt, List.drop_eq_getElem_cons hlt]
  rw [rdN_cons]
  rcases tkc_form p b[p] (b.drop (p + 1)) with ⟨e1, e2⟩ | ⟨k, hk, e1, e2⟩
  · rw [e1, if_neg e2]
  · rw [e1, e2, if_pos rfl]
    simp only [Prod.mk.injEq, true_and, and_true]
    rw [List.length_drop] at hk
    rw [show (1 + (k : Int)).toNat = 1 + k from by omega]
    simp only [List.length_drop, List.length_cons]
    omega
theorem rdN_len {l r : List Int} {n : Int} (h : rdN l = some (n, r)) : r.length < l.length ∧ ∃ q, l.drop q = r := by
  cases l with
  | nil => simp [rdN] at h
  | cons x t =>
    rw [rdN_cons] at h
    rcases tkc_form 0 x t with ⟨e1, e2⟩ | ⟨k, hk, e1, e2⟩
    · rw [if_neg e2] at h; cases h
    · rw [e2, if_pos rfl] at h
      injection h with h
      injection h with _ h
      subst h
      refine ⟨?_, _, rfl⟩
      rw [List.length_drop]; simp only [List.length_cons]; omega
theorem rdN_sound {l r : List Int} {n : Int} (hb : Bts l) (h : rdN l = some (n, r)) : l = num n ++ r ∧ I64 n := by
  cases l with
  | nil => simp [rdN] at h
  | cons x t =>
    have hx := hb x List.mem_cons_self
    have ht : ∀ y ∈ t, Byt y := fun y hy => hb y (List.mem_cons_of_mem _ hy)
    rw [rdN_cons] at h
    by_cases hc : (tkc 0 x t).2.2 = 0
    · rw [if_pos hc] at h
      injection h with h
      injection h with h1 h2
      by_cases h0 : x = 0
      · subst h0
        simp [tkc] at h1 h2
        subst h1 h2
        exact ⟨by simp [num, nb_zero], by unfold I64; omega⟩
      · obtain ⟨hx1, hx2⟩ := hx
        by_cases hg : 16 < x
        · obtain ⟨k, hk⟩ : ∃ k : Nat, x - 16 = (k : Int) := ⟨(x - 16).toNat, by omega⟩
          by_cases hbad : 8 < (k : Int) ∨ (t.length : Int) < k ∨ t.headD 0 = 0
          · rw [tkc_bad h0 (by rw [if_pos hg]; exact hk.symm) hbad] at hc; cases hc
          · simp only [not_or] at hbad
            obtain ⟨b1, b2, b3⟩ := hbad
            rw [tkc_neg hk (by omega) (by omega) (by omega) b3] at h1 h2 hc
            obtain ⟨m1, m2⟩ := nb_val (t.take k) (fun y hy => ht y (List.mem_of_mem_take hy)) (fun _ => by
              cases t with
              | nil => simp at b2; omega
              | cons y t => rw [show k = (k - 1) + 1 from by omega, List.take_succ_cons]; simpa using b3)
            have hne : t.take k ≠ [] := by
              cases t with
              | nil => simp at b2; omega
              | cons y t => rw [show k = (k - 1) + 1 from by omega, List.take_succ_cons]; simp
            have hv := m2 hne
            by_cases hle : val (t.take k) ≤ 9223372036854775808
            · rw [if_pos hle] at h1 h2
              simp only [Int.zero_add] at h2
              subst h1
              have hlen : (t.take k).length = k := by rw [List.length_take]; omega
              refine ⟨?_, by unfold I64; omega⟩
              unfold num
              rw [if_pos (by omega), show (-(val (t.take k) : Int)).natAbs = val (t.take k) from by omega, m1, hlen]
              rw [← h2, show (1 + (k : Int)).toNat = k + 1 from by omega, List.drop_succ_cons, List.cons_append, List.take_append_drop]
              congr 1; omega
            · rw [if_neg hle] at hc; cases hc
        · obtain ⟨k, rfl⟩ := Int.eq_ofNat_of_zero_le hx1
          by_cases hbad : 8 < (k : Int) ∨ (t.length : Int) < k ∨ t.headD 0 = 0
          · rw [tkc_bad h0 (by rw [if_neg hg]) hbad] at hc; cases hc
          · simp only [not_or] at hbad
            obtain ⟨b1, b2, b3⟩ := hbad
            rw [tkc_pos (by omega) (by omega) (by omega) b3] at h1 h2 hc
            obtain ⟨m1, m2⟩ := nb_val (t.take k) (fun y hy => ht y (List.mem_of_mem_take hy)) (fun _ => by
              cases t with
              | nil => simp at b2; omega
              | cons y t => rw [show k = (k - 1) + 1 from by omega, List.take_succ_cons]; simpa using b3)
            have hne : t.take k ≠ [] := by
              cases t with
              | nil => simp at b2; omega
              | cons y t => rw [show k = (k - 1) + 1 from by omega, List.take_succ_cons]; simp
            have hv := m2 hne
            by_cases hle : val (t.take k) ≤ 9223372036854775807
            · rw [if_pos hle] at h1 h2
              simp only [Int.zero_add] at h2
              subst h1
              have hlen : (t.take k).length = k := by rw [List.length_take]; omega
              refine ⟨?_, by unfold I64; omega⟩
              unfold num
              rw [if_neg (by omega), show ((val (t.take k) : Nat) : Int).natAbs = val (t.take k) from by omega, m1, hlen]
              rw [← h2, show (1 + (k : Int)).toNat = k + 1 from by omega, List.drop_succ_cons, List.cons_append, List.take_append_drop]
              congr 1; omega
            · rw [if_neg hle] at hc; cases hc
    · rw [if_neg hc] at h; cases h
theorem rdN_num {n : Int} {r : List Int} (h : I64 n) : rdN (num n ++ r) = some (n, r) := by
  have h8 := nb_len (abs_lt h)
  unfold I64 at h
  unfold num
  rw [List.cons_append]
  rw [rdN_cons]
  by_cases h0 : n = 0
  · subst h0
    simp [nb_zero, tkc]
  · have hm : n.natAbs ≠ 0 := by omega
    have h1 := nb_ne hm
    have hh := nb_head _ hm
    have hv := val_nb n.natAbs
    have hh' : (nb n.natAbs ++ r).headD 0 ≠ 0 := by
      cases hnb : nb n.natAbs with
      | nil => rw [hnb] at h1; simp at h1
      | cons y t => rw [hnb] at hh; simpa using hh
    have htk : (nb n.natAbs ++ r).take (nb n.natAbs).length = nb n.natAbs := by simp
    by_cases hneg : n < 0
    · have e : tkc 0 (16 + ((nb n.natAbs).length : Int)) (nb n.natAbs ++ r) = (-(n.natAbs : Int), 0 + 1 + ((nb n.natAbs).length : Int), 0) := by
        rw [tkc_neg (k := (nb n.natAbs).length) (by omega) (by omega) (by omega) (by simp) hh', htk, hv, if_pos (by omega)]
      rw [if_pos hneg, e]
      simp only [if_true, Int.zero_add, Option.some.injEq, Prod.mk.injEq]
      refine ⟨by omega, ?_⟩
      rw [show (1 + ((nb n.natAbs).length : Int)).toNat = (nb n.natAbs).length + 1 from by omega, List.drop_succ_cons]
      simp
    · have e : tkc 0 ((nb n.natAbs).length : Int) (nb n.natAbs ++ r) = ((n.natAbs : Int), 0 + 1 + ((nb n.natAbs).length : Int), 0) := by
        rw [tkc_pos (by omega) (by omega) (by simp) hh', htk, hv, if_pos (by omega)]
      rw [if_neg hneg, Int.zero_add, e]
      simp only [if_true, Int.zero_add, Option.some.injEq, Prod.mk.injEq]
      refine ⟨by omega, ?_⟩
      rw [show (1 + ((nb n.natAbs).length : Int)).toNat = (nb n.natAbs).length + 1 from by omega, List.drop_succ_cons]
      simp
theorem num_bts {n : Int} (h : I64 n) : Bts (num n) := by
  intro x hx
  have h8 := nb_len (abs_lt h)
  unfold num at hx
  rw [List.mem_cons] at hx
  rcases hx with rfl | hx
  · unfold Byt; split <;> omega
  · exact nb_bytes _ x hx
theorem num_len {n : Int} (h : I64 n) : (num n).length ≤ 9 ∧ 1 ≤ (num n).length := by
  have h8 := nb_len (abs_lt h)
  unfold num; rw [List.length_cons]; omega
theorem Bts.app {a b : List Int} (h1 : Bts a) (h2 : Bts b) : Bts (a ++ b) := fun x hx => (List.mem_append.1 hx).elim (h1 x) (h2 x)
theorem Bts.of_app {a b : List Int} (h : Bts (a ++ b)) : Bts a ∧ Bts b := ⟨fun x hx => h x (List.mem_append.2 (.inl hx)), fun x hx => h x (List.mem_append.2 (.inr hx))⟩
end Go.Proofs.Ytmngndmcidbakaa
