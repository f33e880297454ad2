/- The fields' parser, step by step. -/
import Derived.Test.YtmngndmcidbakaaPn
namespace Go.Proofs.Ytmngndmcidbakaa
open Go.RowKit
theorem rdF_cons (κ : Nat) (ks : List Nat) (k : Nat) (b : Int) (l : List Int) : rdF (κ :: ks) k (b :: l) = if b = (k : Int) then match decF κ l with
      | some (v, r) => match rdF ks (k + 1) r with
        | some (vs, r') => some (v :: vs, r')
        | none => none
      | none => none
    else match rdF ks (k + 1) (b :: l) with
      | some (vs, r) => some (zv κ :: vs, r)
      | none => none := rfl
theorem rdF_end (k : Nat) (b : Int) (l : List Int) (h : b ≠ 0) : rdF [] k (b :: l) = none := by
  unfold rdF
  split <;> first | rfl | (exfalso; simp_all)
theorem rdF_zero : ∀ (ks : List Nat) (k : Nat) (l : List Int), 1 ≤ k → rdF ks k (0 :: l) = some (ks.map zv, l)
  | [], _, _, _ => rfl
  | κ :: ks, k, l, h => by
    have ih := rdF_zero ks (k + 1) l (by omega)
    rw [rdF_cons, if_neg (by omega), ih]
    rfl
theorem rdF_nil : ∀ (ks : List Nat) (k : Nat), rdF ks k [] = none
  | [], _ => rfl
  | _ :: _, _ => rfl
theorem rdF_bad : ∀ (ks : List Nat) (k : Nat) (b : Int) (l : List Int), (b < (k : Int) ∨ ((k + ks.length : Nat) : Int) ≤ b) → b ≠ 0 → rdF ks k (b :: l) = none
  | [], k, b, l, _, h0 => rdF_end k b l h0
  | κ :: ks, k, b, l, h, h0 => by
    have ih := rdF_bad ks (k + 1) b l (by rw [List.length_cons] at h; omega) h0
    rw [rdF_cons, if_neg (by rw [List.length_cons] at h; omega), ih]
theorem rdF_jump : ∀ (ks : List Nat) (k j : Nat) (l : List Int), j < ks.length → rdF ks k (((k + j : Nat) : Int) :: l) =
    match decF (ks.getD j 9) l with
    | some (v, r) => (rdF (ks.drop (j + 1)) (k + j + 1) r).map fun p => ((ks.take j).map zv ++ v :: p.1, p.2)
    | none => none
  | [], _, _, _, h => absurd h (by simp)
  | κ :: ks, k, 0, l, _ => by
    rw [Nat.add_zero, rdF_cons, if_pos rfl]
    simp only [List.getD_cons_zero, List.drop_succ_cons, List.drop_zero, List.take_zero, List.map_nil, List.nil_append, Nat.add_zero]
    cases decF κ l with
    | none => rfl
    | some p =>
      obtain ⟨v, r⟩ := p
      dsimp only
      cases rdF ks (k + 1) r <;> rfl
  | κ :: ks, k, j + 1, l, h => by
    have ih := rdF_jump ks (k + 1) j l (by simpa using h)
    rw [show k + 1 + j = k + (j + 1) from by omega] at ih
    rw [rdF_cons, if_neg (by omega), ih]
    simp only [List.getD_cons_succ, List.drop_succ_cons, List.take_succ_cons, List.map_cons, List.cons_append]
    cases decF (ks.getD j 9) l with
    | none => rfl
    | some p =>
      obtain ⟨v, r⟩ := p
      dsimp only
      cases rdF (ks.drop (j + 1)) (k + (j + 1) + 1) r <;> rfl
theorem set_zeros {P : List (List Int)} {ks : List Nat} {j : Nat} (v : List Int) (h : j < ks.length) :
    (P ++ ks.map zv).set (P.length + j) v = (P ++ (ks.take j).map zv ++ [v]) ++ (ks.drop (j + 1)).map zv := by
  rw [List.set_append_right _ _ (by omega), show P.length + j - P.length = j from by omega, List.set_eq_take_append_cons_drop, if_pos (by simpa using h)]
  simp [List.map_take, List.map_drop]
theorem sty_len {P : List (List Int)} {last : Nat} (hP : P.length = last) (hl : last ≤ 32) : (P ++ (KD.drop last).map zv).length = 32 := by
  rw [List.length_append, List.length_map, List.length_drop, hP]
  show last + (32 - last) = 32
  omega
theorem sty_units {P : List (List Int)} {last : Nat} (hP : P.length = last) (hl : last < 32) : (P ++ (KD.drop last).map zv).getD 31 [] = [] := by
  rw [List.getD_eq_getElem?_getD, List.getElem?_append_right (by omega), List.getElem?_map, List.getElem?_drop, show last + (31 - P.length) = 31 from by omega]
  rfl
theorem sty_step {P : List (List Int)} {rest q1 : List Int} {last j : Nat} (hP : P.length = last) (hl : last ≤ j) (hj : j < 32) (hrd : rdF KD 1 rest = (rdF (KD.drop last) (last + 1) (((j : Int) + 1) :: q1)).map fun p => (P ++ p.1, p.2)) :
    (decF (KD.getD j 9) q1 = none → rdF KD 1 rest = none) ∧ ∀ v q', decF (KD.getD j 9) q1 = some (v, q') →
      ∃ P', P'.length = j + 1 ∧ rdF KD 1 rest = ((rdF (KD.drop (j + 1)) (j + 1 + 1) q').map fun p => (P' ++ p.1, p.2)) ∧ P' ++ (KD.drop (j + 1)).map zv = (P ++ (KD.drop last).map zv).set j v := by
  have hlen : (KD.drop last).length = 32 - last := by rw [List.length_drop]; rfl
  have hjump := rdF_jump (KD.drop last) (last + 1) (j - last) q1 (by omega)
  rw [show ((last + 1 + (j - last) : Nat) : Int) = (j : Int) + 1 from by omega] at hjump
  rw [hjump] at hrd
  have hg : (KD.drop last).getD (j - last) 9 = KD.getD j 9 := by
    rw [List.getD_eq_getElem?_getD, List.getElem?_drop, show last + (j - last) = j from by omega, List.getD_eq_getElem?_getD]
  rw [hg, List.drop_drop, show last + (j - last + 1) = j + 1 from by omega, show last + 1 + (j - last) + 1 = j + 1 + 1 from by omega] at hrd
  refine ⟨fun h => by rw [hrd, h]; rfl, fun v q' h => ⟨P ++ ((KD.drop last).take (j - last)).map zv ++ [v], ?_, ?_, ?_⟩⟩
  · rw [List.length_append, List.length_append, List.length_map, List.length_take, hlen, hP]
    simp
    omega
  · rw [hrd, h]
    dsimp only
    cases rdF (KD.drop (j + 1)) (j + 1 + 1) q' with
    | none => rfl
    | some p => simp
  · have := set_zeros (P := P) (ks := KD.drop last) (j := j - last) v (by omega)
    rw [hP, show last + (j - last) = j from by omega, List.drop_drop, show last + (j - last + 1) = j + 1 from by omega] at this
    exact this.symm
end Go.Proofs.Ytmngndmcidbakaa
