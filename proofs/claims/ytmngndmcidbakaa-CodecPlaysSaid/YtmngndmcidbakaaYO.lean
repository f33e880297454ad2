/- Walk: Write. -/
import Derived.Test.YtmngndmcidbakaaYN
import Derived.Test.YtmngndmcidbakaaHoldL
namespace Go.Proofs.Ytmngndmcidbakaa
open Go.RowKit
section
variable {α : Type} (f : α → List Int)
theorem flat_succ (l : List α) {i : Nat} (h : i < l.length) : ((l.take (i + 1)).map f).flatten = ((l.take i).map f).flatten ++ f l[i] := by
  rw [List.take_succ_eq_append_getElem h, List.map_append, List.flatten_append]; simp
theorem flat_le (l : List α) (i : Nat) : ((l.take i).map f).flatten.length ≤ (l.map f).flatten.length := by
  have : (l.map f).flatten = ((l.take i).map f).flatten ++ ((l.drop i).map f).flatten := by rw [← List.flatten_append, ← List.map_append, List.take_append_drop]
  rw [this, List.length_append]; omega
end
def fb (L : List (List Int)) (k : Nat) : List Int := if L.getD k [] = zv (kd k) then [] else ((k + 1 : Nat) : Int) :: encF (kd k) (L.getD k [])
theorem wrF_fb : ∀ (ks : List Nat) (k : Nat) (L : List (List Int)) (d : Nat → Nat) (M : Nat → List Int), okS ks L → (∀ i, i < ks.length → ks.getD i 9 = d (k + i)) → (∀ i, i < ks.length → L.getD i [] = M (k + i)) →
    wrF ks (k + 1) L = ((List.range ks.length).map (fun i => if M (k + i) = zv (d (k + i)) then [] else ((k + i + 1 : Nat) : Int) :: encF (d (k + i)) (M (k + i)))).flatten ++ [0]
  | [], k, [], _, _, _, _, _ => rfl
  | [], _, _ :: _, _, _, h, _, _ => h.elim
  | _ :: _, _, [], _, _, h, _, _ => h.elim
  | κ :: ks, k, v :: L, d, M, h, hd, hM => by
    have ih := wrF_fb ks (k + 1) L d M h.2 (fun i hi => by
      have := hd (i + 1) (by simpa using hi)
      rw [show k + 1 + i = k + (i + 1) from by omega, ← this]; simp) (fun i hi => by
      have := hM (i + 1) (by simpa using hi)
      rw [show k + 1 + i = k + (i + 1) from by omega, ← this]; simp)
    have h0 := hd 0 (by simp)
    have m0 := hM 0 (by simp)
    simp only [List.getD_cons_zero, Nat.add_zero] at h0 m0
    unfold wrF
    rw [ih, List.length_cons, List.range_succ_eq_map, List.map_cons, List.flatten_cons, List.map_map]
    simp only [Nat.add_zero, ← h0, ← m0, List.append_assoc]
    congr 4
    funext i
    simp only [Function.comp]
    rw [show k + 1 + i = k + (i + 1) from by omega]
theorem wrF_eq {L : List (List Int)} (h : okS KD L) : wrF KD 1 L = ((List.range 32).map (fb L)).flatten ++ [0] := by
  have := wrF_fb KD 0 L kd (fun k => L.getD k []) h (fun i _ => by rw [Nat.zero_add]; rfl) (fun i _ => by rw [Nat.zero_add])
  simp only [Nat.zero_add] at this
  exact this
theorem fb_succ (L : List (List Int)) (k : Nat) : ((List.range (k + 1)).map (fb L)).flatten = ((List.range k).map (fb L)).flatten ++ fb L k := by
  rw [List.range_succ, List.map_append, List.flatten_append]; simp
theorem fb_le (L : List (List Int)) {k m : Nat} (h : k ≤ m) : ((List.range k).map (fb L)).flatten.length ≤ ((List.range m).map (fb L)).flatten.length := by
  obtain ⟨d, rfl⟩ := Nat.exists_eq_add_of_le h
  induction d with
  | zero => exact Nat.le_refl _
  | succ d ih => rw [show k + (d + 1) = (k + d) + 1 from by omega, fb_succ, List.length_append]; have := ih (by omega); omega
theorem units_le {L : List (List Int)} (h : okS KD L) : (L.getD 31 []).length ≤ (wrF KD 1 L).length := by
  rw [wrF_eq h, List.length_append, fb_succ, List.length_append]
  unfold fb
  split
  · next e => rw [e]; simp [zv, kd, KD]
  · rw [List.length_cons]
    have : encF (kd 31) (L.getD 31 []) = num (L.getD 31 []).length ++ uBytes (L.getD 31 []) := rfl
    rw [this, List.length_append, uBytes_len]; omega
theorem own_mono {W : World} {B B' : Nat} {e : TypeId} {sz n : Nat} {v : Value} {xs : List Value} (h : W.ownsRow B e sz v n xs) (hb : B' ≤ B) : W.ownsRow B' e sz v n xs := by
  refine ⟨h.1, ?_⟩
  rcases h.2 with h | ⟨g, cap, cur, e1, e2, e3⟩
  · exact .inl h
  · exact .inr ⟨g, cap, cur, e1, Nat.le_trans hb e2, e3⟩
end Go.Proofs.Ytmngndmcidbakaa
