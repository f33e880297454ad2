/- Styles and trees as bytes, as plain lists: what is written is read, and the other way round. -/
import Derived.Test.YtmngndmcidbakaaPl
namespace Go.Proofs.Ytmngndmcidbakaa
open Go.RowKit
/-- The fields' kinds: 0 a flag, 1 small, 2 great, 3 the order, 4 a length, 5 units. -/
def KD : List Nat := [0, 0, 1, 1, 1, 1, 1, 1, 2, 3, 2, 2, 4, 4, 4, 4, 4, 4, 4, 4, 4, 4, 4, 2, 2, 2, 2, 2, 2, 2, 2, 5]
def zv (κ : Nat) : List Int := match κ with | 4 => [0, 0] | 5 => [] | _ => [0]
def Sm (x : Int) : Prop := 0 ≤ x ∧ x ≤ 255
def U16 (x : Int) : Prop := 0 ≤ x ∧ x ≤ 65535
def okF (κ : Nat) (v : List Int) : Prop :=
  match κ with
  | 0 => v = [0] ∨ v = [1]
  | 1 => ∃ x, v = [x] ∧ Sm x
  | 4 => ∃ k n, v = [k, n] ∧ Sm k ∧ I64 n
  | 5 => (∀ u ∈ v, U16 u) ∧ v.length ≤ 9223372036854775807
  | _ => ∃ x, v = [x] ∧ I64 x
def u2b (u : Int) : List Int := [u / 256, u % 256]
def uBytes (us : List Int) : List Int := (us.map u2b).flatten
theorem uBytes_len (us : List Int) : (uBytes us).length = 2 * us.length := by
  induction us with
  | nil => rfl
  | cons u us ih => unfold uBytes at *; rw [List.map_cons, List.flatten_cons, List.length_append, ih]; simp [u2b]; omega
def encF (κ : Nat) (v : List Int) : List Int :=
  match κ with
  | 0 => []
  | 4 => num (v.getD 0 0) ++ num (v.getD 1 0)
  | 5 => num v.length ++ uBytes v
  | _ => num (v.getD 0 0)
/-- A style's bytes, from the field numbered k on. -/
def wrF : List Nat → Nat → List (List Int) → List Int
  | κ :: ks, k, v :: vs => (if v = zv κ then [] else (k : Int) :: encF κ v) ++ wrF ks (k + 1) vs
  | _, _, _ => [0]
/-- The style may be: each field's value is of its kind. -/
def okS : List Nat → List (List Int) → Prop
  | κ :: ks, v :: vs => okF κ v ∧ okS ks vs
  | [], [] => True
  | _, _ => False
def rdSm (l : List Int) : Option (Int × List Int) := match rdN l with
  | some (n, r) => if 0 ≤ n ∧ n ≤ 255 then some (n, r) else none
  | none => none
def rdC (l : List Int) : Option (Int × List Int) := match rdN l with
  | some (n, r) => if 0 ≤ n ∧ n ≤ (r.length : Int) then some (n, r) else none
  | none => none
def rdU : Nat → List Int → Option (List Int × List Int)
  | 0, l => some ([], l)
  | n + 1, a :: b :: l => match rdU n l with
    | some (us, r) => some ((a * 256 + b) :: us, r)
    | none => none
  | _ + 1, _ => none
def decF (κ : Nat) (l : List Int) : Option (List Int × List Int) :=
  match κ with
  | 0 => some ([1], l)
  | 1 => match rdSm l with
    | some (n, r) => if n = 0 then none else some ([n], r)
    | none => none
  | 4 => match rdSm l with
    | some (k, r) => match rdN r with
      | some (n, r') => if k = 0 ∧ n = 0 then none else some ([k, n], r')
      | none => none
    | none => none
  | 5 => match rdC l with
    | some (n, r) => if n = 0 then none else rdU n.toNat r
    | none => none
  | _ => match rdN l with
    | some (n, r) => if n = 0 then none else some ([n], r)
    | none => none
def rdF : List Nat → Nat → List Int → Option (List (List Int) × List Int)
  | [], _, 0 :: l => some ([], l)
  | [], _, _ => none
  | κ :: ks, k, b :: l =>
    if b = (k : Int) then match decF κ l with
      | some (v, r) => match rdF ks (k + 1) r with
        | some (vs, r') => some (v :: vs, r')
        | none => none
      | none => none
    else match rdF ks (k + 1) (b :: l) with
      | some (vs, r) => some (zv κ :: vs, r)
      | none => none
  | _ :: _, _, [] => none
theorem decF_o {κ : Nat} (h0 : κ ≠ 0) (h1 : κ ≠ 1) (h4 : κ ≠ 4) (h5 : κ ≠ 5) (l : List Int) : decF κ l = match rdN l with
    | some (n, r) => if n = 0 then none else some ([n], r)
    | none => none := by
  unfold decF; split <;> first | contradiction | rfl
theorem encF_o {κ : Nat} (h0 : κ ≠ 0) (h4 : κ ≠ 4) (h5 : κ ≠ 5) (v : List Int) : encF κ v = num (v.getD 0 0) := by
  unfold encF; split <;> first | contradiction | rfl
theorem zv_o {κ : Nat} (h4 : κ ≠ 4) (h5 : κ ≠ 5) : zv κ = [0] := by
  unfold zv; split <;> first | contradiction | rfl
theorem okF_o {κ : Nat} (h0 : κ ≠ 0) (h1 : κ ≠ 1) (h4 : κ ≠ 4) (h5 : κ ≠ 5) (v : List Int) : okF κ v = ∃ x, v = [x] ∧ I64 x := by
  unfold okF; split <;> first | contradiction | rfl
theorem kcase (κ : Nat) : κ = 0 ∨ κ = 1 ∨ κ = 4 ∨ κ = 5 ∨ (κ ≠ 0 ∧ κ ≠ 1 ∧ κ ≠ 4 ∧ κ ≠ 5) := by omega
theorem rdSm_num {n : Int} {r : List Int} (h : Sm n) : rdSm (num n ++ r) = some (n, r) := by
  unfold rdSm; rw [rdN_num (by unfold Sm at h; unfold I64; omega)]; exact if_pos h
theorem rdSm_sound {l r : List Int} {n : Int} (hb : Bts l) (h : rdSm l = some (n, r)) : l = num n ++ r ∧ Sm n := by
  unfold rdSm at h
  cases e : rdN l with
  | none => rw [e] at h; cases h
  | some p =>
    obtain ⟨m, q⟩ := p
    rw [e] at h
    dsimp only at h
    split at h
    · next hc =>
      injection h with h; injection h with h1 h2; subst h1 h2
      exact ⟨(rdN_sound hb e).1, hc⟩
    · cases h
theorem rdC_num {n : Nat} {r : List Int} (h : n ≤ r.length) (h2 : n ≤ 9223372036854775807) : rdC (num n ++ r) = some ((n : Int), r) := by
  unfold rdC; rw [rdN_num (by unfold I64; omega)]; exact if_pos ⟨by omega, by omega⟩
theorem rdC_sound {l r : List Int} {n : Int} (hb : Bts l) (h : rdC l = some (n, r)) : ∃ m : Nat, n = m ∧ l = num n ++ r ∧ m ≤ r.length ∧ m ≤ 9223372036854775807 := by
  unfold rdC at h
  cases e : rdN l with
  | none => rw [e] at h; cases h
  | some p =>
    obtain ⟨m, q⟩ := p
    rw [e] at h
    dsimp only at h
    split at h
    · next hc =>
      injection h with h; injection h with h1 h2; subst h1 h2
      obtain ⟨s1, s2⟩ := rdN_sound hb e
      unfold I64 at s2
      exact ⟨m.toNat, by omega, s1, by omega, by omega⟩
    · cases h
theorem rdU_enc : ∀ (us : List Int) (r : List Int), (∀ u ∈ us, U16 u) → rdU us.length (uBytes us ++ r) = some (us, r)
  | [], r, _ => rfl
  | u :: us, r, h => by
    have ih := rdU_enc us r (fun x hx => h x (List.mem_cons_of_mem _ hx))
    have hu := h u List.mem_cons_self
    unfold U16 at hu
    have e : uBytes (u :: us) ++ r = (u / 256) :: (u % 256) :: (uBytes us ++ r) := by simp [uBytes, u2b]
    rw [e, List.length_cons]
    unfold rdU
    rw [ih]
    simp only [Option.some.injEq, Prod.mk.injEq, List.cons.injEq, and_true]
    omega
theorem rdU_sound : ∀ (n : Nat) (l us r : List Int), Bts l → rdU n l = some (us, r) → us.length = n ∧ l = uBytes us ++ r ∧ ∀ u ∈ us, U16 u
  | 0, l, us, r, _, h => by
    simp only [rdU, Option.some.injEq, Prod.mk.injEq] at h
    obtain ⟨rfl, rfl⟩ := h
    exact ⟨rfl, rfl, fun u hu => by cases hu⟩
  | n + 1, [], us, r, _, h => by simp [rdU] at h
  | n + 1, [a], us, r, _, h => by simp [rdU] at h
  | n + 1, a :: b :: l, us, r, hb, h => by
    unfold rdU at h
    cases e : rdU n l with
    | none => rw [e] at h; cases h
    | some p =>
      obtain ⟨vs, q⟩ := p
      rw [e] at h
      simp only [Option.some.injEq, Prod.mk.injEq] at h
      obtain ⟨rfl, rfl⟩ := h
      have ha := hb a List.mem_cons_self
      have hb' := hb b (List.mem_cons_of_mem _ List.mem_cons_self)
      unfold Byt at ha hb'
      obtain ⟨i1, i2, i3⟩ := rdU_sound n l vs q (fun x hx => hb x (List.mem_cons_of_mem _ (List.mem_cons_of_mem _ hx))) e
      refine ⟨by rw [List.length_cons, i1], ?_, fun u hu => ?_⟩
      · rw [i2]
        simp only [uBytes, u2b, List.map_cons, List.flatten_cons, List.cons_append, List.nil_append, List.cons.injEq, true_and, and_true]
        omega
      · rcases List.mem_cons.1 hu with rfl | hu
        · unfold U16; omega
        · exact i3 u hu
theorem decF_enc {κ : Nat} {v r : List Int} (h : okF κ v) (hz : v ≠ zv κ) : decF κ (encF κ v ++ r) = some (v, r) := by
  rcases kcase κ with rfl | rfl | rfl | rfl | ⟨h0, h1, h4, h5⟩
  · rcases h with rfl | rfl
    · exact absurd rfl hz
    · rfl
  · obtain ⟨x, rfl, hx⟩ := h
    show (match rdSm (num x ++ r) with | some (n, r) => if n = 0 then none else some ([n], r) | none => none) = _
    rw [rdSm_num hx]
    exact if_neg (fun e => hz (by rw [e]; rfl))
  · obtain ⟨k, n, rfl, hk, hn⟩ := h
    show (match rdSm (num k ++ num n ++ r) with | some (k, r) => (match rdN r with | some (n, r') => if k = 0 ∧ n = 0 then none else some ([k, n], r') | none => none) | none => none) = _
    rw [List.append_assoc, rdSm_num hk]
    dsimp only
    rw [rdN_num hn]
    exact if_neg (fun e => hz (by rw [e.1, e.2]; rfl))
  · obtain ⟨hu, hl⟩ := h
    show (match rdC (num v.length ++ uBytes v ++ r) with | some (n, r) => if n = 0 then none else rdU n.toNat r | none => none) = _
    rw [List.append_assoc, rdC_num (by rw [List.length_append, uBytes_len]; omega) hl]
    dsimp only
    rw [if_neg (fun e => hz (List.eq_nil_of_length_eq_zero (by omega))), Int.toNat_natCast]
    exact rdU_enc v r hu
  · rw [okF_o h0 h1 h4 h5] at h
    rw [zv_o h4 h5] at hz
    obtain ⟨x, rfl, hx⟩ := h
    rw [decF_o h0 h1 h4 h5, encF_o h0 h4 h5]
    show (match rdN (num x ++ r) with | some (n, r) => if n = 0 then none else some ([n], r) | none => none) = _
    rw [rdN_num hx]
    exact if_neg (fun e => hz (by rw [e]))
theorem decF_sound {κ : Nat} {l v r : List Int} (hb : Bts l) (h : decF κ l = some (v, r)) : l = encF κ v ++ r ∧ okF κ v ∧ v ≠ zv κ := by
  rcases kcase κ with rfl | rfl | rfl | rfl | ⟨h0, h1, h4, h5⟩
  · simp only [decF, Option.some.injEq, Prod.mk.injEq] at h
    obtain ⟨rfl, rfl⟩ := h
    exact ⟨rfl, .inr rfl, by decide⟩
  · simp only [decF] at h
    cases e : rdSm l with
    | none => rw [e] at h; cases h
    | some p =>
      obtain ⟨n, q⟩ := p
      rw [e] at h
      dsimp only at h
      split at h
      · cases h
      · next hn =>
        injection h with h; injection h with h1 h2; subst h1 h2
        obtain ⟨s1, s2⟩ := rdSm_sound hb e
        exact ⟨s1, ⟨n, rfl, s2⟩, fun e => hn (by simpa [zv] using e)⟩
  · simp only [decF] at h
    cases e : rdSm l with
    | none => rw [e] at h; cases h
    | some p =>
      obtain ⟨k, q⟩ := p
      rw [e] at h
      dsimp only at h
      obtain ⟨s1, s2⟩ := rdSm_sound hb e
      have hq : Bts q := (Bts.of_app (s1 ▸ hb)).2
      cases e2 : rdN q with
      | none => rw [e2] at h; cases h
      | some p2 =>
        obtain ⟨n, q2⟩ := p2
        rw [e2] at h
        dsimp only at h
        split at h
        · cases h
        · next hn =>
          injection h with h; injection h with h1 h2; subst h1 h2
          obtain ⟨s3, s4⟩ := rdN_sound hq e2
          refine ⟨?_, ⟨k, n, rfl, s2, s4⟩, fun e => hn (by simpa [zv] using e)⟩
          show l = num k ++ num n ++ q2
          rw [List.append_assoc, ← s3]; exact s1
  · simp only [decF] at h
    cases e : rdC l with
    | none => rw [e] at h; cases h
    | some p =>
      obtain ⟨n, q⟩ := p
      rw [e] at h
      dsimp only at h
      split at h
      · cases h
      · next hn =>
        obtain ⟨m, rfl, s1, s2, s3⟩ := rdC_sound hb e
        rw [Int.toNat_natCast] at h
        obtain ⟨i1, i2, i3⟩ := rdU_sound m q v r (Bts.of_app (s1 ▸ hb)).2 h
        refine ⟨?_, ⟨i3, by omega⟩, fun e => hn (by rw [e] at i1; rw [← i1]; rfl)⟩
        show l = num v.length ++ uBytes v ++ r
        rw [i1, List.append_assoc, ← i2]; exact s1
  · rw [decF_o h0 h1 h4 h5] at h
    cases e : rdN l with
    | none => rw [e] at h; cases h
    | some p =>
      obtain ⟨n, q⟩ := p
      rw [e] at h
      dsimp only at h
      split at h
      · cases h
      · next hn =>
        injection h with h; injection h with h1' h2'; subst h1' h2'
        obtain ⟨s1, s2⟩ := rdN_sound hb e
        rw [okF_o h0 h1 h4 h5, zv_o h4 h5, encF_o h0 h4 h5]
        exact ⟨s1, ⟨n, rfl, s2⟩, fun e => hn (by simpa using e)⟩
theorem encF_bts {κ : Nat} {v : List Int} (h : okF κ v) : Bts (encF κ v) := by
  rcases kcase κ with rfl | rfl | rfl | rfl | ⟨h0, h1, h4, h5⟩
  · intro x hx; cases hx
  · obtain ⟨x, rfl, hx⟩ := h
    exact num_bts (by unfold Sm at hx; show I64 x; unfold I64; omega)
  · obtain ⟨k, n, rfl, hk, hn⟩ := h
    exact Bts.app (num_bts (by unfold Sm at hk; show I64 k; unfold I64; omega)) (num_bts hn)
  · obtain ⟨hu, hl⟩ := h
    refine Bts.app (num_bts (by unfold I64; omega)) (fun x hx => ?_)
    unfold uBytes at hx
    rw [List.mem_flatten] at hx
    obtain ⟨q, hq, hx⟩ := hx
    rw [List.mem_map] at hq
    obtain ⟨u, hu', rfl⟩ := hq
    have := hu u hu'
    unfold U16 at this
    simp only [u2b, List.mem_cons, List.not_mem_nil, or_false] at hx
    unfold Byt
    omega
  · rw [okF_o h0 h1 h4 h5] at h
    obtain ⟨x, rfl, hx⟩ := h
    rw [encF_o h0 h4 h5]
    exact num_bts hx
theorem zv_ok (κ : Nat) : okF κ (zv κ) := by
  rcases kcase κ with rfl | rfl | rfl | rfl | ⟨h0, h1, h4, h5⟩
  · exact .inl rfl
  · exact ⟨0, rfl, by unfold Sm; omega⟩
  · exact ⟨0, 0, rfl, by unfold Sm; omega, by unfold I64; omega⟩
  · exact ⟨fun u hu => (by cases hu), by simp [zv]⟩
  · rw [okF_o h0 h1 h4 h5, zv_o h4 h5]
    exact ⟨0, rfl, by unfold I64; omega⟩
theorem wrF_head {ks : List Nat} {k : Nat} {vs : List (List Int)} (h : okS ks vs) : ∃ b l, wrF ks k vs = b :: l ∧ (b = 0 ∨ ∃ j : Nat, b = j ∧ k ≤ j) := by
  induction ks generalizing k vs with
  | nil => cases vs with
    | nil => exact ⟨0, [], rfl, .inl rfl⟩
    | cons v vs => exact h.elim
  | cons κ ks ih => cases vs with
    | nil => exact h.elim
    | cons v vs =>
      unfold wrF
      by_cases hz : v = zv κ
      · rw [if_pos hz, List.nil_append]
        obtain ⟨b, l, h1, h2⟩ := ih (k := k + 1) h.2
        exact ⟨b, l, h1, h2.imp id (fun ⟨j, h3, h4⟩ => ⟨j, h3, by omega⟩)⟩
      · rw [if_neg hz]; exact ⟨k, _, rfl, .inr ⟨k, rfl, Nat.le_refl _⟩⟩
theorem rdF_wrF {ks : List Nat} {k : Nat} {vs : List (List Int)} {r : List Int} (hk : 1 ≤ k) (h : okS ks vs) : rdF ks k (wrF ks k vs ++ r) = some (vs, r) := by
  induction ks generalizing k vs with
  | nil => cases vs with
    | nil => rfl
    | cons v vs => exact h.elim
  | cons κ ks ih => cases vs with
    | nil => exact h.elim
    | cons v vs =>
      unfold wrF
      by_cases hz : v = zv κ
      · rw [if_pos hz, List.nil_append]
        have i := ih (k := k + 1) (by omega) h.2
        obtain ⟨b, l, h1, h2⟩ := wrF_head (k := k + 1) h.2
        rw [h1, List.cons_append] at i ⊢
        unfold rdF
        rw [if_neg (by rcases h2 with rfl | ⟨j, rfl, hj⟩ <;> omega), i, hz]
      · rw [if_neg hz, List.cons_append, List.cons_append, List.append_assoc]
        unfold rdF
        rw [if_pos rfl, decF_enc h.1 hz]
        dsimp only
        rw [ih (by omega) h.2]
theorem rdF_sound {ks : List Nat} {k : Nat} {vs : List (List Int)} {l r : List Int} (hb : Bts l) (h : rdF ks k l = some (vs, r)) : l = wrF ks k vs ++ r ∧ okS ks vs := by
  induction ks generalizing k vs l with
  | nil => cases l with
    | nil => simp [rdF] at h
    | cons b l =>
      by_cases hb0 : b = 0
      · subst hb0
        simp only [rdF, Option.some.injEq, Prod.mk.injEq] at h
        obtain ⟨rfl, rfl⟩ := h
        exact ⟨rfl, trivial⟩
      · exfalso
        unfold rdF at h
        split at h
        · next e1 e2 => simp_all
        · cases h
        all_goals simp_all
  | cons κ ks ih => cases l with
    | nil => simp [rdF] at h
    | cons b l =>
      unfold rdF at h
      by_cases hbk : b = (k : Int)
      · rw [if_pos hbk] at h
        cases e : decF κ l with
        | none => rw [e] at h; cases h
        | some p =>
          obtain ⟨v, q⟩ := p
          rw [e] at h
          dsimp only at h
          have hbl : Bts l := fun x hx => hb x (List.mem_cons_of_mem _ hx)
          obtain ⟨s1, s2, s3⟩ := decF_sound hbl e
          cases e2 : rdF ks (k + 1) q with
          | none => rw [e2] at h; cases h
          | some p2 =>
            obtain ⟨ws, q2⟩ := p2
            rw [e2] at h
            simp only [Option.some.injEq, Prod.mk.injEq] at h
            obtain ⟨rfl, rfl⟩ := h
            obtain ⟨i1, i2⟩ := ih (Bts.of_app (s1 ▸ hbl)).2 e2
            refine ⟨?_, s2, i2⟩
            unfold wrF
            rw [if_neg s3, hbk, s1, i1]
            simp
      · rw [if_neg hbk] at h
        cases e2 : rdF ks (k + 1) (b :: l) with
        | none => rw [e2] at h; cases h
        | some p2 =>
          obtain ⟨ws, q2⟩ := p2
          rw [e2] at h
          simp only [Option.some.injEq, Prod.mk.injEq] at h
          obtain ⟨rfl, rfl⟩ := h
          obtain ⟨i1, i2⟩ := ih hb e2
          refine ⟨?_, zv_ok κ, i2⟩
          unfold wrF
          rw [if_pos rfl, List.nil_append]
          exact i1
theorem wrF_bts {ks : List Nat} {k : Nat} {vs : List (List Int)} (hk : k + ks.length ≤ 256) (h : okS ks vs) : Bts (wrF ks k vs) := by
  induction ks generalizing k vs with
  | nil => cases vs with
    | nil => intro x hx; simp [wrF] at hx; subst hx; unfold Byt; omega
    | cons v vs => exact h.elim
  | cons κ ks ih => cases vs with
    | nil => exact h.elim
    | cons v vs =>
      rw [List.length_cons] at hk
      unfold wrF
      refine Bts.app ?_ (ih (by omega) h.2)
      split
      · intro x hx; cases hx
      · intro x hx
        rcases List.mem_cons.1 hx with rfl | hx
        · unfold Byt; omega
        · exact encF_bts h.1 x hx
end Go.Proofs.Ytmngndmcidbakaa
