/- Trees as bytes, as plain lists: what is written, what is read. Styles and trees as bytes, as plain lists: what is written is read, and the other way round. Trees av bytes, av plain lists. -/
import Derived.Test.YtmngndmcidbakaaNm
namespace Go.Proofs.Ytmngndmcidbakaa
open Go.RowKit
def I64 (n : Int) : Prop := -9223372036854775808 ≤ n ∧ n ≤ 9223372036854775807
def Bts (l : List Int) : Prop := ∀ x ∈ l, Byt x
/-- A number at the head, and what stands behind it. -/
def rdN : List Int → Option (Int × List Int)
  | [] => none
  | h :: t => if (tkc 0 h t).2.2 = 0 then some ((tkc 0 h t).1, (h :: t).drop (tkc 0 h t).2.1.toNat) else none
theorem rdN_cons (h : Int) (t : List Int) : rdN (h :: t) = if (tkc 0 h t).2.2 = 0 then some ((tkc 0 h t).1, (h :: t).drop (tkc 0 h t).2.1.toNat) else none := rfl
theorem tkc_form (at_ h : Int) (t : List Int) : tkc at_ h t = (0, 0, 5) ∧ (tkc 0 h t).2.2 ≠ 0 ∨ ∃ k : Nat, k ≤ t.length ∧ tkc at_ h t = ((tkc 0 h t).1, at_ + 1 + k, 0) ∧ (tkc 0 h t).2 = (1 + (k : Int), 0) := by
  unfold tkc
  by_cases h0 : h = 0
  · simp only [if_pos h0]
    exact .inr ⟨0, by omega, by simp, by simp⟩
  · simp only [if_neg h0]
    generalize (if 16 < h then h - 16 else h) = K
    by_cases hc : K < 1 ∨ 8 < K ∨ (t.length : Int) < K ∨ t.headD 0 = 0
    · left; simp only [if_pos hc]; exact ⟨trivial, by decide⟩
    · obtain ⟨k, rfl⟩ : ∃ k : Nat, K = (k : Int) := ⟨K.toNat, by omega⟩
      simp only [if_neg hc]
      split
      · right; exact ⟨k, by omega, rfl, by simp⟩
      · split
        · right; exact ⟨k, by omega, rfl, by simp⟩
        · left; exact ⟨rfl, by decide⟩
theorem tk_rdN {b : List Int} {p : Nat} (h : p ≤ b.length) : tk b p = match rdN (b.drop p) with
    | some (n, r) => (n, ((b.length - r.length : Nat) : Int), 0)
    | none => (0, 0, 5) := by
  by_cases hp : p = b.length
  · subst hp; rw [tk_end, List.drop_eq_nil_of_le (Nat.le_refl _)]; rfl
  have hlt : p < b.length := by omega
  rw [tk_at hlt, List.drop_eq_getElem_cons hlt]
  rw [rdN_cons]
  rcases tkc_form p b[p] (b.drop (p + 1)) with ⟨e1, e2⟩ | ⟨k, hk, e1, e2⟩
  · rw [e1, if_neg e2]
  · rw [e1, e2, if_pos rfl]
    simp only [Prod.mk.injEq, true_and, and_true]
    rw [List.length_drop] at hk
    rw [show (1 + (k : Int)).toNat = 1 + k from by omega]
    simp only [List.length_drop, List.length_cons]
    omega
theorem rdN_len {l r : List Int} {n : Int} (h : rdN l = some (n, r)) : r.length < l.length ∧ ∃ q, l.drop q = r := by
  cases l with
  | nil => simp [rdN] at h
  | cons x t =>
    rw [rdN_cons] at h
    rcases tkc_form 0 x t with ⟨e1, e2⟩ | ⟨k, hk, e1, e2⟩
    · rw [if_neg e2] at h; cases h
    · rw [e2, if_pos rfl] at h
      injection h with h
      injection h with _ h
      subst h
      refine ⟨?_, _, rfl⟩
      rw [List.length_drop]; simp only [List.length_cons]; omega
theorem rdN_sound {l r : List Int} {n : Int} (hb : Bts l) (h : rdN l = some (n, r)) : l = num n ++ r ∧ I64 n := by
  cases l with
  | nil => simp [rdN] at h
  | cons x t =>
    have hx := hb x List.mem_cons_self
    have ht : ∀ y ∈ t, Byt y := fun y hy => hb y (List.mem_cons_of_mem _ hy)
    rw [rdN_cons] at h
    by_cases hc : (tkc 0 x t).2.2 = 0
    · rw [if_pos hc] at h
      injection h with h
      injection h with h1 h2
      by_cases h0 : x = 0
      · subst h0
        simp [tkc] at h1 h2
        subst h1 h2
        exact ⟨by simp [num, nb_zero], by unfold I64; omega⟩
      · obtain ⟨hx1, hx2⟩ := hx
        by_cases hg : 16 < x
        · obtain ⟨k, hk⟩ : ∃ k : Nat, x - 16 = (k : Int) := ⟨(x - 16).toNat, by omega⟩
          by_cases hbad : 8 < (k : Int) ∨ (t.length : Int) < k ∨ t.headD 0 = 0
          · rw [tkc_bad h0 (by rw [if_pos hg]; exact hk.symm) hbad] at hc; cases hc
          · simp only [not_or] at hbad
            obtain ⟨b1, b2, b3⟩ := hbad
            rw [tkc_neg hk (by omega) (by omega) (by omega) b3] at h1 h2 hc
            obtain ⟨m1, m2⟩ := nb_val (t.take k) (fun y hy => ht y (List.mem_of_mem_take hy)) (fun _ => by
              cases t with
              | nil => simp at b2; omega
              | cons y t => rw [show k = (k - 1) + 1 from by omega, List.take_succ_cons]; simpa using b3)
            have hne : t.take k ≠ [] := by
              cases t with
              | nil => simp at b2; omega
              | cons y t => rw [show k = (k - 1) + 1 from by omega, List.take_succ_cons]; simp
            have hv := m2 hne
            by_cases hle : val (t.take k) ≤ 9223372036854775808
            · rw [if_pos hle] at h1 h2
              simp only [Int.zero_add] at h2
              subst h1
              have hlen : (t.take k).length = k := by rw [List.length_take]; omega
              refine ⟨?_, by unfold I64; omega⟩
              unfold num
              rw [if_pos (by omega), show (-(val (t.take k) : Int)).natAbs = val (t.take k) from by omega, m1, hlen]
              rw [← h2, show (1 + (k : Int)).toNat = k + 1 from by omega, List.drop_succ_cons, List.cons_append, List.take_append_drop]
              congr 1; omega
            · rw [if_neg hle] at hc; cases hc
        · obtain ⟨k, rfl⟩ := Int.eq_ofNat_of_zero_le hx1
          by_cases hbad : 8 < (k : Int) ∨ (t.length : Int) < k ∨ t.headD 0 = 0
          · rw [tkc_bad h0 (by rw [if_neg hg]) hbad] at hc; cases hc
          · simp only [not_or] at hbad
            obtain ⟨b1, b2, b3⟩ := hbad
            rw [tkc_pos (by omega) (by omega) (by omega) b3] at h1 h2 hc
            obtain ⟨m1, m2⟩ := nb_val (t.take k) (fun y hy => ht y (List.mem_of_mem_take hy)) (fun _ => by
              cases t with
              | nil => simp at b2; omega
              | cons y t => rw [show k = (k - 1) + 1 from by omega, List.take_succ_cons]; simpa using b3)
            have hne : t.take k ≠ [] := by
              cases t with
              | nil => simp at b2; omega
              | cons y t => rw [show k = (k - 1) + 1 from by omega, List.take_succ_cons]; simp
            have hv := m2 hne
            by_cases hle : val (t.take k) ≤ 9223372036854775807
            · rw [if_pos hle] at h1 h2
              simp only [Int.zero_add] at h2
              subst h1
              have hlen : (t.take k).length = k := by rw [List.length_take]; omega
              refine ⟨?_, by unfold I64; omega⟩
              unfold num
              rw [if_neg (by omega), show ((val (t.take k) : Nat) : Int).natAbs = val (t.take k) from by omega, m1, hlen]
              rw [← h2, show (1 + (k : Int)).toNat = k + 1 from by omega, List.drop_succ_cons, List.cons_append, List.take_append_drop]
              congr 1; omega
            · rw [if_neg hle] at hc; cases hc
    · rw [if_neg hc] at h; cases h
theorem rdN_num {n : Int} {r : List Int} (h : I64 n) : rdN (num n ++ r) = some (n, r) := by
  have h8 := nb_len (abs_lt h)
  unfold I64 at h
  unfold num
  rw [List.cons_append]
  rw [rdN_cons]
  by_cases h0 : n = 0
  · subst h0
    simp [nb_zero, tkc]
  · have hm : n.natAbs ≠ 0 := by omega
    have h1 := nb_ne hm
    have hh := nb_head _ hm
    have hv := val_nb n.natAbs
    have hh' : (nb n.natAbs ++ r).headD 0 ≠ 0 := by
      cases hnb : nb n.natAbs with
      | nil => rw [hnb] at h1; simp at h1
      | cons y t => rw [hnb] at hh; simpa using hh
    have htk : (nb n.natAbs ++ r).take (nb n.natAbs).length = nb n.natAbs := by simp
    by_cases hneg : n < 0
    · have e : tkc 0 (16 + ((nb n.natAbs).length : Int)) (nb n.natAbs ++ r) = (-(n.natAbs : Int), 0 + 1 + ((nb n.natAbs).length : Int), 0) := by
        rw [tkc_neg (k := (nb n.natAbs).length) (by omega) (by omega) (by omega) (by simp) hh', htk, hv, if_pos (by omega)]
      rw [if_pos hneg, e]
      simp only [if_true, Int.zero_add, Option.some.injEq, Prod.mk.injEq]
      refine ⟨by omega, ?_⟩
      rw [show (1 + ((nb n.natAbs).length : Int)).toNat = (nb n.natAbs).length + 1 from by omega, List.drop_succ_cons]
      simp
    · have e : tkc 0 ((nb n.natAbs).length : Int) (nb n.natAbs ++ r) = ((n.natAbs : Int), 0 + 1 + ((nb n.natAbs).length : Int), 0) := by
        rw [tkc_pos (by omega) (by omega) (by simp) hh', htk, hv, if_pos (by omega)]
      rw [if_neg hneg, Int.zero_add, e]
      simp only [if_true, Int.zero_add, Option.some.injEq, Prod.mk.injEq]
      refine ⟨by omega, ?_⟩
      rw [show (1 + ((nb n.natAbs).length : Int)).toNat = (nb n.natAbs).length + 1 from by omega, List.drop_succ_cons]
      simp
theorem num_bts {n : Int} (h : I64 n) : Bts (num n) := by
  intro x hx
  have h8 := nb_len (abs_lt h)
  unfold num at hx
  rw [List.mem_cons] at hx
  rcases hx with rfl | hx
  · unfold Byt; split <;> omega
  · exact nb_bytes _ x hx
theorem num_len {n : Int} (h : I64 n) : (num n).length ≤ 9 ∧ 1 ≤ (num n).length := by
  have h8 := nb_len (abs_lt h)
  unfold num; rw [List.length_cons]; omega
theorem Bts.app {a b : List Int} (h1 : Bts a) (h2 : Bts b) : Bts (a ++ b) := fun x hx => (List.mem_append.1 hx).elim (h1 x) (h2 x)
theorem Bts.of_app {a b : List Int} (h : Bts (a ++ b)) : Bts a ∧ Bts b := ⟨fun x hx => h x (List.mem_append.2 (.inl hx)), fun x hx => h x (List.mem_append.2 (.inr hx))⟩
/-- The fields' kinds: 0 a flag, 1 small, 2 great, 3 the order, 4 a length, 5 units. -/
def KD : List Nat := [0, 0, 1, 1, 1, 1, 1, 1, 2, 3, 2, 2, 4, 4, 4, 4, 4, 4, 4, 4, 4, 4, 4, 2, 2, 2, 2, 2, 2, 2, 2, 5]
def zv (κ : Nat) : List Int := match κ with | 4 => [0, 0] | 5 => [] | _ => [0]
def Sm (x : Int) : Prop := 0 ≤ x ∧ x ≤ 255
def U16 (x : Int) : Prop := 0 ≤ x ∧ x ≤ 65535
def okF (κ : Nat) (v : List Int) : Prop :=
  match κ with
  | 0 => v = [0] ∨ v = [1]
  | 1 => ∃ x, v = [x] ∧ Sm x
  | 4 => ∃ k n, v = [k, n] ∧ Sm k ∧ I64 n
  | 5 => (∀ u ∈ v, U16 u) ∧ v.length ≤ 9223372036854775807
  | _ => ∃ x, v = [x] ∧ I64 x
def u2b (u : Int) : List Int := [u / 256, u % 256]
def uBytes (us : List Int) : List Int := (us.map u2b).flatten
theorem uBytes_len (us : List Int) : (uBytes us).length = 2 * us.length := by
  induction us with
  | nil => rfl
  | cons u us ih => unfold uBytes at *; rw [List.map_cons, List.flatten_cons, List.length_append, ih]; simp [u2b]; omega
def encF (κ : Nat) (v : List Int) : List Int :=
  match κ with
  | 0 => []
  | 4 => num (v.getD 0 0) ++ num (v.getD 1 0)
  | 5 => num v.length ++ uBytes v
  | _ => num (v.getD 0 0)
/-- A style's bytes, from the field numbered k on. -/
def wrF : List Nat → Nat → List (List Int) → List Int
  | κ :: ks, k, v :: vs => (if v = zv κ then [] else (k : Int) :: encF κ v) ++ wrF ks (k + 1) vs
  | _, _, _ => [0]
/-- The style may be: each field's value is of its kind. -/
def okS : List Nat → List (List Int) → Prop
  | κ :: ks, v :: vs => okF κ v ∧ okS ks vs
  | [], [] => True
  | _, _ => False
def rdSm (l : List Int) : Option (Int × List Int) := match rdN l with
  | some (n, r) => if 0 ≤ n ∧ n ≤ 255 then some (n, r) else none
  | none => none
def rdC (l : List Int) : Option (Int × List Int) := match rdN l with
  | some (n, r) => if 0 ≤ n ∧ n ≤ (r.length : Int) then some (n, r) else none
  | none => none
def rdU : Nat → List Int → Option (List Int × List Int)
  | 0, l => some ([], l)
  | n + 1, a :: b :: l => match rdU n l with
    | some (us, r) => some ((a * 256 + b) :: us, r)
    | none => none
  | _ + 1, _ => none
def decF (κ : Nat) (l : List Int) : Option (List Int × List Int) :=
  match κ with
  | 0 => some ([1], l)
  | 1 => match rdSm l with
    | some (n, r) => if n = 0 then none else some ([n], r)
    | none => none
  | 4 => match rdSm l with
    | some (k, r) => match rdN r with
      | some (n, r') => if k = 0 ∧ n = 0 then none else some ([k, n], r')
      | none => none
    | none => none
  | 5 => match rdC l with
    | some (n, r) => if n = 0 then none else rdU n.toNat r
    | none => none
  | _ => match rdN l with
    | some (n, r) => if n = 0 then none else some ([n], r)
    | none => none
def rdF : List Nat → Nat → List Int → Option (List (List Int) × List Int)
  | [], _, 0 :: l => some ([], l)
  | [], _, _ => none
  | κ :: ks, k, b :: l =>
    if b = (k : Int) then match decF κ l with
      | some (v, r) => match rdF ks (k + 1) r with
        | some (vs, r') => some (v :: vs, r')
        | none => none
      | none => none
    else match rdF ks (k + 1) (b :: l) with
      | some (vs, r) => some (zv κ :: vs, r)
      | none => none
  | _ :: _, _, [] => none
theorem decF_o {κ : Nat} (h0 : κ ≠ 0) (h1 : κ ≠ 1) (h4 : κ ≠ 4) (h5 : κ ≠ 5) (l : List Int) : decF κ l = match rdN l with
    | some (n, r) => if n = 0 then none else some ([n], r)
    | none => none := by
  unfold decF; split <;> first | contradiction | rfl
theorem encF_o {κ : Nat} (h0 : κ ≠ 0) (h4 : κ ≠ 4) (h5 : κ ≠ 5) (v : List Int) : encF κ v = num (v.getD 0 0) := by
  unfold encF; split <;> first | contradiction | rfl
theorem zv_o {κ : Nat} (h4 : κ ≠ 4) (h5 : κ ≠ 5) : zv κ = [0] := by
  unfold zv; split <;> first | contradiction | rfl
theorem okF_o {κ : Nat} (h0 : κ ≠ 0) (h1 : κ ≠ 1) (h4 : κ ≠ 4) (h5 : κ ≠ 5) (v : List Int) : okF κ v = ∃ x, v = [x] ∧ I64 x := by
  unfold okF; split <;> first | contradiction | rfl
theorem kcase (κ : Nat) : κ = 0 ∨ κ = 1 ∨ κ = 4 ∨ κ = 5 ∨ (κ ≠ 0 ∧ κ ≠ 1 ∧ κ ≠ 4 ∧ κ ≠ 5) := by omega
theorem rdSm_num {n : Int} {r : List Int} (h : Sm n) : rdSm (num n ++ r) = some (n, r) := by
  unfold rdSm; rw [rdN_num (by unfold Sm at h; unfold I64; omega)]; exact if_pos h
theorem rdSm_sound {l r : List Int} {n : Int} (hb : Bts l) (h : rdSm l = some (n, r)) : l = num n ++ r ∧ Sm n := by
  unfold rdSm at h
  cases e : rdN l with
  | none => rw [e] at h; cases h
  | some p =>
    obtain ⟨m, q⟩ := p
    rw [e] at h
    dsimp only at h
    split at h
    · next hc =>
      injection h with h; injection h with h1 h2; subst h1 h2
      exact ⟨(rdN_sound hb e).1, hc⟩
    · cases h
theorem rdC_num {n : Nat} {r : List Int} (h : n ≤ r.length) (h2 : n ≤ 9223372036854775807) : rdC (num n ++ r) = some ((n : Int), r) := by
  unfold rdC; rw [rdN_num (by unfold I64; omega)]; exact if_pos ⟨by omega, by omega⟩
theorem rdC_sound {l r : List Int} {n : Int} (hb : Bts l) (h : rdC l = some (n, r)) : ∃ m : Nat, n = m ∧ l = num n ++ r ∧ m ≤ r.length ∧ m ≤ 9223372036854775807 := by
  unfold rdC at h
  cases e : rdN l with
  | none => rw [e] at h; cases h
  | some p =>
    obtain ⟨m, q⟩ := p
    rw [e] at h
    dsimp only at h
    split at h
    · next hc =>
      injection h with h; injection h with h1 h2; subst h1 h2
      obtain ⟨s1, s2⟩ := rdN_sound hb e
      unfold I64 at s2
      exact ⟨m.toNat, by omega, s1, by omega, by omega⟩
    · cases h
theorem rdU_enc : ∀ (us : List Int) (r : List Int), (∀ u ∈ us, U16 u) → rdU us.length (uBytes us ++ r) = some (us, r)
  | [], r, _ => rfl
  | u :: us, r, h => by
    have ih := rdU_enc us r (fun x hx => h x (List.mem_cons_of_mem _ hx))
    have hu := h u List.mem_cons_self
    unfold U16 at hu
    have e : uBytes (u :: us) ++ r = (u / 256) :: (u % 256) :: (uBytes us ++ r) := by simp [uBytes, u2b]
    rw [e, List.length_cons]
    unfold rdU
    rw [ih]
    simp only [Option.some.injEq, Prod.mk.injEq, List.cons.injEq, and_true]
    omega
theorem rdU_sound : ∀ (n : Nat) (l us r : List Int), Bts l → rdU n l = some (us, r) → us.length = n ∧ l = uBytes us ++ r ∧ ∀ u ∈ us, U16 u
  | 0, l, us, r, _, h => by
    simp only [rdU, Option.some.injEq, Prod.mk.injEq] at h
    obtain ⟨rfl, rfl⟩ := h
    exact ⟨rfl, rfl, fun u hu => by cases hu⟩
  | n + 1, [], us, r, _, h => by simp [rdU] at h
  | n + 1, [a], us, r, _, h => by simp [rdU] at h
  | n + 1, a :: b :: l, us, r, hb, h => by
    unfold rdU at h
    cases e : rdU n l with
    | none => rw [e] at h; cases h
    | some p =>
      obtain ⟨vs, q⟩ := p
      rw [e] at h
      simp only [Option.some.injEq, Prod.mk.injEq] at h
      obtain ⟨rfl, rfl⟩ := h
      have ha := hb a List.mem_cons_self
      have hb' := hb b (List.mem_cons_of_mem _ List.mem_cons_self)
      unfold Byt at ha hb'
      obtain ⟨i1, i2, i3⟩ := rdU_sound n l vs q (fun x hx => hb x (List.mem_cons_of_mem _ (List.mem_cons_of_mem _ hx))) e
      refine ⟨by rw [List.length_cons, i1], ?_, fun u hu => ?_⟩
      · rw [i2]
        simp only [uBytes, u2b, List.map_cons, List.flatten_cons, List.cons_append, List.nil_append, List.cons.injEq, true_and, and_true]
        omega
      · rcases List.mem_cons.1 hu with rfl | hu
        · unfold U16; omega
        · exact i3 u hu
theorem decF_enc {κ : Nat} {v r : List Int} (h : okF κ v) (hz : v ≠ zv κ) : decF κ (encF κ v ++ r) = some (v, r) := by
  rcases kcase κ with rfl | rfl | rfl | rfl | ⟨h0, h1, h4, h5⟩
  · rcases h with rfl | rfl
    · exact absurd rfl hz
    · rfl
  · obtain ⟨x, rfl, hx⟩ := h
    show (match rdSm (num x ++ r) with | some (n, r) => if n = 0 then none else some ([n], r) | none => none) = _
    rw [rdSm_num hx]
    exact if_neg (fun e => hz (by rw [e]; rfl))
  · obtain ⟨k, n, rfl, hk, hn⟩ := h
    show (match rdSm (num k ++ num n ++ r) with | some (k, r) => (match rdN r with | some (n, r') => if k = 0 ∧ n = 0 then none else some ([k, n], r') | none => none) | none => none) = _
    rw [List.append_assoc, rdSm_num hk]
    dsimp only
    rw [rdN_num hn]
    exact if_neg (fun e => hz (by rw [e.1, e.2]; rfl))
  · obtain ⟨hu, hl⟩ := h
    show (match rdC (num v.length ++ uBytes v ++ r) with | some (n, r) => if n = 0 then none else rdU n.toNat r | none => none) = _
    rw [List.append_assoc, rdC_num (by rw [List.length_append, uBytes_len]; omega) hl]
    dsimp only
    rw [if_neg (fun e => hz (List.eq_nil_of_length_eq_zero (by omega))), Int.toNat_natCast]
    exact rdU_enc v r hu
  · rw [okF_o h0 h1 h4 h5] at h
    rw [zv_o h4 h5] at hz
    obtain ⟨x, rfl, hx⟩ := h
    rw [decF_o h0 h1 h4 h5, encF_o h0 h4 h5]
    show (match rdN (num x ++ r) with | some (n, r) => if n = 0 then none else some ([n], r) | none => none) = _
    rw [rdN_num hx]
    exact if_neg (fun e => hz (by rw [e]))
theorem decF_sound {κ : Nat} {l v r : List Int} (hb : Bts l) (h : decF κ l = some (v, r)) : l = encF κ v ++ r ∧ okF κ v ∧ v ≠ zv κ := by
  rcases kcase κ with rfl | rfl | rfl | rfl | ⟨h0, h1, h4, h5⟩
  · simp only [decF, Option.some.injEq, Prod.mk.injEq] at h
    obtain ⟨rfl, rfl⟩ := h
    exact ⟨rfl, .inr rfl, by decide⟩
  · simp only [decF] at h
    cases e : rdSm l with
    | none => rw [e] at h; cases h
    | some p =>
      obtain ⟨n, q⟩ := p
      rw [e] at h
      dsimp only at h
      split at h
      · cases h
      · next hn =>
        injection h with h; injection h with h1 h2; subst h1 h2
        obtain ⟨s1, s2⟩ := rdSm_sound hb e
        exact ⟨s1, ⟨n, rfl, s2⟩, fun e => hn (by simpa [zv] using e)⟩
  · simp only [decF] at h
    cases e : rdSm l with
    | none => rw [e] at h; cases h
    | some p =>
      obtain ⟨k, q⟩ := p
      rw [e] at h
      dsimp only at h
      obtain ⟨s1, s2⟩ := rdSm_sound hb e
      have hq : Bts q := (Bts.of_app (s1 ▸ hb)).2
      cases e2 : rdN q with
      | none => rw [e2] at h; cases h
      | some p2 =>
        obtain ⟨n, q2⟩ := p2
        rw [e2] at h
        dsimp only at h
        split at h
        · cases h
        · next hn =>
          injection h with h; injection h with h1 h2; subst h1 h2
          obtain ⟨s3, s4⟩ := rdN_sound hq e2
          refine ⟨?_, ⟨k, n, rfl, s2, s4⟩, fun e => hn (by simpa [zv] using e)⟩
          show l = num k ++ num n ++ q2
          rw [List.append_assoc, ← s3]; exact s1
  · simp only [decF] at h
    cases e : rdC l with
    | none => rw [e] at h; cases h
    | some p =>
      obtain ⟨n, q⟩ := p
      rw [e] at h
      dsimp only at h
      split at h
      · cases h
      · next hn =>
        obtain ⟨m, rfl, s1, s2, s3⟩ := rdC_sound hb e
        rw [Int.toNat_natCast] at h
        obtain ⟨i1, i2, i3⟩ := rdU_sound m q v r (Bts.of_app (s1 ▸ hb)).2 h
        refine ⟨?_, ⟨i3, by omega⟩, fun e => hn (by rw [e] at i1; rw [← i1]; rfl)⟩
        show l = num v.length ++ uBytes v ++ r
        rw [i1, List.append_assoc, ← i2]; exact s1
  · rw [decF_o h0 h1 h4 h5] at h
    cases e : rdN l with
    | none => rw [e] at h; cases h
    | some p =>
      obtain ⟨n, q⟩ := p
      rw [e] at h
      dsimp only at h
      split at h
      · cases h
      · next hn =>
        injection h with h; injection h with h1' h2'; subst h1' h2'
        obtain ⟨s1, s2⟩ := rdN_sound hb e
        rw [okF_o h0 h1 h4 h5, zv_o h4 h5, encF_o h0 h4 h5]
        exact ⟨s1, ⟨n, rfl, s2⟩, fun e => hn (by simpa using e)⟩
theorem encF_bts {κ : Nat} {v : List Int} (h : okF κ v) : Bts (encF κ v) := by
  rcases kcase κ with rfl | rfl | rfl | rfl | ⟨h0, h1, h4, h5⟩
  · intro x hx; cases hx
  · obtain ⟨x, rfl, hx⟩ := h
    exact num_bts (by unfold Sm at hx; show I64 x; unfold I64; omega)
  · obtain ⟨k, n, rfl, hk, hn⟩ := h
    exact Bts.app (num_bts (by unfold Sm at hk; show I64 k; unfold I64; omega)) (num_bts hn)
  · obtain ⟨hu, hl⟩ := h
    refine Bts.app (num_bts (by unfold I64; omega)) (fun x hx => ?_)
    unfold uBytes at hx
    rw [List.mem_flatten] at hx
    obtain ⟨q, hq, hx⟩ := hx
    rw [List.mem_map] at hq
    obtain ⟨u, hu', rfl⟩ := hq
    have := hu u hu'
    unfold U16 at this
    simp only [u2b, List.mem_cons, List.not_mem_nil, or_false] at hx
    unfold Byt
    omega
  · rw [okF_o h0 h1 h4 h5] at h
    obtain ⟨x, rfl, hx⟩ := h
    rw [encF_o h0 h4 h5]
    exact num_bts hx
theorem zv_ok (κ : Nat) : okF κ (zv κ) := by
  rcases kcase κ with rfl | rfl | rfl | rfl | ⟨h0, h1, h4, h5⟩
  · exact .inl rfl
  · exact ⟨0, rfl, by unfold Sm; omega⟩
  · exact ⟨0, 0, rfl, by unfold Sm; omega, by unfold I64; omega⟩
  · exact ⟨fun u hu => (by cases hu), by simp [zv]⟩
  · rw [okF_o h0 h1 h4 h5, zv_o h4 h5]
    exact ⟨0, rfl, by unfold I64; omega⟩
theorem wrF_head {ks : List Nat} {k : Nat} {vs : List (List Int)} (h : okS ks vs) : ∃ b l, wrF ks k vs = b :: l ∧ (b = 0 ∨ ∃ j : Nat, b = j ∧ k ≤ j) := by
  induction ks generalizing k vs with
  | nil => cases vs with
    | nil => exact ⟨0, [], rfl, .inl rfl⟩
    | cons v vs => exact h.elim
  | cons κ ks ih => cases vs with
    | nil => exact h.elim
    | cons v vs =>
      unfold wrF
      by_cases hz : v = zv κ
      · rw [if_pos hz, List.nil_append]
        obtain ⟨b, l, h1, h2⟩ := ih (k := k + 1) h.2
        exact ⟨b, l, h1, h2.imp id (fun ⟨j, h3, h4⟩ => ⟨j, h3, by omega⟩)⟩
      · rw [if_neg hz]; exact ⟨k, _, rfl, .inr ⟨k, rfl, Nat.le_refl _⟩⟩
theorem rdF_wrF {ks : List Nat} {k : Nat} {vs : List (List Int)} {r : List Int} (hk : 1 ≤ k) (h : okS ks vs) : rdF ks k (wrF ks k vs ++ r) = some (vs, r) := by
  induction ks generalizing k vs with
  | nil => cases vs with
    | nil => rfl
    | cons v vs => exact h.elim
  | cons κ ks ih => cases vs with
    | nil => exact h.elim
    | cons v vs =>
      unfold wrF
      by_cases hz : v = zv κ
      · rw [if_pos hz, List.nil_append]
        have i := ih (k := k + 1) (by omega) h.2
        obtain ⟨b, l, h1, h2⟩ := wrF_head (k := k + 1) h.2
        rw [h1, List.cons_append] at i ⊢
        unfold rdF
        rw [if_neg (by rcases h2 with rfl | ⟨j, rfl, hj⟩ <;> omega), i, hz]
      · rw [if_neg hz, List.cons_append, List.cons_append, List.append_assoc]
        unfold rdF
        rw [if_pos rfl, decF_enc h.1 hz]
        dsimp only
        rw [ih (by omega) h.2]
theorem rdF_sound {ks : List Nat} {k : Nat} {vs : List (List Int)} {l r : List Int} (hb : Bts l) (h : rdF ks k l = some (vs, r)) : l = wrF ks k vs ++ r ∧ okS ks vs := by
  induction ks generalizing k vs l with
  | nil => cases l with
    | nil => simp [rdF] at h
    | cons b l =>
      by_cases hb0 : b = 0
      · subst hb0
        simp only [rdF, Option.some.injEq, Prod.mk.injEq] at h
        obtain ⟨rfl, rfl⟩ := h
        exact ⟨rfl, trivial⟩
      · exfalso
        unfold rdF at h
        split at h
        · next e1 e2 => simp_all
        · cases h
        all_goals simp_all
  | cons κ ks ih => cases l with
    | nil => simp [rdF] at h
    | cons b l =>
      unfold rdF at h
      by_cases hbk : b = (k : Int)
      · rw [if_pos hbk] at h
        cases e : decF κ l with
        | none => rw [e] at h; cases h
        | some p =>
          obtain ⟨v, q⟩ := p
          rw [e] at h
          dsimp only at h
          have hbl : Bts l := fun x hx => hb x (List.mem_cons_of_mem _ hx)
          obtain ⟨s1, s2, s3⟩ := decF_sound hbl e
          cases e2 : rdF ks (k + 1) q with
          | none => rw [e2] at h; cases h
          | some p2 =>
            obtain ⟨ws, q2⟩ := p2
            rw [e2] at h
            simp only [Option.some.injEq, Prod.mk.injEq] at h
            obtain ⟨rfl, rfl⟩ := h
            obtain ⟨i1, i2⟩ := ih (Bts.of_app (s1 ▸ hbl)).2 e2
            refine ⟨?_, s2, i2⟩
            unfold wrF
            rw [if_neg s3, hbk, s1, i1]
            simp
      · rw [if_neg hbk] at h
        cases e2 : rdF ks (k + 1) (b :: l) with
        | none => rw [e2] at h; cases h
        | some p2 =>
          obtain ⟨ws, q2⟩ := p2
          rw [e2] at h
          simp only [Option.some.injEq, Prod.mk.injEq] at h
          obtain ⟨rfl, rfl⟩ := h
          obtain ⟨i1, i2⟩ := ih hb e2
          refine ⟨?_, zv_ok κ, i2⟩
          unfold wrF
          rw [if_pos rfl, List.nil_append]
          exact i1
theorem wrF_bts {ks : List Nat} {k : Nat} {vs : List (List Int)} (hk : k + ks.length ≤ 256) (h : okS ks vs) : Bts (wrF ks k vs) := by
  induction ks generalizing k vs with
  | nil => cases vs with
    | nil => intro x hx; simp [wrF] at hx; subst hx; unfold Byt; omega
    | cons v vs => exact h.elim
  | cons κ ks ih => cases vs with
    | nil => exact h.elim
    | cons v vs =>
      rw [List.length_cons] at hk
      unfold wrF
      refine Bts.app ?_ (ih (by omega) h.2)
      split
      · intro x hx; cases hx
      · intro x hx
        rcases List.mem_cons.1 hx with rfl | hx
        · unfold Byt; omega
        · exact encF_bts h.1 x hx
def rdL {α : Type} (rd : List Int → Option (α × List Int)) : Nat → List Int → Option (List α × List Int)
  | 0, l => some ([], l)
  | n + 1, l => match rd l with
    | some (x, r) => match rdL rd n r with
      | some (xs, r') => some (x :: xs, r')
      | none => none
    | none => none
section
variable {α : Type} {rd : List Int → Option (α × List Int)} {wr : α → List Int} {ok : α → Prop}
theorem rdL_wr (hc : ∀ x r, ok x → rd (wr x ++ r) = some (x, r)) : ∀ (xs : List α) (r : List Int), (∀ x ∈ xs, ok x) → rdL rd xs.length ((xs.map wr).flatten ++ r) = some (xs, r)
  | [], _, _ => rfl
  | x :: xs, r, h => by
    have ih := rdL_wr hc xs r (fun y hy => h y (List.mem_cons_of_mem _ hy))
    rw [List.length_cons, List.map_cons, List.flatten_cons, List.append_assoc]
    unfold rdL
    rw [hc x _ (h x List.mem_cons_self)]
    dsimp only
    rw [ih]
theorem rdL_sound (hs : ∀ l x r, Bts l → rd l = some (x, r) → l = wr x ++ r ∧ ok x) : ∀ (n : Nat) (l : List Int) (xs : List α) (r : List Int), Bts l → rdL rd n l = some (xs, r) → xs.length = n ∧ l = (xs.map wr).flatten ++ r ∧ ∀ x ∈ xs, ok x
  | 0, l, xs, r, _, h => by
    simp only [rdL, Option.some.injEq, Prod.mk.injEq] at h
    obtain ⟨rfl, rfl⟩ := h
    exact ⟨rfl, rfl, fun u hu => by cases hu⟩
  | n + 1, l, xs, r, hb, h => by
    unfold rdL at h
    cases e : rd l with
    | none => rw [e] at h; cases h
    | some p =>
      obtain ⟨x, q⟩ := p
      rw [e] at h
      dsimp only at h
      obtain ⟨s1, s2⟩ := hs l x q hb e
      cases e2 : rdL rd n q with
      | none => rw [e2] at h; cases h
      | some p2 =>
        obtain ⟨ys, q2⟩ := p2
        rw [e2] at h
        simp only [Option.some.injEq, Prod.mk.injEq] at h
        obtain ⟨rfl, rfl⟩ := h
        obtain ⟨i1, i2, i3⟩ := rdL_sound hs n q ys q2 (Bts.of_app (s1 ▸ hb)).2 e2
        refine ⟨by rw [List.length_cons, i1], ?_, fun u hu => ?_⟩
        · rw [List.map_cons, List.flatten_cons, List.append_assoc, ← i2]; exact s1
        · rcases List.mem_cons.1 hu with rfl | hu
          · exact s2
          · exact i3 u hu
theorem flat_ge (h1 : ∀ x, ok x → 1 ≤ (wr x).length) : ∀ (xs : List α), (∀ x ∈ xs, ok x) → xs.length ≤ (xs.map wr).flatten.length
  | [], _ => by simp
  | x :: xs, h => by
    have ih := flat_ge h1 xs (fun y hy => h y (List.mem_cons_of_mem _ hy))
    have := h1 x (h x List.mem_cons_self)
    rw [List.map_cons, List.flatten_cons, List.length_append, List.length_cons]; omega
theorem flat_bts (h1 : ∀ x, ok x → Bts (wr x)) (xs : List α) (h : ∀ x ∈ xs, ok x) : Bts (xs.map wr).flatten := by
  intro y hy
  rw [List.mem_flatten] at hy
  obtain ⟨q, hq, hy⟩ := hy
  rw [List.mem_map] at hq
  obtain ⟨x, hx, rfl⟩ := hq
  exact h1 x (h x hx) y hy
end
abbrev Nd := Int × List (List Int)
structure Tr where
  view : Int
  adv : List Int
  nodes : List Nd
def okN (n : Nd) : Prop := I64 n.1 ∧ okS KD n.2
structure okT (T : Tr) : Prop where
  view : I64 T.view
  adv : ∀ a ∈ T.adv, I64 a
  nadv : T.adv.length ≤ 9223372036854775807
  nodes : ∀ n ∈ T.nodes, okN n
  nnodes : T.nodes.length ≤ 9223372036854775807
def wrN (n : Nd) : List Int := num n.1 ++ wrF KD 1 n.2
def wrT (T : Tr) : List Int := num T.view ++ (num T.adv.length ++ ((T.adv.map num).flatten ++ (num T.nodes.length ++ (T.nodes.map wrN).flatten)))
def rdNd (l : List Int) : Option (Nd × List Int) := match rdN l with
  | some (p, r) => match rdF KD 1 r with
    | some (s, r') => some ((p, s), r')
    | none => none
  | none => none
/-- The nodes part. -/
def rdP3 (v : Int) (av : List Int) (l : List Int) : Option (Tr × List Int) := match rdC l with
  | some (k, r) => match rdL rdNd k.toNat r with
    | some (ns, r') => some (⟨v, av, ns⟩, r')
    | none => none
  | none => none
def rdP2 (v : Int) (l : List Int) : Option (Tr × List Int) := match rdC l with
  | some (m, r) => match rdL rdN m.toNat r with
    | some (av, r') => rdP3 v av r'
    | none => none
  | none => none
def rdP (l : List Int) : Option (Tr × List Int) := match rdN l with
  | some (v, r) => rdP2 v r
  | none => none
def rdT (l : List Int) : Option Tr := match rdP l with
  | some (T, r) => if r = [] then some T else none
  | none => none
theorem rdNd_wr (n : Nd) (r : List Int) (h : okN n) : rdNd (wrN n ++ r) = some (n, r) := by
  unfold rdNd wrN
  rw [List.append_assoc, rdN_num h.1]
  dsimp only
  rw [rdF_wrF (by omega) h.2]
theorem rdNd_sound (l : List Int) (n : Nd) (r : List Int) (hb : Bts l) (h : rdNd l = some (n, r)) : l = wrN n ++ r ∧ okN n := by
  unfold rdNd at h
  cases e : rdN l with
  | none => rw [e] at h; cases h
  | some p =>
    obtain ⟨x, q⟩ := p
    rw [e] at h
    dsimp only at h
    obtain ⟨s1, s2⟩ := rdN_sound hb e
    cases e2 : rdF KD 1 q with
    | none => rw [e2] at h; cases h
    | some p2 =>
      obtain ⟨ys, q2⟩ := p2
      rw [e2] at h
      simp only [Option.some.injEq, Prod.mk.injEq] at h
      obtain ⟨rfl, rfl⟩ := h
      obtain ⟨i1, i2⟩ := rdF_sound (Bts.of_app (s1 ▸ hb)).2 e2
      refine ⟨?_, s2, i2⟩
      unfold wrN
      rw [List.append_assoc, ← i1]; exact s1
theorem wrN_len {n : Nd} (h : okN n) : 1 ≤ (wrN n).length := by
  have := (num_len h.1).2
  unfold wrN; rw [List.length_append]; omega
theorem wrN_bts {n : Nd} (h : okN n) : Bts (wrN n) := Bts.app (num_bts h.1) (wrF_bts (by decide) h.2)
theorem rdP_wr {T : Tr} {r : List Int} (h : okT T) : rdP (wrT T ++ r) = some (T, r) := by
  obtain ⟨v, av, ns⟩ := T
  obtain ⟨h1, h2, h3, h4, h5⟩ := h
  dsimp only at h1 h2 h3 h4 h5
  unfold rdP wrT
  simp only [List.append_assoc]
  rw [rdN_num h1]
  dsimp only
  unfold rdP2
  have l1 := flat_ge (wr := num) (ok := I64) (fun x hx => (num_len hx).2) av h2
  have l2 := flat_ge (wr := wrN) (ok := okN) (fun x hx => wrN_len hx) ns h4
  rw [rdC_num (by simp only [List.length_append]; omega) h3]
  dsimp only
  rw [Int.toNat_natCast, rdL_wr (wr := num) (ok := I64) (fun x r hx => rdN_num hx) av _ h2]
  dsimp only
  unfold rdP3
  rw [rdC_num (by simp only [List.length_append]; omega) h5]
  dsimp only
  rw [Int.toNat_natCast, rdL_wr (wr := wrN) (ok := okN) rdNd_wr ns _ h4]
theorem rdP_sound {T : Tr} {l r : List Int} (hb : Bts l) (h : rdP l = some (T, r)) : l = wrT T ++ r ∧ okT T := by
  unfold rdP at h
  cases e : rdN l with
  | none => rw [e] at h; cases h
  | some p =>
    obtain ⟨v, q⟩ := p
    rw [e] at h
    dsimp only at h
    obtain ⟨s1, s2⟩ := rdN_sound hb e
    have hq := (Bts.of_app (s1 ▸ hb)).2
    unfold rdP2 at h
    cases e2 : rdC q with
    | none => rw [e2] at h; cases h
    | some p2 =>
      obtain ⟨m, q2⟩ := p2
      rw [e2] at h
      dsimp only at h
      obtain ⟨m', rfl, t1, t2, t3⟩ := rdC_sound hq e2
      rw [Int.toNat_natCast] at h
      have hq2 := (Bts.of_app (t1 ▸ hq)).2
      cases e3 : rdL rdN m' q2 with
      | none => rw [e3] at h; cases h
      | some p3 =>
        obtain ⟨av, q3⟩ := p3
        rw [e3] at h
        dsimp only at h
        obtain ⟨u1, u2, u3⟩ := rdL_sound (wr := num) (ok := I64) (fun l x r hb h => rdN_sound hb h) m' q2 av q3 hq2 e3
        have hq3 := (Bts.of_app (u2 ▸ hq2)).2
        unfold rdP3 at h
        cases e4 : rdC q3 with
        | none => rw [e4] at h; cases h
        | some p4 =>
          obtain ⟨k, q4⟩ := p4
          rw [e4] at h
          dsimp only at h
          obtain ⟨k', rfl, x1, x2, x3⟩ := rdC_sound hq3 e4
          rw [Int.toNat_natCast] at h
          have hq4 := (Bts.of_app (x1 ▸ hq3)).2
          cases e5 : rdL rdNd k' q4 with
          | none => rw [e5] at h; cases h
          | some p5 =>
            obtain ⟨ns, q5⟩ := p5
            rw [e5] at h
            simp only [Option.some.injEq, Prod.mk.injEq] at h
            obtain ⟨rfl, rfl⟩ := h
            obtain ⟨y1, y2, y3⟩ := rdL_sound (wr := wrN) (ok := okN) rdNd_sound k' q4 ns q5 hq4 e5
            refine ⟨?_, s2, u3, by rw [u1]; exact t3, y3, by rw [y1]; exact x3⟩
            unfold wrT
            dsimp only
            rw [u1, y1]
            simp only [List.append_assoc]
            rw [← y2, ← x1, ← u2, ← t1]
            exact s1
theorem rdT_wr {T : Tr} (h : okT T) : rdT (wrT T) = some T := by
  unfold rdT
  have := rdP_wr (r := []) h
  rw [List.append_nil] at this
  rw [this]; exact if_pos rfl
theorem rdT_sound {T : Tr} {l : List Int} (hb : Bts l) (h : rdT l = some T) : l = wrT T ∧ okT T := by
  unfold rdT at h
  cases e : rdP l with
  | none => rw [e] at h; cases h
  | some p =>
    obtain ⟨T', r⟩ := p
    rw [e] at h
    dsimp only at h
    split at h
    · next hr =>
      injection h with h
      subst h hr
      obtain ⟨h1, h2⟩ := rdP_sound hb e
      exact ⟨by rw [h1, List.append_nil], h2⟩
    · cases h
/-- With anything behind them they are none's; and their beginnings are none's. -/
theorem rdT_more {T : Tr} {l m : List Int} (hb : Bts l) (h : rdT l = some T) (hm : m ≠ []) : rdT (l ++ m) = none := by
  obtain ⟨h1, h2⟩ := rdT_sound hb h
  unfold rdT
  rw [h1, rdP_wr h2]
  exact if_neg hm
theorem rdT_less {T : Tr} {l : List Int} (hb : Bts l) (h : rdT l = some T) {i : Nat} (hi : i < l.length) : rdT (l.take i) = none := by
  cases e : rdT (l.take i) with
  | none => rfl
  | some T' =>
    have := rdT_more (m := l.drop i) (fun x hx => hb x (List.mem_of_mem_take hx)) e (fun e => by have := congrArg List.length e; rw [List.length_drop] at this; simp at this; omega)
    rw [List.take_append_drop, h] at this
    cases this
theorem wrT_inj {T U : Tr} (hT : okT T) (hU : okT U) (h : wrT T = wrT U) : T = U := by
  have := rdT_wr hT
  rw [h, rdT_wr hU] at this
  injection this with this
  exact this.symm
theorem wrT_bts {T : Tr} (h : okT T) : Bts (wrT T) := by
  obtain ⟨h1, h2, h3, h4, h5⟩ := h
  unfold wrT
  exact (num_bts h1).app ((num_bts (by unfold I64; omega)).app ((flat_bts (ok := I64) (fun x hx => num_bts hx) _ h2).app ((num_bts (by unfold I64; omega)).app (flat_bts (ok := okN) (fun x hx => wrN_bts hx) _ h4))))
end Go.Proofs.Ytmngndmcidbakaa
