/- The document's parser, that takes more, as plain lists: what it reads, once it is written again and is the same, is what the strict one reads. What the document's parser reads, written again and compared, is what the strict one reads; how long its bytes are. Walk: the document's edge. Walk: the document's set. Walk: the document's style: what it needs. A node put together out of its parent and its style. -/
import Derived.Test.YtmngndmcidbakaaPs
import Derived.Test.YtmngndmcidbakaaZK
import Derived.Test.YtmngndmcidbakaaYX
import Derived.BigRegion
import Derived.Test.YtmngndmcidbakaaSW
import Derived.Test.YtmngndmcidbakaaYC
import Derived.Test.YtmngndmcidbakaaZC
namespace Go.Proofs.Ytmngndmcidbakaa
open Go.RowKit
/-- A field's value, out of the numbers that were read. -/
def fvL (κ : Nat) (v : List Int) : List Int :=
  match κ with
  | 0 => [1]
  | 1 => [v.getD 0 0 % 256]
  | 4 => [v.getD 0 0 % 256, v.getD 1 0]
  | _ => [v.getD 0 0]
/-- Of how many numbers a field's value is. -/
def cnt (κ : Nat) : Nat := match κ with | 0 => 0 | 4 => 2 | _ => 1
def lnF (κ : Nat) (l : List Int) : Option (List Int × List Int) :=
  if κ = 5 then match rdN l with
    | some (n, r) => if 0 ≤ n ∧ 2 * n ≤ (r.length : Int) then rdU n.toNat r else none
    | none => none
  else (rdL rdN (cnt κ) l).map fun p => (fvL κ p.1, p.2)
def lnS : Nat → List (List Int) → List Int → Option (List (List Int) × List Int)
  | 0, _, _ => none
  | _ + 1, _, [] => none
  | n + 1, L, b :: q => if b = 0 then some (L, q) else if 32 < b then none else
      match lnF (KD.getD (b.toNat - 1) 9) q with
      | some (v, r) => lnS n (L.set (b.toNat - 1) v) r
      | none => none
theorem lnS_zero (n : Nat) (L : List (List Int)) (q : List Int) : lnS (n + 1) L (0 :: q) = some (L, q) := by rw [lnS]; exact if_pos rfl
theorem lnS_big (n : Nat) (L : List (List Int)) (b : Int) (q : List Int) (h : 32 < b) : lnS (n + 1) L (b :: q) = none := by
  rw [lnS, if_neg (by omega), if_pos h]
theorem lnS_step (n : Nat) (L : List (List Int)) (j : Nat) (q : List Int) (h : j < 32) : lnS (n + 1) L (((j : Int) + 1) :: q) = match lnF (KD.getD j 9) q with
      | some (v, r) => lnS n (L.set j v) r
      | none => none := by
  rw [lnS, if_neg (by omega), if_neg (by omega), show ((j : Int) + 1).toNat - 1 = j from by omega]
def lnNd (l : List Int) : Option (Nd × List Int) := match rdN l with
  | some (p, r) => match lnS (r.length + 1) (KD.map zv) r with
    | some (s, r') => some ((p, s), r')
    | none => none
  | none => none
def lnP3 (B : Nat) (v : Int) (av : List Int) (l : List Int) : Option (Tr × List Int) := match rdN l with
  | some (k, r) => if 0 ≤ k ∧ k ≤ (B : Int) then match rdL lnNd k.toNat r with
    | some (ns, r') => some (⟨v, av, ns⟩, r')
    | none => none
    else none
  | none => none
def lnP2 (B : Nat) (v : Int) (l : List Int) : Option (Tr × List Int) := match rdN l with
  | some (m, r) => if 0 ≤ m ∧ m ≤ (B : Int) then match rdL rdN m.toNat r with
    | some (av, r') => lnP3 B v av r'
    | none => none
    else none
  | none => none
/-- What the document's parser reads, ahead of writing it again. -/
def lnP (b : List Int) : Option (Tr × List Int) := match rdN b with
  | some (v, r) => lnP2 b.length v r
  | none => none
theorem kd_lt : ∀ j, j < 32 → KD.getD j 9 < 6 := by decide
theorem kd_31 : ∀ j, j < 32 → (KD.getD j 9 = 5 ↔ j = 31) := by decide
theorem lnF_sound {κ : Nat} {l v r : List Int} (hk : κ < 6) (hb : Bts l) (hl : l.length ≤ 9223372036854775807) (h : lnF κ l = some (v, r)) : okF κ v ∧ Bts r ∧ r.length ≤ l.length ∧ (κ = 5 → 2 * v.length + r.length ≤ l.length) := by
  unfold lnF at h
  by_cases h5 : κ = 5
  · subst h5
    rw [if_pos rfl] at h
    cases e : rdN l with
    | none => rw [e] at h; cases h
    | some p =>
      obtain ⟨n, q⟩ := p
      rw [e] at h
      dsimp only at h
      split at h
      · next hc =>
        obtain ⟨s1, s2⟩ := rdN_sound hb e
        have hq := (Bts.of_app (s1 ▸ hb)).2
        obtain ⟨u1, u2, u3⟩ := rdU_sound _ _ _ _ hq h
        have hlq : q.length ≤ l.length := by rw [s1, List.length_append]; omega
        have hlr : q.length = 2 * v.length + r.length := by
          conv => lhs; rw [u2]
          rw [List.length_append, uBytes_len]
        refine ⟨⟨u3, by omega⟩, (Bts.of_app (u2 ▸ hq)).2, by omega, fun _ => by omega⟩
      · cases h
  · rw [if_neg h5] at h
    cases e : rdL rdN (cnt κ) l with
    | none => rw [e] at h; cases h
    | some p =>
      obtain ⟨xs, q⟩ := p
      rw [e] at h
      simp only [Option.map_some, Option.some.injEq, Prod.mk.injEq] at h
      obtain ⟨rfl, rfl⟩ := h
      obtain ⟨s1, s2, s3⟩ := rdL_sound (wr := num) (ok := I64) (fun l x r hb h => rdN_sound hb h) _ _ _ _ hb e
      refine ⟨?_, (Bts.of_app (s2 ▸ hb)).2, by rw [s2, List.length_append]; omega, fun h => absurd h h5⟩
      have hx : ∀ i, i < xs.length → I64 (xs.getD i 0) := fun i hi => by
        rw [List.getD_eq_getElem?_getD, List.getElem?_eq_getElem hi]; exact s3 _ (List.getElem_mem hi)
      have h256 : ∀ x : Int, Sm (x % 256) := fun x => by unfold Sm; omega
      match κ, hk, s1 with
      | 0, _, _ => exact .inr rfl
      | 1, _, _ => exact ⟨_, rfl, h256 _⟩
      | 2, _, s1 => exact ⟨_, rfl, hx 0 (by rw [s1]; decide)⟩
      | 3, _, s1 => exact ⟨_, rfl, hx 0 (by rw [s1]; decide)⟩
      | 4, _, s1 => exact ⟨_, _, rfl, h256 _, hx 1 (by rw [s1]; decide)⟩
      | 5, _, _ => exact absurd rfl h5
theorem rdL_one {l : List Int} : rdL rdN 1 l = (rdN l).map fun p => ([p.1], p.2) := by
  unfold rdL
  cases rdN l with
  | none => rfl
  | some p => rfl
theorem rdL_two {l : List Int} : rdL rdN 2 l = match rdN l with
    | some (x, r) => (rdN r).map fun p => ([x, p.1], p.2)
    | none => none := by
  unfold rdL
  cases rdN l with
  | none => rfl
  | some p =>
    obtain ⟨x, r⟩ := p
    dsimp only
    rw [rdL_one]
    cases rdN r <;> rfl
theorem rdU_len : ∀ (n : Nat) (l us r : List Int), rdU n l = some (us, r) → 2 * n ≤ l.length
  | 0, _, _, _, _ => by omega
  | n + 1, [], _, _, h => by cases h
  | n + 1, [_], _, _, h => by cases h
  | n + 1, a :: b :: l, us, r, h => by
    unfold rdU at h
    cases e : rdU n l with
    | none => rw [e] at h; cases h
    | some p =>
      obtain ⟨vs, q⟩ := p
      have := rdU_len n l vs q e
      simp only [List.length_cons]; omega
theorem decF_lnF {κ : Nat} {l v r : List Int} (hk : κ < 6) (h : decF κ l = some (v, r)) : lnF κ l = some (v, r) := by
  unfold lnF
  match κ, hk with
  | 0, _ =>
    rw [if_neg (by decide)]
    unfold decF at h
    simp only [Option.some.injEq, Prod.mk.injEq] at h
    obtain ⟨rfl, rfl⟩ := h
    rfl
  | 1, _ =>
    rw [if_neg (by decide)]
    show Option.map _ (rdL rdN 1 l) = _
    rw [rdL_one]
    unfold decF rdSm at h
    cases e : rdN l with
    | none => rw [e] at h; cases h
    | some p =>
      obtain ⟨n, q⟩ := p
      rw [e] at h
      dsimp only at h
      by_cases hc : 0 ≤ n ∧ n ≤ 255
      · rw [if_pos hc] at h
        dsimp only at h
        by_cases h0 : n = 0
        · rw [if_pos h0] at h; cases h
        · rw [if_neg h0] at h
          simp only [Option.some.injEq, Prod.mk.injEq] at h
          obtain ⟨rfl, rfl⟩ := h
          simp only [Option.map_some, fvL, List.getD_cons_zero, Option.some.injEq, Prod.mk.injEq, and_true]
          rw [show n % 256 = n from by omega]
      · rw [if_neg hc] at h; cases h
  | 2, _ =>
    rw [if_neg (by decide)]
    show Option.map _ (rdL rdN 1 l) = _
    rw [rdL_one]
    rw [decF_o (by decide) (by decide) (by decide) (by decide)] at h
    cases e : rdN l with
    | none => rw [e] at h; cases h
    | some p =>
      obtain ⟨n, q⟩ := p
      rw [e] at h
      dsimp only at h
      by_cases h0 : n = 0
      · rw [if_pos h0] at h; cases h
      · rw [if_neg h0] at h
        simp only [Option.some.injEq, Prod.mk.injEq] at h
        obtain ⟨rfl, rfl⟩ := h
        rfl
  | 3, _ =>
    rw [if_neg (by decide)]
    show Option.map _ (rdL rdN 1 l) = _
    rw [rdL_one]
    rw [decF_o (by decide) (by decide) (by decide) (by decide)] at h
    cases e : rdN l with
    | none => rw [e] at h; cases h
    | some p =>
      obtain ⟨n, q⟩ := p
      rw [e] at h
      dsimp only at h
      by_cases h0 : n = 0
      · rw [if_pos h0] at h; cases h
      · rw [if_neg h0] at h
        simp only [Option.some.injEq, Prod.mk.injEq] at h
        obtain ⟨rfl, rfl⟩ := h
        rfl
  | 4, _ =>
    rw [if_neg (by decide)]
    show Option.map _ (rdL rdN 2 l) = _
    rw [rdL_two]
    unfold decF rdSm at h
    cases e : rdN l with
    | none => rw [e] at h; cases h
    | some p =>
      obtain ⟨k, q⟩ := p
      rw [e] at h
      dsimp only at h
      by_cases hc : 0 ≤ k ∧ k ≤ 255
      · rw [if_pos hc] at h
        dsimp only at h
        cases e2 : rdN q with
        | none => rw [e2] at h; cases h
        | some p2 =>
          obtain ⟨n, q2⟩ := p2
          rw [e2] at h
          dsimp only at h
          by_cases h0 : k = 0 ∧ n = 0
          · rw [if_pos h0] at h; cases h
          · rw [if_neg h0] at h
            simp only [Option.some.injEq, Prod.mk.injEq] at h
            obtain ⟨rfl, rfl⟩ := h
            dsimp only
            rw [e2]
            simp only [Option.map_some, fvL, List.getD_cons_zero, List.getD_cons_succ, Option.some.injEq, Prod.mk.injEq, and_true]
            rw [show k % 256 = k from by omega]
      · rw [if_neg hc] at h; cases h
  | 5, _ =>
    rw [if_pos rfl]
    unfold decF rdC at h
    cases e : rdN l with
    | none => rw [e] at h; cases h
    | some p =>
      obtain ⟨n, q⟩ := p
      rw [e] at h
      dsimp only at h
      by_cases hc : 0 ≤ n ∧ n ≤ (q.length : Int)
      · rw [if_pos hc] at h
        dsimp only at h
        by_cases h0 : n = 0
        · rw [if_pos h0] at h; cases h
        · rw [if_neg h0] at h
          have := rdU_len _ _ _ _ h
          dsimp only
          rw [if_pos (by omega)]
          exact h
      · rw [if_neg hc] at h; cases h
theorem okS_putv : ∀ {ks : List Nat} {L : List (List Int)} {j : Nat} {v : List Int}, okS ks L → (j < ks.length → okF (ks.getD j 9) v) → okS ks (L.set j v)
  | [], [], _, _, _, _ => trivial
  | κ :: ks, x :: L, 0, v, h, hv => ⟨hv (by simp), h.2⟩
  | κ :: ks, x :: L, j + 1, v, h, hv => ⟨h.1, okS_putv h.2 (fun hj => by simpa using hv (by simpa using hj))⟩
  | [], _ :: _, _, _, h, _ => h.elim
  | _ :: _, [], _, _, h, _ => h.elim
theorem okS_lenv : ∀ {ks : List Nat} {L : List (List Int)}, okS ks L → L.length = ks.length
  | [], [], _ => rfl
  | _ :: _, _ :: _, h => by simp [okS_lenv h.2]
  | [], _ :: _, h => h.elim
  | _ :: _, [], h => h.elim
theorem okS_zerov : okS KD (KD.map zv) := by
  have h0 : okF 0 [0] := .inl rfl
  have h1 : okF 1 [0] := ⟨0, rfl, by decide, by decide⟩
  have h2 : okF 2 [0] := ⟨0, rfl, by decide, by decide⟩
  have h3 : okF 3 [0] := ⟨0, rfl, by decide, by decide⟩
  have h4 : okF 4 [0, 0] := ⟨0, 0, rfl, ⟨by decide, by decide⟩, by decide, by decide⟩
  have h5 : okF 5 [] := ⟨fun u hu => absurd hu (by simp), by decide⟩
  unfold KD
  simp only [List.map_cons, List.map_nil, zv]
  exact ⟨h0, h0, h1, h1, h1, h1, h1, h1, h2, h3, h2, h2, h4, h4, h4, h4, h4, h4, h4, h4, h4, h4, h4, h2, h2, h2, h2, h2, h2, h2, h2, h5, trivial⟩
theorem lnS_sound : ∀ (n : Nat) (L : List (List Int)) (l : List Int) (L' : List (List Int)) (r : List Int), okS KD L → Bts l → l.length ≤ 9223372036854775807 → lnS n L l = some (L', r) →
    okS KD L' ∧ Bts r ∧ r.length < l.length ∧ 2 * (L'.getD 31 []).length + r.length ≤ 2 * (L.getD 31 []).length + l.length
  | 0, _, _, _, _, _, _, _, h => by cases h
  | _ + 1, _, [], _, _, _, _, _, h => by cases h
  | n + 1, L, b :: q, L', r, hL, hb, hl, h => by
    have hq : Bts q := fun x hx => hb x (List.mem_cons_of_mem _ hx)
    have hb0 := hb b List.mem_cons_self
    unfold Byt at hb0
    rw [List.length_cons] at hl
    by_cases h0 : b = 0
    · subst h0
      rw [lnS_zero] at h
      simp only [Option.some.injEq, Prod.mk.injEq] at h
      obtain ⟨rfl, rfl⟩ := h
      exact ⟨hL, hq, by simp, by simp⟩
    · by_cases h32 : 32 < b
      · rw [lnS_big _ _ _ _ h32] at h; cases h
      · obtain ⟨j, rfl⟩ : ∃ j : Nat, b = (j : Int) + 1 := ⟨(b - 1).toNat, by omega⟩
        have hj : j < 32 := by omega
        rw [lnS_step _ _ _ _ hj] at h
        cases e : lnF (KD.getD j 9) q with
        | none => rw [e] at h; cases h
        | some p =>
          obtain ⟨v, r1⟩ := p
          rw [e] at h
          dsimp only at h
          obtain ⟨f1, f2, f3, f4⟩ := lnF_sound (kd_lt j hj) hq (by omega) e
          obtain ⟨i1, i2, i3, i4⟩ := lnS_sound n (L.set j v) r1 L' r (okS_putv hL (fun _ => f1)) f2 (by omega) h
          refine ⟨i1, i2, by rw [List.length_cons]; omega, ?_⟩
          rw [List.length_cons]
          by_cases h31 : j = 31
          · subst h31
            have hlen : 31 < L.length := by rw [okS_lenv hL]; decide
            rw [List.getD_eq_getElem?_getD (l := L.set 31 v), List.getElem?_set_self hlen] at i4
            have := f4 rfl
            simp only [Option.getD_some] at i4
            omega
          · rw [List.getD_eq_getElem?_getD (l := L.set j v), List.getElem?_set_ne h31, ← List.getD_eq_getElem?_getD] at i4
            omega
theorem rdF_lnS : ∀ (n : Nat) (P : List (List Int)) (last : Nat) (l : List Int) (vs : List (List Int)) (r : List Int), P.length = last → last ≤ 32 → Bts l → l.length ≤ 9223372036854775807 → l.length < n → rdF (KD.drop last) (last + 1) l = some (vs, r) →
    lnS n (P ++ (KD.drop last).map zv) l = some (P ++ vs, r)
  | 0, _, _, _, _, _, _, _, _, _, hn, _ => by omega
  | n + 1, P, last, [], vs, r, _, _, _, _, _, h => by rw [rdF_nil] at h; cases h
  | n + 1, P, last, b :: q, vs, r, hP, hl, hb, hm, hn, h => by
    have hq : Bts q := fun x hx => hb x (List.mem_cons_of_mem _ hx)
    have hb0 := hb b List.mem_cons_self
    unfold Byt at hb0
    rw [List.length_cons] at hn hm
    have hlen : (KD.drop last).length = 32 - last := by rw [List.length_drop]; rfl
    by_cases h0 : b = 0
    · subst h0
      rw [rdF_zero _ _ _ (by omega)] at h
      simp only [Option.some.injEq, Prod.mk.injEq] at h
      obtain ⟨rfl, rfl⟩ := h
      exact lnS_zero _ _ _
    · by_cases hbad : b < ((last + 1 : Nat) : Int) ∨ ((last + 1 + (KD.drop last).length : Nat) : Int) ≤ b
      · rw [rdF_bad _ _ _ _ hbad h0] at h; cases h
      · rw [hlen] at hbad
        obtain ⟨j, rfl⟩ : ∃ j : Nat, b = (j : Int) + 1 := ⟨(b - 1).toNat, by omega⟩
        have hj : j < 32 := by omega
        have hlj : last ≤ j := by omega
        have hjump := rdF_jump (KD.drop last) (last + 1) (j - last) q (by omega)
        rw [show ((last + 1 + (j - last) : Nat) : Int) = (j : Int) + 1 from by omega] at hjump
        rw [hjump] at h
        have hg : (KD.drop last).getD (j - last) 9 = KD.getD j 9 := by
          rw [List.getD_eq_getElem?_getD, List.getElem?_drop, show last + (j - last) = j from by omega, List.getD_eq_getElem?_getD]
        rw [hg, List.drop_drop, show last + (j - last + 1) = j + 1 from by omega, show last + 1 + (j - last) + 1 = j + 1 + 1 from by omega] at h
        cases e : decF (KD.getD j 9) q with
        | none => rw [e] at h; cases h
        | some p =>
          obtain ⟨v, r1⟩ := p
          rw [e] at h
          dsimp only at h
          have hln := decF_lnF (kd_lt j hj) e
          obtain ⟨_, f2, f3, _⟩ := lnF_sound (kd_lt j hj) hq (by omega) hln
          rw [lnS_step _ _ _ _ hj, hln]
          dsimp only
          cases e2 : rdF (KD.drop (j + 1)) (j + 1 + 1) r1 with
          | none => rw [e2] at h; cases h
          | some p2 =>
            obtain ⟨vs', r'⟩ := p2
            rw [e2] at h
            simp only [Option.map_some, Option.some.injEq, Prod.mk.injEq] at h
            obtain ⟨rfl, rfl⟩ := h
            have hsz := set_zeros (P := P) (ks := KD.drop last) (j := j - last) v (by omega)
            rw [hP, show last + (j - last) = j from by omega, List.drop_drop, show last + (j - last + 1) = j + 1 from by omega] at hsz
            rw [hsz, rdF_lnS n _ (j + 1) r1 vs' r' ?_ (by omega) f2 (by omega) (by omega) e2]
            · simp
            · rw [List.length_append, List.length_append, List.length_map, List.length_take, hlen, hP]
              simp
              omega
theorem lnNd_sound {l r : List Int} {n : Nd} (hb : Bts l) (hl : l.length ≤ 9223372036854775807) (h : lnNd l = some (n, r)) :
    okN n ∧ Bts r ∧ 2 * (n.2.getD 31 []).length + r.length ≤ l.length := by
  unfold lnNd at h
  cases e : rdN l with
  | none => rw [e] at h; cases h
  | some p =>
    obtain ⟨x, q⟩ := p
    rw [e] at h
    dsimp only at h
    obtain ⟨s1, s2⟩ := rdN_sound hb e
    have hq := (Bts.of_app (s1 ▸ hb)).2
    have hlq : q.length ≤ l.length := by rw [s1, List.length_append]; omega
    cases e2 : lnS (q.length + 1) (KD.map zv) q with
    | none => rw [e2] at h; cases h
    | some p2 =>
      obtain ⟨L, q2⟩ := p2
      rw [e2] at h
      simp only [Option.some.injEq, Prod.mk.injEq] at h
      obtain ⟨rfl, rfl⟩ := h
      obtain ⟨i1, i2, i3, i4⟩ := lnS_sound _ _ _ _ _ okS_zerov hq (by omega) e2
      have hz : ((KD.map zv).getD 31 []).length = 0 := rfl
      exact ⟨⟨s2, i1⟩, i2, by dsimp only; omega⟩
theorem rdL_gen {α : Type} {rd : List Int → Option (α × List Int)} {P : α → Prop} {μ : α → Nat} {M : Nat}
    (hs : ∀ l x r, Bts l → l.length ≤ M → rd l = some (x, r) → P x ∧ Bts r ∧ μ x + r.length ≤ l.length) : ∀ (n : Nat) (l : List Int) (xs : List α) (r : List Int), Bts l → l.length ≤ M → rdL rd n l = some (xs, r) →
      xs.length = n ∧ (∀ x ∈ xs, P x) ∧ Bts r ∧ (xs.map μ).sum + r.length ≤ l.length
  | 0, l, xs, r, hb, _, h => by
    simp only [rdL, Option.some.injEq, Prod.mk.injEq] at h
    obtain ⟨rfl, rfl⟩ := h
    exact ⟨rfl, fun u hu => absurd hu (by simp), hb, by simp⟩
  | n + 1, l, xs, r, hb, hl, h => by
    unfold rdL at h
    cases e : rd l with
    | none => rw [e] at h; cases h
    | some p =>
      obtain ⟨x, q⟩ := p
      rw [e] at h
      dsimp only at h
      obtain ⟨s1, s2, s3⟩ := hs l x q hb hl e
      cases e2 : rdL rd n q with
      | none => rw [e2] at h; cases h
      | some p2 =>
        obtain ⟨ys, q2⟩ := p2
        rw [e2] at h
        simp only [Option.some.injEq, Prod.mk.injEq] at h
        obtain ⟨rfl, rfl⟩ := h
        obtain ⟨i1, i2, i3, i4⟩ := rdL_gen hs n q ys q2 s2 (by omega) e2
        refine ⟨by rw [List.length_cons, i1], fun u hu => ?_, i3, ?_⟩
        · rcases List.mem_cons.1 hu with rfl | hu
          · exact s1
          · exact i2 u hu
        · rw [List.map_cons, List.sum_cons]; omega
theorem rdL_mono {α : Type} {rd rd' : List Int → Option (α × List Int)} {P : α → Prop} {μ : α → Nat} {M : Nat}
    (hm : ∀ l x r, Bts l → l.length ≤ M → rd l = some (x, r) → rd' l = some (x, r) ∧ Bts r ∧ r.length ≤ l.length) : ∀ (n : Nat) (l : List Int) (xs : List α) (r : List Int), Bts l → l.length ≤ M → rdL rd n l = some (xs, r) → rdL rd' n l = some (xs, r)
  | 0, l, xs, r, hb, _, h => h
  | n + 1, l, xs, r, hb, hl, h => by
    unfold rdL at h
    cases e : rd l with
    | none => rw [e] at h; cases h
    | some p =>
      obtain ⟨x, q⟩ := p
      rw [e] at h
      dsimp only at h
      obtain ⟨s1, s2, s3⟩ := hm l x q hb hl e
      cases e2 : rdL rd n q with
      | none => rw [e2] at h; cases h
      | some p2 =>
        obtain ⟨ys, q2⟩ := p2
        rw [e2] at h
        simp only [Option.some.injEq, Prod.mk.injEq] at h
        obtain ⟨rfl, rfl⟩ := h
        unfold rdL
        rw [s1]
        dsimp only
        rw [rdL_mono (P := P) (μ := μ) hm n q ys q2 s2 (by omega) e2]
theorem rdNd_lnNd {l r : List Int} {n : Nd} (hb : Bts l) (hl : l.length ≤ 9223372036854775807) (h : rdNd l = some (n, r)) : lnNd l = some (n, r) ∧ Bts r ∧ r.length ≤ l.length := by
  have hsd := rdNd_sound l n r hb h
  refine ⟨?_, (Bts.of_app (hsd.1 ▸ hb)).2, by rw [hsd.1, List.length_append]; omega⟩
  unfold rdNd at h
  unfold lnNd
  cases e : rdN l with
  | none => rw [e] at h; cases h
  | some p =>
    obtain ⟨x, q⟩ := p
    rw [e] at h
    dsimp only at h ⊢
    obtain ⟨s1, s2⟩ := rdN_sound hb e
    have hq := (Bts.of_app (s1 ▸ hb)).2
    have hlq : q.length ≤ l.length := by rw [s1, List.length_append]; omega
    cases e2 : rdF KD 1 q with
    | none => rw [e2] at h; cases h
    | some p2 =>
      obtain ⟨L, q2⟩ := p2
      rw [e2] at h
      simp only [Option.some.injEq, Prod.mk.injEq] at h
      obtain ⟨rfl, rfl⟩ := h
      have := rdF_lnS (q.length + 1) [] 0 q L q2 rfl (by decide) hq (by omega) (by omega) e2
      simp only [List.drop_zero, List.nil_append] at this
      rw [this]
theorem lnP_sound {b r : List Int} {T : Tr} (hb : Bts b) (hl : b.length ≤ 8192) (h : lnP b = some (T, r)) : okT T ∧ (wrT T).length ≤ 10000000 := by
  unfold lnP at h
  cases e : rdN b with
  | none => rw [e] at h; cases h
  | some p =>
    obtain ⟨v, q⟩ := p
    rw [e] at h
    dsimp only at h
    obtain ⟨s1, s2⟩ := rdN_sound hb e
    have hq := (Bts.of_app (s1 ▸ hb)).2
    have lq : q.length ≤ b.length := by rw [s1, List.length_append]; omega
    unfold lnP2 at h
    cases e2 : rdN q with
    | none => rw [e2] at h; cases h
    | some p2 =>
      obtain ⟨m, q2⟩ := p2
      rw [e2] at h
      dsimp only at h
      obtain ⟨t1, t2⟩ := rdN_sound hq e2
      have hq2 := (Bts.of_app (t1 ▸ hq)).2
      have lq2 : q2.length ≤ q.length := by rw [t1, List.length_append]; omega
      split at h
      · next hm =>
        cases e3 : rdL rdN m.toNat q2 with
        | none => rw [e3] at h; cases h
        | some p3 =>
          obtain ⟨av, q3⟩ := p3
          rw [e3] at h
          dsimp only at h
          obtain ⟨u1, u2, u3⟩ := rdL_sound (wr := num) (ok := I64) (fun l x r hb h => rdN_sound hb h) _ q2 av q3 hq2 e3
          have hq3 := (Bts.of_app (u2 ▸ hq2)).2
          have lq3 : q3.length ≤ q2.length := by conv => rhs; rw [u2, List.length_append]
                                                 omega
          unfold lnP3 at h
          cases e4 : rdN q3 with
          | none => rw [e4] at h; cases h
          | some p4 =>
            obtain ⟨k, q4⟩ := p4
            rw [e4] at h
            dsimp only at h
            obtain ⟨x1, x2⟩ := rdN_sound hq3 e4
            have hq4 := (Bts.of_app (x1 ▸ hq3)).2
            have lq4 : q4.length ≤ q3.length := by rw [x1, List.length_append]; omega
            split at h
            · next hk =>
              cases e5 : rdL lnNd k.toNat q4 with
              | none => rw [e5] at h; cases h
              | some p5 =>
                obtain ⟨ns, q5⟩ := p5
                rw [e5] at h
                simp only [Option.some.injEq, Prod.mk.injEq] at h
                obtain ⟨rfl, rfl⟩ := h
                obtain ⟨y1, y2, y3, y4⟩ := rdL_gen (P := okN) (μ := fun n : Nd => 2 * (n.2.getD 31 []).length) (M := 8192) (fun l x r hb hl h => lnNd_sound hb (by omega) h) _ q4 ns q5 hq4 (by omega) e5
                have hok : okT ⟨v, av, ns⟩ := ⟨s2, u3, by dsimp only; omega, y2, by dsimp only; omega⟩
                refine ⟨hok, ?_⟩
                have h1 := (num_len s2).1
                have h2 := (num_len (n := (av.length : Int)) ⟨by omega, by omega⟩).1
                have h3 := (num_len (n := (ns.length : Int)) ⟨by omega, by omega⟩).1
                have h4 := adv_le u3
                have h5 : ∀ l : List Nd, (∀ n ∈ l, okN n) → (l.map wrN).flatten.length ≤ 809 * l.length + (l.map fun n : Nd => 2 * (n.2.getD 31 []).length).sum := by
                  intro l h
                  induction l with
                  | nil => simp
                  | cons x l ih =>
                    have h1 := (num_len (h x (by simp)).1).1
                    have h2 := style_len (h x (by simp)).2
                    have := ih (fun a ha => h a (by simp [ha]))
                    simp only [List.map_cons, List.flatten_cons, List.length_append, List.length_cons, List.sum_cons]
                    have e : (wrN x).length = (num x.1).length + (wrF KD 1 x.2).length := by unfold wrN; rw [List.length_append]
                    omega
                have h5 := h5 ns y2
                unfold wrT
                simp only [List.length_append]
                omega
            · cases h
      · cases h
theorem rdT_lnP {b : List Int} {T : Tr} (hb : Bts b) (hl : b.length ≤ 9223372036854775807) (h : rdT b = some T) : ∃ r, lnP b = some (T, r) := by
  unfold rdT at h
  cases e0 : rdP b with
  | none => rw [e0] at h; cases h
  | some p0 =>
    obtain ⟨T', r0⟩ := p0
    rw [e0] at h
    dsimp only at h
    split at h
    · injection h with h
      subst h
      refine ⟨r0, ?_⟩
      unfold rdP at e0
      unfold lnP
      cases e : rdN b with
      | none => rw [e] at e0; cases e0
      | some p =>
        obtain ⟨v, q⟩ := p
        rw [e] at e0
        dsimp only at e0 ⊢
        obtain ⟨s1, s2⟩ := rdN_sound hb e
        have hq := (Bts.of_app (s1 ▸ hb)).2
        have lq : q.length ≤ b.length := by rw [s1, List.length_append]; omega
        unfold rdP2 rdC at e0
        unfold lnP2
        cases e2 : rdN q with
        | none => rw [e2] at e0; cases e0
        | some p2 =>
          obtain ⟨m, q2⟩ := p2
          rw [e2] at e0
          dsimp only at e0 ⊢
          obtain ⟨t1, t2⟩ := rdN_sound hq e2
          have hq2 := (Bts.of_app (t1 ▸ hq)).2
          have lq2 : q2.length ≤ q.length := by rw [t1, List.length_append]; omega
          by_cases hm : 0 ≤ m ∧ m ≤ (q2.length : Int)
          · rw [if_pos hm] at e0
            rw [if_pos (by omega)]
            dsimp only at e0 ⊢
            cases e3 : rdL rdN m.toNat q2 with
            | none => rw [e3] at e0; cases e0
            | some p3 =>
              obtain ⟨av, q3⟩ := p3
              rw [e3] at e0
              dsimp only at e0 ⊢
              obtain ⟨u1, u2, u3⟩ := rdL_sound (wr := num) (ok := I64) (fun l x r hb h => rdN_sound hb h) _ q2 av q3 hq2 e3
              have hq3 := (Bts.of_app (u2 ▸ hq2)).2
              have lq3 : q3.length ≤ q2.length := by conv => rhs; rw [u2, List.length_append]
                                                     omega
              unfold rdP3 rdC at e0
              unfold lnP3
              cases e4 : rdN q3 with
              | none => rw [e4] at e0; cases e0
              | some p4 =>
                obtain ⟨k, q4⟩ := p4
                rw [e4] at e0
                dsimp only at e0 ⊢
                obtain ⟨x1, x2⟩ := rdN_sound hq3 e4
                have hq4 := (Bts.of_app (x1 ▸ hq3)).2
                have lq4 : q4.length ≤ q3.length := by rw [x1, List.length_append]; omega
                by_cases hk : 0 ≤ k ∧ k ≤ (q4.length : Int)
                · rw [if_pos hk] at e0
                  rw [if_pos (by omega)]
                  dsimp only at e0 ⊢
                  cases e5 : rdL rdNd k.toNat q4 with
                  | none => rw [e5] at e0; cases e0
                  | some p5 =>
                    obtain ⟨ns, q5⟩ := p5
                    rw [rdL_mono (P := fun _ => True) (μ := fun _ => 0) (M := 9223372036854775807) (fun l x r hb hl h => rdNd_lnNd hb hl h) _ _ _ _ hq4 (by omega) e5]
                    rw [e5] at e0
                    exact e0
                · rw [if_neg hk] at e0; cases e0
          · rw [if_neg hm] at e0; cases e0
    · cases h
/-- What the document's Read gives. -/
theorem rdT_eq {b : List Int} (hb : Bts b) (hl : b.length ≤ 8192) : rdT b = match lnP b with
    | some (T, _) => if wrT T = b then some T else none
    | none => none := by
  cases e : lnP b with
  | none =>
    cases e2 : rdT b with
    | none => rfl
    | some T =>
      obtain ⟨r, h⟩ := rdT_lnP hb (by omega) e2
      rw [e] at h; cases h
  | some p =>
    obtain ⟨T, r⟩ := p
    dsimp only
    by_cases h : wrT T = b
    · rw [if_pos h, ← h, rdT_wr (lnP_sound hb hl e).1]
    · rw [if_neg h]
      cases e2 : rdT b with
      | none => rfl
      | some T' =>
        obtain ⟨r', h'⟩ := rdT_lnP hb (by omega) e2
        rw [e] at h'
        simp only [Option.some.injEq, Prod.mk.injEq] at h'
        obtain ⟨rfl, _⟩ := h'
        exact absurd (rdT_sound hb e2).1.symm h
theorem rsmall_any (n : Int) (w : World) : Calls Try.prog 84 #[.int .i64 n] w fun r w' => r = .returned (.int .u8 (n % 256)) ∧ w' = w := by
  go_enter Try.func84, Try.ntmps84
  go_wp2_with fail
  go_returns
  exact ⟨rfl, rfl⟩
set_option maxRecDepth 100000 in
theorem edge24 (w : World) (sb : Nat) (cs : Array Value) (vb vo vc : Nat) (x u : Int) (n : Nat) (hB : Blk w sb 49 cs) (ho : cs[24]? = some (.int .i64 u)) (hn : 0 < n) (h0 : w.cell? ⟨vb, vo, none⟩ = some (.int .i64 x)) :
    Calls Try.prog 85 #[.pointer (some ⟨sb, 0, none⟩), .int .i64 24, .slice (some ⟨vb, vo, none⟩) n vc] w fun r w' => r = .returned (.tuple #[]) ∧ Blk w' sb 49 (cs.setIfInBounds 24 (.int .i64 x)) ∧ Foot [sb] w w' := by
  have c0 : w.cell? ⟨sb, 24, none⟩ = some (.int .i64 u) := (hB.cell 24).trans ho
  have f0 := hB.frozen 24
  have hB := hide hB
  go_enter Try.func85, Try.ntmps85
  go_upto_region 3 with fail
  go_region
  go_wp2_with fail
  go_returns
  exact ⟨rfl, hB.out.set_ 24 _, ((Foot.refl _ w).setCell (p := ⟨sb, 24, none⟩) (.inl (by simp)) _).drew⟩
set_option maxRecDepth 100000 in
theorem edge25 (w : World) (sb : Nat) (cs : Array Value) (vb vo vc : Nat) (x u : Int) (n : Nat) (hB : Blk w sb 49 cs) (ho : cs[25]? = some (.int .i64 u)) (hn : 0 < n) (h0 : w.cell? ⟨vb, vo, none⟩ = some (.int .i64 x)) :
    Calls Try.prog 85 #[.pointer (some ⟨sb, 0, none⟩), .int .i64 25, .slice (some ⟨vb, vo, none⟩) n vc] w fun r w' => r = .returned (.tuple #[]) ∧ Blk w' sb 49 (cs.setIfInBounds 25 (.int .i64 x)) ∧ Foot [sb] w w' := by
  have c0 : w.cell? ⟨sb, 25, none⟩ = some (.int .i64 u) := (hB.cell 25).trans ho
  have f0 := hB.frozen 25
  have hB := hide hB
  go_enter Try.func85, Try.ntmps85
  go_upto_region 3 with fail
  go_region
  go_wp2_with fail
  go_returns
  exact ⟨rfl, hB.out.set_ 25 _, ((Foot.refl _ w).setCell (p := ⟨sb, 25, none⟩) (.inl (by simp)) _).drew⟩
set_option maxRecDepth 100000 in
theorem edge26 (w : World) (sb : Nat) (cs : Array Value) (vb vo vc : Nat) (x u : Int) (n : Nat) (hB : Blk w sb 49 cs) (ho : cs[26]? = some (.int .i64 u)) (hn : 0 < n) (h0 : w.cell? ⟨vb, vo, none⟩ = some (.int .i64 x)) :
    Calls Try.prog 85 #[.pointer (some ⟨sb, 0, none⟩), .int .i64 26, .slice (some ⟨vb, vo, none⟩) n vc] w fun r w' => r = .returned (.tuple #[]) ∧ Blk w' sb 49 (cs.setIfInBounds 26 (.int .i64 x)) ∧ Foot [sb] w w' := by
  have c0 : w.cell? ⟨sb, 26, none⟩ = some (.int .i64 u) := (hB.cell 26).trans ho
  have f0 := hB.frozen 26
  have hB := hide hB
  go_enter Try.func85, Try.ntmps85
  go_upto_region 3 with fail
  go_region
  go_wp2_with fail
  go_returns
  exact ⟨rfl, hB.out.set_ 26 _, ((Foot.refl _ w).setCell (p := ⟨sb, 26, none⟩) (.inl (by simp)) _).drew⟩
set_option maxRecDepth 100000 in
theorem edge27 (w : World) (sb : Nat) (cs : Array Value) (vb vo vc : Nat) (x u : Int) (n : Nat) (hB : Blk w sb 49 cs) (ho : cs[27]? = some (.int .i64 u)) (hn : 0 < n) (h0 : w.cell? ⟨vb, vo, none⟩ = some (.int .i64 x)) :
    Calls Try.prog 85 #[.pointer (some ⟨sb, 0, none⟩), .int .i64 27, .slice (some ⟨vb, vo, none⟩) n vc] w fun r w' => r = .returned (.tuple #[]) ∧ Blk w' sb 49 (cs.setIfInBounds 27 (.int .i64 x)) ∧ Foot [sb] w w' := by
  have c0 : w.cell? ⟨sb, 27, none⟩ = some (.int .i64 u) := (hB.cell 27).trans ho
  have f0 := hB.frozen 27
  have hB := hide hB
  go_enter Try.func85, Try.ntmps85
  go_upto_region 3 with fail
  go_region
  go_wp2_with fail
  go_returns
  exact ⟨rfl, hB.out.set_ 27 _, ((Foot.refl _ w).setCell (p := ⟨sb, 27, none⟩) (.inl (by simp)) _).drew⟩
set_option maxRecDepth 100000 in
theorem edge28 (w : World) (sb : Nat) (cs : Array Value) (vb vo vc : Nat) (x u : Int) (n : Nat) (hB : Blk w sb 49 cs) (ho : cs[28]? = some (.int .i64 u)) (hn : 0 < n) (h0 : w.cell? ⟨vb, vo, none⟩ = some (.int .i64 x)) :
    Calls Try.prog 85 #[.pointer (some ⟨sb, 0, none⟩), .int .i64 28, .slice (some ⟨vb, vo, none⟩) n vc] w fun r w' => r = .returned (.tuple #[]) ∧ Blk w' sb 49 (cs.setIfInBounds 28 (.int .i64 x)) ∧ Foot [sb] w w' := by
  have c0 : w.cell? ⟨sb, 28, none⟩ = some (.int .i64 u) := (hB.cell 28).trans ho
  have f0 := hB.frozen 28
  have hB := hide hB
  go_enter Try.func85, Try.ntmps85
  go_upto_region 1 with fail
  go_region
  go_wp2_with fail
  go_returns
  exact ⟨rfl, hB.out.set_ 28 _, ((Foot.refl _ w).setCell (p := ⟨sb, 28, none⟩) (.inl (by simp)) _).drew⟩
set_option maxRecDepth 100000 in
theorem edge29 (w : World) (sb : Nat) (cs : Array Value) (vb vo vc : Nat) (x u : Int) (n : Nat) (hB : Blk w sb 49 cs) (ho : cs[29]? = some (.int .i64 u)) (hn : 0 < n) (h0 : w.cell? ⟨vb, vo, none⟩ = some (.int .i64 x)) :
    Calls Try.prog 85 #[.pointer (some ⟨sb, 0, none⟩), .int .i64 29, .slice (some ⟨vb, vo, none⟩) n vc] w fun r w' => r = .returned (.tuple #[]) ∧ Blk w' sb 49 (cs.setIfInBounds 29 (.int .i64 x)) ∧ Foot [sb] w w' := by
  have c0 : w.cell? ⟨sb, 29, none⟩ = some (.int .i64 u) := (hB.cell 29).trans ho
  have f0 := hB.frozen 29
  have hB := hide hB
  go_enter Try.func85, Try.ntmps85
  go_upto_region 1 with fail
  go_region
  go_wp2_with fail
  go_returns
  exact ⟨rfl, hB.out.set_ 29 _, ((Foot.refl _ w).setCell (p := ⟨sb, 29, none⟩) (.inl (by simp)) _).drew⟩
set_option maxRecDepth 100000 in
theorem edge30 (w : World) (sb : Nat) (cs : Array Value) (vb vo vc : Nat) (x u : Int) (n : Nat) (hB : Blk w sb 49 cs) (ho : cs[30]? = some (.int .i64 u)) (hn : 0 < n) (h0 : w.cell? ⟨vb, vo, none⟩ = some (.int .i64 x)) :
    Calls Try.prog 85 #[.pointer (some ⟨sb, 0, none⟩), .int .i64 30, .slice (some ⟨vb, vo, none⟩) n vc] w fun r w' => r = .returned (.tuple #[]) ∧ Blk w' sb 49 (cs.setIfInBounds 30 (.int .i64 x)) ∧ Foot [sb] w w' := by
  have c0 : w.cell? ⟨sb, 30, none⟩ = some (.int .i64 u) := (hB.cell 30).trans ho
  have f0 := hB.frozen 30
  have hB := hide hB
  go_enter Try.func85, Try.ntmps85
  go_upto_region 1 with fail
  go_region
  go_wp2_with fail
  go_returns
  exact ⟨rfl, hB.out.set_ 30 _, ((Foot.refl _ w).setCell (p := ⟨sb, 30, none⟩) (.inl (by simp)) _).drew⟩
set_option maxRecDepth 100000 in
theorem edge31 (w : World) (sb : Nat) (cs : Array Value) (vb vo vc : Nat) (x u : Int) (n : Nat) (hB : Blk w sb 49 cs) (ho : cs[31]? = some (.int .i64 u)) (hn : 0 < n) (h0 : w.cell? ⟨vb, vo, none⟩ = some (.int .i64 x)) :
    Calls Try.prog 85 #[.pointer (some ⟨sb, 0, none⟩), .int .i64 31, .slice (some ⟨vb, vo, none⟩) n vc] w fun r w' => r = .returned (.tuple #[]) ∧ Blk w' sb 49 (cs.setIfInBounds 31 (.int .i64 x)) ∧ Foot [sb] w w' := by
  have c0 : w.cell? ⟨sb, 31, none⟩ = some (.int .i64 u) := (hB.cell 31).trans ho
  have f0 := hB.frozen 31
  have hB := hide hB
  go_enter Try.func85, Try.ntmps85
  go_upto_region 1 with fail
  go_region
  go_wp2_with fail
  go_returns
  exact ⟨rfl, hB.out.set_ 31 _, ((Foot.refl _ w).setCell (p := ⟨sb, 31, none⟩) (.inl (by simp)) _).drew⟩
set_option maxRecDepth 100000 in
theorem edge13 (w : World) (sb : Nat) (cs : Array Value) (vb vo vc : Nat) (x y u u' : Int) (n : Nat) (hB : Blk w sb 49 cs) (ho : cs[4]? = some (.int .u8 u)) (ho' : cs[5]? = some (.int .i64 u')) (hn : 1 < n) (h0 : w.cell? ⟨vb, vo, none⟩ = some (.int .i64 x)) (h1 : w.cell? ⟨vb, vo + 1, none⟩ = some (.int .i64 y)) (hv : vb < w.heap.size) :
    Calls Try.prog 85 #[.pointer (some ⟨sb, 0, none⟩), .int .i64 13, .slice (some ⟨vb, vo, none⟩) n vc] w fun r w' => r = .returned (.tuple #[]) ∧ Blk w' sb 49 ((cs.setIfInBounds 4 (.int .u8 (x % 256))).setIfInBounds 5 (.int .i64 y)) ∧ Foot [sb] w w' := by
  have C0 := keepc (p := ⟨vb, vo, none⟩) hv h0
  have C1 := keepc (p := ⟨vb, vo + 1, none⟩) hv h1
  have hB := hide hB
  clear h0 h1
  go_enter Try.func85, Try.ntmps85
  go_upto_region 4 with fail
  refine Hold.begin_ 10 (by kernel_rfl) rfl (fun w' => Below w.heap.size w w') ?_ (Below.refl _ _).drew
  intro hS
  refine Hold.take (i := 0) (v := ?_) rfl (by kernel_rfl) (fun _ _ _ h => h) rfl ?_ hS ?_
  rotate_left
  · intro w' hS; have z0_ := C0 _ hS; have z1_ := C1 _ hS; go_simp; (try go_bits); (first | rfl | rw [if_pos (by omega)])
  simp only [Act.put, List.getElem_toArray, List.getElem_cons_zero, List.getElem_cons_succ, List.setIfInBounds_toArray, List.set_cons_zero, List.set_cons_succ]
  refine Hold.take (i := 1) (v := ?_) rfl (by kernel_rfl) (fun _ _ _ h => h) rfl ?_ hS ?_
  rotate_left
  · intro w' hS; have z0_ := C0 _ hS; have z1_ := C1 _ hS; go_simp; (try go_bits); (first | rfl | rw [if_pos (by omega)])
  simp only [Act.put, List.getElem_toArray, List.getElem_cons_zero, List.getElem_cons_succ, List.setIfInBounds_toArray, List.set_cons_zero, List.set_cons_succ]
  refine Hold.take (i := 2) (v := ?_) rfl (by kernel_rfl) (fun _ _ _ h => h) rfl ?_ hS ?_
  rotate_left
  · intro w' hS; have z0_ := C0 _ hS; have z1_ := C1 _ hS; go_simp; (try go_bits); (first | rfl | rw [if_pos (by omega)])
  simp only [Act.put, List.getElem_toArray, List.getElem_cons_zero, List.getElem_cons_succ, List.setIfInBounds_toArray, List.set_cons_zero, List.set_cons_succ]
  refine Hold.take (i := 4) (v := ?_) rfl (by kernel_rfl) (fun _ _ _ h => h) rfl ?_ hS ?_
  rotate_left
  · intro w' hS; have z0_ := C0 _ hS; have z1_ := C1 _ hS; go_simp; (try go_bits); (first | rfl | rw [if_pos (by omega)])
  simp only [Act.put, List.getElem_toArray, List.getElem_cons_zero, List.getElem_cons_succ, List.setIfInBounds_toArray, List.set_cons_zero, List.set_cons_succ]
  refine Hold.take (i := 5) (v := ?_) rfl (by kernel_rfl) (fun _ _ _ h => h) rfl ?_ hS ?_
  rotate_left
  · intro w' hS; have z0_ := C0 _ hS; have z1_ := C1 _ hS; go_simp; (try go_bits); (first | rfl | rw [if_pos (by omega)])
  simp only [Act.put, List.getElem_toArray, List.getElem_cons_zero, List.getElem_cons_succ, List.setIfInBounds_toArray, List.set_cons_zero, List.set_cons_succ]
  refine Hold.take (i := 6) (v := ?_) rfl (by kernel_rfl) (fun _ _ _ h => h) rfl ?_ hS ?_
  rotate_left
  · intro w' hS; have z0_ := C0 _ hS; have z1_ := C1 _ hS; go_simp; (try go_bits); (first | rfl | rw [if_pos (by omega)])
  simp only [Act.put, List.getElem_toArray, List.getElem_cons_zero, List.getElem_cons_succ, List.setIfInBounds_toArray, List.set_cons_zero, List.set_cons_succ]
  refine Hold.quiet (i := 3) (v := ?_) (f := ?_) (args := ?_) rfl (by kernel_rfl) (fun _ _ _ h => h) rfl ?_ ?_ hS ?_
  rotate_left 3
  · intro w2 hS; go_simp; exact ⟨by rfl, by rfl⟩
  · intro w2 hS; refine (rsmall_any x w2).mono ?_; rintro e w3 ⟨rfl, rfl⟩; exact ⟨by rfl, rfl⟩
  simp only [Act.put, List.getElem_toArray, List.getElem_cons_zero, List.getElem_cons_succ, List.setIfInBounds_toArray, List.set_cons_zero, List.set_cons_succ]
  refine Hold.take (i := 7) (v := ?_) rfl (by kernel_rfl) (fun _ _ _ h => h) rfl ?_ hS ?_
  rotate_left
  · intro w' hS; have z0_ := C0 _ hS; have z1_ := C1 _ hS; go_simp; (try go_bits); (first | rfl | rw [if_pos (by omega)])
  simp only [Act.put, List.getElem_toArray, List.getElem_cons_zero, List.getElem_cons_succ, List.setIfInBounds_toArray, List.set_cons_zero, List.set_cons_succ]
  refine Hold.one (i := 8) (by kernel_rfl) ?_
  refine Hold.run (w' := w.drew.alloc (.cells #[.int .u8 0, .int .i64 0] 44)) rfl rfl (by go_simp; first | rfl | exact ⟨rfl, rfl⟩) ?_
  refine ⟨(Below.refl _ _).drew.alloc (Nat.le_refl _) _, ?_⟩
  simp only [Act.put, List.getElem_toArray, List.getElem_cons_zero, List.getElem_cons_succ, List.setIfInBounds_toArray, List.set_cons_zero, List.set_cons_succ]
  obtain ⟨w1, hw1⟩ : ∃ w1, w1 = w.drew.alloc (.cells #[.int .u8 0, .int .i64 0] 44) := ⟨_, rfl⟩
  have BL : Blk w1 w.drew.heap.size 44 #[.int .u8 0, .int .i64 0] := by rw [hw1]; exact Blk.new _ _ _
  have k1 : Below w.heap.size w w1 := by rw [hw1]; exact (Below.refl _ _).drew.alloc (Nat.le_refl _) _
  rw [← hw1]
  clear hw1
  have BL : Blk w1 w.heap.size 44 #[.int .u8 0, .int .i64 0] := BL
  have hgl : sb ≠ w.heap.size := by have := hB.out.lt; omega
  have B1 := hB.out.below k1 hB.out.lt
  have y0 : w1.cell? ⟨w.heap.size, 0, none⟩ = some (.int .u8 0) := BL.cell 0
  have y1 : w1.cell? ⟨w.heap.size, 1, none⟩ = some (.int .i64 0) := BL.cell 1
  have g0 := BL.frozen 0
  have g1 := BL.frozen 1
  refine Hold.one (i := 9) (by kernel_rfl) ?_
  refine Hold.skip (w' := (w1.setCell ⟨w.heap.size, 0, none⟩ (.int .u8 (x % 256))).setCell ⟨w.heap.size, 1, none⟩ (.int .i64 y)) rfl rfl (by go_simp <;> first | rfl | exact ⟨rfl, rfl⟩) ?_
  have BL2 : Blk ((w1.setCell ⟨w.heap.size, 0, none⟩ (.int .u8 (x % 256))).setCell ⟨w.heap.size, 1, none⟩ (.int .i64 y)) w.heap.size 44 #[.int .u8 (x % 256), .int .i64 y] := by
    have := (BL.set_ 0 (.int .u8 (x % 256))).set_ 1 (.int .i64 y)
    simpa using this
  have B2 := (B1.far (p := ⟨w.heap.size, 0, none⟩) hgl (.int .u8 (x % 256))).far (p := ⟨w.heap.size, 1, none⟩) hgl (.int .i64 y)
  have k2 : Below w.heap.size w ((w1.setCell ⟨w.heap.size, 0, none⟩ (.int .u8 (x % 256))).setCell ⟨w.heap.size, 1, none⟩ (.int .i64 y)) := (k1.setCell (p := ⟨w.heap.size, 0, none⟩) (Nat.le_refl _) _).setCell (p := ⟨w.heap.size, 1, none⟩) (Nat.le_refl _) _
  refine ⟨k2, ?_⟩
  generalize (w1.setCell ⟨w.heap.size, 0, none⟩ (.int .u8 (x % 256))).setCell ⟨w.heap.size, 1, none⟩ (.int .i64 y) = w2 at BL2 B2 k2 ⊢
  simp only [Act.put, List.getElem_toArray, List.getElem_cons_zero, List.getElem_cons_succ, List.setIfInBounds_toArray, List.set_cons_zero, List.set_cons_succ]
  refine Hold.done (by kernel_rfl) ?_
  have z0 : w2.cell? ⟨w.heap.size, 0, none⟩ = some (.int .u8 (x % 256)) := BL2.cell 0
  have z1 : w2.cell? ⟨w.heap.size, 1, none⟩ = some (.int .i64 y) := BL2.cell 1
  have d0 : w2.cell? ⟨sb, 4, none⟩ = some (.int .u8 u) := (B2.cell 4).trans ho
  have d1 : w2.cell? ⟨sb, 5, none⟩ = some (.int .i64 u') := (B2.cell 5).trans ho'
  have f0 := B2.frozen 4
  have f1 := B2.frozen 5
  have F2 := Foot.of_below [sb] k2
  have B2 := hide B2
  have F2 := hide F2
  clear y0 y1 g0 g1 BL BL2 B1 k1 k2 C0 C1 hS hgl
  generalize w.heap.size = gl at z0 z1 ⊢
  go_wp2_with fail
  go_returns
  exact ⟨rfl, (B2.out.set_ 4 _).set_ 5 _, (F2.out.setCell (p := ⟨sb, 4, none⟩) (.inl (by simp)) _).setCell (p := ⟨sb, 5, none⟩) (.inl (by simp)) _⟩
set_option maxRecDepth 100000 in
theorem edge14 (w : World) (sb : Nat) (cs : Array Value) (vb vo vc : Nat) (x y u u' : Int) (n : Nat) (hB : Blk w sb 49 cs) (ho : cs[6]? = some (.int .u8 u)) (ho' : cs[7]? = some (.int .i64 u')) (hn : 1 < n) (h0 : w.cell? ⟨vb, vo, none⟩ = some (.int .i64 x)) (h1 : w.cell? ⟨vb, vo + 1, none⟩ = some (.int .i64 y)) (hv : vb < w.heap.size) :
    Calls Try.prog 85 #[.pointer (some ⟨sb, 0, none⟩), .int .i64 14, .slice (some ⟨vb, vo, none⟩) n vc] w fun r w' => r = .returned (.tuple #[]) ∧ Blk w' sb 49 ((cs.setIfInBounds 6 (.int .u8 (x % 256))).setIfInBounds 7 (.int .i64 y)) ∧ Foot [sb] w w' := by
  have C0 := keepc (p := ⟨vb, vo, none⟩) hv h0
  have C1 := keepc (p := ⟨vb, vo + 1, none⟩) hv h1
  have hB := hide hB
  clear h0 h1
  go_enter Try.func85, Try.ntmps85
  go_upto_region 4 with fail
  refine Hold.begin_ 10 (by kernel_rfl) rfl (fun w' => Below w.heap.size w w') ?_ (Below.refl _ _).drew
  intro hS
  refine Hold.take (i := 0) (v := ?_) rfl (by kernel_rfl) (fun _ _ _ h => h) rfl ?_ hS ?_
  rotate_left
  · intro w' hS; have z0_ := C0 _ hS; have z1_ := C1 _ hS; go_simp; (try go_bits); (first | rfl | rw [if_pos (by omega)])
  simp only [Act.put, List.getElem_toArray, List.getElem_cons_zero, List.getElem_cons_succ, List.setIfInBounds_toArray, List.set_cons_zero, List.set_cons_succ]
  refine Hold.take (i := 1) (v := ?_) rfl (by kernel_rfl) (fun _ _ _ h => h) rfl ?_ hS ?_
  rotate_left
  · intro w' hS; have z0_ := C0 _ hS; have z1_ := C1 _ hS; go_simp; (try go_bits); (first | rfl | rw [if_pos (by omega)])
  simp only [Act.put, List.getElem_toArray, List.getElem_cons_zero, List.getElem_cons_succ, List.setIfInBounds_toArray, List.set_cons_zero, List.set_cons_succ]
  refine Hold.take (i := 2) (v := ?_) rfl (by kernel_rfl) (fun _ _ _ h => h) rfl ?_ hS ?_
  rotate_left
  · intro w' hS; have z0_ := C0 _ hS; have z1_ := C1 _ hS; go_simp; (try go_bits); (first | rfl | rw [if_pos (by omega)])
  simp only [Act.put, List.getElem_toArray, List.getElem_cons_zero, List.getElem_cons_succ, List.setIfInBounds_toArray, List.set_cons_zero, List.set_cons_succ]
  refine Hold.take (i := 4) (v := ?_) rfl (by kernel_rfl) (fun _ _ _ h => h) rfl ?_ hS ?_
  rotate_left
  · intro w' hS; have z0_ := C0 _ hS; have z1_ := C1 _ hS; go_simp; (try go_bits); (first | rfl | rw [if_pos (by omega)])
  simp only [Act.put, List.getElem_toArray, List.getElem_cons_zero, List.getElem_cons_succ, List.setIfInBounds_toArray, List.set_cons_zero, List.set_cons_succ]
  refine Hold.take (i := 5) (v := ?_) rfl (by kernel_rfl) (fun _ _ _ h => h) rfl ?_ hS ?_
  rotate_left
  · intro w' hS; have z0_ := C0 _ hS; have z1_ := C1 _ hS; go_simp; (try go_bits); (first | rfl | rw [if_pos (by omega)])
  simp only [Act.put, List.getElem_toArray, List.getElem_cons_zero, List.getElem_cons_succ, List.setIfInBounds_toArray, List.set_cons_zero, List.set_cons_succ]
  refine Hold.take (i := 6) (v := ?_) rfl (by kernel_rfl) (fun _ _ _ h => h) rfl ?_ hS ?_
  rotate_left
  · intro w' hS; have z0_ := C0 _ hS; have z1_ := C1 _ hS; go_simp; (try go_bits); (first | rfl | rw [if_pos (by omega)])
  simp only [Act.put, List.getElem_toArray, List.getElem_cons_zero, List.getElem_cons_succ, List.setIfInBounds_toArray, List.set_cons_zero, List.set_cons_succ]
  refine Hold.quiet (i := 3) (v := ?_) (f := ?_) (args := ?_) rfl (by kernel_rfl) (fun _ _ _ h => h) rfl ?_ ?_ hS ?_
  rotate_left 3
  · intro w2 hS; go_simp; exact ⟨by rfl, by rfl⟩
  · intro w2 hS; refine (rsmall_any x w2).mono ?_; rintro e w3 ⟨rfl, rfl⟩; exact ⟨by rfl, rfl⟩
  simp only [Act.put, List.getElem_toArray, List.getElem_cons_zero, List.getElem_cons_succ, List.setIfInBounds_toArray, List.set_cons_zero, List.set_cons_succ]
  refine Hold.take (i := 7) (v := ?_) rfl (by kernel_rfl) (fun _ _ _ h => h) rfl ?_ hS ?_
  rotate_left
  · intro w' hS; have z0_ := C0 _ hS; have z1_ := C1 _ hS; go_simp; (try go_bits); (first | rfl | rw [if_pos (by omega)])
  simp only [Act.put, List.getElem_toArray, List.getElem_cons_zero, List.getElem_cons_succ, List.setIfInBounds_toArray, List.set_cons_zero, List.set_cons_succ]
  refine Hold.one (i := 8) (by kernel_rfl) ?_
  refine Hold.run (w' := w.drew.alloc (.cells #[.int .u8 0, .int .i64 0] 44)) rfl rfl (by go_simp; first | rfl | exact ⟨rfl, rfl⟩) ?_
  refine ⟨(Below.refl _ _).drew.alloc (Nat.le_refl _) _, ?_⟩
  simp only [Act.put, List.getElem_toArray, List.getElem_cons_zero, List.getElem_cons_succ, List.setIfInBounds_toArray, List.set_cons_zero, List.set_cons_succ]
  obtain ⟨w1, hw1⟩ : ∃ w1, w1 = w.drew.alloc (.cells #[.int .u8 0, .int .i64 0] 44) := ⟨_, rfl⟩
  have BL : Blk w1 w.drew.heap.size 44 #[.int .u8 0, .int .i64 0] := by rw [hw1]; exact Blk.new _ _ _
  have k1 : Below w.heap.size w w1 := by rw [hw1]; exact (Below.refl _ _).drew.alloc (Nat.le_refl _) _
  rw [← hw1]
  clear hw1
  have BL : Blk w1 w.heap.size 44 #[.int .u8 0, .int .i64 0] := BL
  have hgl : sb ≠ w.heap.size := by have := hB.out.lt; omega
  have B1 := hB.out.below k1 hB.out.lt
  have y0 : w1.cell? ⟨w.heap.size, 0, none⟩ = some (.int .u8 0) := BL.cell 0
  have y1 : w1.cell? ⟨w.heap.size, 1, none⟩ = some (.int .i64 0) := BL.cell 1
  have g0 := BL.frozen 0
  have g1 := BL.frozen 1
  refine Hold.one (i := 9) (by kernel_rfl) ?_
  refine Hold.skip (w' := (w1.setCell ⟨w.heap.size, 0, none⟩ (.int .u8 (x % 256))).setCell ⟨w.heap.size, 1, none⟩ (.int .i64 y)) rfl rfl (by go_simp <;> first | rfl | exact ⟨rfl, rfl⟩) ?_
  have BL2 : Blk ((w1.setCell ⟨w.heap.size, 0, none⟩ (.int .u8 (x % 256))).setCell ⟨w.heap.size, 1, none⟩ (.int .i64 y)) w.heap.size 44 #[.int .u8 (x % 256), .int .i64 y] := by
    have := (BL.set_ 0 (.int .u8 (x % 256))).set_ 1 (.int .i64 y)
    simpa using this
  have B2 := (B1.far (p := ⟨w.heap.size, 0, none⟩) hgl (.int .u8 (x % 256))).far (p := ⟨w.heap.size, 1, none⟩) hgl (.int .i64 y)
  have k2 : Below w.heap.size w ((w1.setCell ⟨w.heap.size, 0, none⟩ (.int .u8 (x % 256))).setCell ⟨w.heap.size, 1, none⟩ (.int .i64 y)) := (k1.setCell (p := ⟨w.heap.size, 0, none⟩) (Nat.le_refl _) _).setCell (p := ⟨w.heap.size, 1, none⟩) (Nat.le_refl _) _
  refine ⟨k2, ?_⟩
  generalize (w1.setCell ⟨w.heap.size, 0, none⟩ (.int .u8 (x % 256))).setCell ⟨w.heap.size, 1, none⟩ (.int .i64 y) = w2 at BL2 B2 k2 ⊢
  simp only [Act.put, List.getElem_toArray, List.getElem_cons_zero, List.getElem_cons_succ, List.setIfInBounds_toArray, List.set_cons_zero, List.set_cons_succ]
  refine Hold.done (by kernel_rfl) ?_
  have z0 : w2.cell? ⟨w.heap.size, 0, none⟩ = some (.int .u8 (x % 256)) := BL2.cell 0
  have z1 : w2.cell? ⟨w.heap.size, 1, none⟩ = some (.int .i64 y) := BL2.cell 1
  have d0 : w2.cell? ⟨sb, 6, none⟩ = some (.int .u8 u) := (B2.cell 6).trans ho
  have d1 : w2.cell? ⟨sb, 7, none⟩ = some (.int .i64 u') := (B2.cell 7).trans ho'
  have f0 := B2.frozen 6
  have f1 := B2.frozen 7
  have F2 := Foot.of_below [sb] k2
  have B2 := hide B2
  have F2 := hide F2
  clear y0 y1 g0 g1 BL BL2 B1 k1 k2 C0 C1 hS hgl
  generalize w.heap.size = gl at z0 z1 ⊢
  go_wp2_with fail
  go_returns
  exact ⟨rfl, (B2.out.set_ 6 _).set_ 7 _, (F2.out.setCell (p := ⟨sb, 6, none⟩) (.inl (by simp)) _).setCell (p := ⟨sb, 7, none⟩) (.inl (by simp)) _⟩
set_option maxRecDepth 100000 in
theorem edge15 (w : World) (sb : Nat) (cs : Array Value) (vb vo vc : Nat) (x y u u' : Int) (n : Nat) (hB : Blk w sb 49 cs) (ho : cs[8]? = some (.int .u8 u)) (ho' : cs[9]? = some (.int .i64 u')) (hn : 1 < n) (h0 : w.cell? ⟨vb, vo, none⟩ = some (.int .i64 x)) (h1 : w.cell? ⟨vb, vo + 1, none⟩ = some (.int .i64 y)) (hv : vb < w.heap.size) :
    Calls Try.prog 85 #[.pointer (some ⟨sb, 0, none⟩), .int .i64 15, .slice (some ⟨vb, vo, none⟩) n vc] w fun r w' => r = .returned (.tuple #[]) ∧ Blk w' sb 49 ((cs.setIfInBounds 8 (.int .u8 (x % 256))).setIfInBounds 9 (.int .i64 y)) ∧ Foot [sb] w w' := by
  have C0 := keepc (p := ⟨vb, vo, none⟩) hv h0
  have C1 := keepc (p := ⟨vb, vo + 1, none⟩) hv h1
  have hB := hide hB
  clear h0 h1
  go_enter Try.func85, Try.ntmps85
  go_upto_region 4 with fail
  refine Hold.begin_ 10 (by kernel_rfl) rfl (fun w' => Below w.heap.size w w') ?_ (Below.refl _ _).drew
  intro hS
  refine Hold.take (i := 0) (v := ?_) rfl (by kernel_rfl) (fun _ _ _ h => h) rfl ?_ hS ?_
  rotate_left
  · intro w' hS; have z0_ := C0 _ hS; have z1_ := C1 _ hS; go_simp; (try go_bits); (first | rfl | rw [if_pos (by omega)])
  simp only [Act.put, List.getElem_toArray, List.getElem_cons_zero, List.getElem_cons_succ, List.setIfInBounds_toArray, List.set_cons_zero, List.set_cons_succ]
  refine Hold.take (i := 1) (v := ?_) rfl (by kernel_rfl) (fun _ _ _ h => h) rfl ?_ hS ?_
  rotate_left
  · intro w' hS; have z0_ := C0 _ hS; have z1_ := C1 _ hS; go_simp; (try go_bits); (first | rfl | rw [if_pos (by omega)])
  simp only [Act.put, List.getElem_toArray, List.getElem_cons_zero, List.getElem_cons_succ, List.setIfInBounds_toArray, List.set_cons_zero, List.set_cons_succ]
  refine Hold.take (i := 2) (v := ?_) rfl (by kernel_rfl) (fun _ _ _ h => h) rfl ?_ hS ?_
  rotate_left
  · intro w' hS; have z0_ := C0 _ hS; have z1_ := C1 _ hS; go_simp; (try go_bits); (first | rfl | rw [if_pos (by omega)])
  simp only [Act.put, List.getElem_toArray, List.getElem_cons_zero, List.getElem_cons_succ, List.setIfInBounds_toArray, List.set_cons_zero, List.set_cons_succ]
  refine Hold.take (i := 4) (v := ?_) rfl (by kernel_rfl) (fun _ _ _ h => h) rfl ?_ hS ?_
  rotate_left
  · intro w' hS; have z0_ := C0 _ hS; have z1_ := C1 _ hS; go_simp; (try go_bits); (first | rfl | rw [if_pos (by omega)])
  simp only [Act.put, List.getElem_toArray, List.getElem_cons_zero, List.getElem_cons_succ, List.setIfInBounds_toArray, List.set_cons_zero, List.set_cons_succ]
  refine Hold.take (i := 5) (v := ?_) rfl (by kernel_rfl) (fun _ _ _ h => h) rfl ?_ hS ?_
  rotate_left
  · intro w' hS; have z0_ := C0 _ hS; have z1_ := C1 _ hS; go_simp; (try go_bits); (first | rfl | rw [if_pos (by omega)])
  simp only [Act.put, List.getElem_toArray, List.getElem_cons_zero, List.getElem_cons_succ, List.setIfInBounds_toArray, List.set_cons_zero, List.set_cons_succ]
  refine Hold.take (i := 6) (v := ?_) rfl (by kernel_rfl) (fun _ _ _ h => h) rfl ?_ hS ?_
  rotate_left
  · intro w' hS; have z0_ := C0 _ hS; have z1_ := C1 _ hS; go_simp; (try go_bits); (first | rfl | rw [if_pos (by omega)])
  simp only [Act.put, List.getElem_toArray, List.getElem_cons_zero, List.getElem_cons_succ, List.setIfInBounds_toArray, List.set_cons_zero, List.set_cons_succ]
  refine Hold.quiet (i := 3) (v := ?_) (f := ?_) (args := ?_) rfl (by kernel_rfl) (fun _ _ _ h => h) rfl ?_ ?_ hS ?_
  rotate_left 3
  · intro w2 hS; go_simp; exact ⟨by rfl, by rfl⟩
  · intro w2 hS; refine (rsmall_any x w2).mono ?_; rintro e w3 ⟨rfl, rfl⟩; exact ⟨by rfl, rfl⟩
  simp only [Act.put, List.getElem_toArray, List.getElem_cons_zero, List.getElem_cons_succ, List.setIfInBounds_toArray, List.set_cons_zero, List.set_cons_succ]
  refine Hold.take (i := 7) (v := ?_) rfl (by kernel_rfl) (fun _ _ _ h => h) rfl ?_ hS ?_
  rotate_left
  · intro w' hS; have z0_ := C0 _ hS; have z1_ := C1 _ hS; go_simp; (try go_bits); (first | rfl | rw [if_pos (by omega)])
  simp only [Act.put, List.getElem_toArray, List.getElem_cons_zero, List.getElem_cons_succ, List.setIfInBounds_toArray, List.set_cons_zero, List.set_cons_succ]
  refine Hold.one (i := 8) (by kernel_rfl) ?_
  refine Hold.run (w' := w.drew.alloc (.cells #[.int .u8 0, .int .i64 0] 44)) rfl rfl (by go_simp; first | rfl | exact ⟨rfl, rfl⟩) ?_
  refine ⟨(Below.refl _ _).drew.alloc (Nat.le_refl _) _, ?_⟩
  simp only [Act.put, List.getElem_toArray, List.getElem_cons_zero, List.getElem_cons_succ, List.setIfInBounds_toArray, List.set_cons_zero, List.set_cons_succ]
  obtain ⟨w1, hw1⟩ : ∃ w1, w1 = w.drew.alloc (.cells #[.int .u8 0, .int .i64 0] 44) := ⟨_, rfl⟩
  have BL : Blk w1 w.drew.heap.size 44 #[.int .u8 0, .int .i64 0] := by rw [hw1]; exact Blk.new _ _ _
  have k1 : Below w.heap.size w w1 := by rw [hw1]; exact (Below.refl _ _).drew.alloc (Nat.le_refl _) _
  rw [← hw1]
  clear hw1
  have BL : Blk w1 w.heap.size 44 #[.int .u8 0, .int .i64 0] := BL
  have hgl : sb ≠ w.heap.size := by have := hB.out.lt; omega
  have B1 := hB.out.below k1 hB.out.lt
  have y0 : w1.cell? ⟨w.heap.size, 0, none⟩ = some (.int .u8 0) := BL.cell 0
  have y1 : w1.cell? ⟨w.heap.size, 1, none⟩ = some (.int .i64 0) := BL.cell 1
  have g0 := BL.frozen 0
  have g1 := BL.frozen 1
  refine Hold.one (i := 9) (by kernel_rfl) ?_
  refine Hold.skip (w' := (w1.setCell ⟨w.heap.size, 0, none⟩ (.int .u8 (x % 256))).setCell ⟨w.heap.size, 1, none⟩ (.int .i64 y)) rfl rfl (by go_simp <;> first | rfl | exact ⟨rfl, rfl⟩) ?_
  have BL2 : Blk ((w1.setCell ⟨w.heap.size, 0, none⟩ (.int .u8 (x % 256))).setCell ⟨w.heap.size, 1, none⟩ (.int .i64 y)) w.heap.size 44 #[.int .u8 (x % 256), .int .i64 y] := by
    have := (BL.set_ 0 (.int .u8 (x % 256))).set_ 1 (.int .i64 y)
    simpa using this
  have B2 := (B1.far (p := ⟨w.heap.size, 0, none⟩) hgl (.int .u8 (x % 256))).far (p := ⟨w.heap.size, 1, none⟩) hgl (.int .i64 y)
  have k2 : Below w.heap.size w ((w1.setCell ⟨w.heap.size, 0, none⟩ (.int .u8 (x % 256))).setCell ⟨w.heap.size, 1, none⟩ (.int .i64 y)) := (k1.setCell (p := ⟨w.heap.size, 0, none⟩) (Nat.le_refl _) _).setCell (p := ⟨w.heap.size, 1, none⟩) (Nat.le_refl _) _
  refine ⟨k2, ?_⟩
  generalize (w1.setCell ⟨w.heap.size, 0, none⟩ (.int .u8 (x % 256))).setCell ⟨w.heap.size, 1, none⟩ (.int .i64 y) = w2 at BL2 B2 k2 ⊢
  simp only [Act.put, List.getElem_toArray, List.getElem_cons_zero, List.getElem_cons_succ, List.setIfInBounds_toArray, List.set_cons_zero, List.set_cons_succ]
  refine Hold.done (by kernel_rfl) ?_
  have z0 : w2.cell? ⟨w.heap.size, 0, none⟩ = some (.int .u8 (x % 256)) := BL2.cell 0
  have z1 : w2.cell? ⟨w.heap.size, 1, none⟩ = some (.int .i64 y) := BL2.cell 1
  have d0 : w2.cell? ⟨sb, 8, none⟩ = some (.int .u8 u) := (B2.cell 8).trans ho
  have d1 : w2.cell? ⟨sb, 9, none⟩ = some (.int .i64 u') := (B2.cell 9).trans ho'
  have f0 := B2.frozen 8
  have f1 := B2.frozen 9
  have F2 := Foot.of_below [sb] k2
  have B2 := hide B2
  have F2 := hide F2
  clear y0 y1 g0 g1 BL BL2 B1 k1 k2 C0 C1 hS hgl
  generalize w.heap.size = gl at z0 z1 ⊢
  go_wp2_with fail
  go_returns
  exact ⟨rfl, (B2.out.set_ 8 _).set_ 9 _, (F2.out.setCell (p := ⟨sb, 8, none⟩) (.inl (by simp)) _).setCell (p := ⟨sb, 9, none⟩) (.inl (by simp)) _⟩
set_option maxRecDepth 100000 in
theorem edge16 (w : World) (sb : Nat) (cs : Array Value) (vb vo vc : Nat) (x y u u' : Int) (n : Nat) (hB : Blk w sb 49 cs) (ho : cs[10]? = some (.int .u8 u)) (ho' : cs[11]? = some (.int .i64 u')) (hn : 1 < n) (h0 : w.cell? ⟨vb, vo, none⟩ = some (.int .i64 x)) (h1 : w.cell? ⟨vb, vo + 1, none⟩ = some (.int .i64 y)) (hv : vb < w.heap.size) :
    Calls Try.prog 85 #[.pointer (some ⟨sb, 0, none⟩), .int .i64 16, .slice (some ⟨vb, vo, none⟩) n vc] w fun r w' => r = .returned (.tuple #[]) ∧ Blk w' sb 49 ((cs.setIfInBounds 10 (.int .u8 (x % 256))).setIfInBounds 11 (.int .i64 y)) ∧ Foot [sb] w w' := by
  have C0 := keepc (p := ⟨vb, vo, none⟩) hv h0
  have C1 := keepc (p := ⟨vb, vo + 1, none⟩) hv h1
  have hB := hide hB
  clear h0 h1
  go_enter Try.func85, Try.ntmps85
  go_upto_region 4 with fail
  refine Hold.begin_ 10 (by kernel_rfl) rfl (fun w' => Below w.heap.size w w') ?_ (Below.refl _ _).drew
  intro hS
  refine Hold.take (i := 0) (v := ?_) rfl (by kernel_rfl) (fun _ _ _ h => h) rfl ?_ hS ?_
  rotate_left
  · intro w' hS; have z0_ := C0 _ hS; have z1_ := C1 _ hS; go_simp; (try go_bits); (first | rfl | rw [if_pos (by omega)])
  simp only [Act.put, List.getElem_toArray, List.getElem_cons_zero, List.getElem_cons_succ, List.setIfInBounds_toArray, List.set_cons_zero, List.set_cons_succ]
  refine Hold.take (i := 1) (v := ?_) rfl (by kernel_rfl) (fun _ _ _ h => h) rfl ?_ hS ?_
  rotate_left
  · intro w' hS; have z0_ := C0 _ hS; have z1_ := C1 _ hS; go_simp; (try go_bits); (first | rfl | rw [if_pos (by omega)])
  simp only [Act.put, List.getElem_toArray, List.getElem_cons_zero, List.getElem_cons_succ, List.setIfInBounds_toArray, List.set_cons_zero, List.set_cons_succ]
  refine Hold.take (i := 2) (v := ?_) rfl (by kernel_rfl) (fun _ _ _ h => h) rfl ?_ hS ?_
  rotate_left
  · intro w' hS; have z0_ := C0 _ hS; have z1_ := C1 _ hS; go_simp; (try go_bits); (first | rfl | rw [if_pos (by omega)])
  simp only [Act.put, List.getElem_toArray, List.getElem_cons_zero, List.getElem_cons_succ, List.setIfInBounds_toArray, List.set_cons_zero, List.set_cons_succ]
  refine Hold.take (i := 4) (v := ?_) rfl (by kernel_rfl) (fun _ _ _ h => h) rfl ?_ hS ?_
  rotate_left
  · intro w' hS; have z0_ := C0 _ hS; have z1_ := C1 _ hS; go_simp; (try go_bits); (first | rfl | rw [if_pos (by omega)])
  simp only [Act.put, List.getElem_toArray, List.getElem_cons_zero, List.getElem_cons_succ, List.setIfInBounds_toArray, List.set_cons_zero, List.set_cons_succ]
  refine Hold.take (i := 5) (v := ?_) rfl (by kernel_rfl) (fun _ _ _ h => h) rfl ?_ hS ?_
  rotate_left
  · intro w' hS; have z0_ := C0 _ hS; have z1_ := C1 _ hS; go_simp; (try go_bits); (first | rfl | rw [if_pos (by omega)])
  simp only [Act.put, List.getElem_toArray, List.getElem_cons_zero, List.getElem_cons_succ, List.setIfInBounds_toArray, List.set_cons_zero, List.set_cons_succ]
  refine Hold.take (i := 6) (v := ?_) rfl (by kernel_rfl) (fun _ _ _ h => h) rfl ?_ hS ?_
  rotate_left
  · intro w' hS; have z0_ := C0 _ hS; have z1_ := C1 _ hS; go_simp; (try go_bits); (first | rfl | rw [if_pos (by omega)])
  simp only [Act.put, List.getElem_toArray, List.getElem_cons_zero, List.getElem_cons_succ, List.setIfInBounds_toArray, List.set_cons_zero, List.set_cons_succ]
  refine Hold.quiet (i := 3) (v := ?_) (f := ?_) (args := ?_) rfl (by kernel_rfl) (fun _ _ _ h => h) rfl ?_ ?_ hS ?_
  rotate_left 3
  · intro w2 hS; go_simp; exact ⟨by rfl, by rfl⟩
  · intro w2 hS; refine (rsmall_any x w2).mono ?_; rintro e w3 ⟨rfl, rfl⟩; exact ⟨by rfl, rfl⟩
  simp only [Act.put, List.getElem_toArray, List.getElem_cons_zero, List.getElem_cons_succ, List.setIfInBounds_toArray, List.set_cons_zero, List.set_cons_succ]
  refine Hold.take (i := 7) (v := ?_) rfl (by kernel_rfl) (fun _ _ _ h => h) rfl ?_ hS ?_
  rotate_left
  · intro w' hS; have z0_ := C0 _ hS; have z1_ := C1 _ hS; go_simp; (try go_bits); (first | rfl | rw [if_pos (by omega)])
  simp only [Act.put, List.getElem_toArray, List.getElem_cons_zero, List.getElem_cons_succ, List.setIfInBounds_toArray, List.set_cons_zero, List.set_cons_succ]
  refine Hold.one (i := 8) (by kernel_rfl) ?_
  refine Hold.run (w' := w.drew.alloc (.cells #[.int .u8 0, .int .i64 0] 44)) rfl rfl (by go_simp; first | rfl | exact ⟨rfl, rfl⟩) ?_
  refine ⟨(Below.refl _ _).drew.alloc (Nat.le_refl _) _, ?_⟩
  simp only [Act.put, List.getElem_toArray, List.getElem_cons_zero, List.getElem_cons_succ, List.setIfInBounds_toArray, List.set_cons_zero, List.set_cons_succ]
  obtain ⟨w1, hw1⟩ : ∃ w1, w1 = w.drew.alloc (.cells #[.int .u8 0, .int .i64 0] 44) := ⟨_, rfl⟩
  have BL : Blk w1 w.drew.heap.size 44 #[.int .u8 0, .int .i64 0] := by rw [hw1]; exact Blk.new _ _ _
  have k1 : Below w.heap.size w w1 := by rw [hw1]; exact (Below.refl _ _).drew.alloc (Nat.le_refl _) _
  rw [← hw1]
  clear hw1
  have BL : Blk w1 w.heap.size 44 #[.int .u8 0, .int .i64 0] := BL
  have hgl : sb ≠ w.heap.size := by have := hB.out.lt; omega
  have B1 := hB.out.below k1 hB.out.lt
  have y0 : w1.cell? ⟨w.heap.size, 0, none⟩ = some (.int .u8 0) := BL.cell 0
  have y1 : w1.cell? ⟨w.heap.size, 1, none⟩ = some (.int .i64 0) := BL.cell 1
  have g0 := BL.frozen 0
  have g1 := BL.frozen 1
  refine Hold.one (i := 9) (by kernel_rfl) ?_
  refine Hold.skip (w' := (w1.setCell ⟨w.heap.size, 0, none⟩ (.int .u8 (x % 256))).setCell ⟨w.heap.size, 1, none⟩ (.int .i64 y)) rfl rfl (by go_simp <;> first | rfl | exact ⟨rfl, rfl⟩) ?_
  have BL2 : Blk ((w1.setCell ⟨w.heap.size, 0, none⟩ (.int .u8 (x % 256))).setCell ⟨w.heap.size, 1, none⟩ (.int .i64 y)) w.heap.size 44 #[.int .u8 (x % 256), .int .i64 y] := by
    have := (BL.set_ 0 (.int .u8 (x % 256))).set_ 1 (.int .i64 y)
    simpa using this
  have B2 := (B1.far (p := ⟨w.heap.size, 0, none⟩) hgl (.int .u8 (x % 256))).far (p := ⟨w.heap.size, 1, none⟩) hgl (.int .i64 y)
  have k2 : Below w.heap.size w ((w1.setCell ⟨w.heap.size, 0, none⟩ (.int .u8 (x % 256))).setCell ⟨w.heap.size, 1, none⟩ (.int .i64 y)) := (k1.setCell (p := ⟨w.heap.size, 0, none⟩) (Nat.le_refl _) _).setCell (p := ⟨w.heap.size, 1, none⟩) (Nat.le_refl _) _
  refine ⟨k2, ?_⟩
  generalize (w1.setCell ⟨w.heap.size, 0, none⟩ (.int .u8 (x % 256))).setCell ⟨w.heap.size, 1, none⟩ (.int .i64 y) = w2 at BL2 B2 k2 ⊢
  simp only [Act.put, List.getElem_toArray, List.getElem_cons_zero, List.getElem_cons_succ, List.setIfInBounds_toArray, List.set_cons_zero, List.set_cons_succ]
  refine Hold.done (by kernel_rfl) ?_
  have z0 : w2.cell? ⟨w.heap.size, 0, none⟩ = some (.int .u8 (x % 256)) := BL2.cell 0
  have z1 : w2.cell? ⟨w.heap.size, 1, none⟩ = some (.int .i64 y) := BL2.cell 1
  have d0 : w2.cell? ⟨sb, 10, none⟩ = some (.int .u8 u) := (B2.cell 10).trans ho
  have d1 : w2.cell? ⟨sb, 11, none⟩ = some (.int .i64 u') := (B2.cell 11).trans ho'
  have f0 := B2.frozen 10
  have f1 := B2.frozen 11
  have F2 := Foot.of_below [sb] k2
  have B2 := hide B2
  have F2 := hide F2
  clear y0 y1 g0 g1 BL BL2 B1 k1 k2 C0 C1 hS hgl
  generalize w.heap.size = gl at z0 z1 ⊢
  go_wp2_with fail
  go_returns
  exact ⟨rfl, (B2.out.set_ 10 _).set_ 11 _, (F2.out.setCell (p := ⟨sb, 10, none⟩) (.inl (by simp)) _).setCell (p := ⟨sb, 11, none⟩) (.inl (by simp)) _⟩
set_option maxRecDepth 100000 in
theorem edge17 (w : World) (sb : Nat) (cs : Array Value) (vb vo vc : Nat) (x y u u' : Int) (n : Nat) (hB : Blk w sb 49 cs) (ho : cs[12]? = some (.int .u8 u)) (ho' : cs[13]? = some (.int .i64 u')) (hn : 1 < n) (h0 : w.cell? ⟨vb, vo, none⟩ = some (.int .i64 x)) (h1 : w.cell? ⟨vb, vo + 1, none⟩ = some (.int .i64 y)) (hv : vb < w.heap.size) :
    Calls Try.prog 85 #[.pointer (some ⟨sb, 0, none⟩), .int .i64 17, .slice (some ⟨vb, vo, none⟩) n vc] w fun r w' => r = .returned (.tuple #[]) ∧ Blk w' sb 49 ((cs.setIfInBounds 12 (.int .u8 (x % 256))).setIfInBounds 13 (.int .i64 y)) ∧ Foot [sb] w w' := by
  have C0 := keepc (p := ⟨vb, vo, none⟩) hv h0
  have C1 := keepc (p := ⟨vb, vo + 1, none⟩) hv h1
  have hB := hide hB
  clear h0 h1
  go_enter Try.func85, Try.ntmps85
  go_upto_region 4 with fail
  refine Hold.begin_ 10 (by kernel_rfl) rfl (fun w' => Below w.heap.size w w') ?_ (Below.refl _ _).drew
  intro hS
  refine Hold.take (i := 0) (v := ?_) rfl (by kernel_rfl) (fun _ _ _ h => h) rfl ?_ hS ?_
  rotate_left
  · intro w' hS; have z0_ := C0 _ hS; have z1_ := C1 _ hS; go_simp; (try go_bits); (first | rfl | rw [if_pos (by omega)])
  simp only [Act.put, List.getElem_toArray, List.getElem_cons_zero, List.getElem_cons_succ, List.setIfInBounds_toArray, List.set_cons_zero, List.set_cons_succ]
  refine Hold.take (i := 1) (v := ?_) rfl (by kernel_rfl) (fun _ _ _ h => h) rfl ?_ hS ?_
  rotate_left
  · intro w' hS; have z0_ := C0 _ hS; have z1_ := C1 _ hS; go_simp; (try go_bits); (first | rfl | rw [if_pos (by omega)])
  simp only [Act.put, List.getElem_toArray, List.getElem_cons_zero, List.getElem_cons_succ, List.setIfInBounds_toArray, List.set_cons_zero, List.set_cons_succ]
  refine Hold.take (i := 2) (v := ?_) rfl (by kernel_rfl) (fun _ _ _ h => h) rfl ?_ hS ?_
  rotate_left
  · intro w' hS; have z0_ := C0 _ hS; have z1_ := C1 _ hS; go_simp; (try go_bits); (first | rfl | rw [if_pos (by omega)])
  simp only [Act.put, List.getElem_toArray, List.getElem_cons_zero, List.getElem_cons_succ, List.setIfInBounds_toArray, List.set_cons_zero, List.set_cons_succ]
  refine Hold.take (i := 4) (v := ?_) rfl (by kernel_rfl) (fun _ _ _ h => h) rfl ?_ hS ?_
  rotate_left
  · intro w' hS; have z0_ := C0 _ hS; have z1_ := C1 _ hS; go_simp; (try go_bits); (first | rfl | rw [if_pos (by omega)])
  simp only [Act.put, List.getElem_toArray, List.getElem_cons_zero, List.getElem_cons_succ, List.setIfInBounds_toArray, List.set_cons_zero, List.set_cons_succ]
  refine Hold.take (i := 5) (v := ?_) rfl (by kernel_rfl) (fun _ _ _ h => h) rfl ?_ hS ?_
  rotate_left
  · intro w' hS; have z0_ := C0 _ hS; have z1_ := C1 _ hS; go_simp; (try go_bits); (first | rfl | rw [if_pos (by omega)])
  simp only [Act.put, List.getElem_toArray, List.getElem_cons_zero, List.getElem_cons_succ, List.setIfInBounds_toArray, List.set_cons_zero, List.set_cons_succ]
  refine Hold.take (i := 6) (v := ?_) rfl (by kernel_rfl) (fun _ _ _ h => h) rfl ?_ hS ?_
  rotate_left
  · intro w' hS; have z0_ := C0 _ hS; have z1_ := C1 _ hS; go_simp; (try go_bits); (first | rfl | rw [if_pos (by omega)])
  simp only [Act.put, List.getElem_toArray, List.getElem_cons_zero, List.getElem_cons_succ, List.setIfInBounds_toArray, List.set_cons_zero, List.set_cons_succ]
  refine Hold.quiet (i := 3) (v := ?_) (f := ?_) (args := ?_) rfl (by kernel_rfl) (fun _ _ _ h => h) rfl ?_ ?_ hS ?_
  rotate_left 3
  · intro w2 hS; go_simp; exact ⟨by rfl, by rfl⟩
  · intro w2 hS; refine (rsmall_any x w2).mono ?_; rintro e w3 ⟨rfl, rfl⟩; exact ⟨by rfl, rfl⟩
  simp only [Act.put, List.getElem_toArray, List.getElem_cons_zero, List.getElem_cons_succ, List.setIfInBounds_toArray, List.set_cons_zero, List.set_cons_succ]
  refine Hold.take (i := 7) (v := ?_) rfl (by kernel_rfl) (fun _ _ _ h => h) rfl ?_ hS ?_
  rotate_left
  · intro w' hS; have z0_ := C0 _ hS; have z1_ := C1 _ hS; go_simp; (try go_bits); (first | rfl | rw [if_pos (by omega)])
  simp only [Act.put, List.getElem_toArray, List.getElem_cons_zero, List.getElem_cons_succ, List.setIfInBounds_toArray, List.set_cons_zero, List.set_cons_succ]
  refine Hold.one (i := 8) (by kernel_rfl) ?_
  refine Hold.run (w' := w.drew.alloc (.cells #[.int .u8 0, .int .i64 0] 44)) rfl rfl (by go_simp; first | rfl | exact ⟨rfl, rfl⟩) ?_
  refine ⟨(Below.refl _ _).drew.alloc (Nat.le_refl _) _, ?_⟩
  simp only [Act.put, List.getElem_toArray, List.getElem_cons_zero, List.getElem_cons_succ, List.setIfInBounds_toArray, List.set_cons_zero, List.set_cons_succ]
  obtain ⟨w1, hw1⟩ : ∃ w1, w1 = w.drew.alloc (.cells #[.int .u8 0, .int .i64 0] 44) := ⟨_, rfl⟩
  have BL : Blk w1 w.drew.heap.size 44 #[.int .u8 0, .int .i64 0] := by rw [hw1]; exact Blk.new _ _ _
  have k1 : Below w.heap.size w w1 := by rw [hw1]; exact (Below.refl _ _).drew.alloc (Nat.le_refl _) _
  rw [← hw1]
  clear hw1
  have BL : Blk w1 w.heap.size 44 #[.int .u8 0, .int .i64 0] := BL
  have hgl : sb ≠ w.heap.size := by have := hB.out.lt; omega
  have B1 := hB.out.below k1 hB.out.lt
  have y0 : w1.cell? ⟨w.heap.size, 0, none⟩ = some (.int .u8 0) := BL.cell 0
  have y1 : w1.cell? ⟨w.heap.size, 1, none⟩ = some (.int .i64 0) := BL.cell 1
  have g0 := BL.frozen 0
  have g1 := BL.frozen 1
  refine Hold.one (i := 9) (by kernel_rfl) ?_
  refine Hold.skip (w' := (w1.setCell ⟨w.heap.size, 0, none⟩ (.int .u8 (x % 256))).setCell ⟨w.heap.size, 1, none⟩ (.int .i64 y)) rfl rfl (by go_simp <;> first | rfl | exact ⟨rfl, rfl⟩) ?_
  have BL2 : Blk ((w1.setCell ⟨w.heap.size, 0, none⟩ (.int .u8 (x % 256))).setCell ⟨w.heap.size, 1, none⟩ (.int .i64 y)) w.heap.size 44 #[.int .u8 (x % 256), .int .i64 y] := by
    have := (BL.set_ 0 (.int .u8 (x % 256))).set_ 1 (.int .i64 y)
    simpa using this
  have B2 := (B1.far (p := ⟨w.heap.size, 0, none⟩) hgl (.int .u8 (x % 256))).far (p := ⟨w.heap.size, 1, none⟩) hgl (.int .i64 y)
  have k2 : Below w.heap.size w ((w1.setCell ⟨w.heap.size, 0, none⟩ (.int .u8 (x % 256))).setCell ⟨w.heap.size, 1, none⟩ (.int .i64 y)) := (k1.setCell (p := ⟨w.heap.size, 0, none⟩) (Nat.le_refl _) _).setCell (p := ⟨w.heap.size, 1, none⟩) (Nat.le_refl _) _
  refine ⟨k2, ?_⟩
  generalize (w1.setCell ⟨w.heap.size, 0, none⟩ (.int .u8 (x % 256))).setCell ⟨w.heap.size, 1, none⟩ (.int .i64 y) = w2 at BL2 B2 k2 ⊢
  simp only [Act.put, List.getElem_toArray, List.getElem_cons_zero, List.getElem_cons_succ, List.setIfInBounds_toArray, List.set_cons_zero, List.set_cons_succ]
  refine Hold.done (by kernel_rfl) ?_
  have z0 : w2.cell? ⟨w.heap.size, 0, none⟩ = some (.int .u8 (x % 256)) := BL2.cell 0
  have z1 : w2.cell? ⟨w.heap.size, 1, none⟩ = some (.int .i64 y) := BL2.cell 1
  have d0 : w2.cell? ⟨sb, 12, none⟩ = some (.int .u8 u) := (B2.cell 12).trans ho
  have d1 : w2.cell? ⟨sb, 13, none⟩ = some (.int .i64 u') := (B2.cell 13).trans ho'
  have f0 := B2.frozen 12
  have f1 := B2.frozen 13
  have F2 := Foot.of_below [sb] k2
  have B2 := hide B2
  have F2 := hide F2
  clear y0 y1 g0 g1 BL BL2 B1 k1 k2 C0 C1 hS hgl
  generalize w.heap.size = gl at z0 z1 ⊢
  go_wp2_with fail
  go_returns
  exact ⟨rfl, (B2.out.set_ 12 _).set_ 13 _, (F2.out.setCell (p := ⟨sb, 12, none⟩) (.inl (by simp)) _).setCell (p := ⟨sb, 13, none⟩) (.inl (by simp)) _⟩
set_option maxRecDepth 100000 in
theorem edge18 (w : World) (sb : Nat) (cs : Array Value) (vb vo vc : Nat) (x y u u' : Int) (n : Nat) (hB : Blk w sb 49 cs) (ho : cs[14]? = some (.int .u8 u)) (ho' : cs[15]? = some (.int .i64 u')) (hn : 1 < n) (h0 : w.cell? ⟨vb, vo, none⟩ = some (.int .i64 x)) (h1 : w.cell? ⟨vb, vo + 1, none⟩ = some (.int .i64 y)) (hv : vb < w.heap.size) :
    Calls Try.prog 85 #[.pointer (some ⟨sb, 0, none⟩), .int .i64 18, .slice (some ⟨vb, vo, none⟩) n vc] w fun r w' => r = .returned (.tuple #[]) ∧ Blk w' sb 49 ((cs.setIfInBounds 14 (.int .u8 (x % 256))).setIfInBounds 15 (.int .i64 y)) ∧ Foot [sb] w w' := by
  have C0 := keepc (p := ⟨vb, vo, none⟩) hv h0
  have C1 := keepc (p := ⟨vb, vo + 1, none⟩) hv h1
  have hB := hide hB
  clear h0 h1
  go_enter Try.func85, Try.ntmps85
  go_upto_region 4 with fail
  refine Hold.begin_ 10 (by kernel_rfl) rfl (fun w' => Below w.heap.size w w') ?_ (Below.refl _ _).drew
  intro hS
  refine Hold.take (i := 0) (v := ?_) rfl (by kernel_rfl) (fun _ _ _ h => h) rfl ?_ hS ?_
  rotate_left
  · intro w' hS; have z0_ := C0 _ hS; have z1_ := C1 _ hS; go_simp; (try go_bits); (first | rfl | rw [if_pos (by omega)])
  simp only [Act.put, List.getElem_toArray, List.getElem_cons_zero, List.getElem_cons_succ, List.setIfInBounds_toArray, List.set_cons_zero, List.set_cons_succ]
  refine Hold.take (i := 1) (v := ?_) rfl (by kernel_rfl) (fun _ _ _ h => h) rfl ?_ hS ?_
  rotate_left
  · intro w' hS; have z0_ := C0 _ hS; have z1_ := C1 _ hS; go_simp; (try go_bits); (first | rfl | rw [if_pos (by omega)])
  simp only [Act.put, List.getElem_toArray, List.getElem_cons_zero, List.getElem_cons_succ, List.setIfInBounds_toArray, List.set_cons_zero, List.set_cons_succ]
  refine Hold.take (i := 2) (v := ?_) rfl (by kernel_rfl) (fun _ _ _ h => h) rfl ?_ hS ?_
  rotate_left
  · intro w' hS; have z0_ := C0 _ hS; have z1_ := C1 _ hS; go_simp; (try go_bits); (first | rfl | rw [if_pos (by omega)])
  simp only [Act.put, List.getElem_toArray, List.getElem_cons_zero, List.getElem_cons_succ, List.setIfInBounds_toArray, List.set_cons_zero, List.set_cons_succ]
  refine Hold.take (i := 4) (v := ?_) rfl (by kernel_rfl) (fun _ _ _ h => h) rfl ?_ hS ?_
  rotate_left
  · intro w' hS; have z0_ := C0 _ hS; have z1_ := C1 _ hS; go_simp; (try go_bits); (first | rfl | rw [if_pos (by omega)])
  simp only [Act.put, List.getElem_toArray, List.getElem_cons_zero, List.getElem_cons_succ, List.setIfInBounds_toArray, List.set_cons_zero, List.set_cons_succ]
  refine Hold.take (i := 5) (v := ?_) rfl (by kernel_rfl) (fun _ _ _ h => h) rfl ?_ hS ?_
  rotate_left
  · intro w' hS; have z0_ := C0 _ hS; have z1_ := C1 _ hS; go_simp; (try go_bits); (first | rfl | rw [if_pos (by omega)])
  simp only [Act.put, List.getElem_toArray, List.getElem_cons_zero, List.getElem_cons_succ, List.setIfInBounds_toArray, List.set_cons_zero, List.set_cons_succ]
  refine Hold.take (i := 6) (v := ?_) rfl (by kernel_rfl) (fun _ _ _ h => h) rfl ?_ hS ?_
  rotate_left
  · intro w' hS; have z0_ := C0 _ hS; have z1_ := C1 _ hS; go_simp; (try go_bits); (first | rfl | rw [if_pos (by omega)])
  simp only [Act.put, List.getElem_toArray, List.getElem_cons_zero, List.getElem_cons_succ, List.setIfInBounds_toArray, List.set_cons_zero, List.set_cons_succ]
  refine Hold.quiet (i := 3) (v := ?_) (f := ?_) (args := ?_) rfl (by kernel_rfl) (fun _ _ _ h => h) rfl ?_ ?_ hS ?_
  rotate_left 3
  · intro w2 hS; go_simp; exact ⟨by rfl, by rfl⟩
  · intro w2 hS; refine (rsmall_any x w2).mono ?_; rintro e w3 ⟨rfl, rfl⟩; exact ⟨by rfl, rfl⟩
  simp only [Act.put, List.getElem_toArray, List.getElem_cons_zero, List.getElem_cons_succ, List.setIfInBounds_toArray, List.set_cons_zero, List.set_cons_succ]
  refine Hold.take (i := 7) (v := ?_) rfl (by kernel_rfl) (fun _ _ _ h => h) rfl ?_ hS ?_
  rotate_left
  · intro w' hS; have z0_ := C0 _ hS; have z1_ := C1 _ hS; go_simp; (try go_bits); (first | rfl | rw [if_pos (by omega)])
  simp only [Act.put, List.getElem_toArray, List.getElem_cons_zero, List.getElem_cons_succ, List.setIfInBounds_toArray, List.set_cons_zero, List.set_cons_succ]
  refine Hold.one (i := 8) (by kernel_rfl) ?_
  refine Hold.run (w' := w.drew.alloc (.cells #[.int .u8 0, .int .i64 0] 44)) rfl rfl (by go_simp; first | rfl | exact ⟨rfl, rfl⟩) ?_
  refine ⟨(Below.refl _ _).drew.alloc (Nat.le_refl _) _, ?_⟩
  simp only [Act.put, List.getElem_toArray, List.getElem_cons_zero, List.getElem_cons_succ, List.setIfInBounds_toArray, List.set_cons_zero, List.set_cons_succ]
  obtain ⟨w1, hw1⟩ : ∃ w1, w1 = w.drew.alloc (.cells #[.int .u8 0, .int .i64 0] 44) := ⟨_, rfl⟩
  have BL : Blk w1 w.drew.heap.size 44 #[.int .u8 0, .int .i64 0] := by rw [hw1]; exact Blk.new _ _ _
  have k1 : Below w.heap.size w w1 := by rw [hw1]; exact (Below.refl _ _).drew.alloc (Nat.le_refl _) _
  rw [← hw1]
  clear hw1
  have BL : Blk w1 w.heap.size 44 #[.int .u8 0, .int .i64 0] := BL
  have hgl : sb ≠ w.heap.size := by have := hB.out.lt; omega
  have B1 := hB.out.below k1 hB.out.lt
  have y0 : w1.cell? ⟨w.heap.size, 0, none⟩ = some (.int .u8 0) := BL.cell 0
  have y1 : w1.cell? ⟨w.heap.size, 1, none⟩ = some (.int .i64 0) := BL.cell 1
  have g0 := BL.frozen 0
  have g1 := BL.frozen 1
  refine Hold.one (i := 9) (by kernel_rfl) ?_
  refine Hold.skip (w' := (w1.setCell ⟨w.heap.size, 0, none⟩ (.int .u8 (x % 256))).setCell ⟨w.heap.size, 1, none⟩ (.int .i64 y)) rfl rfl (by go_simp <;> first | rfl | exact ⟨rfl, rfl⟩) ?_
  have BL2 : Blk ((w1.setCell ⟨w.heap.size, 0, none⟩ (.int .u8 (x % 256))).setCell ⟨w.heap.size, 1, none⟩ (.int .i64 y)) w.heap.size 44 #[.int .u8 (x % 256), .int .i64 y] := by
    have := (BL.set_ 0 (.int .u8 (x % 256))).set_ 1 (.int .i64 y)
    simpa using this
  have B2 := (B1.far (p := ⟨w.heap.size, 0, none⟩) hgl (.int .u8 (x % 256))).far (p := ⟨w.heap.size, 1, none⟩) hgl (.int .i64 y)
  have k2 : Below w.heap.size w ((w1.setCell ⟨w.heap.size, 0, none⟩ (.int .u8 (x % 256))).setCell ⟨w.heap.size, 1, none⟩ (.int .i64 y)) := (k1.setCell (p := ⟨w.heap.size, 0, none⟩) (Nat.le_refl _) _).setCell (p := ⟨w.heap.size, 1, none⟩) (Nat.le_refl _) _
  refine ⟨k2, ?_⟩
  generalize (w1.setCell ⟨w.heap.size, 0, none⟩ (.int .u8 (x % 256))).setCell ⟨w.heap.size, 1, none⟩ (.int .i64 y) = w2 at BL2 B2 k2 ⊢
  simp only [Act.put, List.getElem_toArray, List.getElem_cons_zero, List.getElem_cons_succ, List.setIfInBounds_toArray, List.set_cons_zero, List.set_cons_succ]
  refine Hold.done (by kernel_rfl) ?_
  have z0 : w2.cell? ⟨w.heap.size, 0, none⟩ = some (.int .u8 (x % 256)) := BL2.cell 0
  have z1 : w2.cell? ⟨w.heap.size, 1, none⟩ = some (.int .i64 y) := BL2.cell 1
  have d0 : w2.cell? ⟨sb, 14, none⟩ = some (.int .u8 u) := (B2.cell 14).trans ho
  have d1 : w2.cell? ⟨sb, 15, none⟩ = some (.int .i64 u') := (B2.cell 15).trans ho'
  have f0 := B2.frozen 14
  have f1 := B2.frozen 15
  have F2 := Foot.of_below [sb] k2
  have B2 := hide B2
  have F2 := hide F2
  clear y0 y1 g0 g1 BL BL2 B1 k1 k2 C0 C1 hS hgl
  generalize w.heap.size = gl at z0 z1 ⊢
  go_wp2_with fail
  go_returns
  exact ⟨rfl, (B2.out.set_ 14 _).set_ 15 _, (F2.out.setCell (p := ⟨sb, 14, none⟩) (.inl (by simp)) _).setCell (p := ⟨sb, 15, none⟩) (.inl (by simp)) _⟩
set_option maxRecDepth 100000 in
theorem edge19 (w : World) (sb : Nat) (cs : Array Value) (vb vo vc : Nat) (x y u u' : Int) (n : Nat) (hB : Blk w sb 49 cs) (ho : cs[40]? = some (.int .u8 u)) (ho' : cs[41]? = some (.int .i64 u')) (hn : 1 < n) (h0 : w.cell? ⟨vb, vo, none⟩ = some (.int .i64 x)) (h1 : w.cell? ⟨vb, vo + 1, none⟩ = some (.int .i64 y)) (hv : vb < w.heap.size) :
    Calls Try.prog 85 #[.pointer (some ⟨sb, 0, none⟩), .int .i64 19, .slice (some ⟨vb, vo, none⟩) n vc] w fun r w' => r = .returned (.tuple #[]) ∧ Blk w' sb 49 ((cs.setIfInBounds 40 (.int .u8 (x % 256))).setIfInBounds 41 (.int .i64 y)) ∧ Foot [sb] w w' := by
  have C0 := keepc (p := ⟨vb, vo, none⟩) hv h0
  have C1 := keepc (p := ⟨vb, vo + 1, none⟩) hv h1
  have hB := hide hB
  clear h0 h1
  go_enter Try.func85, Try.ntmps85
  go_upto_region 4 with fail
  refine Hold.begin_ 10 (by kernel_rfl) rfl (fun w' => Below w.heap.size w w') ?_ (Below.refl _ _).drew
  intro hS
  refine Hold.take (i := 0) (v := ?_) rfl (by kernel_rfl) (fun _ _ _ h => h) rfl ?_ hS ?_
  rotate_left
  · intro w' hS; have z0_ := C0 _ hS; have z1_ := C1 _ hS; go_simp; (try go_bits); (first | rfl | rw [if_pos (by omega)])
  simp only [Act.put, List.getElem_toArray, List.getElem_cons_zero, List.getElem_cons_succ, List.setIfInBounds_toArray, List.set_cons_zero, List.set_cons_succ]
  refine Hold.take (i := 1) (v := ?_) rfl (by kernel_rfl) (fun _ _ _ h => h) rfl ?_ hS ?_
  rotate_left
  · intro w' hS; have z0_ := C0 _ hS; have z1_ := C1 _ hS; go_simp; (try go_bits); (first | rfl | rw [if_pos (by omega)])
  simp only [Act.put, List.getElem_toArray, List.getElem_cons_zero, List.getElem_cons_succ, List.setIfInBounds_toArray, List.set_cons_zero, List.set_cons_succ]
  refine Hold.take (i := 2) (v := ?_) rfl (by kernel_rfl) (fun _ _ _ h => h) rfl ?_ hS ?_
  rotate_left
  · intro w' hS; have z0_ := C0 _ hS; have z1_ := C1 _ hS; go_simp; (try go_bits); (first | rfl | rw [if_pos (by omega)])
  simp only [Act.put, List.getElem_toArray, List.getElem_cons_zero, List.getElem_cons_succ, List.setIfInBounds_toArray, List.set_cons_zero, List.set_cons_succ]
  refine Hold.take (i := 4) (v := ?_) rfl (by kernel_rfl) (fun _ _ _ h => h) rfl ?_ hS ?_
  rotate_left
  · intro w' hS; have z0_ := C0 _ hS; have z1_ := C1 _ hS; go_simp; (try go_bits); (first | rfl | rw [if_pos (by omega)])
  simp only [Act.put, List.getElem_toArray, List.getElem_cons_zero, List.getElem_cons_succ, List.setIfInBounds_toArray, List.set_cons_zero, List.set_cons_succ]
  refine Hold.take (i := 5) (v := ?_) rfl (by kernel_rfl) (fun _ _ _ h => h) rfl ?_ hS ?_
  rotate_left
  · intro w' hS; have z0_ := C0 _ hS; have z1_ := C1 _ hS; go_simp; (try go_bits); (first | rfl | rw [if_pos (by omega)])
  simp only [Act.put, List.getElem_toArray, List.getElem_cons_zero, List.getElem_cons_succ, List.setIfInBounds_toArray, List.set_cons_zero, List.set_cons_succ]
  refine Hold.take (i := 6) (v := ?_) rfl (by kernel_rfl) (fun _ _ _ h => h) rfl ?_ hS ?_
  rotate_left
  · intro w' hS; have z0_ := C0 _ hS; have z1_ := C1 _ hS; go_simp; (try go_bits); (first | rfl | rw [if_pos (by omega)])
  simp only [Act.put, List.getElem_toArray, List.getElem_cons_zero, List.getElem_cons_succ, List.setIfInBounds_toArray, List.set_cons_zero, List.set_cons_succ]
  refine Hold.quiet (i := 3) (v := ?_) (f := ?_) (args := ?_) rfl (by kernel_rfl) (fun _ _ _ h => h) rfl ?_ ?_ hS ?_
  rotate_left 3
  · intro w2 hS; go_simp; exact ⟨by rfl, by rfl⟩
  · intro w2 hS; refine (rsmall_any x w2).mono ?_; rintro e w3 ⟨rfl, rfl⟩; exact ⟨by rfl, rfl⟩
  simp only [Act.put, List.getElem_toArray, List.getElem_cons_zero, List.getElem_cons_succ, List.setIfInBounds_toArray, List.set_cons_zero, List.set_cons_succ]
  refine Hold.take (i := 7) (v := ?_) rfl (by kernel_rfl) (fun _ _ _ h => h) rfl ?_ hS ?_
  rotate_left
  · intro w' hS; have z0_ := C0 _ hS; have z1_ := C1 _ hS; go_simp; (try go_bits); (first | rfl | rw [if_pos (by omega)])
  simp only [Act.put, List.getElem_toArray, List.getElem_cons_zero, List.getElem_cons_succ, List.setIfInBounds_toArray, List.set_cons_zero, List.set_cons_succ]
  refine Hold.one (i := 8) (by kernel_rfl) ?_
  refine Hold.run (w' := w.drew.alloc (.cells #[.int .u8 0, .int .i64 0] 44)) rfl rfl (by go_simp; first | rfl | exact ⟨rfl, rfl⟩) ?_
  refine ⟨(Below.refl _ _).drew.alloc (Nat.le_refl _) _, ?_⟩
  simp only [Act.put, List.getElem_toArray, List.getElem_cons_zero, List.getElem_cons_succ, List.setIfInBounds_toArray, List.set_cons_zero, List.set_cons_succ]
  obtain ⟨w1, hw1⟩ : ∃ w1, w1 = w.drew.alloc (.cells #[.int .u8 0, .int .i64 0] 44) := ⟨_, rfl⟩
  have BL : Blk w1 w.drew.heap.size 44 #[.int .u8 0, .int .i64 0] := by rw [hw1]; exact Blk.new _ _ _
  have k1 : Below w.heap.size w w1 := by rw [hw1]; exact (Below.refl _ _).drew.alloc (Nat.le_refl _) _
  rw [← hw1]
  clear hw1
  have BL : Blk w1 w.heap.size 44 #[.int .u8 0, .int .i64 0] := BL
  have hgl : sb ≠ w.heap.size := by have := hB.out.lt; omega
  have B1 := hB.out.below k1 hB.out.lt
  have y0 : w1.cell? ⟨w.heap.size, 0, none⟩ = some (.int .u8 0) := BL.cell 0
  have y1 : w1.cell? ⟨w.heap.size, 1, none⟩ = some (.int .i64 0) := BL.cell 1
  have g0 := BL.frozen 0
  have g1 := BL.frozen 1
  refine Hold.one (i := 9) (by kernel_rfl) ?_
  refine Hold.skip (w' := (w1.setCell ⟨w.heap.size, 0, none⟩ (.int .u8 (x % 256))).setCell ⟨w.heap.size, 1, none⟩ (.int .i64 y)) rfl rfl (by go_simp <;> first | rfl | exact ⟨rfl, rfl⟩) ?_
  have BL2 : Blk ((w1.setCell ⟨w.heap.size, 0, none⟩ (.int .u8 (x % 256))).setCell ⟨w.heap.size, 1, none⟩ (.int .i64 y)) w.heap.size 44 #[.int .u8 (x % 256), .int .i64 y] := by
    have := (BL.set_ 0 (.int .u8 (x % 256))).set_ 1 (.int .i64 y)
    simpa using this
  have B2 := (B1.far (p := ⟨w.heap.size, 0, none⟩) hgl (.int .u8 (x % 256))).far (p := ⟨w.heap.size, 1, none⟩) hgl (.int .i64 y)
  have k2 : Below w.heap.size w ((w1.setCell ⟨w.heap.size, 0, none⟩ (.int .u8 (x % 256))).setCell ⟨w.heap.size, 1, none⟩ (.int .i64 y)) := (k1.setCell (p := ⟨w.heap.size, 0, none⟩) (Nat.le_refl _) _).setCell (p := ⟨w.heap.size, 1, none⟩) (Nat.le_refl _) _
  refine ⟨k2, ?_⟩
  generalize (w1.setCell ⟨w.heap.size, 0, none⟩ (.int .u8 (x % 256))).setCell ⟨w.heap.size, 1, none⟩ (.int .i64 y) = w2 at BL2 B2 k2 ⊢
  simp only [Act.put, List.getElem_toArray, List.getElem_cons_zero, List.getElem_cons_succ, List.setIfInBounds_toArray, List.set_cons_zero, List.set_cons_succ]
  refine Hold.done (by kernel_rfl) ?_
  have z0 : w2.cell? ⟨w.heap.size, 0, none⟩ = some (.int .u8 (x % 256)) := BL2.cell 0
  have z1 : w2.cell? ⟨w.heap.size, 1, none⟩ = some (.int .i64 y) := BL2.cell 1
  have d0 : w2.cell? ⟨sb, 40, none⟩ = some (.int .u8 u) := (B2.cell 40).trans ho
  have d1 : w2.cell? ⟨sb, 41, none⟩ = some (.int .i64 u') := (B2.cell 41).trans ho'
  have f0 := B2.frozen 40
  have f1 := B2.frozen 41
  have F2 := Foot.of_below [sb] k2
  have B2 := hide B2
  have F2 := hide F2
  clear y0 y1 g0 g1 BL BL2 B1 k1 k2 C0 C1 hS hgl
  generalize w.heap.size = gl at z0 z1 ⊢
  go_wp2_with fail
  go_returns
  exact ⟨rfl, (B2.out.set_ 40 _).set_ 41 _, (F2.out.setCell (p := ⟨sb, 40, none⟩) (.inl (by simp)) _).setCell (p := ⟨sb, 41, none⟩) (.inl (by simp)) _⟩
set_option maxRecDepth 100000 in
theorem edge20 (w : World) (sb : Nat) (cs : Array Value) (vb vo vc : Nat) (x y u u' : Int) (n : Nat) (hB : Blk w sb 49 cs) (ho : cs[16]? = some (.int .u8 u)) (ho' : cs[17]? = some (.int .i64 u')) (hn : 1 < n) (h0 : w.cell? ⟨vb, vo, none⟩ = some (.int .i64 x)) (h1 : w.cell? ⟨vb, vo + 1, none⟩ = some (.int .i64 y)) (hv : vb < w.heap.size) :
    Calls Try.prog 85 #[.pointer (some ⟨sb, 0, none⟩), .int .i64 20, .slice (some ⟨vb, vo, none⟩) n vc] w fun r w' => r = .returned (.tuple #[]) ∧ Blk w' sb 49 ((cs.setIfInBounds 16 (.int .u8 (x % 256))).setIfInBounds 17 (.int .i64 y)) ∧ Foot [sb] w w' := by
  have C0 := keepc (p := ⟨vb, vo, none⟩) hv h0
  have C1 := keepc (p := ⟨vb, vo + 1, none⟩) hv h1
  have hB := hide hB
  clear h0 h1
  go_enter Try.func85, Try.ntmps85
  go_upto_region 4 with fail
  refine Hold.begin_ 10 (by kernel_rfl) rfl (fun w' => Below w.heap.size w w') ?_ (Below.refl _ _).drew
  intro hS
  refine Hold.take (i := 0) (v := ?_) rfl (by kernel_rfl) (fun _ _ _ h => h) rfl ?_ hS ?_
  rotate_left
  · intro w' hS; have z0_ := C0 _ hS; have z1_ := C1 _ hS; go_simp; (try go_bits); (first | rfl | rw [if_pos (by omega)])
  simp only [Act.put, List.getElem_toArray, List.getElem_cons_zero, List.getElem_cons_succ, List.setIfInBounds_toArray, List.set_cons_zero, List.set_cons_succ]
  refine Hold.take (i := 1) (v := ?_) rfl (by kernel_rfl) (fun _ _ _ h => h) rfl ?_ hS ?_
  rotate_left
  · intro w' hS; have z0_ := C0 _ hS; have z1_ := C1 _ hS; go_simp; (try go_bits); (first | rfl | rw [if_pos (by omega)])
  simp only [Act.put, List.getElem_toArray, List.getElem_cons_zero, List.getElem_cons_succ, List.setIfInBounds_toArray, List.set_cons_zero, List.set_cons_succ]
  refine Hold.take (i := 2) (v := ?_) rfl (by kernel_rfl) (fun _ _ _ h => h) rfl ?_ hS ?_
  rotate_left
  · intro w' hS; have z0_ := C0 _ hS; have z1_ := C1 _ hS; go_simp; (try go_bits); (first | rfl | rw [if_pos (by omega)])
  simp only [Act.put, List.getElem_toArray, List.getElem_cons_zero, List.getElem_cons_succ, List.setIfInBounds_toArray, List.set_cons_zero, List.set_cons_succ]
  refine Hold.take (i := 4) (v := ?_) rfl (by kernel_rfl) (fun _ _ _ h => h) rfl ?_ hS ?_
  rotate_left
  · intro w' hS; have z0_ := C0 _ hS; have z1_ := C1 _ hS; go_simp; (try go_bits); (first | rfl | rw [if_pos (by omega)])
  simp only [Act.put, List.getElem_toArray, List.getElem_cons_zero, List.getElem_cons_succ, List.setIfInBounds_toArray, List.set_cons_zero, List.set_cons_succ]
  refine Hold.take (i := 5) (v := ?_) rfl (by kernel_rfl) (fun _ _ _ h => h) rfl ?_ hS ?_
  rotate_left
  · intro w' hS; have z0_ := C0 _ hS; have z1_ := C1 _ hS; go_simp; (try go_bits); (first | rfl | rw [if_pos (by omega)])
  simp only [Act.put, List.getElem_toArray, List.getElem_cons_zero, List.getElem_cons_succ, List.setIfInBounds_toArray, List.set_cons_zero, List.set_cons_succ]
  refine Hold.take (i := 6) (v := ?_) rfl (by kernel_rfl) (fun _ _ _ h => h) rfl ?_ hS ?_
  rotate_left
  · intro w' hS; have z0_ := C0 _ hS; have z1_ := C1 _ hS; go_simp; (try go_bits); (first | rfl | rw [if_pos (by omega)])
  simp only [Act.put, List.getElem_toArray, List.getElem_cons_zero, List.getElem_cons_succ, List.setIfInBounds_toArray, List.set_cons_zero, List.set_cons_succ]
  refine Hold.quiet (i := 3) (v := ?_) (f := ?_) (args := ?_) rfl (by kernel_rfl) (fun _ _ _ h => h) rfl ?_ ?_ hS ?_
  rotate_left 3
  · intro w2 hS; go_simp; exact ⟨by rfl, by rfl⟩
  · intro w2 hS; refine (rsmall_any x w2).mono ?_; rintro e w3 ⟨rfl, rfl⟩; exact ⟨by rfl, rfl⟩
  simp only [Act.put, List.getElem_toArray, List.getElem_cons_zero, List.getElem_cons_succ, List.setIfInBounds_toArray, List.set_cons_zero, List.set_cons_succ]
  refine Hold.take (i := 7) (v := ?_) rfl (by kernel_rfl) (fun _ _ _ h => h) rfl ?_ hS ?_
  rotate_left
  · intro w' hS; have z0_ := C0 _ hS; have z1_ := C1 _ hS; go_simp; (try go_bits); (first | rfl | rw [if_pos (by omega)])
  simp only [Act.put, List.getElem_toArray, List.getElem_cons_zero, List.getElem_cons_succ, List.setIfInBounds_toArray, List.set_cons_zero, List.set_cons_succ]
  refine Hold.one (i := 8) (by kernel_rfl) ?_
  refine Hold.run (w' := w.drew.alloc (.cells #[.int .u8 0, .int .i64 0] 44)) rfl rfl (by go_simp; first | rfl | exact ⟨rfl, rfl⟩) ?_
  refine ⟨(Below.refl _ _).drew.alloc (Nat.le_refl _) _, ?_⟩
  simp only [Act.put, List.getElem_toArray, List.getElem_cons_zero, List.getElem_cons_succ, List.setIfInBounds_toArray, List.set_cons_zero, List.set_cons_succ]
  obtain ⟨w1, hw1⟩ : ∃ w1, w1 = w.drew.alloc (.cells #[.int .u8 0, .int .i64 0] 44) := ⟨_, rfl⟩
  have BL : Blk w1 w.drew.heap.size 44 #[.int .u8 0, .int .i64 0] := by rw [hw1]; exact Blk.new _ _ _
  have k1 : Below w.heap.size w w1 := by rw [hw1]; exact (Below.refl _ _).drew.alloc (Nat.le_refl _) _
  rw [← hw1]
  clear hw1
  have BL : Blk w1 w.heap.size 44 #[.int .u8 0, .int .i64 0] := BL
  have hgl : sb ≠ w.heap.size := by have := hB.out.lt; omega
  have B1 := hB.out.below k1 hB.out.lt
  have y0 : w1.cell? ⟨w.heap.size, 0, none⟩ = some (.int .u8 0) := BL.cell 0
  have y1 : w1.cell? ⟨w.heap.size, 1, none⟩ = some (.int .i64 0) := BL.cell 1
  have g0 := BL.frozen 0
  have g1 := BL.frozen 1
  refine Hold.one (i := 9) (by kernel_rfl) ?_
  refine Hold.skip (w' := (w1.setCell ⟨w.heap.size, 0, none⟩ (.int .u8 (x % 256))).setCell ⟨w.heap.size, 1, none⟩ (.int .i64 y)) rfl rfl (by go_simp <;> first | rfl | exact ⟨rfl, rfl⟩) ?_
  have BL2 : Blk ((w1.setCell ⟨w.heap.size, 0, none⟩ (.int .u8 (x % 256))).setCell ⟨w.heap.size, 1, none⟩ (.int .i64 y)) w.heap.size 44 #[.int .u8 (x % 256), .int .i64 y] := by
    have := (BL.set_ 0 (.int .u8 (x % 256))).set_ 1 (.int .i64 y)
    simpa using this
  have B2 := (B1.far (p := ⟨w.heap.size, 0, none⟩) hgl (.int .u8 (x % 256))).far (p := ⟨w.heap.size, 1, none⟩) hgl (.int .i64 y)
  have k2 : Below w.heap.size w ((w1.setCell ⟨w.heap.size, 0, none⟩ (.int .u8 (x % 256))).setCell ⟨w.heap.size, 1, none⟩ (.int .i64 y)) := (k1.setCell (p := ⟨w.heap.size, 0, none⟩) (Nat.le_refl _) _).setCell (p := ⟨w.heap.size, 1, none⟩) (Nat.le_refl _) _
  refine ⟨k2, ?_⟩
  generalize (w1.setCell ⟨w.heap.size, 0, none⟩ (.int .u8 (x % 256))).setCell ⟨w.heap.size, 1, none⟩ (.int .i64 y) = w2 at BL2 B2 k2 ⊢
  simp only [Act.put, List.getElem_toArray, List.getElem_cons_zero, List.getElem_cons_succ, List.setIfInBounds_toArray, List.set_cons_zero, List.set_cons_succ]
  refine Hold.done (by kernel_rfl) ?_
  have z0 : w2.cell? ⟨w.heap.size, 0, none⟩ = some (.int .u8 (x % 256)) := BL2.cell 0
  have z1 : w2.cell? ⟨w.heap.size, 1, none⟩ = some (.int .i64 y) := BL2.cell 1
  have d0 : w2.cell? ⟨sb, 16, none⟩ = some (.int .u8 u) := (B2.cell 16).trans ho
  have d1 : w2.cell? ⟨sb, 17, none⟩ = some (.int .i64 u') := (B2.cell 17).trans ho'
  have f0 := B2.frozen 16
  have f1 := B2.frozen 17
  have F2 := Foot.of_below [sb] k2
  have B2 := hide B2
  have F2 := hide F2
  clear y0 y1 g0 g1 BL BL2 B1 k1 k2 C0 C1 hS hgl
  generalize w.heap.size = gl at z0 z1 ⊢
  go_upto_region 6 with fail
  go_region
  go_wp2_with fail
  go_returns
  exact ⟨rfl, (B2.out.set_ 16 _).set_ 17 _, ((F2.out.setCell (p := ⟨sb, 16, none⟩) (.inl (by simp)) _).setCell (p := ⟨sb, 17, none⟩) (.inl (by simp)) _).drew⟩
set_option maxRecDepth 100000 in
theorem edge21 (w : World) (sb : Nat) (cs : Array Value) (vb vo vc : Nat) (x y u u' : Int) (n : Nat) (hB : Blk w sb 49 cs) (ho : cs[18]? = some (.int .u8 u)) (ho' : cs[19]? = some (.int .i64 u')) (hn : 1 < n) (h0 : w.cell? ⟨vb, vo, none⟩ = some (.int .i64 x)) (h1 : w.cell? ⟨vb, vo + 1, none⟩ = some (.int .i64 y)) (hv : vb < w.heap.size) :
    Calls Try.prog 85 #[.pointer (some ⟨sb, 0, none⟩), .int .i64 21, .slice (some ⟨vb, vo, none⟩) n vc] w fun r w' => r = .returned (.tuple #[]) ∧ Blk w' sb 49 ((cs.setIfInBounds 18 (.int .u8 (x % 256))).setIfInBounds 19 (.int .i64 y)) ∧ Foot [sb] w w' := by
  have C0 := keepc (p := ⟨vb, vo, none⟩) hv h0
  have C1 := keepc (p := ⟨vb, vo + 1, none⟩) hv h1
  have hB := hide hB
  clear h0 h1
  go_enter Try.func85, Try.ntmps85
  go_upto_region 4 with fail
  refine Hold.begin_ 10 (by kernel_rfl) rfl (fun w' => Below w.heap.size w w') ?_ (Below.refl _ _).drew
  intro hS
  refine Hold.take (i := 0) (v := ?_) rfl (by kernel_rfl) (fun _ _ _ h => h) rfl ?_ hS ?_
  rotate_left
  · intro w' hS; have z0_ := C0 _ hS; have z1_ := C1 _ hS; go_simp; (try go_bits); (first | rfl | rw [if_pos (by omega)])
  simp only [Act.put, List.getElem_toArray, List.getElem_cons_zero, List.getElem_cons_succ, List.setIfInBounds_toArray, List.set_cons_zero, List.set_cons_succ]
  refine Hold.take (i := 1) (v := ?_) rfl (by kernel_rfl) (fun _ _ _ h => h) rfl ?_ hS ?_
  rotate_left
  · intro w' hS; have z0_ := C0 _ hS; have z1_ := C1 _ hS; go_simp; (try go_bits); (first | rfl | rw [if_pos (by omega)])
  simp only [Act.put, List.getElem_toArray, List.getElem_cons_zero, List.getElem_cons_succ, List.setIfInBounds_toArray, List.set_cons_zero, List.set_cons_succ]
  refine Hold.take (i := 2) (v := ?_) rfl (by kernel_rfl) (fun _ _ _ h => h) rfl ?_ hS ?_
  rotate_left
  · intro w' hS; have z0_ := C0 _ hS; have z1_ := C1 _ hS; go_simp; (try go_bits); (first | rfl | rw [if_pos (by omega)])
  simp only [Act.put, List.getElem_toArray, List.getElem_cons_zero, List.getElem_cons_succ, List.setIfInBounds_toArray, List.set_cons_zero, List.set_cons_succ]
  refine Hold.take (i := 4) (v := ?_) rfl (by kernel_rfl) (fun _ _ _ h => h) rfl ?_ hS ?_
  rotate_left
  · intro w' hS; have z0_ := C0 _ hS; have z1_ := C1 _ hS; go_simp; (try go_bits); (first | rfl | rw [if_pos (by omega)])
  simp only [Act.put, List.getElem_toArray, List.getElem_cons_zero, List.getElem_cons_succ, List.setIfInBounds_toArray, List.set_cons_zero, List.set_cons_succ]
  refine Hold.take (i := 5) (v := ?_) rfl (by kernel_rfl) (fun _ _ _ h => h) rfl ?_ hS ?_
  rotate_left
  · intro w' hS; have z0_ := C0 _ hS; have z1_ := C1 _ hS; go_simp; (try go_bits); (first | rfl | rw [if_pos (by omega)])
  simp only [Act.put, List.getElem_toArray, List.getElem_cons_zero, List.getElem_cons_succ, List.setIfInBounds_toArray, List.set_cons_zero, List.set_cons_succ]
  refine Hold.take (i := 6) (v := ?_) rfl (by kernel_rfl) (fun _ _ _ h => h) rfl ?_ hS ?_
  rotate_left
  · intro w' hS; have z0_ := C0 _ hS; have z1_ := C1 _ hS; go_simp; (try go_bits); (first | rfl | rw [if_pos (by omega)])
  simp only [Act.put, List.getElem_toArray, List.getElem_cons_zero, List.getElem_cons_succ, List.setIfInBounds_toArray, List.set_cons_zero, List.set_cons_succ]
  refine Hold.quiet (i := 3) (v := ?_) (f := ?_) (args := ?_) rfl (by kernel_rfl) (fun _ _ _ h => h) rfl ?_ ?_ hS ?_
  rotate_left 3
  · intro w2 hS; go_simp; exact ⟨by rfl, by rfl⟩
  · intro w2 hS; refine (rsmall_any x w2).mono ?_; rintro e w3 ⟨rfl, rfl⟩; exact ⟨by rfl, rfl⟩
  simp only [Act.put, List.getElem_toArray, List.getElem_cons_zero, List.getElem_cons_succ, List.setIfInBounds_toArray, List.set_cons_zero, List.set_cons_succ]
  refine Hold.take (i := 7) (v := ?_) rfl (by kernel_rfl) (fun _ _ _ h => h) rfl ?_ hS ?_
  rotate_left
  · intro w' hS; have z0_ := C0 _ hS; have z1_ := C1 _ hS; go_simp; (try go_bits); (first | rfl | rw [if_pos (by omega)])
  simp only [Act.put, List.getElem_toArray, List.getElem_cons_zero, List.getElem_cons_succ, List.setIfInBounds_toArray, List.set_cons_zero, List.set_cons_succ]
  refine Hold.one (i := 8) (by kernel_rfl) ?_
  refine Hold.run (w' := w.drew.alloc (.cells #[.int .u8 0, .int .i64 0] 44)) rfl rfl (by go_simp; first | rfl | exact ⟨rfl, rfl⟩) ?_
  refine ⟨(Below.refl _ _).drew.alloc (Nat.le_refl _) _, ?_⟩
  simp only [Act.put, List.getElem_toArray, List.getElem_cons_zero, List.getElem_cons_succ, List.setIfInBounds_toArray, List.set_cons_zero, List.set_cons_succ]
  obtain ⟨w1, hw1⟩ : ∃ w1, w1 = w.drew.alloc (.cells #[.int .u8 0, .int .i64 0] 44) := ⟨_, rfl⟩
  have BL : Blk w1 w.drew.heap.size 44 #[.int .u8 0, .int .i64 0] := by rw [hw1]; exact Blk.new _ _ _
  have k1 : Below w.heap.size w w1 := by rw [hw1]; exact (Below.refl _ _).drew.alloc (Nat.le_refl _) _
  rw [← hw1]
  clear hw1
  have BL : Blk w1 w.heap.size 44 #[.int .u8 0, .int .i64 0] := BL
  have hgl : sb ≠ w.heap.size := by have := hB.out.lt; omega
  have B1 := hB.out.below k1 hB.out.lt
  have y0 : w1.cell? ⟨w.heap.size, 0, none⟩ = some (.int .u8 0) := BL.cell 0
  have y1 : w1.cell? ⟨w.heap.size, 1, none⟩ = some (.int .i64 0) := BL.cell 1
  have g0 := BL.frozen 0
  have g1 := BL.frozen 1
  refine Hold.one (i := 9) (by kernel_rfl) ?_
  refine Hold.skip (w' := (w1.setCell ⟨w.heap.size, 0, none⟩ (.int .u8 (x % 256))).setCell ⟨w.heap.size, 1, none⟩ (.int .i64 y)) rfl rfl (by go_simp <;> first | rfl | exact ⟨rfl, rfl⟩) ?_
  have BL2 : Blk ((w1.setCell ⟨w.heap.size, 0, none⟩ (.int .u8 (x % 256))).setCell ⟨w.heap.size, 1, none⟩ (.int .i64 y)) w.heap.size 44 #[.int .u8 (x % 256), .int .i64 y] := by
    have := (BL.set_ 0 (.int .u8 (x % 256))).set_ 1 (.int .i64 y)
    simpa using this
  have B2 := (B1.far (p := ⟨w.heap.size, 0, none⟩) hgl (.int .u8 (x % 256))).far (p := ⟨w.heap.size, 1, none⟩) hgl (.int .i64 y)
  have k2 : Below w.heap.size w ((w1.setCell ⟨w.heap.size, 0, none⟩ (.int .u8 (x % 256))).setCell ⟨w.heap.size, 1, none⟩ (.int .i64 y)) := (k1.setCell (p := ⟨w.heap.size, 0, none⟩) (Nat.le_refl _) _).setCell (p := ⟨w.heap.size, 1, none⟩) (Nat.le_refl _) _
  refine ⟨k2, ?_⟩
  generalize (w1.setCell ⟨w.heap.size, 0, none⟩ (.int .u8 (x % 256))).setCell ⟨w.heap.size, 1, none⟩ (.int .i64 y) = w2 at BL2 B2 k2 ⊢
  simp only [Act.put, List.getElem_toArray, List.getElem_cons_zero, List.getElem_cons_succ, List.setIfInBounds_toArray, List.set_cons_zero, List.set_cons_succ]
  refine Hold.done (by kernel_rfl) ?_
  have z0 : w2.cell? ⟨w.heap.size, 0, none⟩ = some (.int .u8 (x % 256)) := BL2.cell 0
  have z1 : w2.cell? ⟨w.heap.size, 1, none⟩ = some (.int .i64 y) := BL2.cell 1
  have d0 : w2.cell? ⟨sb, 18, none⟩ = some (.int .u8 u) := (B2.cell 18).trans ho
  have d1 : w2.cell? ⟨sb, 19, none⟩ = some (.int .i64 u') := (B2.cell 19).trans ho'
  have f0 := B2.frozen 18
  have f1 := B2.frozen 19
  have F2 := Foot.of_below [sb] k2
  have B2 := hide B2
  have F2 := hide F2
  clear y0 y1 g0 g1 BL BL2 B1 k1 k2 C0 C1 hS hgl
  generalize w.heap.size = gl at z0 z1 ⊢
  go_upto_region 6 with fail
  go_region
  go_wp2_with fail
  go_returns
  exact ⟨rfl, (B2.out.set_ 18 _).set_ 19 _, ((F2.out.setCell (p := ⟨sb, 18, none⟩) (.inl (by simp)) _).setCell (p := ⟨sb, 19, none⟩) (.inl (by simp)) _).drew⟩
set_option maxRecDepth 100000 in
theorem edge22 (w : World) (sb : Nat) (cs : Array Value) (vb vo vc : Nat) (x y u u' : Int) (n : Nat) (hB : Blk w sb 49 cs) (ho : cs[20]? = some (.int .u8 u)) (ho' : cs[21]? = some (.int .i64 u')) (hn : 1 < n) (h0 : w.cell? ⟨vb, vo, none⟩ = some (.int .i64 x)) (h1 : w.cell? ⟨vb, vo + 1, none⟩ = some (.int .i64 y)) (hv : vb < w.heap.size) :
    Calls Try.prog 85 #[.pointer (some ⟨sb, 0, none⟩), .int .i64 22, .slice (some ⟨vb, vo, none⟩) n vc] w fun r w' => r = .returned (.tuple #[]) ∧ Blk w' sb 49 ((cs.setIfInBounds 20 (.int .u8 (x % 256))).setIfInBounds 21 (.int .i64 y)) ∧ Foot [sb] w w' := by
  have C0 := keepc (p := ⟨vb, vo, none⟩) hv h0
  have C1 := keepc (p := ⟨vb, vo + 1, none⟩) hv h1
  have hB := hide hB
  clear h0 h1
  go_enter Try.func85, Try.ntmps85
  go_upto_region 4 with fail
  refine Hold.begin_ 10 (by kernel_rfl) rfl (fun w' => Below w.heap.size w w') ?_ (Below.refl _ _).drew
  intro hS
  refine Hold.take (i := 0) (v := ?_) rfl (by kernel_rfl) (fun _ _ _ h => h) rfl ?_ hS ?_
  rotate_left
  · intro w' hS; have z0_ := C0 _ hS; have z1_ := C1 _ hS; go_simp; (try go_bits); (first | rfl | rw [if_pos (by omega)])
  simp only [Act.put, List.getElem_toArray, List.getElem_cons_zero, List.getElem_cons_succ, List.setIfInBounds_toArray, List.set_cons_zero, List.set_cons_succ]
  refine Hold.take (i := 1) (v := ?_) rfl (by kernel_rfl) (fun _ _ _ h => h) rfl ?_ hS ?_
  rotate_left
  · intro w' hS; have z0_ := C0 _ hS; have z1_ := C1 _ hS; go_simp; (try go_bits); (first | rfl | rw [if_pos (by omega)])
  simp only [Act.put, List.getElem_toArray, List.getElem_cons_zero, List.getElem_cons_succ, List.setIfInBounds_toArray, List.set_cons_zero, List.set_cons_succ]
  refine Hold.take (i := 2) (v := ?_) rfl (by kernel_rfl) (fun _ _ _ h => h) rfl ?_ hS ?_
  rotate_left
  · intro w' hS; have z0_ := C0 _ hS; have z1_ := C1 _ hS; go_simp; (try go_bits); (first | rfl | rw [if_pos (by omega)])
  simp only [Act.put, List.getElem_toArray, List.getElem_cons_zero, List.getElem_cons_succ, List.setIfInBounds_toArray, List.set_cons_zero, List.set_cons_succ]
  refine Hold.take (i := 4) (v := ?_) rfl (by kernel_rfl) (fun _ _ _ h => h) rfl ?_ hS ?_
  rotate_left
  · intro w' hS; have z0_ := C0 _ hS; have z1_ := C1 _ hS; go_simp; (try go_bits); (first | rfl | rw [if_pos (by omega)])
  simp only [Act.put, List.getElem_toArray, List.getElem_cons_zero, List.getElem_cons_succ, List.setIfInBounds_toArray, List.set_cons_zero, List.set_cons_succ]
  refine Hold.take (i := 5) (v := ?_) rfl (by kernel_rfl) (fun _ _ _ h => h) rfl ?_ hS ?_
  rotate_left
  · intro w' hS; have z0_ := C0 _ hS; have z1_ := C1 _ hS; go_simp; (try go_bits); (first | rfl | rw [if_pos (by omega)])
  simp only [Act.put, List.getElem_toArray, List.getElem_cons_zero, List.getElem_cons_succ, List.setIfInBounds_toArray, List.set_cons_zero, List.set_cons_succ]
  refine Hold.take (i := 6) (v := ?_) rfl (by kernel_rfl) (fun _ _ _ h => h) rfl ?_ hS ?_
  rotate_left
  · intro w' hS; have z0_ := C0 _ hS; have z1_ := C1 _ hS; go_simp; (try go_bits); (first | rfl | rw [if_pos (by omega)])
  simp only [Act.put, List.getElem_toArray, List.getElem_cons_zero, List.getElem_cons_succ, List.setIfInBounds_toArray, List.set_cons_zero, List.set_cons_succ]
  refine Hold.quiet (i := 3) (v := ?_) (f := ?_) (args := ?_) rfl (by kernel_rfl) (fun _ _ _ h => h) rfl ?_ ?_ hS ?_
  rotate_left 3
  · intro w2 hS; go_simp; exact ⟨by rfl, by rfl⟩
  · intro w2 hS; refine (rsmall_any x w2).mono ?_; rintro e w3 ⟨rfl, rfl⟩; exact ⟨by rfl, rfl⟩
  simp only [Act.put, List.getElem_toArray, List.getElem_cons_zero, List.getElem_cons_succ, List.setIfInBounds_toArray, List.set_cons_zero, List.set_cons_succ]
  refine Hold.take (i := 7) (v := ?_) rfl (by kernel_rfl) (fun _ _ _ h => h) rfl ?_ hS ?_
  rotate_left
  · intro w' hS; have z0_ := C0 _ hS; have z1_ := C1 _ hS; go_simp; (try go_bits); (first | rfl | rw [if_pos (by omega)])
  simp only [Act.put, List.getElem_toArray, List.getElem_cons_zero, List.getElem_cons_succ, List.setIfInBounds_toArray, List.set_cons_zero, List.set_cons_succ]
  refine Hold.one (i := 8) (by kernel_rfl) ?_
  refine Hold.run (w' := w.drew.alloc (.cells #[.int .u8 0, .int .i64 0] 44)) rfl rfl (by go_simp; first | rfl | exact ⟨rfl, rfl⟩) ?_
  refine ⟨(Below.refl _ _).drew.alloc (Nat.le_refl _) _, ?_⟩
  simp only [Act.put, List.getElem_toArray, List.getElem_cons_zero, List.getElem_cons_succ, List.setIfInBounds_toArray, List.set_cons_zero, List.set_cons_succ]
  obtain ⟨w1, hw1⟩ : ∃ w1, w1 = w.drew.alloc (.cells #[.int .u8 0, .int .i64 0] 44) := ⟨_, rfl⟩
  have BL : Blk w1 w.drew.heap.size 44 #[.int .u8 0, .int .i64 0] := by rw [hw1]; exact Blk.new _ _ _
  have k1 : Below w.heap.size w w1 := by rw [hw1]; exact (Below.refl _ _).drew.alloc (Nat.le_refl _) _
  rw [← hw1]
  clear hw1
  have BL : Blk w1 w.heap.size 44 #[.int .u8 0, .int .i64 0] := BL
  have hgl : sb ≠ w.heap.size := by have := hB.out.lt; omega
  have B1 := hB.out.below k1 hB.out.lt
  have y0 : w1.cell? ⟨w.heap.size, 0, none⟩ = some (.int .u8 0) := BL.cell 0
  have y1 : w1.cell? ⟨w.heap.size, 1, none⟩ = some (.int .i64 0) := BL.cell 1
  have g0 := BL.frozen 0
  have g1 := BL.frozen 1
  refine Hold.one (i := 9) (by kernel_rfl) ?_
  refine Hold.skip (w' := (w1.setCell ⟨w.heap.size, 0, none⟩ (.int .u8 (x % 256))).setCell ⟨w.heap.size, 1, none⟩ (.int .i64 y)) rfl rfl (by go_simp <;> first | rfl | exact ⟨rfl, rfl⟩) ?_
  have BL2 : Blk ((w1.setCell ⟨w.heap.size, 0, none⟩ (.int .u8 (x % 256))).setCell ⟨w.heap.size, 1, none⟩ (.int .i64 y)) w.heap.size 44 #[.int .u8 (x % 256), .int .i64 y] := by
    have := (BL.set_ 0 (.int .u8 (x % 256))).set_ 1 (.int .i64 y)
    simpa using this
  have B2 := (B1.far (p := ⟨w.heap.size, 0, none⟩) hgl (.int .u8 (x % 256))).far (p := ⟨w.heap.size, 1, none⟩) hgl (.int .i64 y)
  have k2 : Below w.heap.size w ((w1.setCell ⟨w.heap.size, 0, none⟩ (.int .u8 (x % 256))).setCell ⟨w.heap.size, 1, none⟩ (.int .i64 y)) := (k1.setCell (p := ⟨w.heap.size, 0, none⟩) (Nat.le_refl _) _).setCell (p := ⟨w.heap.size, 1, none⟩) (Nat.le_refl _) _
  refine ⟨k2, ?_⟩
  generalize (w1.setCell ⟨w.heap.size, 0, none⟩ (.int .u8 (x % 256))).setCell ⟨w.heap.size, 1, none⟩ (.int .i64 y) = w2 at BL2 B2 k2 ⊢
  simp only [Act.put, List.getElem_toArray, List.getElem_cons_zero, List.getElem_cons_succ, List.setIfInBounds_toArray, List.set_cons_zero, List.set_cons_succ]
  refine Hold.done (by kernel_rfl) ?_
  have z0 : w2.cell? ⟨w.heap.size, 0, none⟩ = some (.int .u8 (x % 256)) := BL2.cell 0
  have z1 : w2.cell? ⟨w.heap.size, 1, none⟩ = some (.int .i64 y) := BL2.cell 1
  have d0 : w2.cell? ⟨sb, 20, none⟩ = some (.int .u8 u) := (B2.cell 20).trans ho
  have d1 : w2.cell? ⟨sb, 21, none⟩ = some (.int .i64 u') := (B2.cell 21).trans ho'
  have f0 := B2.frozen 20
  have f1 := B2.frozen 21
  have F2 := Foot.of_below [sb] k2
  have B2 := hide B2
  have F2 := hide F2
  clear y0 y1 g0 g1 BL BL2 B1 k1 k2 C0 C1 hS hgl
  generalize w.heap.size = gl at z0 z1 ⊢
  go_upto_region 6 with fail
  go_region
  go_wp2_with fail
  go_returns
  exact ⟨rfl, (B2.out.set_ 20 _).set_ 21 _, ((F2.out.setCell (p := ⟨sb, 20, none⟩) (.inl (by simp)) _).setCell (p := ⟨sb, 21, none⟩) (.inl (by simp)) _).drew⟩
set_option maxRecDepth 100000 in
theorem edge23 (w : World) (sb : Nat) (cs : Array Value) (vb vo vc : Nat) (x y u u' : Int) (n : Nat) (hB : Blk w sb 49 cs) (ho : cs[22]? = some (.int .u8 u)) (ho' : cs[23]? = some (.int .i64 u')) (hn : 1 < n) (h0 : w.cell? ⟨vb, vo, none⟩ = some (.int .i64 x)) (h1 : w.cell? ⟨vb, vo + 1, none⟩ = some (.int .i64 y)) (hv : vb < w.heap.size) :
    Calls Try.prog 85 #[.pointer (some ⟨sb, 0, none⟩), .int .i64 23, .slice (some ⟨vb, vo, none⟩) n vc] w fun r w' => r = .returned (.tuple #[]) ∧ Blk w' sb 49 ((cs.setIfInBounds 22 (.int .u8 (x % 256))).setIfInBounds 23 (.int .i64 y)) ∧ Foot [sb] w w' := by
  have C0 := keepc (p := ⟨vb, vo, none⟩) hv h0
  have C1 := keepc (p := ⟨vb, vo + 1, none⟩) hv h1
  have hB := hide hB
  clear h0 h1
  go_enter Try.func85, Try.ntmps85
  go_upto_region 4 with fail
  refine Hold.begin_ 10 (by kernel_rfl) rfl (fun w' => Below w.heap.size w w') ?_ (Below.refl _ _).drew
  intro hS
  refine Hold.take (i := 0) (v := ?_) rfl (by kernel_rfl) (fun _ _ _ h => h) rfl ?_ hS ?_
  rotate_left
  · intro w' hS; have z0_ := C0 _ hS; have z1_ := C1 _ hS; go_simp; (try go_bits); (first | rfl | rw [if_pos (by omega)])
  simp only [Act.put, List.getElem_toArray, List.getElem_cons_zero, List.getElem_cons_succ, List.setIfInBounds_toArray, List.set_cons_zero, List.set_cons_succ]
  refine Hold.take (i := 1) (v := ?_) rfl (by kernel_rfl) (fun _ _ _ h => h) rfl ?_ hS ?_
  rotate_left
  · intro w' hS; have z0_ := C0 _ hS; have z1_ := C1 _ hS; go_simp; (try go_bits); (first | rfl | rw [if_pos (by omega)])
  simp only [Act.put, List.getElem_toArray, List.getElem_cons_zero, List.getElem_cons_succ, List.setIfInBounds_toArray, List.set_cons_zero, List.set_cons_succ]
  refine Hold.take (i := 2) (v := ?_) rfl (by kernel_rfl) (fun _ _ _ h => h) rfl ?_ hS ?_
  rotate_left
  · intro w' hS; have z0_ := C0 _ hS; have z1_ := C1 _ hS; go_simp; (try go_bits); (first | rfl | rw [if_pos (by omega)])
  simp only [Act.put, List.getElem_toArray, List.getElem_cons_zero, List.getElem_cons_succ, List.setIfInBounds_toArray, List.set_cons_zero, List.set_cons_succ]
  refine Hold.take (i := 4) (v := ?_) rfl (by kernel_rfl) (fun _ _ _ h => h) rfl ?_ hS ?_
  rotate_left
  · intro w' hS; have z0_ := C0 _ hS; have z1_ := C1 _ hS; go_simp; (try go_bits); (first | rfl | rw [if_pos (by omega)])
  simp only [Act.put, List.getElem_toArray, List.getElem_cons_zero, List.getElem_cons_succ, List.setIfInBounds_toArray, List.set_cons_zero, List.set_cons_succ]
  refine Hold.take (i := 5) (v := ?_) rfl (by kernel_rfl) (fun _ _ _ h => h) rfl ?_ hS ?_
  rotate_left
  · intro w' hS; have z0_ := C0 _ hS; have z1_ := C1 _ hS; go_simp; (try go_bits); (first | rfl | rw [if_pos (by omega)])
  simp only [Act.put, List.getElem_toArray, List.getElem_cons_zero, List.getElem_cons_succ, List.setIfInBounds_toArray, List.set_cons_zero, List.set_cons_succ]
  refine Hold.take (i := 6) (v := ?_) rfl (by kernel_rfl) (fun _ _ _ h => h) rfl ?_ hS ?_
  rotate_left
  · intro w' hS; have z0_ := C0 _ hS; have z1_ := C1 _ hS; go_simp; (try go_bits); (first | rfl | rw [if_pos (by omega)])
  simp only [Act.put, List.getElem_toArray, List.getElem_cons_zero, List.getElem_cons_succ, List.setIfInBounds_toArray, List.set_cons_zero, List.set_cons_succ]
  refine Hold.quiet (i := 3) (v := ?_) (f := ?_) (args := ?_) rfl (by kernel_rfl) (fun _ _ _ h => h) rfl ?_ ?_ hS ?_
  rotate_left 3
  · intro w2 hS; go_simp; exact ⟨by rfl, by rfl⟩
  · intro w2 hS; refine (rsmall_any x w2).mono ?_; rintro e w3 ⟨rfl, rfl⟩; exact ⟨by rfl, rfl⟩
  simp only [Act.put, List.getElem_toArray, List.getElem_cons_zero, List.getElem_cons_succ, List.setIfInBounds_toArray, List.set_cons_zero, List.set_cons_succ]
  refine Hold.take (i := 7) (v := ?_) rfl (by kernel_rfl) (fun _ _ _ h => h) rfl ?_ hS ?_
  rotate_left
  · intro w' hS; have z0_ := C0 _ hS; have z1_ := C1 _ hS; go_simp; (try go_bits); (first | rfl | rw [if_pos (by omega)])
  simp only [Act.put, List.getElem_toArray, List.getElem_cons_zero, List.getElem_cons_succ, List.setIfInBounds_toArray, List.set_cons_zero, List.set_cons_succ]
  refine Hold.one (i := 8) (by kernel_rfl) ?_
  refine Hold.run (w' := w.drew.alloc (.cells #[.int .u8 0, .int .i64 0] 44)) rfl rfl (by go_simp; first | rfl | exact ⟨rfl, rfl⟩) ?_
  refine ⟨(Below.refl _ _).drew.alloc (Nat.le_refl _) _, ?_⟩
  simp only [Act.put, List.getElem_toArray, List.getElem_cons_zero, List.getElem_cons_succ, List.setIfInBounds_toArray, List.set_cons_zero, List.set_cons_succ]
  obtain ⟨w1, hw1⟩ : ∃ w1, w1 = w.drew.alloc (.cells #[.int .u8 0, .int .i64 0] 44) := ⟨_, rfl⟩
  have BL : Blk w1 w.drew.heap.size 44 #[.int .u8 0, .int .i64 0] := by rw [hw1]; exact Blk.new _ _ _
  have k1 : Below w.heap.size w w1 := by rw [hw1]; exact (Below.refl _ _).drew.alloc (Nat.le_refl _) _
  rw [← hw1]
  clear hw1
  have BL : Blk w1 w.heap.size 44 #[.int .u8 0, .int .i64 0] := BL
  have hgl : sb ≠ w.heap.size := by have := hB.out.lt; omega
  have B1 := hB.out.below k1 hB.out.lt
  have y0 : w1.cell? ⟨w.heap.size, 0, none⟩ = some (.int .u8 0) := BL.cell 0
  have y1 : w1.cell? ⟨w.heap.size, 1, none⟩ = some (.int .i64 0) := BL.cell 1
  have g0 := BL.frozen 0
  have g1 := BL.frozen 1
  refine Hold.one (i := 9) (by kernel_rfl) ?_
  refine Hold.skip (w' := (w1.setCell ⟨w.heap.size, 0, none⟩ (.int .u8 (x % 256))).setCell ⟨w.heap.size, 1, none⟩ (.int .i64 y)) rfl rfl (by go_simp <;> first | rfl | exact ⟨rfl, rfl⟩) ?_
  have BL2 : Blk ((w1.setCell ⟨w.heap.size, 0, none⟩ (.int .u8 (x % 256))).setCell ⟨w.heap.size, 1, none⟩ (.int .i64 y)) w.heap.size 44 #[.int .u8 (x % 256), .int .i64 y] := by
    have := (BL.set_ 0 (.int .u8 (x % 256))).set_ 1 (.int .i64 y)
    simpa using this
  have B2 := (B1.far (p := ⟨w.heap.size, 0, none⟩) hgl (.int .u8 (x % 256))).far (p := ⟨w.heap.size, 1, none⟩) hgl (.int .i64 y)
  have k2 : Below w.heap.size w ((w1.setCell ⟨w.heap.size, 0, none⟩ (.int .u8 (x % 256))).setCell ⟨w.heap.size, 1, none⟩ (.int .i64 y)) := (k1.setCell (p := ⟨w.heap.size, 0, none⟩) (Nat.le_refl _) _).setCell (p := ⟨w.heap.size, 1, none⟩) (Nat.le_refl _) _
  refine ⟨k2, ?_⟩
  generalize (w1.setCell ⟨w.heap.size, 0, none⟩ (.int .u8 (x % 256))).setCell ⟨w.heap.size, 1, none⟩ (.int .i64 y) = w2 at BL2 B2 k2 ⊢
  simp only [Act.put, List.getElem_toArray, List.getElem_cons_zero, List.getElem_cons_succ, List.setIfInBounds_toArray, List.set_cons_zero, List.set_cons_succ]
  refine Hold.done (by kernel_rfl) ?_
  have z0 : w2.cell? ⟨w.heap.size, 0, none⟩ = some (.int .u8 (x % 256)) := BL2.cell 0
  have z1 : w2.cell? ⟨w.heap.size, 1, none⟩ = some (.int .i64 y) := BL2.cell 1
  have d0 : w2.cell? ⟨sb, 22, none⟩ = some (.int .u8 u) := (B2.cell 22).trans ho
  have d1 : w2.cell? ⟨sb, 23, none⟩ = some (.int .i64 u') := (B2.cell 23).trans ho'
  have f0 := B2.frozen 22
  have f1 := B2.frozen 23
  have F2 := Foot.of_below [sb] k2
  have B2 := hide B2
  have F2 := hide F2
  clear y0 y1 g0 g1 BL BL2 B1 k1 k2 C0 C1 hS hgl
  generalize w.heap.size = gl at z0 z1 ⊢
  go_upto_region 6 with fail
  go_region
  go_wp2_with fail
  go_returns
  exact ⟨rfl, (B2.out.set_ 22 _).set_ 23 _, ((F2.out.setCell (p := ⟨sb, 22, none⟩) (.inl (by simp)) _).setCell (p := ⟨sb, 23, none⟩) (.inl (by simp)) _).drew⟩
set_option maxRecDepth 100000 in
theorem set1 (w : World) (sb : Nat) (cs : Array Value) (va : Option Addr) (n vc : Nat) (u : Bool) (hB : Blk w sb 49 cs) (ho : cs[1]? = some (.bool u)) :
    Calls Try.prog 63 #[.pointer (some ⟨sb, 0, none⟩), .int .i64 1, .slice va n vc] w fun r w' => r = .returned (.tuple #[]) ∧ Blk w' sb 49 (cs.setIfInBounds 1 (.bool true)) ∧ Foot [sb] w w' := by
  have c0 : w.cell? ⟨sb, 1, none⟩ = some (.bool u) := (hB.cell 1).trans ho
  have f0 := hB.frozen 1
  have hB := hide hB
  go_enter Try.func63, Try.ntmps63
  go_wp2_with fail
  go_returns
  exact ⟨rfl, hB.out.set_ 1 _, (Foot.refl _ w).setCell (p := ⟨sb, 1, none⟩) (.inl (by simp)) _⟩
set_option maxRecDepth 100000 in
theorem set2 (w : World) (sb : Nat) (cs : Array Value) (va : Option Addr) (n vc : Nat) (u : Bool) (hB : Blk w sb 49 cs) (ho : cs[34]? = some (.bool u)) :
    Calls Try.prog 63 #[.pointer (some ⟨sb, 0, none⟩), .int .i64 2, .slice va n vc] w fun r w' => r = .returned (.tuple #[]) ∧ Blk w' sb 49 (cs.setIfInBounds 34 (.bool true)) ∧ Foot [sb] w w' := by
  have c0 : w.cell? ⟨sb, 34, none⟩ = some (.bool u) := (hB.cell 34).trans ho
  have f0 := hB.frozen 34
  have hB := hide hB
  go_enter Try.func63, Try.ntmps63
  go_wp2_with fail
  go_returns
  exact ⟨rfl, hB.out.set_ 34 _, (Foot.refl _ w).setCell (p := ⟨sb, 34, none⟩) (.inl (by simp)) _⟩
set_option maxRecDepth 100000 in
theorem set3 (w : World) (sb : Nat) (cs : Array Value) (vb vo n vc : Nat) (x u : Int) (hB : Blk w sb 49 cs) (ho : cs[0]? = some (.int .u8 u)) (hn : 0 < n) (h0 : w.cell? ⟨vb, vo, none⟩ = some (.int .i64 x)) :
    Calls Try.prog 63 #[.pointer (some ⟨sb, 0, none⟩), .int .i64 3, .slice (some ⟨vb, vo, none⟩) n vc] w fun r w' => r = .returned (.tuple #[]) ∧ Blk w' sb 49 (cs.setIfInBounds 0 (.int .u8 (x % 256))) ∧ Foot [sb] w w' := by
  have c0 : w.cell? ⟨sb, 0, none⟩ = some (.int .u8 u) := (hB.cell 0).trans ho
  have f0 := hB.frozen 0
  have hB := hide hB
  go_enter Try.func63, Try.ntmps63
  go_wp2_with fail
  refine (rsmall_any x _).mono ?_
  rintro r w2 ⟨rfl, rfl⟩
  go_wp2_with fail
  go_returns
  exact ⟨rfl, hB.out.set_ 0 _, (Foot.refl _ w2).setCell (p := ⟨sb, 0, none⟩) (.inl (by simp)) _⟩
set_option maxRecDepth 100000 in
theorem set4 (w : World) (sb : Nat) (cs : Array Value) (vb vo n vc : Nat) (x u : Int) (hB : Blk w sb 49 cs) (ho : cs[2]? = some (.int .u8 u)) (hn : 0 < n) (h0 : w.cell? ⟨vb, vo, none⟩ = some (.int .i64 x)) :
    Calls Try.prog 63 #[.pointer (some ⟨sb, 0, none⟩), .int .i64 4, .slice (some ⟨vb, vo, none⟩) n vc] w fun r w' => r = .returned (.tuple #[]) ∧ Blk w' sb 49 (cs.setIfInBounds 2 (.int .u8 (x % 256))) ∧ Foot [sb] w w' := by
  have c0 : w.cell? ⟨sb, 2, none⟩ = some (.int .u8 u) := (hB.cell 2).trans ho
  have f0 := hB.frozen 2
  have hB := hide hB
  go_enter Try.func63, Try.ntmps63
  go_wp2_with fail
  refine (rsmall_any x _).mono ?_
  rintro r w2 ⟨rfl, rfl⟩
  go_wp2_with fail
  go_returns
  exact ⟨rfl, hB.out.set_ 2 _, (Foot.refl _ w2).setCell (p := ⟨sb, 2, none⟩) (.inl (by simp)) _⟩
set_option maxRecDepth 100000 in
theorem set5 (w : World) (sb : Nat) (cs : Array Value) (vb vo n vc : Nat) (x u : Int) (hB : Blk w sb 49 cs) (ho : cs[3]? = some (.int .u8 u)) (hn : 0 < n) (h0 : w.cell? ⟨vb, vo, none⟩ = some (.int .i64 x)) :
    Calls Try.prog 63 #[.pointer (some ⟨sb, 0, none⟩), .int .i64 5, .slice (some ⟨vb, vo, none⟩) n vc] w fun r w' => r = .returned (.tuple #[]) ∧ Blk w' sb 49 (cs.setIfInBounds 3 (.int .u8 (x % 256))) ∧ Foot [sb] w w' := by
  have c0 : w.cell? ⟨sb, 3, none⟩ = some (.int .u8 u) := (hB.cell 3).trans ho
  have f0 := hB.frozen 3
  have hB := hide hB
  go_enter Try.func63, Try.ntmps63
  go_wp2_with fail
  refine (rsmall_any x _).mono ?_
  rintro r w2 ⟨rfl, rfl⟩
  go_wp2_with fail
  go_returns
  exact ⟨rfl, hB.out.set_ 3 _, (Foot.refl _ w2).setCell (p := ⟨sb, 3, none⟩) (.inl (by simp)) _⟩
set_option maxRecDepth 100000 in
theorem set6 (w : World) (sb : Nat) (cs : Array Value) (vb vo n vc : Nat) (x u : Int) (hB : Blk w sb 49 cs) (ho : cs[32]? = some (.int .u8 u)) (hn : 0 < n) (h0 : w.cell? ⟨vb, vo, none⟩ = some (.int .i64 x)) :
    Calls Try.prog 63 #[.pointer (some ⟨sb, 0, none⟩), .int .i64 6, .slice (some ⟨vb, vo, none⟩) n vc] w fun r w' => r = .returned (.tuple #[]) ∧ Blk w' sb 49 (cs.setIfInBounds 32 (.int .u8 (x % 256))) ∧ Foot [sb] w w' := by
  have c0 : w.cell? ⟨sb, 32, none⟩ = some (.int .u8 u) := (hB.cell 32).trans ho
  have f0 := hB.frozen 32
  have hB := hide hB
  go_enter Try.func63, Try.ntmps63
  go_wp2_with fail
  refine (rsmall_any x _).mono ?_
  rintro r w2 ⟨rfl, rfl⟩
  go_wp2_with fail
  go_returns
  exact ⟨rfl, hB.out.set_ 32 _, (Foot.refl _ w2).setCell (p := ⟨sb, 32, none⟩) (.inl (by simp)) _⟩
set_option maxRecDepth 100000 in
theorem set7 (w : World) (sb : Nat) (cs : Array Value) (vb vo n vc : Nat) (x u : Int) (hB : Blk w sb 49 cs) (ho : cs[35]? = some (.int .u8 u)) (hn : 0 < n) (h0 : w.cell? ⟨vb, vo, none⟩ = some (.int .i64 x)) :
    Calls Try.prog 63 #[.pointer (some ⟨sb, 0, none⟩), .int .i64 7, .slice (some ⟨vb, vo, none⟩) n vc] w fun r w' => r = .returned (.tuple #[]) ∧ Blk w' sb 49 (cs.setIfInBounds 35 (.int .u8 (x % 256))) ∧ Foot [sb] w w' := by
  have c0 : w.cell? ⟨sb, 35, none⟩ = some (.int .u8 u) := (hB.cell 35).trans ho
  have f0 := hB.frozen 35
  have hB := hide hB
  go_enter Try.func63, Try.ntmps63
  go_wp2_with fail
  refine (rsmall_any x _).mono ?_
  rintro r w2 ⟨rfl, rfl⟩
  go_wp2_with fail
  go_returns
  exact ⟨rfl, hB.out.set_ 35 _, (Foot.refl _ w2).setCell (p := ⟨sb, 35, none⟩) (.inl (by simp)) _⟩
set_option maxRecDepth 100000 in
theorem set8 (w : World) (sb : Nat) (cs : Array Value) (vb vo n vc : Nat) (x u : Int) (hB : Blk w sb 49 cs) (ho : cs[36]? = some (.int .u8 u)) (hn : 0 < n) (h0 : w.cell? ⟨vb, vo, none⟩ = some (.int .i64 x)) :
    Calls Try.prog 63 #[.pointer (some ⟨sb, 0, none⟩), .int .i64 8, .slice (some ⟨vb, vo, none⟩) n vc] w fun r w' => r = .returned (.tuple #[]) ∧ Blk w' sb 49 (cs.setIfInBounds 36 (.int .u8 (x % 256))) ∧ Foot [sb] w w' := by
  have c0 : w.cell? ⟨sb, 36, none⟩ = some (.int .u8 u) := (hB.cell 36).trans ho
  have f0 := hB.frozen 36
  have hB := hide hB
  go_enter Try.func63, Try.ntmps63
  go_wp2_with fail
  refine (rsmall_any x _).mono ?_
  rintro r w2 ⟨rfl, rfl⟩
  go_wp2_with fail
  go_returns
  exact ⟨rfl, hB.out.set_ 36 _, (Foot.refl _ w2).setCell (p := ⟨sb, 36, none⟩) (.inl (by simp)) _⟩
set_option maxRecDepth 100000 in
theorem set9 (w : World) (sb : Nat) (cs : Array Value) (vb vo n vc : Nat) (x u : Int) (hB : Blk w sb 49 cs) (ho : cs[33]? = some (.int .i64 u)) (hn : 0 < n) (h0 : w.cell? ⟨vb, vo, none⟩ = some (.int .i64 x)) :
    Calls Try.prog 63 #[.pointer (some ⟨sb, 0, none⟩), .int .i64 9, .slice (some ⟨vb, vo, none⟩) n vc] w fun r w' => r = .returned (.tuple #[]) ∧ Blk w' sb 49 (cs.setIfInBounds 33 (.int .i64 x)) ∧ Foot [sb] w w' := by
  have c0 : w.cell? ⟨sb, 33, none⟩ = some (.int .i64 u) := (hB.cell 33).trans ho
  have f0 := hB.frozen 33
  have hB := hide hB
  go_enter Try.func63, Try.ntmps63
  go_wp2_with fail
  go_returns
  exact ⟨rfl, hB.out.set_ 33 _, (Foot.refl _ w).setCell (p := ⟨sb, 33, none⟩) (.inl (by simp)) _⟩
set_option maxRecDepth 100000 in
theorem set10 (w : World) (sb : Nat) (cs : Array Value) (vb vo n vc : Nat) (x u : Int) (hB : Blk w sb 49 cs) (ho : cs[37]? = some (.int .i64 u)) (hn : 0 < n) (h0 : w.cell? ⟨vb, vo, none⟩ = some (.int .i64 x)) :
    Calls Try.prog 63 #[.pointer (some ⟨sb, 0, none⟩), .int .i64 10, .slice (some ⟨vb, vo, none⟩) n vc] w fun r w' => r = .returned (.tuple #[]) ∧ Blk w' sb 49 (cs.setIfInBounds 37 (.int .i64 x)) ∧ Foot [sb] w w' := by
  have c0 : w.cell? ⟨sb, 37, none⟩ = some (.int .i64 u) := (hB.cell 37).trans ho
  have f0 := hB.frozen 37
  have hB := hide hB
  go_enter Try.func63, Try.ntmps63
  go_wp2_with fail
  go_returns
  exact ⟨rfl, hB.out.set_ 37 _, (Foot.refl _ w).setCell (p := ⟨sb, 37, none⟩) (.inl (by simp)) _⟩
set_option maxRecDepth 100000 in
theorem set11 (w : World) (sb : Nat) (cs : Array Value) (vb vo n vc : Nat) (x u : Int) (hB : Blk w sb 49 cs) (ho : cs[38]? = some (.int .i64 u)) (hn : 0 < n) (h0 : w.cell? ⟨vb, vo, none⟩ = some (.int .i64 x)) :
    Calls Try.prog 63 #[.pointer (some ⟨sb, 0, none⟩), .int .i64 11, .slice (some ⟨vb, vo, none⟩) n vc] w fun r w' => r = .returned (.tuple #[]) ∧ Blk w' sb 49 (cs.setIfInBounds 38 (.int .i64 x)) ∧ Foot [sb] w w' := by
  have c0 : w.cell? ⟨sb, 38, none⟩ = some (.int .i64 u) := (hB.cell 38).trans ho
  have f0 := hB.frozen 38
  have hB := hide hB
  go_enter Try.func63, Try.ntmps63
  go_wp2_with fail
  go_returns
  exact ⟨rfl, hB.out.set_ 38 _, (Foot.refl _ w).setCell (p := ⟨sb, 38, none⟩) (.inl (by simp)) _⟩
set_option maxRecDepth 100000 in
theorem set12 (w : World) (sb : Nat) (cs : Array Value) (vb vo n vc : Nat) (x u : Int) (hB : Blk w sb 49 cs) (ho : cs[39]? = some (.int .i64 u)) (hn : 0 < n) (h0 : w.cell? ⟨vb, vo, none⟩ = some (.int .i64 x)) :
    Calls Try.prog 63 #[.pointer (some ⟨sb, 0, none⟩), .int .i64 12, .slice (some ⟨vb, vo, none⟩) n vc] w fun r w' => r = .returned (.tuple #[]) ∧ Blk w' sb 49 (cs.setIfInBounds 39 (.int .i64 x)) ∧ Foot [sb] w w' := by
  have c0 : w.cell? ⟨sb, 39, none⟩ = some (.int .i64 u) := (hB.cell 39).trans ho
  have f0 := hB.frozen 39
  have hB := hide hB
  go_enter Try.func63, Try.ntmps63
  go_wp2_with fail
  go_returns
  exact ⟨rfl, hB.out.set_ 39 _, (Foot.refl _ w).setCell (p := ⟨sb, 39, none⟩) (.inl (by simp)) _⟩
set_option maxRecDepth 100000 in
theorem set13 (w : World) (sb : Nat) (cs : Array Value) (vb vo n vc : Nat) (x y u u' : Int) (hB : Blk w sb 49 cs) (ho : cs[4]? = some (.int .u8 u)) (ho' : cs[5]? = some (.int .i64 u')) (hn : 1 < n) (h0 : w.cell? ⟨vb, vo, none⟩ = some (.int .i64 x)) (h1 : w.cell? ⟨vb, vo + 1, none⟩ = some (.int .i64 y)) (hv : vb < w.heap.size) :
    Calls Try.prog 63 #[.pointer (some ⟨sb, 0, none⟩), .int .i64 13, .slice (some ⟨vb, vo, none⟩) n vc] w fun r w' => r = .returned (.tuple #[]) ∧ Blk w' sb 49 ((cs.setIfInBounds 4 (.int .u8 (x % 256))).setIfInBounds 5 (.int .i64 y)) ∧ Foot [sb] w w' := by
  have E := hide (edge13 w sb cs vb vo vc x y u u' n hB ho ho' hn h0 h1 hv)
  clear hB h0 h1
  go_enter Try.func63, Try.ntmps63
  go_wp2_with fail
  refine E.out.mono ?_
  rintro r w2 ⟨rfl, B2, F2⟩
  go_wp2_with fail
  go_returns
  exact ⟨rfl, B2, F2⟩
set_option maxRecDepth 100000 in
theorem set14 (w : World) (sb : Nat) (cs : Array Value) (vb vo n vc : Nat) (x y u u' : Int) (hB : Blk w sb 49 cs) (ho : cs[6]? = some (.int .u8 u)) (ho' : cs[7]? = some (.int .i64 u')) (hn : 1 < n) (h0 : w.cell? ⟨vb, vo, none⟩ = some (.int .i64 x)) (h1 : w.cell? ⟨vb, vo + 1, none⟩ = some (.int .i64 y)) (hv : vb < w.heap.size) :
    Calls Try.prog 63 #[.pointer (some ⟨sb, 0, none⟩), .int .i64 14, .slice (some ⟨vb, vo, none⟩) n vc] w fun r w' => r = .returned (.tuple #[]) ∧ Blk w' sb 49 ((cs.setIfInBounds 6 (.int .u8 (x % 256))).setIfInBounds 7 (.int .i64 y)) ∧ Foot [sb] w w' := by
  have E := hide (edge14 w sb cs vb vo vc x y u u' n hB ho ho' hn h0 h1 hv)
  clear hB h0 h1
  go_enter Try.func63, Try.ntmps63
  go_wp2_with fail
  refine E.out.mono ?_
  rintro r w2 ⟨rfl, B2, F2⟩
  go_wp2_with fail
  go_returns
  exact ⟨rfl, B2, F2⟩
set_option maxRecDepth 100000 in
theorem set15 (w : World) (sb : Nat) (cs : Array Value) (vb vo n vc : Nat) (x y u u' : Int) (hB : Blk w sb 49 cs) (ho : cs[8]? = some (.int .u8 u)) (ho' : cs[9]? = some (.int .i64 u')) (hn : 1 < n) (h0 : w.cell? ⟨vb, vo, none⟩ = some (.int .i64 x)) (h1 : w.cell? ⟨vb, vo + 1, none⟩ = some (.int .i64 y)) (hv : vb < w.heap.size) :
    Calls Try.prog 63 #[.pointer (some ⟨sb, 0, none⟩), .int .i64 15, .slice (some ⟨vb, vo, none⟩) n vc] w fun r w' => r = .returned (.tuple #[]) ∧ Blk w' sb 49 ((cs.setIfInBounds 8 (.int .u8 (x % 256))).setIfInBounds 9 (.int .i64 y)) ∧ Foot [sb] w w' := by
  have E := hide (edge15 w sb cs vb vo vc x y u u' n hB ho ho' hn h0 h1 hv)
  clear hB h0 h1
  go_enter Try.func63, Try.ntmps63
  go_wp2_with fail
  refine E.out.mono ?_
  rintro r w2 ⟨rfl, B2, F2⟩
  go_wp2_with fail
  go_returns
  exact ⟨rfl, B2, F2⟩
set_option maxRecDepth 100000 in
theorem set16 (w : World) (sb : Nat) (cs : Array Value) (vb vo n vc : Nat) (x y u u' : Int) (hB : Blk w sb 49 cs) (ho : cs[10]? = some (.int .u8 u)) (ho' : cs[11]? = some (.int .i64 u')) (hn : 1 < n) (h0 : w.cell? ⟨vb, vo, none⟩ = some (.int .i64 x)) (h1 : w.cell? ⟨vb, vo + 1, none⟩ = some (.int .i64 y)) (hv : vb < w.heap.size) :
    Calls Try.prog 63 #[.pointer (some ⟨sb, 0, none⟩), .int .i64 16, .slice (some ⟨vb, vo, none⟩) n vc] w fun r w' => r = .returned (.tuple #[]) ∧ Blk w' sb 49 ((cs.setIfInBounds 10 (.int .u8 (x % 256))).setIfInBounds 11 (.int .i64 y)) ∧ Foot [sb] w w' := by
  have E := hide (edge16 w sb cs vb vo vc x y u u' n hB ho ho' hn h0 h1 hv)
  clear hB h0 h1
  go_enter Try.func63, Try.ntmps63
  go_wp2_with fail
  refine E.out.mono ?_
  rintro r w2 ⟨rfl, B2, F2⟩
  go_wp2_with fail
  go_returns
  exact ⟨rfl, B2, F2⟩
set_option maxRecDepth 100000 in
theorem set17 (w : World) (sb : Nat) (cs : Array Value) (vb vo n vc : Nat) (x y u u' : Int) (hB : Blk w sb 49 cs) (ho : cs[12]? = some (.int .u8 u)) (ho' : cs[13]? = some (.int .i64 u')) (hn : 1 < n) (h0 : w.cell? ⟨vb, vo, none⟩ = some (.int .i64 x)) (h1 : w.cell? ⟨vb, vo + 1, none⟩ = some (.int .i64 y)) (hv : vb < w.heap.size) :
    Calls Try.prog 63 #[.pointer (some ⟨sb, 0, none⟩), .int .i64 17, .slice (some ⟨vb, vo, none⟩) n vc] w fun r w' => r = .returned (.tuple #[]) ∧ Blk w' sb 49 ((cs.setIfInBounds 12 (.int .u8 (x % 256))).setIfInBounds 13 (.int .i64 y)) ∧ Foot [sb] w w' := by
  have E := hide (edge17 w sb cs vb vo vc x y u u' n hB ho ho' hn h0 h1 hv)
  clear hB h0 h1
  go_enter Try.func63, Try.ntmps63
  go_wp2_with fail
  refine E.out.mono ?_
  rintro r w2 ⟨rfl, B2, F2⟩
  go_wp2_with fail
  go_returns
  exact ⟨rfl, B2, F2⟩
set_option maxRecDepth 100000 in
theorem set18 (w : World) (sb : Nat) (cs : Array Value) (vb vo n vc : Nat) (x y u u' : Int) (hB : Blk w sb 49 cs) (ho : cs[14]? = some (.int .u8 u)) (ho' : cs[15]? = some (.int .i64 u')) (hn : 1 < n) (h0 : w.cell? ⟨vb, vo, none⟩ = some (.int .i64 x)) (h1 : w.cell? ⟨vb, vo + 1, none⟩ = some (.int .i64 y)) (hv : vb < w.heap.size) :
    Calls Try.prog 63 #[.pointer (some ⟨sb, 0, none⟩), .int .i64 18, .slice (some ⟨vb, vo, none⟩) n vc] w fun r w' => r = .returned (.tuple #[]) ∧ Blk w' sb 49 ((cs.setIfInBounds 14 (.int .u8 (x % 256))).setIfInBounds 15 (.int .i64 y)) ∧ Foot [sb] w w' := by
  have E := hide (edge18 w sb cs vb vo vc x y u u' n hB ho ho' hn h0 h1 hv)
  clear hB h0 h1
  go_enter Try.func63, Try.ntmps63
  go_wp2_with fail
  refine E.out.mono ?_
  rintro r w2 ⟨rfl, B2, F2⟩
  go_wp2_with fail
  go_returns
  exact ⟨rfl, B2, F2⟩
set_option maxRecDepth 100000 in
theorem set19 (w : World) (sb : Nat) (cs : Array Value) (vb vo n vc : Nat) (x y u u' : Int) (hB : Blk w sb 49 cs) (ho : cs[40]? = some (.int .u8 u)) (ho' : cs[41]? = some (.int .i64 u')) (hn : 1 < n) (h0 : w.cell? ⟨vb, vo, none⟩ = some (.int .i64 x)) (h1 : w.cell? ⟨vb, vo + 1, none⟩ = some (.int .i64 y)) (hv : vb < w.heap.size) :
    Calls Try.prog 63 #[.pointer (some ⟨sb, 0, none⟩), .int .i64 19, .slice (some ⟨vb, vo, none⟩) n vc] w fun r w' => r = .returned (.tuple #[]) ∧ Blk w' sb 49 ((cs.setIfInBounds 40 (.int .u8 (x % 256))).setIfInBounds 41 (.int .i64 y)) ∧ Foot [sb] w w' := by
  have E := hide (edge19 w sb cs vb vo vc x y u u' n hB ho ho' hn h0 h1 hv)
  clear hB h0 h1
  go_enter Try.func63, Try.ntmps63
  go_wp2_with fail
  refine E.out.mono ?_
  rintro r w2 ⟨rfl, B2, F2⟩
  go_wp2_with fail
  go_returns
  exact ⟨rfl, B2, F2⟩
set_option maxRecDepth 100000 in
theorem set20 (w : World) (sb : Nat) (cs : Array Value) (vb vo n vc : Nat) (x y u u' : Int) (hB : Blk w sb 49 cs) (ho : cs[16]? = some (.int .u8 u)) (ho' : cs[17]? = some (.int .i64 u')) (hn : 1 < n) (h0 : w.cell? ⟨vb, vo, none⟩ = some (.int .i64 x)) (h1 : w.cell? ⟨vb, vo + 1, none⟩ = some (.int .i64 y)) (hv : vb < w.heap.size) :
    Calls Try.prog 63 #[.pointer (some ⟨sb, 0, none⟩), .int .i64 20, .slice (some ⟨vb, vo, none⟩) n vc] w fun r w' => r = .returned (.tuple #[]) ∧ Blk w' sb 49 ((cs.setIfInBounds 16 (.int .u8 (x % 256))).setIfInBounds 17 (.int .i64 y)) ∧ Foot [sb] w w' := by
  have E := hide (edge20 w sb cs vb vo vc x y u u' n hB ho ho' hn h0 h1 hv)
  clear hB h0 h1
  go_enter Try.func63, Try.ntmps63
  go_wp2_with fail
  refine E.out.mono ?_
  rintro r w2 ⟨rfl, B2, F2⟩
  go_wp2_with fail
  go_returns
  exact ⟨rfl, B2, F2⟩
set_option maxRecDepth 100000 in
theorem set21 (w : World) (sb : Nat) (cs : Array Value) (vb vo n vc : Nat) (x y u u' : Int) (hB : Blk w sb 49 cs) (ho : cs[18]? = some (.int .u8 u)) (ho' : cs[19]? = some (.int .i64 u')) (hn : 1 < n) (h0 : w.cell? ⟨vb, vo, none⟩ = some (.int .i64 x)) (h1 : w.cell? ⟨vb, vo + 1, none⟩ = some (.int .i64 y)) (hv : vb < w.heap.size) :
    Calls Try.prog 63 #[.pointer (some ⟨sb, 0, none⟩), .int .i64 21, .slice (some ⟨vb, vo, none⟩) n vc] w fun r w' => r = .returned (.tuple #[]) ∧ Blk w' sb 49 ((cs.setIfInBounds 18 (.int .u8 (x % 256))).setIfInBounds 19 (.int .i64 y)) ∧ Foot [sb] w w' := by
  have E := hide (edge21 w sb cs vb vo vc x y u u' n hB ho ho' hn h0 h1 hv)
  clear hB h0 h1
  go_enter Try.func63, Try.ntmps63
  go_wp2_with fail
  refine E.out.mono ?_
  rintro r w2 ⟨rfl, B2, F2⟩
  go_wp2_with fail
  go_returns
  exact ⟨rfl, B2, F2⟩
set_option maxRecDepth 100000 in
theorem set22 (w : World) (sb : Nat) (cs : Array Value) (vb vo n vc : Nat) (x y u u' : Int) (hB : Blk w sb 49 cs) (ho : cs[20]? = some (.int .u8 u)) (ho' : cs[21]? = some (.int .i64 u')) (hn : 1 < n) (h0 : w.cell? ⟨vb, vo, none⟩ = some (.int .i64 x)) (h1 : w.cell? ⟨vb, vo + 1, none⟩ = some (.int .i64 y)) (hv : vb < w.heap.size) :
    Calls Try.prog 63 #[.pointer (some ⟨sb, 0, none⟩), .int .i64 22, .slice (some ⟨vb, vo, none⟩) n vc] w fun r w' => r = .returned (.tuple #[]) ∧ Blk w' sb 49 ((cs.setIfInBounds 20 (.int .u8 (x % 256))).setIfInBounds 21 (.int .i64 y)) ∧ Foot [sb] w w' := by
  have E := hide (edge22 w sb cs vb vo vc x y u u' n hB ho ho' hn h0 h1 hv)
  clear hB h0 h1
  go_enter Try.func63, Try.ntmps63
  go_wp2_with fail
  refine E.out.mono ?_
  rintro r w2 ⟨rfl, B2, F2⟩
  go_wp2_with fail
  go_returns
  exact ⟨rfl, B2, F2⟩
set_option maxRecDepth 100000 in
theorem set23 (w : World) (sb : Nat) (cs : Array Value) (vb vo n vc : Nat) (x y u u' : Int) (hB : Blk w sb 49 cs) (ho : cs[22]? = some (.int .u8 u)) (ho' : cs[23]? = some (.int .i64 u')) (hn : 1 < n) (h0 : w.cell? ⟨vb, vo, none⟩ = some (.int .i64 x)) (h1 : w.cell? ⟨vb, vo + 1, none⟩ = some (.int .i64 y)) (hv : vb < w.heap.size) :
    Calls Try.prog 63 #[.pointer (some ⟨sb, 0, none⟩), .int .i64 23, .slice (some ⟨vb, vo, none⟩) n vc] w fun r w' => r = .returned (.tuple #[]) ∧ Blk w' sb 49 ((cs.setIfInBounds 22 (.int .u8 (x % 256))).setIfInBounds 23 (.int .i64 y)) ∧ Foot [sb] w w' := by
  have E := hide (edge23 w sb cs vb vo vc x y u u' n hB ho ho' hn h0 h1 hv)
  clear hB h0 h1
  go_enter Try.func63, Try.ntmps63
  go_wp2_with fail
  refine E.out.mono ?_
  rintro r w2 ⟨rfl, B2, F2⟩
  go_wp2_with fail
  go_returns
  exact ⟨rfl, B2, F2⟩
set_option maxRecDepth 100000 in
theorem set24 (w : World) (sb : Nat) (cs : Array Value) (vb vo n vc : Nat) (x u : Int) (hB : Blk w sb 49 cs) (ho : cs[24]? = some (.int .i64 u)) (hn : 0 < n) (h0 : w.cell? ⟨vb, vo, none⟩ = some (.int .i64 x)) :
    Calls Try.prog 63 #[.pointer (some ⟨sb, 0, none⟩), .int .i64 24, .slice (some ⟨vb, vo, none⟩) n vc] w fun r w' => r = .returned (.tuple #[]) ∧ Blk w' sb 49 (cs.setIfInBounds 24 (.int .i64 x)) ∧ Foot [sb] w w' := by
  have E := hide (edge24 w sb cs vb vo vc x u n hB ho hn h0)
  clear hB h0
  go_enter Try.func63, Try.ntmps63
  go_wp2_with fail
  refine E.out.mono ?_
  rintro r w2 ⟨rfl, B2, F2⟩
  go_wp2_with fail
  go_returns
  exact ⟨rfl, B2, F2⟩
set_option maxRecDepth 100000 in
theorem set25 (w : World) (sb : Nat) (cs : Array Value) (vb vo n vc : Nat) (x u : Int) (hB : Blk w sb 49 cs) (ho : cs[25]? = some (.int .i64 u)) (hn : 0 < n) (h0 : w.cell? ⟨vb, vo, none⟩ = some (.int .i64 x)) :
    Calls Try.prog 63 #[.pointer (some ⟨sb, 0, none⟩), .int .i64 25, .slice (some ⟨vb, vo, none⟩) n vc] w fun r w' => r = .returned (.tuple #[]) ∧ Blk w' sb 49 (cs.setIfInBounds 25 (.int .i64 x)) ∧ Foot [sb] w w' := by
  have E := hide (edge25 w sb cs vb vo vc x u n hB ho hn h0)
  clear hB h0
  go_enter Try.func63, Try.ntmps63
  go_wp2_with fail
  refine E.out.mono ?_
  rintro r w2 ⟨rfl, B2, F2⟩
  go_wp2_with fail
  go_returns
  exact ⟨rfl, B2, F2⟩
set_option maxRecDepth 100000 in
theorem set26 (w : World) (sb : Nat) (cs : Array Value) (vb vo n vc : Nat) (x u : Int) (hB : Blk w sb 49 cs) (ho : cs[26]? = some (.int .i64 u)) (hn : 0 < n) (h0 : w.cell? ⟨vb, vo, none⟩ = some (.int .i64 x)) :
    Calls Try.prog 63 #[.pointer (some ⟨sb, 0, none⟩), .int .i64 26, .slice (some ⟨vb, vo, none⟩) n vc] w fun r w' => r = .returned (.tuple #[]) ∧ Blk w' sb 49 (cs.setIfInBounds 26 (.int .i64 x)) ∧ Foot [sb] w w' := by
  have E := hide (edge26 w sb cs vb vo vc x u n hB ho hn h0)
  clear hB h0
  go_enter Try.func63, Try.ntmps63
  go_wp2_with fail
  refine E.out.mono ?_
  rintro r w2 ⟨rfl, B2, F2⟩
  go_wp2_with fail
  go_returns
  exact ⟨rfl, B2, F2⟩
set_option maxRecDepth 100000 in
theorem set27 (w : World) (sb : Nat) (cs : Array Value) (vb vo n vc : Nat) (x u : Int) (hB : Blk w sb 49 cs) (ho : cs[27]? = some (.int .i64 u)) (hn : 0 < n) (h0 : w.cell? ⟨vb, vo, none⟩ = some (.int .i64 x)) :
    Calls Try.prog 63 #[.pointer (some ⟨sb, 0, none⟩), .int .i64 27, .slice (some ⟨vb, vo, none⟩) n vc] w fun r w' => r = .returned (.tuple #[]) ∧ Blk w' sb 49 (cs.setIfInBounds 27 (.int .i64 x)) ∧ Foot [sb] w w' := by
  have E := hide (edge27 w sb cs vb vo vc x u n hB ho hn h0)
  clear hB h0
  go_enter Try.func63, Try.ntmps63
  go_wp2_with fail
  refine E.out.mono ?_
  rintro r w2 ⟨rfl, B2, F2⟩
  go_wp2_with fail
  go_returns
  exact ⟨rfl, B2, F2⟩
set_option maxRecDepth 100000 in
theorem set28 (w : World) (sb : Nat) (cs : Array Value) (vb vo n vc : Nat) (x u : Int) (hB : Blk w sb 49 cs) (ho : cs[28]? = some (.int .i64 u)) (hn : 0 < n) (h0 : w.cell? ⟨vb, vo, none⟩ = some (.int .i64 x)) :
    Calls Try.prog 63 #[.pointer (some ⟨sb, 0, none⟩), .int .i64 28, .slice (some ⟨vb, vo, none⟩) n vc] w fun r w' => r = .returned (.tuple #[]) ∧ Blk w' sb 49 (cs.setIfInBounds 28 (.int .i64 x)) ∧ Foot [sb] w w' := by
  have E := hide (edge28 w sb cs vb vo vc x u n hB ho hn h0)
  clear hB h0
  go_enter Try.func63, Try.ntmps63
  go_wp2_with fail
  refine E.out.mono ?_
  rintro r w2 ⟨rfl, B2, F2⟩
  go_wp2_with fail
  go_returns
  exact ⟨rfl, B2, F2⟩
set_option maxRecDepth 100000 in
theorem set29 (w : World) (sb : Nat) (cs : Array Value) (vb vo n vc : Nat) (x u : Int) (hB : Blk w sb 49 cs) (ho : cs[29]? = some (.int .i64 u)) (hn : 0 < n) (h0 : w.cell? ⟨vb, vo, none⟩ = some (.int .i64 x)) :
    Calls Try.prog 63 #[.pointer (some ⟨sb, 0, none⟩), .int .i64 29, .slice (some ⟨vb, vo, none⟩) n vc] w fun r w' => r = .returned (.tuple #[]) ∧ Blk w' sb 49 (cs.setIfInBounds 29 (.int .i64 x)) ∧ Foot [sb] w w' := by
  have E := hide (edge29 w sb cs vb vo vc x u n hB ho hn h0)
  clear hB h0
  go_enter Try.func63, Try.ntmps63
  go_wp2_with fail
  refine E.out.mono ?_
  rintro r w2 ⟨rfl, B2, F2⟩
  go_wp2_with fail
  go_returns
  exact ⟨rfl, B2, F2⟩
set_option maxRecDepth 100000 in
theorem set30 (w : World) (sb : Nat) (cs : Array Value) (vb vo n vc : Nat) (x u : Int) (hB : Blk w sb 49 cs) (ho : cs[30]? = some (.int .i64 u)) (hn : 0 < n) (h0 : w.cell? ⟨vb, vo, none⟩ = some (.int .i64 x)) :
    Calls Try.prog 63 #[.pointer (some ⟨sb, 0, none⟩), .int .i64 30, .slice (some ⟨vb, vo, none⟩) n vc] w fun r w' => r = .returned (.tuple #[]) ∧ Blk w' sb 49 (cs.setIfInBounds 30 (.int .i64 x)) ∧ Foot [sb] w w' := by
  have E := hide (edge30 w sb cs vb vo vc x u n hB ho hn h0)
  clear hB h0
  go_enter Try.func63, Try.ntmps63
  go_wp2_with fail
  refine E.out.mono ?_
  rintro r w2 ⟨rfl, B2, F2⟩
  go_wp2_with fail
  go_returns
  exact ⟨rfl, B2, F2⟩
set_option maxRecDepth 100000 in
theorem set31 (w : World) (sb : Nat) (cs : Array Value) (vb vo n vc : Nat) (x u : Int) (hB : Blk w sb 49 cs) (ho : cs[31]? = some (.int .i64 u)) (hn : 0 < n) (h0 : w.cell? ⟨vb, vo, none⟩ = some (.int .i64 x)) :
    Calls Try.prog 63 #[.pointer (some ⟨sb, 0, none⟩), .int .i64 31, .slice (some ⟨vb, vo, none⟩) n vc] w fun r w' => r = .returned (.tuple #[]) ∧ Blk w' sb 49 (cs.setIfInBounds 31 (.int .i64 x)) ∧ Foot [sb] w w' := by
  have E := hide (edge31 w sb cs vb vo vc x u n hB ho hn h0)
  clear hB h0
  go_enter Try.func63, Try.ntmps63
  go_wp2_with fail
  refine E.out.mono ?_
  rintro r w2 ⟨rfl, B2, F2⟩
  go_wp2_with fail
  go_returns
  exact ⟨rfl, B2, F2⟩
/-- One field set, by its number. -/
theorem rset_any (w : World) (sb : Nat) (L : List (List Int)) (hL : L.length = 32) (uv : Value) (hB : Blk w sb 49 (SC (gof L) uv).toArray) (va : Option Addr) (v : List Int) (vc : Nat) (hv : Row w va (v.map (.int .i64))) (j : Nat) (hj : j < 31) (hn : v.length = cnt (KD.getD j 9)) :
    Calls Try.prog 63 #[.pointer (some ⟨sb, 0, none⟩), .int .i64 ((j : Int) + 1), .slice va v.length vc] w fun r w' => r = .returned (.tuple #[]) ∧ Blk w' sb 49 (SC (gof (L.set j (fvL (KD.getD j 9) v))) uv).toArray ∧ Foot [sb] w w' := by
  have p1 : ∀ k x, k < 32 → kd k ≠ 4 → kd k ≠ 5 → fvL (KD.getD k 9) v = [x] → (SC (gof L) uv).toArray.setIfInBounds (off k) (cv (kd k) 0 x uv) = (SC (gof (L.set k (fvL (KD.getD k 9) v))) uv).toArray := by
    intro k x h1 h2 h3 h4
    rw [List.setIfInBounds_toArray, h4]
    exact congrArg List.toArray (SC_put [x] h1 hL h2 h3)
  have p2 : ∀ k x y, k < 32 → kd k = 4 → fvL (KD.getD k 9) v = [x, y] → ((SC (gof L) uv).toArray.setIfInBounds (off k) (.int .u8 x)).setIfInBounds (off k + 1) (.int .i64 y) = (SC (gof (L.set k (fvL (KD.getD k 9) v))) uv).toArray := by
    intro k x y h1 h2 h4
    rw [List.setIfInBounds_toArray, List.setIfInBounds_toArray, h4]
    exact congrArg List.toArray (SC_put4 [x, y] h1 hL h2)
  have c1 : ∀ x, v = [x] → ∃ vb vo, va = some ⟨vb, vo, none⟩ ∧ w.cell? ⟨vb, vo, none⟩ = some (.int .i64 x) := by
    rintro x rfl
    obtain ⟨b, o, h1, h2, h3⟩ := hv.2 (by simp)
    exact ⟨b, o, h1, by simpa using h3 0 (by simp)⟩
  have c2 : ∀ x y, v = [x, y] → ∃ vb vo, va = some ⟨vb, vo, none⟩ ∧ vb < w.heap.size ∧ w.cell? ⟨vb, vo, none⟩ = some (.int .i64 x) ∧ w.cell? ⟨vb, vo + 1, none⟩ = some (.int .i64 y) := by
    rintro x y rfl
    obtain ⟨b, o, h1, h2, h3⟩ := hv.2 (by simp)
    exact ⟨b, o, h1, h2, by simpa using h3 0 (by simp), by simpa using h3 1 (by simp)⟩
  have l1 : v.length = 1 → ∃ x, v = [x] := fun h => by match v, h with | [x], _ => exact ⟨x, rfl⟩
  have l2 : v.length = 2 → ∃ x y, v = [x, y] := fun h => by match v, h with | [x, y], _ => exact ⟨x, y, rfl⟩
  clear hv
  match j, hj with
  | 0, _ =>
    refine (set1 w sb _ va v.length vc _ hB rfl).mono ?_
    rintro r w' ⟨h1, h2, h3⟩
    exact ⟨h1, by rw [← p1 0 1 (by decide) (by decide) (by decide) rfl]; exact h2, h3⟩
  | 1, _ =>
    refine (set2 w sb _ va v.length vc _ hB rfl).mono ?_
    rintro r w' ⟨h1, h2, h3⟩
    exact ⟨h1, by rw [← p1 1 1 (by decide) (by decide) (by decide) rfl]; exact h2, h3⟩
  | 2, _ =>
    obtain ⟨x, rfl⟩ := l1 hn
    obtain ⟨vb, vo, rfl, e0⟩ := c1 x rfl
    refine (set3 w sb _ vb vo _ vc x _ hB rfl (by simp) e0).mono ?_
    rintro r w' ⟨h1, h2, h3⟩
    exact ⟨h1, by rw [← p1 2 (x % 256) (by decide) (by decide) (by decide) rfl]; exact h2, h3⟩
  | 3, _ =>
    obtain ⟨x, rfl⟩ := l1 hn
    obtain ⟨vb, vo, rfl, e0⟩ := c1 x rfl
    refine (set4 w sb _ vb vo _ vc x _ hB rfl (by simp) e0).mono ?_
    rintro r w' ⟨h1, h2, h3⟩
    exact ⟨h1, by rw [← p1 3 (x % 256) (by decide) (by decide) (by decide) rfl]; exact h2, h3⟩
  | 4, _ =>
    obtain ⟨x, rfl⟩ := l1 hn
    obtain ⟨vb, vo, rfl, e0⟩ := c1 x rfl
    refine (set5 w sb _ vb vo _ vc x _ hB rfl (by simp) e0).mono ?_
    rintro r w' ⟨h1, h2, h3⟩
    exact ⟨h1, by rw [← p1 4 (x % 256) (by decide) (by decide) (by decide) rfl]; exact h2, h3⟩
  | 5, _ =>
    obtain ⟨x, rfl⟩ := l1 hn
    obtain ⟨vb, vo, rfl, e0⟩ := c1 x rfl
    refine (set6 w sb _ vb vo _ vc x _ hB rfl (by simp) e0).mono ?_
    rintro r w' ⟨h1, h2, h3⟩
    exact ⟨h1, by rw [← p1 5 (x % 256) (by decide) (by decide) (by decide) rfl]; exact h2, h3⟩
  | 6, _ =>
    obtain ⟨x, rfl⟩ := l1 hn
    obtain ⟨vb, vo, rfl, e0⟩ := c1 x rfl
    refine (set7 w sb _ vb vo _ vc x _ hB rfl (by simp) e0).mono ?_
    rintro r w' ⟨h1, h2, h3⟩
    exact ⟨h1, by rw [← p1 6 (x % 256) (by decide) (by decide) (by decide) rfl]; exact h2, h3⟩
  | 7, _ =>
    obtain ⟨x, rfl⟩ := l1 hn
    obtain ⟨vb, vo, rfl, e0⟩ := c1 x rfl
    refine (set8 w sb _ vb vo _ vc x _ hB rfl (by simp) e0).mono ?_
    rintro r w' ⟨h1, h2, h3⟩
    exact ⟨h1, by rw [← p1 7 (x % 256) (by decide) (by decide) (by decide) rfl]; exact h2, h3⟩
  | 8, _ =>
    obtain ⟨x, rfl⟩ := l1 hn
    obtain ⟨vb, vo, rfl, e0⟩ := c1 x rfl
    refine (set9 w sb _ vb vo _ vc x _ hB rfl (by simp) e0).mono ?_
    rintro r w' ⟨h1, h2, h3⟩
    exact ⟨h1, by rw [← p1 8 x (by decide) (by decide) (by decide) rfl]; exact h2, h3⟩
  | 9, _ =>
    obtain ⟨x, rfl⟩ := l1 hn
    obtain ⟨vb, vo, rfl, e0⟩ := c1 x rfl
    refine (set10 w sb _ vb vo _ vc x _ hB rfl (by simp) e0).mono ?_
    rintro r w' ⟨h1, h2, h3⟩
    exact ⟨h1, by rw [← p1 9 x (by decide) (by decide) (by decide) rfl]; exact h2, h3⟩
  | 10, _ =>
    obtain ⟨x, rfl⟩ := l1 hn
    obtain ⟨vb, vo, rfl, e0⟩ := c1 x rfl
    refine (set11 w sb _ vb vo _ vc x _ hB rfl (by simp) e0).mono ?_
    rintro r w' ⟨h1, h2, h3⟩
    exact ⟨h1, by rw [← p1 10 x (by decide) (by decide) (by decide) rfl]; exact h2, h3⟩
  | 11, _ =>
    obtain ⟨x, rfl⟩ := l1 hn
    obtain ⟨vb, vo, rfl, e0⟩ := c1 x rfl
    refine (set12 w sb _ vb vo _ vc x _ hB rfl (by simp) e0).mono ?_
    rintro r w' ⟨h1, h2, h3⟩
    exact ⟨h1, by rw [← p1 11 x (by decide) (by decide) (by decide) rfl]; exact h2, h3⟩
  | 12, _ =>
    obtain ⟨x, y, rfl⟩ := l2 hn
    obtain ⟨vb, vo, rfl, hv, e0, e1⟩ := c2 x y rfl
    refine (set13 w sb _ vb vo _ vc x y _ _ hB rfl rfl (by simp) e0 e1 hv).mono ?_
    rintro r w' ⟨h1, h2, h3⟩
    exact ⟨h1, by rw [← p2 12 (x % 256) y (by decide) (by decide) rfl]; exact h2, h3⟩
  | 13, _ =>
    obtain ⟨x, y, rfl⟩ := l2 hn
    obtain ⟨vb, vo, rfl, hv, e0, e1⟩ := c2 x y rfl
    refine (set14 w sb _ vb vo _ vc x y _ _ hB rfl rfl (by simp) e0 e1 hv).mono ?_
    rintro r w' ⟨h1, h2, h3⟩
    exact ⟨h1, by rw [← p2 13 (x % 256) y (by decide) (by decide) rfl]; exact h2, h3⟩
  | 14, _ =>
    obtain ⟨x, y, rfl⟩ := l2 hn
    obtain ⟨vb, vo, rfl, hv, e0, e1⟩ := c2 x y rfl
    refine (set15 w sb _ vb vo _ vc x y _ _ hB rfl rfl (by simp) e0 e1 hv).mono ?_
    rintro r w' ⟨h1, h2, h3⟩
    exact ⟨h1, by rw [← p2 14 (x % 256) y (by decide) (by decide) rfl]; exact h2, h3⟩
  | 15, _ =>
    obtain ⟨x, y, rfl⟩ := l2 hn
    obtain ⟨vb, vo, rfl, hv, e0, e1⟩ := c2 x y rfl
    refine (set16 w sb _ vb vo _ vc x y _ _ hB rfl rfl (by simp) e0 e1 hv).mono ?_
    rintro r w' ⟨h1, h2, h3⟩
    exact ⟨h1, by rw [← p2 15 (x % 256) y (by decide) (by decide) rfl]; exact h2, h3⟩
  | 16, _ =>
    obtain ⟨x, y, rfl⟩ := l2 hn
    obtain ⟨vb, vo, rfl, hv, e0, e1⟩ := c2 x y rfl
    refine (set17 w sb _ vb vo _ vc x y _ _ hB rfl rfl (by simp) e0 e1 hv).mono ?_
    rintro r w' ⟨h1, h2, h3⟩
    exact ⟨h1, by rw [← p2 16 (x % 256) y (by decide) (by decide) rfl]; exact h2, h3⟩
  | 17, _ =>
    obtain ⟨x, y, rfl⟩ := l2 hn
    obtain ⟨vb, vo, rfl, hv, e0, e1⟩ := c2 x y rfl
    refine (set18 w sb _ vb vo _ vc x y _ _ hB rfl rfl (by simp) e0 e1 hv).mono ?_
    rintro r w' ⟨h1, h2, h3⟩
    exact ⟨h1, by rw [← p2 17 (x % 256) y (by decide) (by decide) rfl]; exact h2, h3⟩
  | 18, _ =>
    obtain ⟨x, y, rfl⟩ := l2 hn
    obtain ⟨vb, vo, rfl, hv, e0, e1⟩ := c2 x y rfl
    refine (set19 w sb _ vb vo _ vc x y _ _ hB rfl rfl (by simp) e0 e1 hv).mono ?_
    rintro r w' ⟨h1, h2, h3⟩
    exact ⟨h1, by rw [← p2 18 (x % 256) y (by decide) (by decide) rfl]; exact h2, h3⟩
  | 19, _ =>
    obtain ⟨x, y, rfl⟩ := l2 hn
    obtain ⟨vb, vo, rfl, hv, e0, e1⟩ := c2 x y rfl
    refine (set20 w sb _ vb vo _ vc x y _ _ hB rfl rfl (by simp) e0 e1 hv).mono ?_
    rintro r w' ⟨h1, h2, h3⟩
    exact ⟨h1, by rw [← p2 19 (x % 256) y (by decide) (by decide) rfl]; exact h2, h3⟩
  | 20, _ =>
    obtain ⟨x, y, rfl⟩ := l2 hn
    obtain ⟨vb, vo, rfl, hv, e0, e1⟩ := c2 x y rfl
    refine (set21 w sb _ vb vo _ vc x y _ _ hB rfl rfl (by simp) e0 e1 hv).mono ?_
    rintro r w' ⟨h1, h2, h3⟩
    exact ⟨h1, by rw [← p2 20 (x % 256) y (by decide) (by decide) rfl]; exact h2, h3⟩
  | 21, _ =>
    obtain ⟨x, y, rfl⟩ := l2 hn
    obtain ⟨vb, vo, rfl, hv, e0, e1⟩ := c2 x y rfl
    refine (set22 w sb _ vb vo _ vc x y _ _ hB rfl rfl (by simp) e0 e1 hv).mono ?_
    rintro r w' ⟨h1, h2, h3⟩
    exact ⟨h1, by rw [← p2 21 (x % 256) y (by decide) (by decide) rfl]; exact h2, h3⟩
  | 22, _ =>
    obtain ⟨x, y, rfl⟩ := l2 hn
    obtain ⟨vb, vo, rfl, hv, e0, e1⟩ := c2 x y rfl
    refine (set23 w sb _ vb vo _ vc x y _ _ hB rfl rfl (by simp) e0 e1 hv).mono ?_
    rintro r w' ⟨h1, h2, h3⟩
    exact ⟨h1, by rw [← p2 22 (x % 256) y (by decide) (by decide) rfl]; exact h2, h3⟩
  | 23, _ =>
    obtain ⟨x, rfl⟩ := l1 hn
    obtain ⟨vb, vo, rfl, e0⟩ := c1 x rfl
    refine (set24 w sb _ vb vo _ vc x _ hB rfl (by simp) e0).mono ?_
    rintro r w' ⟨h1, h2, h3⟩
    exact ⟨h1, by rw [← p1 23 x (by decide) (by decide) (by decide) rfl]; exact h2, h3⟩
  | 24, _ =>
    obtain ⟨x, rfl⟩ := l1 hn
    obtain ⟨vb, vo, rfl, e0⟩ := c1 x rfl
    refine (set25 w sb _ vb vo _ vc x _ hB rfl (by simp) e0).mono ?_
    rintro r w' ⟨h1, h2, h3⟩
    exact ⟨h1, by rw [← p1 24 x (by decide) (by decide) (by decide) rfl]; exact h2, h3⟩
  | 25, _ =>
    obtain ⟨x, rfl⟩ := l1 hn
    obtain ⟨vb, vo, rfl, e0⟩ := c1 x rfl
    refine (set26 w sb _ vb vo _ vc x _ hB rfl (by simp) e0).mono ?_
    rintro r w' ⟨h1, h2, h3⟩
    exact ⟨h1, by rw [← p1 25 x (by decide) (by decide) (by decide) rfl]; exact h2, h3⟩
  | 26, _ =>
    obtain ⟨x, rfl⟩ := l1 hn
    obtain ⟨vb, vo, rfl, e0⟩ := c1 x rfl
    refine (set27 w sb _ vb vo _ vc x _ hB rfl (by simp) e0).mono ?_
    rintro r w' ⟨h1, h2, h3⟩
    exact ⟨h1, by rw [← p1 26 x (by decide) (by decide) (by decide) rfl]; exact h2, h3⟩
  | 27, _ =>
    obtain ⟨x, rfl⟩ := l1 hn
    obtain ⟨vb, vo, rfl, e0⟩ := c1 x rfl
    refine (set28 w sb _ vb vo _ vc x _ hB rfl (by simp) e0).mono ?_
    rintro r w' ⟨h1, h2, h3⟩
    exact ⟨h1, by rw [← p1 27 x (by decide) (by decide) (by decide) rfl]; exact h2, h3⟩
  | 28, _ =>
    obtain ⟨x, rfl⟩ := l1 hn
    obtain ⟨vb, vo, rfl, e0⟩ := c1 x rfl
    refine (set29 w sb _ vb vo _ vc x _ hB rfl (by simp) e0).mono ?_
    rintro r w' ⟨h1, h2, h3⟩
    exact ⟨h1, by rw [← p1 28 x (by decide) (by decide) (by decide) rfl]; exact h2, h3⟩
  | 29, _ =>
    obtain ⟨x, rfl⟩ := l1 hn
    obtain ⟨vb, vo, rfl, e0⟩ := c1 x rfl
    refine (set30 w sb _ vb vo _ vc x _ hB rfl (by simp) e0).mono ?_
    rintro r w' ⟨h1, h2, h3⟩
    exact ⟨h1, by rw [← p1 29 x (by decide) (by decide) (by decide) rfl]; exact h2, h3⟩
  | 30, _ =>
    obtain ⟨x, rfl⟩ := l1 hn
    obtain ⟨vb, vo, rfl, e0⟩ := c1 x rfl
    refine (set31 w sb _ vb vo _ vc x _ hB rfl (by simp) e0).mono ?_
    rintro r w' ⟨h1, h2, h3⟩
    exact ⟨h1, by rw [← p1 30 x (by decide) (by decide) (by decide) rfl]; exact h2, h3⟩
  | j + 31, h => exact absurd h (by omega)
/-- r is an end of b. -/
def Suf (b r : List Int) : Prop := ∃ q, b.drop q = r
theorem Suf.len {b r : List Int} (h : Suf b r) : r.length ≤ b.length := by obtain ⟨q, rfl⟩ := h; rw [List.length_drop]; omega
theorem Suf.at_ {b r : List Int} (h : Suf b r) : b.drop (b.length - r.length) = r := by
  obtain ⟨q, rfl⟩ := h
  rw [List.length_drop]
  by_cases hq : q ≤ b.length
  · rw [show b.length - (b.length - q) = q from by omega]
  · rw [List.drop_eq_nil_of_le (by omega), List.drop_eq_nil_of_le (by omega)]
theorem Suf.refl (b : List Int) : Suf b b := ⟨0, rfl⟩
theorem Suf.trans {a b c : List Int} (h : Suf a b) (k : Suf b c) : Suf a c := by
  obtain ⟨q, rfl⟩ := h; obtain ⟨q', rfl⟩ := k
  exact ⟨q + q', by rw [List.drop_drop]⟩
theorem Suf.tail {b r : List Int} {x : Int} (h : Suf b (x :: r)) : Suf b r := h.trans ⟨1, rfl⟩
theorem Suf.bts {b r : List Int} (h : Suf b r) (hb : Bts b) : Bts r := by obtain ⟨q, rfl⟩ := h; exact fun x hx => hb x (List.mem_of_mem_drop hx)
theorem Suf.get {b r : List Int} (h : Suf b r) {i : Nat} (hi : i < r.length) (hi' : b.length - r.length + i < b.length) : b[b.length - r.length + i] = r[i] := by
  have := h.at_
  have e : (b.drop (b.length - r.length))[i]? = r[i]? := by rw [this]
  rw [List.getElem?_drop, List.getElem?_eq_getElem hi', List.getElem?_eq_getElem hi] at e
  exact Option.some.inj e
theorem rdN_end {l r : List Int} {n : Int} (h : rdN l = some (n, r)) : Suf l r ∧ r.length < l.length := ⟨(rdN_len h).2, (rdN_len h).1⟩
/-- What the document's Take gives at a place. -/
def RT (b : List Int) (w : World) (o : Option (Int × List Int)) (r : Ending) (w' : World) : Prop :=
  Below w.heap.size w w' ∧ match o with
  | some (n, q) => r = .returned (.tuple #[.int .i64 n, .int .i64 ((b.length - q.length : Nat) : Int), .int .i64 0])
  | none => r = .returned (.tuple #[.int .i64 0, .int .i64 0, .int .i64 5])
theorem rtake_suf {b q : List Int} (a : Option Addr) (c : Nat) (w : World) (hr : BRow w a b) (hb : Bts b) (hn : b.length ≤ 1000000) (hs : Suf b q) :
    Calls Try.prog 12 #[.slice a b.length c, .int .i64 ((b.length - q.length : Nat) : Int)] w (RT b w (rdN q)) := by
  refine (rtake_any a b c _ w hr hb (by omega) ⟨by omega, by omega⟩).mono ?_
  rintro r w' ⟨h1, h2⟩
  rw [tk_rdN (by omega), hs.at_] at h1
  refine ⟨h2, ?_⟩
  cases e : rdN q with
  | none => rw [e] at h1; exact h1
  | some p => obtain ⟨n, q'⟩ := p; rw [e] at h1; exact h1
theorem rdU_all : ∀ (m : Nat) (l : List Int), 2 * m ≤ l.length → ∃ us, rdU m l = some (us, l.drop (2 * m)) ∧ us.length = m ∧ ∀ i (h : i < us.length) (h' : 2 * i + 1 < l.length), us[i] = l[2 * i] * 256 + l[2 * i + 1]
  | 0, l, _ => ⟨[], rfl, rfl, fun i h => absurd h (by simp)⟩
  | m + 1, [], h => by simp at h
  | m + 1, [_], h => by simp at h; omega
  | m + 1, x :: y :: l, h => by
    obtain ⟨us, h1, h2, h3⟩ := rdU_all m l (by simp only [List.length_cons] at h; omega)
    refine ⟨(x * 256 + y) :: us, ?_, by rw [List.length_cons, h2], fun i hi hi' => ?_⟩
    · unfold rdU
      rw [h1]
      simp only [show 2 * (m + 1) = 2 * m + 1 + 1 from by omega, List.drop_succ_cons]
    · cases i with
      | zero => rfl
      | succ i =>
        have := h3 i (by simpa using hi) (by simp only [List.length_cons] at hi'; omega)
        simp only [List.getElem_cons_succ, show 2 * (i + 1) = 2 * i + 1 + 1 from by omega]
        exact this
theorem lnF5_some {l r : List Int} {n : Int} {m : Nat} (h : rdN l = some (n, r)) (hm : n = m) (h2 : 2 * m ≤ r.length) : ∃ us, lnF 5 l = some (us, r.drop (2 * m)) ∧ us.length = m ∧ ∀ i (h : i < us.length) (h' : 2 * i + 1 < r.length), us[i] = r[2 * i] * 256 + r[2 * i + 1] := by
  subst hm
  obtain ⟨us, h3, h4, h5⟩ := rdU_all m r h2
  refine ⟨us, ?_, h4, h5⟩
  unfold lnF
  rw [if_pos rfl, h]
  dsimp only
  rw [if_pos (by omega), Int.toNat_natCast]
  exact h3
theorem lnF5_none {l r : List Int} {n : Int} (h : rdN l = some (n, r)) (h2 : ¬ (0 ≤ n ∧ 2 * n ≤ (r.length : Int))) : lnF 5 l = none := by
  unfold lnF
  rw [if_pos rfl, h]
  dsimp only
  rw [if_neg h2]
theorem lnF5_no {l : List Int} (h : rdN l = none) : lnF 5 l = none := by
  unfold lnF
  rw [if_pos rfl, h]
theorem lnF_o {κ : Nat} (h : κ ≠ 5) (l : List Int) : lnF κ l = (rdL rdN (cnt κ) l).map fun p => (fvL κ p.1, p.2) := by
  unfold lnF; rw [if_neg h]
theorem results_cell3 {fn : Func} {p i j : Tmp} {ty : TypeId} (h : fn.results = #[.cell p ty, .tmp i, .tmp j]) (tmps : Array Value) (w : World) (g : Nat) (t : TypeId) (cs : Array Value) (fr : Nat × Nat) (d : TypeDesc)
    (hp : tmps.getD p undef = .pointer (some ⟨g, 0, none⟩)) (hg : w.heap[g]? = some (.cells cs t fr))
    (hu : Try.prog.underlying ty = some d) (hd : ∃ fs, d = .struct fs) (hi : (Try.prog.info? ty).map (·.size) = some cs.size) :
    (results fn tmps).run Try.prog w = .ok (.tuple #[.agg cs, tmps.getD i undef, tmps.getD j undef]) w := by
  obtain ⟨fs, rfl⟩ := hd
  have hp' : tmps[p]?.getD undef = .pointer (some ⟨g, 0, none⟩) := by simpa using hp
  simp [results, h, hp', asAddr, run_loadVar_row w g t ty cs fr _ hg hu rfl hi]
theorem results_cell2 {fn : Func} {p i : Tmp} {ty : TypeId} (h : fn.results = #[.cell p ty, .tmp i]) (tmps : Array Value) (w : World) (g : Nat) (t : TypeId) (cs : Array Value) (fr : Nat × Nat) (d : TypeDesc)
    (hp : tmps.getD p undef = .pointer (some ⟨g, 0, none⟩)) (hg : w.heap[g]? = some (.cells cs t fr))
    (hu : Try.prog.underlying ty = some d) (hd : ∃ fs, d = .struct fs) (hi : (Try.prog.info? ty).map (·.size) = some cs.size) :
    (results fn tmps).run Try.prog w = .ok (.tuple #[.agg cs, tmps.getD i undef]) w := by
  obtain ⟨fs, rfl⟩ := hd
  have hp' : tmps[p]?.getD undef = .pointer (some ⟨g, 0, none⟩) := by simpa using hp
  simp [results, h, hp', asAddr, run_loadVar_row w g t ty cs fr _ hg hu rfl hi]
theorem rnumbers_kd {j : Nat} (hj : j < 31) (w : World) : Calls Try.prog 62 #[.int .i64 ((j : Int) + 1)] w fun r w' => r = .returned (.int .i64 (cnt (KD.getD j 9) : Nat)) ∧ w' = w := by
  rw [show ((j : Int) + 1) = ((j + 1 : Nat) : Int) from by omega]
  refine (numbers_any (j + 1) (by omega) w).mono ?_
  rintro r w' ⟨rfl, rfl⟩
  refine ⟨?_, rfl⟩
  have : ∀ j, j < 31 → (if j + 1 ≤ 2 then 0 else if 13 ≤ j + 1 ∧ j + 1 ≤ 23 then 2 else 1) = cnt (KD.getD j 9) := by decide
  rw [← this j hj]
  congr 2
  split
  · rfl
  · split <;> rfl
theorem fold_off (o : Nat) : ∀ (cs : List Value) (k : Nat) (z : Array Value), o + k + cs.length ≤ z.size → ∀ i, ((cs.zipIdx k).foldl (fun a x => a.setIfInBounds (o + x.2) x.1) z)[i]? = if o + k ≤ i ∧ i < o + k + cs.length then cs[i - (o + k)]? else z[i]?
  | [], k, z, _, i => by
    rw [if_neg (by simp only [List.length_nil]; omega)]; rfl
  | v :: cs, k, z, h, i => by
    rw [List.length_cons] at h
    rw [List.zipIdx_cons, List.foldl_cons, fold_off o cs (k + 1) _ (by rw [Array.size_setIfInBounds]; omega) i, List.length_cons]
    by_cases h1 : o + (k + 1) ≤ i ∧ i < o + (k + 1) + cs.length
    · rw [if_pos h1, if_pos (by omega), show i - (o + k) = (i - (o + (k + 1))) + 1 from by omega, List.getElem?_cons_succ]
    · rw [if_neg h1, Array.getElem?_setIfInBounds]
      by_cases h2 : o + k = i
      · rw [if_pos h2, if_pos (by omega), if_pos (by omega), show i - (o + k) = 0 from by omega]; rfl
      · rw [if_neg h2, if_neg (by omega)]
theorem built_eq (parts : List (Nat × Value)) : Try.prog.built 51 parts = Instr.fill ((#[(0, 1), (1, 43)] : Array (Nat × Nat))[·]?) (ncell (0, KD.map zv) (.slice none 0 0)).toArray parts := by kernel_rfl
theorem built_node (pa : Int) (c : List Value) (hc : c.length = 43) : Try.prog.built 51 [(0, .int .i64 pa), (1, .agg c.toArray)] = some (Value.int .i64 pa :: c).toArray := by
  rw [built_eq]
  have hz : (ncell (0, KD.map zv) (.slice none 0 0)).toArray.size = 44 := rfl
  generalize (ncell (0, KD.map zv) (.slice none 0 0)).toArray = z at hz ⊢
  have p0 : (#[(0, 1), (1, 43)] : Array (Nat × Nat))[0]? = some (0, 1) := rfl
  have p1 : (#[(0, 1), (1, 43)] : Array (Nat × Nat))[1]? = some (1, 43) := rfl
  have v0 : (Value.int .i64 pa).cells = #[.int .i64 pa] := rfl
  have v1 : (Value.agg c.toArray).cells = c.toArray := rfl
  have hs : c.toArray.size = 43 := hc
  simp only [Instr.fill, p0, p1, v0, v1]
  rw [if_neg (by simp [hz])]
  rw [if_neg (by
    rw [hs]
    simp [hz])]
  refine congrArg some ?_
  rw [show c.toArray.zipIdx = (c.zipIdx).toArray from by simp, List.foldl_toArray]
  apply Array.ext_getElem?
  intro i
  rw [fold_off 1 _ 0 _ (by simp [hz]; omega) i]
  simp only [Nat.add_zero]
  by_cases h : 1 ≤ i ∧ i < 1 + c.length
  · rw [if_pos h]
    obtain ⟨j, rfl⟩ : ∃ j, i = j + 1 := ⟨i - 1, by omega⟩
    simp
  · rw [if_neg h]
    by_cases h0 : i = 0
    · subst h0
      simp [hz]
    · simp [hz]
      rw [Array.getElem?_eq_none (by simp [hz]; omega), List.getElem?_eq_none (by simp; omega)]
theorem built_ncell (pa : Int) (L : List (List Int)) (uv : Value) : Try.prog.built 51 [(0, .int .i64 pa), (1, .agg (SC (gof L) uv).toArray)] = some (ncell (pa, L) uv).toArray := built_node pa _ rfl
theorem wpList_mknode {ops : Array Oper} {rest : List Oper} {o : Oper} {a : Act} {w : World} {Q : Exit → Act → World → Prop} (hg : o.guard = none) (x y : Operand) (ho : o.op = .build 51 #[(0, x), (1, y)]) (pa : Int) (L : List (List Int)) (uv : Value) (hx : a.eval x = .int .i64 pa) (hy : a.eval y = .agg (SC (gof L) uv).toArray)
    (h : wpList Try.prog ops Q rest (a.put o.dst (.agg (ncell (pa, L) uv).toArray)) w) : wpList Try.prog ops Q (o :: rest) a w := by
  refine wpList_build_eq hg 51 _ ho (ncell (pa, L) uv).toArray ?_ h
  have e : (Array.map (fun p : Nat × Operand => (p.1, a.eval p.2)) #[(0, x), (1, y)]).toList = [(0, .int .i64 pa), (1, .agg (SC (gof L) uv).toArray)] := by
    rw [Array.toList_map]
    simp only [List.map_cons, List.map_nil, hx, hy]
  exact (congrArg _ e).trans (built_ncell pa L uv)
end Go.Proofs.Ytmngndmcidbakaa
