/- Numbers as bytes, as plain numbers. -/
import Derived.Test.YtmngndmcidbakaaRowsS
namespace Go.Proofs.Ytmngndmcidbakaa
open Go.RowKit

/-- The bytes of a number, the greatest first, none for 0. -/
def nb (m : Nat) : List Int := if h : m = 0 then [] else nb (m / 256) ++ [((m % 256 : Nat) : Int)]
termination_by m
decreasing_by omega
theorem nb_zero : nb 0 = [] := by rw [nb, dif_pos rfl]
theorem nb_pos {m : Nat} (h : m ≠ 0) : nb m = nb (m / 256) ++ [((m % 256 : Nat) : Int)] := by rw [nb, dif_neg h]
def val (l : List Int) : Nat := l.foldl (fun s x => s * 256 + x.toNat) 0
theorem val_snoc (l : List Int) (x : Int) : val (l ++ [x]) = val l * 256 + x.toNat := by unfold val; rw [List.foldl_append]; rfl
def Byt (x : Int) : Prop := 0 ≤ x ∧ x ≤ 255
theorem nb_bytes : ∀ m, ∀ x ∈ nb m, Byt x := by
  intro m
  induction m using Nat.strongRecOn with
  | _ m ih =>
    intro x hx
    by_cases h : m = 0
    · rw [h, nb_zero] at hx; simp at hx
    · rw [nb_pos h] at hx
      rcases List.mem_append.1 hx with hx | hx
      · exact ih (m / 256) (by omega) x hx
      · simp at hx; subst hx; unfold Byt; omega
theorem val_nb : ∀ m, val (nb m) = m := by
  intro m
  induction m using Nat.strongRecOn with
  | _ m ih =>
    by_cases h : m = 0
    · rw [h, nb_zero]; rfl
    · rw [nb_pos h, val_snoc, ih (m / 256) (by omega)]
      have : ((m % 256 : Nat) : Int).toNat = m % 256 := Int.toNat_natCast _
      rw [this]; omega
theorem nb_len {m : Nat} : ∀ {k : Nat}, m < 256 ^ k → (nb m).length ≤ k := by
  intro k
  induction k generalizing m with
  | zero => intro h; obtain rfl : m = 0 := by simpa using h
            rw [nb_zero]; simp
  | succ k ih =>
    intro h
    by_cases h0 : m = 0
    · rw [h0, nb_zero]; simp
    · rw [nb_pos h0, List.length_append]
      have := ih (m := m / 256) (by rw [Nat.pow_succ] at h; omega)
      simp; omega
theorem nb_len_ge {m : Nat} : ∀ {k : Nat}, 256 ^ k ≤ m → k + 1 ≤ (nb m).length := by
  intro k
  induction k generalizing m with
  | zero => intro h; rw [nb_pos (by simp at h; omega), List.length_append]; simp
  | succ k ih =>
    intro h
    have h0 : m ≠ 0 := fun e => by subst e; rw [Nat.pow_succ] at h; have := Nat.pow_pos (n := k) (show 0 < 256 by omega); omega
    rw [nb_pos h0, List.length_append]
    have := ih (m := m / 256) (by rw [Nat.pow_succ] at h; omega)
    simp; omega
theorem nb_ne {m : Nat} (h : m ≠ 0) : 1 ≤ (nb m).length := by rw [nb_pos h, List.length_append]; simp
theorem snoc_ind {α : Type} {p : List α → Prop} (h0 : p []) (h1 : ∀ l x, p l → p (l ++ [x])) (l : List α) : p l := by
  have : ∀ r : List α, p r.reverse := by
    intro r
    induction r with
    | nil => exact h0
    | cons x r ih => rw [List.reverse_cons]; exact h1 _ _ ih
  have := this l.reverse
  rwa [List.reverse_reverse] at this
theorem val_lt (l : List Int) : (∀ x ∈ l, Byt x) → val l < 256 ^ l.length := by
  refine snoc_ind (p := fun l => (∀ x ∈ l, Byt x) → val l < 256 ^ l.length) (by intro _; simp [val]) (fun l x ih h => ?_) l
  have h1 := ih (fun z hz => h z (List.mem_append.2 (.inl hz)))
  obtain ⟨h2, h3⟩ := h x (by simp)
  rw [val_snoc, List.length_append, List.length_singleton, Nat.pow_succ]
  omega
theorem nb_head : ∀ m, m ≠ 0 → (nb m).headD 0 ≠ 0 := by
  intro m
  induction m using Nat.strongRecOn with
  | _ m ih =>
    intro h
    rw [nb_pos h]
    by_cases h2 : m / 256 = 0
    · rw [h2, nb_zero]; simp; omega
    · have := ih (m / 256) (by omega) h2
      have hl := nb_ne h2
      cases hn : nb (m / 256) with
      | nil => rw [hn] at hl; simp at hl
      | cons x t => rw [hn] at this; simpa using this
/-- What is written as such bytes. -/
theorem nb_val (l : List Int) : (∀ x ∈ l, Byt x) → (l ≠ [] → l.headD 0 ≠ 0) → nb (val l) = l ∧ (l ≠ [] → val l ≠ 0) := by
  refine snoc_ind (p := fun l => (∀ x ∈ l, Byt x) → (l ≠ [] → l.headD 0 ≠ 0) → nb (val l) = l ∧ (l ≠ [] → val l ≠ 0)) (by intro _ _; exact ⟨by simp [val, nb_zero], fun h => absurd rfl h⟩) (fun l x ih h hh => ?_) l
  obtain ⟨h2, h3⟩ := h x (by simp)
  rw [val_snoc]
  by_cases hl : l = []
  · subst hl
    have hx : x ≠ 0 := by simpa using hh (by simp)
    have h0 : val ([] : List Int) * 256 + x.toNat ≠ 0 := by simp [val]; omega
    refine ⟨?_, fun _ => h0⟩
    rw [nb_pos h0]
    simp only [val, List.foldl_nil, Nat.zero_mul, Nat.zero_add]
    rw [show x.toNat / 256 = 0 from by omega, nb_zero, show x.toNat % 256 = x.toNat from by omega, Int.toNat_of_nonneg h2]
  · obtain ⟨i1, i2⟩ := ih (fun z hz => h z (List.mem_append.2 (.inl hz))) (fun _ => by
      have := hh (by simp)
      cases l with
      | nil => exact absurd rfl hl
      | cons y t => simpa using this)
    have h0 : val l * 256 + x.toNat ≠ 0 := by have := i2 hl; omega
    refine ⟨?_, fun _ => h0⟩
    rw [nb_pos h0, show (val l * 256 + x.toNat) / 256 = val l from by omega, i1, show (val l * 256 + x.toNat) % 256 = x.toNat from by omega, Int.toNat_of_nonneg h2]
/-- A number's bytes. -/
def num (n : Int) : List Int := ((if n < 0 then 16 else 0) + ((nb n.natAbs).length : Int)) :: nb n.natAbs
/-- The number at a place, the place behind it, the error. -/
def tkc (at_ h : Int) (l : List Int) : Int × Int × Int :=
  if h = 0 then (0, at_ + 1, 0) else
  let k := if 16 < h then h - 16 else h
  if k < 1 ∨ 8 < k ∨ (l.length : Int) < k ∨ l.headD 0 = 0 then (0, 0, 5) else
  if 16 < h ∧ val (l.take k.toNat) ≤ 9223372036854775808 then (-(val (l.take k.toNat) : Int), at_ + 1 + k, 0) else
  if ¬ 16 < h ∧ val (l.take k.toNat) ≤ 9223372036854775807 then ((val (l.take k.toNat) : Int), at_ + 1 + k, 0) else (0, 0, 5)
def tk (b : List Int) (at_ : Int) : Int × Int × Int :=
  if at_ < 0 ∨ (b.length : Int) < at_ then (0, 0, 1) else
  match b.drop at_.toNat with
  | [] => (0, 0, 5)
  | h :: l => tkc at_ h l
theorem tk_at {b : List Int} {p : Nat} (h : p < b.length) : tk b p = tkc p b[p] (b.drop (p + 1)) := by
  unfold tk
  rw [if_neg (by omega), Int.toNat_natCast, List.drop_eq_getElem_cons h]
theorem tk_end {b : List Int} : tk b b.length = (0, 0, 5) := by
  unfold tk
  rw [if_neg (by omega), Int.toNat_natCast, List.drop_eq_nil_of_le (Nat.le_refl _)]
/-- A number below 0: k bytes behind 16 + k. -/
theorem tkc_neg {at_ h : Int} {l : List Int} {k : Nat} (hk : h - 16 = (k : Int)) (h1 : 1 ≤ k) (h8 : k ≤ 8) (hl : k ≤ l.length) (hh : l.headD 0 ≠ 0) : tkc at_ h l = if val (l.take k) ≤ 9223372036854775808 then (-(val (l.take k) : Int), at_ + 1 + k, 0) else (0, 0, 5) := by
  unfold tkc
  have e2 : 16 < h := by omega
  rw [if_neg (by omega)]
  simp only [if_pos e2, hk]
  rw [if_neg (by intro hc; rcases hc with hc | hc | hc | hc <;> first | omega | exact hh hc), Int.toNat_natCast]
  split
  · next hs => rw [if_pos hs.2]
  · next hs => rw [if_neg (fun hc => hs ⟨e2, hc⟩), if_neg (fun hc => hc.1 e2)]
theorem tkc_pos {at_ : Int} {l : List Int} {k : Nat} (h1 : 1 ≤ k) (h8 : k ≤ 8) (hl : k ≤ l.length) (hh : l.headD 0 ≠ 0) : tkc at_ k l = if val (l.take k) ≤ 9223372036854775807 then ((val (l.take k) : Int), at_ + 1 + k, 0) else (0, 0, 5) := by
  unfold tkc
  have e2 : ¬ 16 < (k : Int) := by omega
  rw [if_neg (by omega)]
  simp only [if_neg e2]
  rw [if_neg (by intro hc; rcases hc with hc | hc | hc | hc <;> first | omega | exact hh hc), Int.toNat_natCast, if_neg (fun hc => e2 hc.1)]
  split
  · next hs => rw [if_pos hs.2]
  · next hs => rw [if_neg (fun hc => hs ⟨e2, hc⟩)]
theorem tkc_bad {at_ h : Int} {l : List Int} {k : Int} (h0 : h ≠ 0) (hk : k = if 16 < h then h - 16 else h) (hx : 8 < k ∨ (l.length : Int) < k ∨ l.headD 0 = 0) : tkc at_ h l = (0, 0, 5) := by
  unfold tkc
  rw [if_neg h0]
  dsimp only
  rw [← hk, if_pos (.inr hx)]
theorem abs_lt {n : Int} (h : -9223372036854775808 ≤ n ∧ n ≤ 9223372036854775807) : n.natAbs < 256 ^ 8 := by
  have : (256 : Nat) ^ 8 = 18446744073709551616 := by decide
  omega
theorem tk_num {b : List Int} {n : Int} (h : -9223372036854775808 ≤ n ∧ n ≤ 9223372036854775807) : tk (b ++ num n) b.length = (n, ((b ++ num n).length : Int), 0) := by
  unfold tk
  rw [if_neg (by simp; omega)]
  have hd : (b ++ num n).drop (b.length : Int).toNat = num n := by simp
  rw [hd]
  unfold tkc
  have h8 := nb_len (abs_lt h)
  unfold num
  dsimp only
  by_cases h0 : n = 0
  · subst h0
    rw [show (0 : Int).natAbs = 0 from rfl, nb_zero]
    simp
  · have hm : n.natAbs ≠ 0 := by omega
    have h1 := nb_ne hm
    have hh := nb_head _ hm
    have hv := val_nb n.natAbs
    by_cases hneg : n < 0
    · rw [if_pos hneg]
      have e1 : ¬ (16 + ((nb n.natAbs).length : Int) = 0) := by omega
      rw [if_neg e1]
      have e2 : 16 < (16 + ((nb n.natAbs).length : Int)) := by omega
      simp only [if_pos e2]
      have e3 : (16 + ((nb n.natAbs).length : Int) - 16) = ((nb n.natAbs).length : Int) := by omega
      rw [e3]
      rw [if_neg (by intro hc; rcases hc with hc | hc | hc | hc <;> first | omega | exact hh hc)]
      rw [Int.toNat_natCast, List.take_length, hv, if_pos ⟨e2, by omega⟩]
      simp only [List.length_append, List.length_cons, Prod.mk.injEq]
      refine ⟨by omega, by omega, trivial⟩
    · rw [if_neg hneg]
      have e1 : ¬ (0 + ((nb n.natAbs).length : Int) = 0) := by omega
      rw [if_neg e1]
      have e2 : ¬ 16 < (0 + ((nb n.natAbs).length : Int)) := by omega
      simp only [if_neg e2]
      rw [Int.zero_add] at e2 ⊢
      rw [if_neg (by intro hc; rcases hc with hc | hc | hc | hc <;> first | omega | exact hh hc)]
      rw [Int.toNat_natCast, List.take_length, hv, if_neg (fun hc => e2 hc.1), if_pos ⟨e2, by omega⟩]
      simp only [List.length_append, List.length_cons, Prod.mk.injEq]
      refine ⟨by omega, by omega, trivial⟩
/-- The document's way: the number that such bytes say, as an int64. -/
def cvt (below : Bool) (s : Nat) : Int := if below = true then (if s ≤ 9223372036854775808 then -(s : Int) else 18446744073709551616 - s) else (if s < 9223372036854775808 then (s : Int) else s - 18446744073709551616)
theorem rt_tk {b : List Int} {at_ : Int} {h : Int} {l : List Int} (ha : 0 ≤ at_) (hd : b.drop at_.toNat = h :: l) (hb : ∀ x ∈ b, Byt x) (h32 : h < 32) (h8 : h % 16 ≤ 8) (hl : h % 16 ≤ l.length) :
    tk b at_ = if num (cvt (decide (16 ≤ h)) (val (l.take (h % 16).toNat))) = h :: l.take (h % 16).toNat then (cvt (decide (16 ≤ h)) (val (l.take (h % 16).toNat)), at_ + h % 16 + 1, 0) else (0, 0, 5) := by
  have hbl : ∀ x ∈ h :: l, Byt x := fun x hx => hb x (List.mem_of_mem_drop (hd ▸ hx))
  obtain ⟨hh0, _⟩ := hbl h (by simp)
  have hblt : ∀ x ∈ l.take (h % 16).toNat, Byt x := fun x hx => hbl x (List.mem_cons_of_mem _ (List.mem_of_mem_take hx))
  have hlen : at_ ≤ b.length := by
    have := congrArg List.length hd
    simp at this; omega
  unfold tk
  rw [if_neg (by omega), hd]
  unfold tkc
  dsimp only
  obtain ⟨k, hk⟩ : ∃ k : Nat, h % 16 = (k : Int) := ⟨(h % 16).toNat, by omega⟩
  rw [hk] at hl h8 hblt ⊢
  rw [Int.toNat_natCast] at hblt ⊢
  have htl : (l.take k).length = k := by rw [List.length_take]; omega
  obtain ⟨t, ht⟩ : ∃ t, t = l.take k := ⟨_, rfl⟩
  have hvl := val_lt t (ht ▸ hblt)
  rw [← ht] at htl hblt ⊢
  rw [htl] at hvl
  have hv64 : val t < 18446744073709551616 := by
    have : 256 ^ k ≤ 256 ^ 8 := Nat.pow_le_pow_right (by omega) (by omega)
    have : (256 : Nat) ^ 8 = 18446744073709551616 := by decide
    omega
  have hhd : k ≠ 0 → t.headD 0 = l.headD 0 := fun hk0 => by
    rw [ht]
    cases l with
    | nil => simp
    | cons x l' => cases k with
      | zero => exact absurd rfl hk0
      | succ k => rfl
  by_cases h16 : 16 ≤ h
  · have hkk : (k : Int) = h - 16 := by omega
    rw [if_neg (by omega), show decide (16 ≤ h) = true from by simpa using h16]
    by_cases hk0 : k = 0
    · have ht0 : t = [] := List.eq_nil_of_length_eq_zero (by omega)
      have e16 : h = 16 := by omega
      subst e16
      rw [if_pos (by simp), if_neg]
      rw [ht0]
      simp [cvt, val, num, nb_zero]
    · have e2 : 16 < h := by omega
      simp only [if_pos e2]
      rw [← hkk, Int.toNat_natCast, ← ht]
      by_cases hz : l.headD 0 = 0
      · rw [if_pos (.inr (.inr (.inr hz))), if_neg]
        intro hc
        unfold num at hc
        simp only [List.cons.injEq] at hc
        have h3 := hc.2
        by_cases hn : (cvt true (val t)).natAbs = 0
        · rw [hn, nb_zero] at h3; rw [← h3] at htl; simp at htl; omega
        · have := nb_head _ hn
          rw [h3, hhd hk0] at this
          exact this hz
      · rw [if_neg (by intro hc; rcases hc with hc | hc | hc | hc <;> first | omega | exact hz hc)]
        have htne : t ≠ [] := fun e => by rw [e] at htl; simp at htl; omega
        obtain ⟨n1, n2⟩ := nb_val t hblt (fun _ => by rw [hhd hk0]; exact hz)
        have n2 := n2 htne
        by_cases hs : val t ≤ 9223372036854775808
        · rw [if_pos ⟨e2, hs⟩]
          have hc : cvt true (val t) = -(val t : Int) := by unfold cvt; rw [if_pos rfl, if_pos hs]
          rw [hc, if_pos]
          · simp only [Prod.mk.injEq]; exact ⟨trivial, by omega, trivial⟩
          · unfold num
            rw [if_pos (by omega), show (-(val t : Int)).natAbs = val t from by omega, n1, htl, hkk]
            congr 1; omega
        · rw [if_neg (fun hc => hs hc.2), if_neg (fun hc => hc.1 e2), if_neg]
          intro hc
          have hcv : cvt true (val t) = 18446744073709551616 - (val t : Int) := by unfold cvt; rw [if_pos rfl, if_neg hs]
          rw [hcv] at hc
          unfold num at hc
          simp only [List.cons.injEq] at hc
          rw [if_neg (by omega)] at hc
          have h9 := nb_len (m := (18446744073709551616 - (val t : Int)).natAbs) (k := 8) (by have : (256 : Nat) ^ 8 = 18446744073709551616 := by decide
                                                                                              omega)
          omega
  · have hkk : (k : Int) = h := by omega
    rw [show decide (16 ≤ h) = false from by simpa using h16]
    by_cases hk0 : h = 0
    · have ht0 : t = [] := List.eq_nil_of_length_eq_zero (by omega)
      rw [if_pos hk0, ht0, if_pos]
      · simp [cvt, val]; omega
      · subst hk0; simp [cvt, val, num, nb_zero]
    · have hk1 : k ≠ 0 := by omega
      rw [if_neg hk0]
      have e2 : ¬ 16 < h := by omega
      simp only [if_neg e2]
      rw [← hkk, Int.toNat_natCast, ← ht]
      by_cases hz : l.headD 0 = 0
      · rw [if_pos (.inr (.inr (.inr hz))), if_neg]
        intro hc
        unfold num at hc
        simp only [List.cons.injEq] at hc
        have h3 := hc.2
        by_cases hn : (cvt false (val t)).natAbs = 0
        · rw [hn, nb_zero] at h3; rw [← h3] at htl; simp at htl; omega
        · have := nb_head _ hn
          rw [h3, hhd hk1] at this
          exact this hz
      · rw [if_neg (by intro hc; rcases hc with hc | hc | hc | hc <;> first | omega | exact hz hc)]
        obtain ⟨n1, n2⟩ := nb_val t hblt (fun _ => by rw [hhd hk1]; exact hz)
        rw [if_neg (fun hc => by have := hc.1; omega)]
        by_cases hs : val t ≤ 9223372036854775807
        · rw [if_pos ⟨by omega, hs⟩]
          have hc : cvt false (val t) = (val t : Int) := by unfold cvt; rw [if_neg (by simp), if_pos (by omega)]
          rw [hc, if_pos]
          · simp only [Prod.mk.injEq]; exact ⟨trivial, by omega, trivial⟩
          · unfold num
            rw [if_neg (by omega), Int.natAbs_natCast, n1, htl]
            congr 1; omega
        · rw [if_neg (fun hc => hs hc.2), if_neg]
          intro hc
          have hcv : cvt false (val t) = (val t : Int) - 18446744073709551616 := by unfold cvt; rw [if_neg (by simp), if_neg (by omega)]
          rw [hcv] at hc
          unfold num at hc
          simp only [List.cons.injEq] at hc
          rw [if_pos (by omega)] at hc
          omega
/-- Where the document's way finds none at once, neither does the other. -/
theorem tk_none {b : List Int} {at_ : Int} {h : Int} {l : List Int} (ha : 0 ≤ at_) (hd : b.drop at_.toNat = h :: l) (hb : ∀ x ∈ b, Byt x) (hx : 32 ≤ h ∨ 8 < h % 16 ∨ (l.length : Int) < h % 16) : tk b at_ = (0, 0, 5) := by
  have hbl : ∀ x ∈ h :: l, Byt x := fun x hx => hb x (List.mem_of_mem_drop (hd ▸ hx))
  obtain ⟨hh0, _⟩ := hbl h (by simp)
  have hlen : at_ ≤ b.length := by
    have := congrArg List.length hd
    simp at this; omega
  unfold tk
  rw [if_neg (by omega), hd]
  unfold tkc
  dsimp only
  rw [if_neg (by omega)]
  by_cases e2 : 16 < h
  · simp only [if_pos e2]
    rw [if_pos (by omega)]
  · simp only [if_neg e2]
    rw [if_pos (by omega)]
end Go.Proofs.Ytmngndmcidbakaa
