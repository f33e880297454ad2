/- What is before what: stamps and the order, as plain numbers. -/
import Derived.Test.YtffpphnjokmffaaRowsS
namespace Go.Proofs.Ytffpphnjokmffaa
open Go.RowKit

/-- An event: its worker, its access' kind and cell. -/
structure Ev where
  w : Int
  k : Int
  c : Int
def rdE (e : Ev) : Bool := e.k == 1 || e.k == 3 || e.k == 4
def wrE (e : Ev) : Bool := e.k == 2 || e.k == 3
def plE (e : Ev) : Bool := decide (5 ≤ e.k)
section
variable (e : Nat → Ev)
/-- The last of the first j that writes an atomic cell; the last of a worker. -/
def lastW (c : Int) : Nat → Option Nat
  | 0 => none
  | j + 1 => if wrE (e j) && (e j).c == c then some j else lastW c j
def prevW (w : Int) : Nat → Option Nat
  | 0 => none
  | j + 1 => if (e j).w == w then some j else prevW w j
def stepE (k j : Nat) : Prop := (e k).w = (e j).w ∨ (rdE (e j) = true ∧ lastW e (e j).c j = some k)
inductive Hb : Nat → Nat → Prop
  | one {k j : Nat} : k < j → stepE e k j → Hb k j
  | more {i k j : Nat} : k < j → stepE e k j → Hb i k → Hb i j
def Le (i j : Nat) : Prop := i = j ∨ Hb e i j
/-- How many of the first j are a worker's. -/
def nof (w : Int) : Nat → Nat
  | 0 => 0
  | j + 1 => nof w j + if (e j).w = w then 1 else 0
def rk (i : Nat) : Nat := nof e (e i).w (i + 1)
end
section
variable {e : Nat → Ev}
theorem lastW_lt {c : Int} : ∀ {j k : Nat}, lastW e c j = some k → k < j
  | 0, _, h => by cases h
  | j + 1, k, h => by
    unfold lastW at h
    split at h
    · cases h; omega
    · have := lastW_lt h; omega
theorem prevW_lt {w : Int} : ∀ {j k : Nat}, prevW e w j = some k → k < j ∧ (e k).w = w ∧ ∀ i, k < i → i < j → (e i).w ≠ w
  | 0, _, h => by cases h
  | j + 1, k, h => by
    unfold prevW at h
    split at h
    · next hw => cases h; exact ⟨by omega, by simpa using hw, fun i h1 h2 => by omega⟩
    · next hw =>
      obtain ⟨h1, h2, h3⟩ := prevW_lt h
      refine ⟨by omega, h2, fun i h4 h5 => ?_⟩
      by_cases hi : i = j
      · subst hi; simpa using hw
      · exact h3 i h4 (by omega)
theorem prevW_none {w : Int} : ∀ {j : Nat}, prevW e w j = none → ∀ i, i < j → (e i).w ≠ w
  | 0, _ => fun i h => by omega
  | j + 1, h => fun i hi => by
    unfold prevW at h
    split at h
    · cases h
    · next hw =>
      by_cases hij : i = j
      · subst hij; simpa using hw
      · exact prevW_none h i (by omega)
theorem hb_lt {i j : Nat} (h : Hb e i j) : i < j := by
  induction h with
  | one h _ => exact h
  | more h _ _ ih => omega
theorem hb_trans {i j k : Nat} (h1 : Hb e i j) (h2 : Hb e j k) : Hb e i k := by
  induction h2 with
  | one h s => exact .more h s h1
  | more h s _ ih => exact .more h s ih
theorem hb_same {i j : Nat} (h : i < j) (hw : (e i).w = (e j).w) : Hb e i j := .one h (.inl hw)
theorem le_trans' {i j k : Nat} (h1 : Le e i j) (h2 : Le e j k) : Le e i k := by
  rcases h1 with rfl | h1
  · exact h2
  · rcases h2 with rfl | h2
    · exact .inr h1
    · exact .inr (hb_trans h1 h2)
theorem le_le {i j : Nat} (h : Le e i j) : i ≤ j := by
  rcases h with rfl | h
  · exact Nat.le_refl _
  · exact Nat.le_of_lt (hb_lt h)
/-- One step back is enough. -/
theorem hb_iff {i j : Nat} : Hb e i j ↔ (∃ k, prevW e (e j).w j = some k ∧ Le e i k) ∨ (rdE (e j) = true ∧ ∃ k, lastW e (e j).c j = some k ∧ Le e i k) := by
  have key : ∀ k, k < j → stepE e k j → Le e i k → (∃ k, prevW e (e j).w j = some k ∧ Le e i k) ∨ (rdE (e j) = true ∧ ∃ k, lastW e (e j).c j = some k ∧ Le e i k) := by
    intro k hk hs hl
    rcases hs with hs | ⟨hr, hs⟩
    · left
      cases hp : prevW e (e j).w j with
      | none => exact absurd hs (prevW_none hp k hk)
      | some p =>
        obtain ⟨h1, h2, h3⟩ := prevW_lt hp
        refine ⟨p, rfl, ?_⟩
        by_cases hkp : k = p
        · subst hkp; exact hl
        · have hlt : k < p := by
            rcases Nat.lt_trichotomy k p with h | h | h
            · exact h
            · exact absurd h hkp
            · exact absurd hs (h3 k h hk)
          exact le_trans' hl (.inr (hb_same hlt (by rw [hs, h2])))
    · exact .inr ⟨hr, k, hs, hl⟩
  constructor
  · intro h
    cases h with
    | one hk hs => exact key i hk hs (.inl rfl)
    | more hk hs h => exact key _ hk hs (.inr h)
  · rintro (⟨k, hp, hl⟩ | ⟨hr, k, hp, hl⟩)
    · obtain ⟨h1, h2, _⟩ := prevW_lt hp
      rcases hl with rfl | hl
      · exact .one h1 (.inl h2)
      · exact .more h1 (.inl h2) hl
    · have h1 := lastW_lt hp
      rcases hl with rfl | hl
      · exact .one h1 (.inr ⟨hr, hp⟩)
      · exact .more h1 (.inr ⟨hr, hp⟩) hl

/-! ### Numbers of a worker's events -/
theorem nof_mono {w : Int} {i j : Nat} (h : i ≤ j) : nof e w i ≤ nof e w j := by
  induction j with
  | zero => obtain rfl : i = 0 := by omega
            exact Nat.le_refl _
  | succ j ih =>
    by_cases hi : i = j + 1
    · subst hi; exact Nat.le_refl _
    · have := ih (by omega)
      show nof e w i ≤ nof e w j + _
      omega
theorem nof_at {i : Nat} : nof e (e i).w (i + 1) = nof e (e i).w i + 1 := by show nof e (e i).w i + _ = _; rw [if_pos rfl]
theorem rk_pos (i : Nat) : 1 ≤ rk e i := by unfold rk; rw [nof_at]; omega
theorem rk_le {i j : Nat} (h : rk e i ≤ nof e (e i).w (j + 1)) : i ≤ j := by
  rcases Nat.lt_or_ge j i with h1 | h1
  · exfalso
    have := nof_mono (e := e) (w := (e i).w) (show j + 1 ≤ i by omega)
    unfold rk at h
    rw [nof_at] at h
    omega
  · exact h1
theorem nof_skip {w : Int} {k : Nat} : ∀ {j : Nat}, k ≤ j → (∀ i, k ≤ i → i < j → (e i).w ≠ w) → nof e w j = nof e w k := by
  intro j
  induction j with
  | zero => intro h _; obtain rfl : k = 0 := by omega
            rfl
  | succ j ih =>
    intro h hn
    by_cases hk : k = j + 1
    · subst hk; rfl
    · have h1 := ih (by omega) (fun i a b => hn i a (by omega))
      show nof e w j + _ = _
      rw [if_neg (hn j (by omega) (by omega)), h1]; rfl
/-! ### Stamps -/
/-- The number of worker w in the stamp of event j, by the program's rule. -/
def stamp (e : Nat → Ev) : Nat → Int → Nat
  | j, w =>
    let p := match h : prevW e (e j).w j with | some k => stamp e k w | none => 0
    let q := if rdE (e j) = true then (match h : lastW e (e j).c j with | some k => stamp e k w | none => 0) else 0
    max p q + if w = (e j).w then 1 else 0
termination_by j => j
decreasing_by
  · exact (prevW_lt h).1
  · exact lastW_lt h
def optS (e : Nat → Ev) (o : Option Nat) (w : Int) : Nat := match o with | some k => stamp e k w | none => 0
theorem stamp_eq (j : Nat) (w : Int) : stamp e j w = max (optS e (prevW e (e j).w j) w) (if rdE (e j) = true then optS e (lastW e (e j).c j) w else 0) + if w = (e j).w then 1 else 0 := by
  rw [stamp]
  congr 1
  congr 1
  · unfold optS
    split <;> simp_all
  · split
    · unfold optS
      split <;> simp_all
    · rfl
theorem stamp_spec : ∀ j, (∀ w, stamp e j w ≤ nof e w (j + 1)) ∧ stamp e j (e j).w = rk e j ∧ ∀ i, (Le e i j ↔ rk e i ≤ stamp e j (e i).w) := by
  intro j
  induction j using Nat.strongRecOn with
  | _ j ih =>
    have hq : ∀ w, (if rdE (e j) = true then optS e (lastW e (e j).c j) w else 0) ≤ nof e w j := by
      intro w
      split
      · cases hl : lastW e (e j).c j with
        | none => exact Nat.zero_le _
        | some k =>
          have hk := lastW_lt hl
          have h1 := (ih k hk).1 w
          have h2 := nof_mono (e := e) (w := w) (show k + 1 ≤ j by omega)
          show stamp e k w ≤ _
          omega
      · exact Nat.zero_le _
    have hp : ∀ w, optS e (prevW e (e j).w j) w ≤ nof e w j := by
      intro w
      cases hl : prevW e (e j).w j with
      | none => exact Nat.zero_le _
      | some k =>
        have hk := (prevW_lt hl).1
        have h1 := (ih k hk).1 w
        have h2 := nof_mono (e := e) (w := w) (show k + 1 ≤ j by omega)
        show stamp e k w ≤ _
        omega
    have hown : optS e (prevW e (e j).w j) (e j).w = nof e (e j).w j := by
      cases hl : prevW e (e j).w j with
      | none =>
        show 0 = _
        rw [nof_skip (k := 0) (Nat.zero_le _) (fun i _ h => prevW_none hl i h)]
        rfl
      | some k =>
        obtain ⟨hk, hw, hs⟩ := prevW_lt hl
        have h1 := (ih k hk).2.1
        show stamp e k (e j).w = _
        rw [← hw, h1]
        unfold rk
        rw [nof_skip (k := k + 1) (j := j) (by omega) (fun i a b => by rw [hw]; exact hs i (by omega) b)]
    have hs1 : stamp e j (e j).w = rk e j := by
      rw [stamp_eq, if_pos rfl, hown]
      have := hq (e j).w
      unfold rk
      rw [nof_at]
      omega
    refine ⟨fun w => ?_, hs1, fun i => ?_⟩
    · rw [stamp_eq]
      have h1 := hq w
      have h2 := hp w
      show _ ≤ nof e w j + (if (e j).w = w then 1 else 0)
      by_cases hw : w = (e j).w
      · rw [if_pos hw, if_pos hw.symm]; omega
      · rw [if_neg hw, if_neg (fun h : (e j).w = w => hw h.symm)]; omega
    · by_cases hw : (e i).w = (e j).w
      · rw [hw, hs1]
        constructor
        · intro h
          have := le_le h
          unfold rk
          rw [hw]
          exact nof_mono (by omega)
        · intro h
          have hle : i ≤ j := rk_le (e := e) (by rw [hw]; exact h)
          by_cases hij : i = j
          · exact .inl hij
          · exact .inr (hb_same (by omega) hw)
      · have hij : i ≠ j := fun h => hw (by rw [h])
        have h1 : Le e i j ↔ Hb e i j := ⟨fun h => h.resolve_left hij, .inr⟩
        rw [h1, hb_iff, stamp_eq, if_neg hw, Nat.add_zero, show ∀ a b c : Nat, (a ≤ max b c) = (a ≤ b ∨ a ≤ c) from fun a b c => propext (by omega)]
        have hpos := rk_pos (e := e) i
        have a1 : (∃ k, prevW e (e j).w j = some k ∧ Le e i k) ↔ rk e i ≤ optS e (prevW e (e j).w j) (e i).w := by
          cases hl : prevW e (e j).w j with
          | none =>
            constructor
            · rintro ⟨k, h, _⟩; cases h
            · intro h; have : rk e i ≤ 0 := h; omega
          | some k =>
            have hk := (prevW_lt hl).1
            have := (ih k hk).2.2 i
            constructor
            · rintro ⟨k', h, h2⟩; cases h; exact this.1 h2
            · intro h; exact ⟨k, rfl, this.2 h⟩
        have a2 : (rdE (e j) = true ∧ ∃ k, lastW e (e j).c j = some k ∧ Le e i k) ↔ rk e i ≤ (if rdE (e j) = true then optS e (lastW e (e j).c j) (e i).w else 0) := by
          by_cases hr : rdE (e j) = true
          · rw [if_pos hr]
            cases hl : lastW e (e j).c j with
            | none =>
              constructor
              · rintro ⟨_, k, h, _⟩; cases h
              · intro h; have : rk e i ≤ 0 := h; omega
            | some k =>
              have hk := lastW_lt hl
              have := (ih k hk).2.2 i
              constructor
              · rintro ⟨_, k', h, h2⟩; cases h; exact this.1 h2
              · intro h; exact ⟨hr, k, rfl, this.2 h⟩
          · rw [if_neg hr]
            constructor
            · rintro ⟨h, _⟩; exact absurd h hr
            · intro h; omega
        rw [a1, a2]
end
end Go.Proofs.Ytffpphnjokmffaa
