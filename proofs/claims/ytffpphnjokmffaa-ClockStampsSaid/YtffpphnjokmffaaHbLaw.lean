/- Stamps as counts; races. -/
import Derived.Test.YtffpphnjokmffaaHb
namespace Go.Proofs.Ytffpphnjokmffaa
open Go.RowKit
section
variable {e : Nat → Ev}
open Classical in
/-- How many of the first m events are worker w's and are before event j, or are it. -/
noncomputable def cntH (e : Nat → Ev) (j : Nat) (w : Int) : Nat → Nat
  | 0 => 0
  | m + 1 => cntH e j w m + if (e m).w = w ∧ Le e m j then 1 else 0
theorem cntH_min (j : Nat) (w : Int) : ∀ m, cntH e j w m = min (stamp e j w) (nof e w m)
  | 0 => by simp [cntH, nof]
  | m + 1 => by
    classical
    have h := (stamp_spec (e := e) j).2.2 m
    show cntH e j w m + _ = min (stamp e j w) (nof e w m + _)
    rw [cntH_min j w m]
    by_cases hw : (e m).w = w
    · rw [if_pos hw]
      rw [hw] at h
      have hr : rk e m = nof e w m + 1 := by unfold rk; rw [nof_at, hw]
      rw [hr] at h
      by_cases hl : Le e m j
      · rw [if_pos ⟨hw, hl⟩]; have := h.1 hl; omega
      · rw [if_neg (fun x => hl x.2)]
        have : ¬ (nof e w m + 1 ≤ stamp e j w) := fun x => hl (h.2 x)
        omega
    · rw [if_neg (fun x => hw x.1), if_neg hw, Nat.add_zero, Nat.add_zero]
/-- The reference's stamp. -/
theorem cntH_stamp (j : Nat) (w : Int) : cntH e j w (j + 1) = stamp e j w := by
  rw [cntH_min]; have := (stamp_spec (e := e) j).1 w; omega
theorem stamp_le (j : Nat) (w : Int) : stamp e j w ≤ j + 1 := by
  have h := (stamp_spec (e := e) j).1 w
  have : ∀ m, nof e w m ≤ m := by
    intro m
    induction m with
    | zero => exact Nat.le_refl _
    | succ m ih => show nof e w m + _ ≤ m + 1; split <;> omega
  have := this (j + 1); omega
/-- Before, as the program asks. -/
theorem before_iff {i j : Nat} (h : i < j) : Hb e i j ↔ stamp e i (e i).w ≤ stamp e j (e i).w := by
  have h1 := (stamp_spec (e := e) j).2.2 i
  have h2 := (stamp_spec (e := e) i).2.1
  rw [h2, ← h1]
  exact ⟨fun x => .inr x, fun x => x.resolve_left (by omega)⟩

/-! ### Races -/
def meetE (a b : Ev) : Bool := plE a && plE b && a.c == b.c && (a.k == 6 || b.k == 6)
/-- An access of i that is not ordered with that of j. -/
def Racy (e : Nat → Ev) (i j : Nat) : Prop := i < j ∧ meetE (e i) (e j) = true ∧ ¬ Hb e i j
/-- The number of worker w's last one of the first m at the plain cell c, of the kind k; 0: none. -/
def lastK (e : Nat → Ev) (k : Int) (c : Int) (w : Int) : Nat → Nat
  | 0 => 0
  | m + 1 => if (e m).w = w ∧ (e m).c = c ∧ (e m).k = k then rk e m else lastK e k c w m
theorem lastK_spec (k c w : Int) : ∀ m, (∀ i, i < m → (e i).w = w → (e i).c = c → (e i).k = k → rk e i ≤ lastK e k c w m) ∧ (0 < lastK e k c w m → ∃ i, i < m ∧ (e i).w = w ∧ (e i).c = c ∧ (e i).k = k ∧ lastK e k c w m = rk e i)
  | 0 => ⟨fun i h => by omega, fun h => by simp [lastK] at h⟩
  | m + 1 => by
    obtain ⟨h1, h2⟩ := lastK_spec k c w m
    unfold lastK
    split
    · next hc =>
      refine ⟨fun i hi hw hc' hk => ?_, fun _ => ⟨m, by omega, hc.1, hc.2.1, hc.2.2, rfl⟩⟩
      unfold rk
      rw [hw, hc.1]
      exact nof_mono (by omega)
    · next hc =>
      refine ⟨fun i hi hw hc' hk => ?_, fun h => ?_⟩
      · by_cases him : i = m
        · subst him; exact absurd ⟨hw, hc', hk⟩ hc
        · exact h1 i (by omega) hw hc' hk
      · obtain ⟨i, a, b⟩ := h2 h
        exact ⟨i, by omega, b⟩
theorem pl_kinds {x : Ev} (h : 1 ≤ x.k ∧ x.k ≤ 6) : plE x = true ↔ x.k = 5 ∨ x.k = 6 := by unfold plE; simp; omega
/-- What the program asks of each worker at a plain access. -/
theorem racy_iff {j : Nat} (hk : ∀ i, 1 ≤ (e i).k ∧ (e i).k ≤ 6) (hj : plE (e j) = true) : (∃ i, Racy e i j) ↔ ∃ w, stamp e j w < lastK e 6 (e j).c w j ∨ ((e j).k = 6 ∧ stamp e j w < lastK e 5 (e j).c w j) := by
  constructor
  · rintro ⟨i, hij, hm, hn⟩
    unfold meetE at hm
    simp only [Bool.and_eq_true, Bool.or_eq_true, beq_iff_eq] at hm
    obtain ⟨⟨⟨hi, _⟩, hc⟩, hw⟩ := hm
    have h1 : ¬ rk e i ≤ stamp e j (e i).w := fun h => by
      rcases ((stamp_spec (e := e) j).2.2 i).2 h with h | h
      · omega
      · exact hn h
    refine ⟨(e i).w, ?_⟩
    rcases (pl_kinds (hk i)).1 hi with h5 | h6
    · right
      have hj6 : (e j).k = 6 := by rcases hw with h | h <;> omega
      have := (lastK_spec (e := e) 5 (e j).c (e i).w j).1 i hij rfl hc h5
      exact ⟨hj6, by omega⟩
    · left
      have := (lastK_spec (e := e) 6 (e j).c (e i).w j).1 i hij rfl hc h6
      omega
  · rintro ⟨w, h | ⟨h6, h⟩⟩
    · obtain ⟨i, hij, hw, hc, hk6, hr⟩ := (lastK_spec (e := e) 6 (e j).c w j).2 (by omega)
      refine ⟨i, hij, ?_, fun hb => ?_⟩
      · unfold meetE
        have : plE (e i) = true := (pl_kinds (hk i)).2 (.inr hk6)
        simp [this, hj, hc, hk6]
      · have := ((stamp_spec (e := e) j).2.2 i).1 (.inr hb)
        rw [hw] at this; omega
    · obtain ⟨i, hij, hw, hc, hk5, hr⟩ := (lastK_spec (e := e) 5 (e j).c w j).2 (by omega)
      refine ⟨i, hij, ?_, fun hb => ?_⟩
      · unfold meetE
        have : plE (e i) = true := (pl_kinds (hk i)).2 (.inl hk5)
        simp [this, hj, hc, h6]
      · have := ((stamp_spec (e := e) j).2.2 i).1 (.inr hb)
        rw [hw] at this; omega
end
end Go.Proofs.Ytffpphnjokmffaa
