/- Logs that agree so far; logs with other names; neighbours that change places. -/
import Derived.Test.YtffpphnjokmffaaHbLaw
namespace Go.Proofs.Ytffpphnjokmffaa
open Go.RowKit
section
variable {e e' : Nat → Ev}
/-! ### What comes later says nothing -/
theorem prevW_congr {w : Int} : ∀ {j : Nat}, (∀ i, i < j → e i = e' i) → prevW e w j = prevW e' w j
  | 0, _ => rfl
  | j + 1, h => by unfold prevW; rw [h j (by omega), prevW_congr (fun i hi => h i (by omega))]
theorem lastW_congr {c : Int} : ∀ {j : Nat}, (∀ i, i < j → e i = e' i) → lastW e c j = lastW e' c j
  | 0, _ => rfl
  | j + 1, h => by unfold lastW; rw [h j (by omega), lastW_congr (fun i hi => h i (by omega))]
theorem stamp_congr (w : Int) : ∀ j, (∀ i, i ≤ j → e i = e' i) → stamp e j w = stamp e' j w := by
  intro j
  induction j using Nat.strongRecOn generalizing w with
  | _ j ih =>
    intro h
    rw [stamp_eq, stamp_eq, ← h j (Nat.le_refl _), ← prevW_congr (e := e) (e' := e') (j := j) (fun i hi => h i (by omega)), ← lastW_congr (e := e) (e' := e') (j := j) (fun i hi => h i (by omega))]
    have a1 : optS e (prevW e (e j).w j) w = optS e' (prevW e (e j).w j) w := by
      cases hp : prevW e (e j).w j with
      | none => rfl
      | some k =>
        have := (prevW_lt hp).1
        exact ih k this w (fun i hi => h i (by omega))
    have a2 : optS e (lastW e (e j).c j) w = optS e' (lastW e (e j).c j) w := by
      cases hp : lastW e (e j).c j with
      | none => rfl
      | some k =>
        have := lastW_lt hp
        exact ih k this w (fun i hi => h i (by omega))
    rw [a1, a2]
theorem hb_stamp {i j : Nat} (h : i < j) : Hb e i j ↔ rk e i ≤ stamp e j (e i).w := by
  rw [before_iff h, (stamp_spec (e := e) i).2.1]
theorem nof_congr {w : Int} : ∀ {j : Nat}, (∀ i, i < j → e i = e' i) → nof e w j = nof e' w j
  | 0, _ => rfl
  | j + 1, h => by show nof e w j + _ = nof e' w j + _; rw [h j (by omega), nof_congr (fun i hi => h i (by omega))]
theorem rk_congr {i : Nat} (h : ∀ k, k ≤ i → e k = e' k) : rk e i = rk e' i := by
  unfold rk; rw [h i (Nat.le_refl _)]; exact nof_congr (fun k hk => h k (by omega))
theorem racy_congr {i j : Nat} (h : ∀ k, k ≤ j → e k = e' k) : Racy e i j ↔ Racy e' i j := by
  unfold Racy
  by_cases hij : i < j
  · rw [hb_stamp hij, hb_stamp hij, h i (by omega), h j (Nat.le_refl _), rk_congr (fun k hk => h k (by omega)), stamp_congr _ j h]
  · simp [hij]

/-! ### Other names -/
/-- The same log under other names for workers and cells. -/
structure Renamed (e e' : Nat → Ev) (n : Nat) (φ ψ : Int → Int) : Prop where
  k : ∀ i, i < n → (e' i).k = (e i).k
  w : ∀ i, i < n → (e' i).w = φ (e i).w
  c : ∀ i, i < n → (e' i).c = ψ (e i).c
  wi : ∀ i, i < n → ∀ w, (∃ j, j < n ∧ (e j).w = w) → φ (e i).w = φ w → (e i).w = w
  ci : ∀ i j, i < n → j < n → ψ (e i).c = ψ (e j).c → (e i).c = (e j).c
theorem ren_prev {n : Nat} {φ ψ : Int → Int} (h : Renamed e e' n φ ψ) {i : Nat} (hi : i < n) : ∀ j, j ≤ n → prevW e' (φ (e i).w) j = prevW e (e i).w j
  | 0, _ => rfl
  | j + 1, hj => by
    unfold prevW
    rw [h.w j (by omega), ren_prev h hi j (by omega)]
    by_cases he : (e j).w = (e i).w
    · rw [he]; simp
    · have : φ (e j).w ≠ φ (e i).w := fun x => he (h.wi j (by omega) _ ⟨i, hi, rfl⟩ x)
      rw [if_neg (by simpa using this), if_neg (by simpa using he)]
theorem ren_last {n : Nat} {φ ψ : Int → Int} (h : Renamed e e' n φ ψ) {i : Nat} (hi : i < n) : ∀ j, j ≤ n → lastW e' (ψ (e i).c) j = lastW e (e i).c j
  | 0, _ => rfl
  | j + 1, hj => by
    unfold lastW
    rw [ren_last h hi j (by omega), h.c j (by omega)]
    have hw : wrE (e' j) = wrE (e j) := by unfold wrE; rw [h.k j (by omega)]
    rw [hw]
    by_cases he : (e j).c = (e i).c
    · rw [he]; simp
    · have : ψ (e j).c ≠ ψ (e i).c := fun x => he (h.ci j i (by omega) hi x)
      rw [if_neg (by simp [this]), if_neg (by simp [he])]
theorem ren_stamp {n : Nat} {φ ψ : Int → Int} (h : Renamed e e' n φ ψ) {w w' : Int} (hw : ∀ i, i < n → ((e' i).w = w' ↔ (e i).w = w)) : ∀ j, j < n → stamp e' j w' = stamp e j w := by
  intro j
  induction j using Nat.strongRecOn with
  | _ j ih =>
    intro hj
    have hrd : rdE (e' j) = rdE (e j) := by unfold rdE; rw [h.k j hj]
    rw [stamp_eq, stamp_eq, h.w j hj, h.c j hj, ren_prev h hj j (by omega), ren_last h hj j (by omega), hrd]
    have a1 : optS e' (prevW e (e j).w j) w' = optS e (prevW e (e j).w j) w := by
      cases hp : prevW e (e j).w j with
      | none => rfl
      | some k => have := (prevW_lt hp).1; exact ih k this (by omega)
    have a2 : optS e' (lastW e (e j).c j) w' = optS e (lastW e (e j).c j) w := by
      cases hp : lastW e (e j).c j with
      | none => rfl
      | some k => have := lastW_lt hp; exact ih k this (by omega)
    rw [a1, a2]
    have := hw j hj
    rw [h.w j hj] at this
    by_cases hc : w = (e j).w
    · rw [if_pos hc, if_pos (this.2 hc.symm).symm]
    · rw [if_neg hc, if_neg (fun x : w' = φ (e j).w => hc (this.1 x.symm).symm)]

/-! ### Neighbours that change places -/
def swp (p : Nat) (j : Nat) : Nat := if j = p then p + 1 else if j = p + 1 then p else j
theorem swp_swp (p j : Nat) : swp p (swp p j) = j := by unfold swp; split <;> split <;> (try split) <;> omega
theorem swp_lt {p j n : Nat} (hp : p + 1 < n) (hj : j < n) : swp p j < n := by unfold swp; split <;> (try split) <;> omega
/-- May two neighbours change places? -/
def Apart (a b : Ev) : Prop := a.w ≠ b.w ∧ (plE a = true ∨ plE b = true ∨ a.c ≠ b.c ∨ (wrE a = false ∧ wrE b = false))
theorem wr_np {a : Ev} (h : plE a = true) : wrE a = false ∧ rdE a = false := by
  unfold plE at h; simp at h
  unfold wrE rdE
  constructor <;> simp <;> omega
theorem swp_prev {p : Nat} (hw : (e p).w ≠ (e (p + 1)).w) (h : ∀ j, e' j = e (swp p j)) (w : Int) : ∀ j, (j ≤ p → prevW e' w j = prevW e w j) ∧ (p + 2 ≤ j → prevW e' w j = (prevW e w j).map (swp p)) := by
  have low : ∀ j, j ≤ p → prevW e' w j = prevW e w j := fun j hj => prevW_congr (fun i hi => by rw [h i]; unfold swp; rw [if_neg (by omega), if_neg (by omega)])
  have lowlt : ∀ j k, j ≤ p → prevW e w j = some k → swp p k = k := fun j k hj hk => by have := (prevW_lt hk).1; unfold swp; rw [if_neg (by omega), if_neg (by omega)]
  intro j
  refine ⟨low j, ?_⟩
  induction j with
  | zero => intro h; omega
  | succ j ih =>
    intro hj
    by_cases hj2 : j = p + 1
    · subst hj2
      have e1 : e' (p + 1) = e p := by rw [h]; unfold swp; rw [if_neg (by omega), if_pos rfl]
      have e2 : e' p = e (p + 1) := by rw [h]; unfold swp; rw [if_pos rfl]
      have l1 : prevW e' w (p + 2) = if (e p).w == w then some (p + 1) else if (e (p + 1)).w == w then some p else prevW e w p := by
        show (if (e' (p + 1)).w == w then some (p + 1) else (if (e' p).w == w then some p else prevW e' w p)) = _
        rw [e1, e2, low p (Nat.le_refl _)]
      have l2 : prevW e w (p + 2) = if (e (p + 1)).w == w then some (p + 1) else if (e p).w == w then some p else prevW e w p := rfl
      rw [l1, l2]
      by_cases c1 : (e p).w = w
      · have c2 : (e (p + 1)).w ≠ w := fun x => hw (by rw [c1, x])
        rw [if_pos (by simpa using c1), if_neg (by simpa using c2), if_pos (by simpa using c1)]
        show _ = some (swp p p)
        unfold swp; rw [if_pos rfl]
      · by_cases c2 : (e (p + 1)).w = w
        · rw [if_neg (by simpa using c1), if_pos (by simpa using c2), if_pos (by simpa using c2)]
          show _ = some (swp p (p + 1))
          unfold swp; rw [if_neg (by omega), if_pos rfl]
        · rw [if_neg (by simpa using c1), if_neg (by simpa using c2), if_neg (by simpa using c2), if_neg (by simpa using c1)]
          cases hp : prevW e w p with
          | none => rfl
          | some k => show some k = some (swp p k); rw [lowlt p k (Nat.le_refl _) hp]
    · have e1 : e' j = e j := by rw [h]; unfold swp; rw [if_neg (by omega), if_neg (by omega)]
      have e3 : swp p j = j := by unfold swp; rw [if_neg (by omega), if_neg (by omega)]
      show (if (e' j).w == w then some j else prevW e' w j) = Option.map (swp p) (if (e j).w == w then some j else prevW e w j)
      rw [e1, ih (by omega)]
      split
      · rw [Option.map_some, e3]
      · rfl
theorem swp_last {p : Nat} {c : Int} (hw : ¬ (wrE (e p) = true ∧ (e p).c = c ∧ wrE (e (p + 1)) = true ∧ (e (p + 1)).c = c)) (h : ∀ j, e' j = e (swp p j)) : ∀ j, (j ≤ p → lastW e' c j = lastW e c j) ∧ (p + 2 ≤ j → lastW e' c j = (lastW e c j).map (swp p)) := by
  have low : ∀ j, j ≤ p → lastW e' c j = lastW e c j := fun j hj => lastW_congr (fun i hi => by rw [h i]; unfold swp; rw [if_neg (by omega), if_neg (by omega)])
  have lowlt : ∀ j k, j ≤ p → lastW e c j = some k → swp p k = k := fun j k hj hk => by have := lastW_lt hk; unfold swp; rw [if_neg (by omega), if_neg (by omega)]
  intro j
  refine ⟨low j, ?_⟩
  induction j with
  | zero => intro h; omega
  | succ j ih =>
    intro hj
    by_cases hj2 : j = p + 1
    · subst hj2
      have e1 : e' (p + 1) = e p := by rw [h]; unfold swp; rw [if_neg (by omega), if_pos rfl]
      have e2 : e' p = e (p + 1) := by rw [h]; unfold swp; rw [if_pos rfl]
      have l1 : lastW e' c (p + 2) = if wrE (e p) && (e p).c == c then some (p + 1) else if wrE (e (p + 1)) && (e (p + 1)).c == c then some p else lastW e c p := by
        show (if wrE (e' (p + 1)) && (e' (p + 1)).c == c then some (p + 1) else (if wrE (e' p) && (e' p).c == c then some p else lastW e' c p)) = _
        rw [e1, e2, low p (Nat.le_refl _)]
      have l2 : lastW e c (p + 2) = if wrE (e (p + 1)) && (e (p + 1)).c == c then some (p + 1) else if wrE (e p) && (e p).c == c then some p else lastW e c p := rfl
      rw [l1, l2]
      cases c1 : (wrE (e p) && (e p).c == c)
      · cases c2 : (wrE (e (p + 1)) && (e (p + 1)).c == c)
        · cases hp : lastW e c p with
          | none => rfl
          | some k => show some k = some (swp p k); rw [lowlt p k (Nat.le_refl _) hp]
        · show some p = some (swp p (p + 1))
          unfold swp; rw [if_neg (by omega), if_pos rfl]
      · cases c2 : (wrE (e (p + 1)) && (e (p + 1)).c == c)
        · show some (p + 1) = some (swp p p)
          unfold swp; rw [if_pos rfl]
        · exfalso
          simp only [Bool.and_eq_true, beq_iff_eq] at c1 c2
          exact hw ⟨c1.1, c1.2, c2.1, c2.2⟩
    · have e1 : e' j = e j := by rw [h]; unfold swp; rw [if_neg (by omega), if_neg (by omega)]
      have e3 : swp p j = j := by unfold swp; rw [if_neg (by omega), if_neg (by omega)]
      show (if wrE (e' j) && (e' j).c == c then some j else lastW e' c j) = Option.map (swp p) (if wrE (e j) && (e j).c == c then some j else lastW e c j)
      rw [e1, ih (by omega)]
      split
      · rw [Option.map_some, e3]
      · rfl
theorem swp_stamp {p : Nat} (ha : Apart (e p) (e (p + 1))) (h : ∀ j, e' j = e (swp p j)) (w : Int) : ∀ j, stamp e' j w = stamp e (swp p j) w := by
  obtain ⟨hw, hc⟩ := ha
  have hww : ∀ c, ¬ (wrE (e p) = true ∧ (e p).c = c ∧ wrE (e (p + 1)) = true ∧ (e (p + 1)).c = c) := by
    rintro c ⟨a1, a2, a3, a4⟩
    rcases hc with hc | hc | hc | hc
    · have := (wr_np hc).1; rw [a1] at this; cases this
    · have := (wr_np hc).1; rw [a3] at this; cases this
    · exact hc (by rw [a2, a4])
    · rw [a1] at hc; cases hc.1
  have hr1 : rdE (e p) = true → ¬ (wrE (e (p + 1)) && (e (p + 1)).c == (e p).c) = true := by
    intro a1 a2
    simp only [Bool.and_eq_true, beq_iff_eq] at a2
    rcases hc with hc | hc | hc | hc
    · have := (wr_np hc).2; rw [a1] at this; cases this
    · have := (wr_np hc).1; rw [a2.1] at this; cases this
    · exact hc a2.2.symm
    · rw [a2.1] at hc; cases hc.2
  have hr2 : rdE (e (p + 1)) = true → ¬ (wrE (e p) && (e p).c == (e (p + 1)).c) = true := by
    intro a1 a2
    simp only [Bool.and_eq_true, beq_iff_eq] at a2
    rcases hc with hc | hc | hc | hc
    · have := (wr_np hc).1; rw [a2.1] at this; cases this
    · have := (wr_np hc).2; rw [a1] at this; cases this
    · exact hc a2.2
    · rw [a2.1] at hc; cases hc.1
  have low : ∀ j, j < p → stamp e' j w = stamp e j w := fun j hj => (stamp_congr w j (fun i hi => by rw [h i]; unfold swp; rw [if_neg (by omega), if_neg (by omega)])).symm
  have e1 : e' (p + 1) = e p := by rw [h]; unfold swp; rw [if_neg (by omega), if_pos rfl]
  have e2 : e' p = e (p + 1) := by rw [h]; unfold swp; rw [if_pos rfl]
  have lowP : ∀ v, optS e' (prevW e v p) w = optS e (prevW e v p) w := by
    intro v
    cases hp : prevW e v p with
    | none => rfl
    | some k => exact low k (prevW_lt hp).1
  have lowL : ∀ c, optS e' (lastW e c p) w = optS e (lastW e c p) w := by
    intro c
    cases hp : lastW e c p with
    | none => rfl
    | some k => exact low k (lastW_lt hp)
  intro j
  induction j using Nat.strongRecOn with
  | _ j ih =>
    by_cases h1 : j < p
    · rw [low j h1]; unfold swp; rw [if_neg (by omega), if_neg (by omega)]
    · by_cases h2 : j = p
      · subst h2
        have es : swp j j = j + 1 := by unfold swp; rw [if_pos rfl]
        rw [es, stamp_eq, stamp_eq, e2, (swp_prev hw h _ j).1 (Nat.le_refl _), (swp_last (hww _) h j).1 (Nat.le_refl _), lowP, lowL]
        have p1 : prevW e (e (j + 1)).w (j + 1) = prevW e (e (j + 1)).w j := by
          show (if (e j).w == _ then _ else _) = _
          rw [if_neg (by simpa using hw)]
        rw [p1]
        by_cases hr : rdE (e (j + 1)) = true
        · have p2 : lastW e (e (j + 1)).c (j + 1) = lastW e (e (j + 1)).c j := by
            show (if wrE (e j) && (e j).c == _ then _ else _) = _
            rw [if_neg (hr2 hr)]
          rw [p2]
        · rw [if_neg hr, if_neg hr]
      · by_cases h3 : j = p + 1
        · subst h3
          have es : swp p (p + 1) = p := by unfold swp; rw [if_neg (by omega), if_pos rfl]
          rw [es, stamp_eq, stamp_eq, e1]
          have p1 : prevW e' (e p).w (p + 1) = prevW e (e p).w p := by
            show (if (e' p).w == _ then _ else prevW e' _ p) = _
            rw [e2, if_neg (by simpa using fun x => hw x.symm), (swp_prev hw h _ p).1 (Nat.le_refl _)]
          rw [p1, lowP]
          by_cases hr : rdE (e p) = true
          · have p2 : lastW e' (e p).c (p + 1) = lastW e (e p).c p := by
              show (if wrE (e' p) && (e' p).c == _ then _ else lastW e' _ p) = _
              rw [e2, if_neg (hr1 hr), (swp_last (hww _) h p).1 (Nat.le_refl _)]
            rw [p2, lowL]
          · rw [if_neg hr, if_neg hr]
        · have es : swp p j = j := by unfold swp; rw [if_neg h2, if_neg h3]
          have ej : e' j = e j := by rw [h, es]
          rw [es, stamp_eq, stamp_eq, ej, (swp_prev hw h _ j).2 (by omega), (swp_last (hww _) h j).2 (by omega)]
          have back : ∀ k, k < j → stamp e' (swp p k) w = stamp e k w := fun k hk => by
            rw [ih (swp p k) (by unfold swp; split <;> (try split) <;> omega), swp_swp]
          have a1 : optS e' ((prevW e (e j).w j).map (swp p)) w = optS e (prevW e (e j).w j) w := by
            cases hp : prevW e (e j).w j with
            | none => rfl
            | some k => exact back k (prevW_lt hp).1
          have a2 : optS e' ((lastW e (e j).c j).map (swp p)) w = optS e (lastW e (e j).c j) w := by
            cases hp : lastW e (e j).c j with
            | none => rfl
            | some k => exact back k (lastW_lt hp)
          rw [a1, a2]
end
end Go.Proofs.Ytffpphnjokmffaa
