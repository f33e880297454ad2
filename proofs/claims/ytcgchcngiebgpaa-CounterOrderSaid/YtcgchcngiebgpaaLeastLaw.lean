/- The least failure, plainly: what the number holds is what the document's fold holds; the order does not matter. -/
import Derived.Test.YtcgchcngiebgpaaLeast
namespace Go.Proofs.Ytcgchcngiebgpaa

def encp (p : Int × Int) : Int := p.1 * 256 + p.2
def goodp (p : Int × Int) : Prop := p = (0, 0) ∨ right p.1 p.2 = true
theorem right_iff (n e : Int) : right n e = true ↔ 0 ≤ n ∧ n < 65536 ∧ 1 ≤ e ∧ e ≤ 255 := by simp [right]; omega
theorem goodp_bd {p : Int × Int} (h : goodp p) : 0 ≤ encp p ∧ encp p < 16777216 ∧ encp p / 256 = p.1 ∧ encp p % 256 = p.2 := by
  unfold encp
  rcases h with rfl | h
  · simp
  · rw [right_iff] at h; omega
theorem off_lst {p : Int × Int} (h : goodp p) (f : Int × Int) : off (encp p) f.1 f.2 = encp (lst p f) ∧ goodp (lst p f) := by
  unfold off lst
  by_cases hr : right f.1 f.2 = true
  · rw [if_pos hr]
    have hr' := (right_iff _ _).1 hr
    have key : (encp p ≠ 0 ∧ encp p ≤ f.1 * 256 + f.2) ↔ ¬ (right f.1 f.2 = true ∧ (p.2 = 0 ∨ f.1 < p.1 ∨ f.1 = p.1 ∧ f.2 < p.2)) := by
      simp only [hr, true_and]
      unfold encp
      rcases h with rfl | h
      · simp
      · rw [right_iff] at h; omega
    by_cases hk : encp p ≠ 0 ∧ encp p ≤ f.1 * 256 + f.2
    · rw [if_pos hk, if_neg (key.1 hk)]; exact ⟨rfl, h⟩
    · rw [if_neg hk, if_pos (Classical.not_not.1 (fun hn => hk (key.2 hn)))]; exact ⟨rfl, .inr hr⟩
  · rw [if_neg hr, if_neg (fun hh => hr hh.1)]; exact ⟨rfl, h⟩

theorem lst_good (l : List (Int × Int)) : ∀ p, goodp p → goodp (l.foldl lst p) := by
  induction l with
  | nil => intro p h; exact h
  | cons f l ih => intro p h; exact ih _ (off_lst h f).2

/-- What a list comes to: nothing, if none is right; else the least of those that are. -/
theorem lst_char (l : List (Int × Int)) : ∀ p, goodp p → (∀ f ∈ l, right f.1 f.2 = true → encp (l.foldl lst p) ≠ 0 ∧ encp (l.foldl lst p) ≤ encp f) ∧ (encp p ≠ 0 → encp (l.foldl lst p) ≠ 0 ∧ encp (l.foldl lst p) ≤ encp p) ∧
    (l.foldl lst p = p ∨ ∃ f ∈ l, right f.1 f.2 = true ∧ l.foldl lst p = f) := by
  induction l with
  | nil => intro p h; exact ⟨fun f hf => by simp at hf, fun h => ⟨h, Int.le_refl _⟩, .inl rfl⟩
  | cons f l ih =>
    intro p h
    obtain ⟨h1, h2, h3⟩ := ih (lst p f) (off_lst h f).2
    rw [List.foldl_cons]
    have e1 := (off_lst h f).1
    have hp := goodp_bd h
    generalize l.foldl lst (lst p f) = r at *
    have hf : right f.1 f.2 = true → encp (lst p f) ≠ 0 ∧ encp (lst p f) ≤ encp f ∧ (encp p ≠ 0 → encp (lst p f) ≤ encp p) := fun hr => by
      have hr' := (right_iff _ _).1 hr
      rw [← e1]
      unfold off
      rw [if_pos hr]
      unfold encp at hp ⊢
      split <;> omega
    have hf' : encp p ≠ 0 → encp (lst p f) ≠ 0 ∧ encp (lst p f) ≤ encp p := fun hn => by
      by_cases hr : right f.1 f.2 = true
      · exact ⟨(hf hr).1, (hf hr).2.2 hn⟩
      · rw [← e1]; unfold off; rw [if_neg hr]; exact ⟨hn, Int.le_refl _⟩
    refine ⟨fun g hg hr => ?_, fun hn => ?_, ?_⟩
    · rcases List.mem_cons.1 hg with rfl | hg
      · have := h2 (hf hr).1
        exact ⟨this.1, Int.le_trans this.2 (hf hr).2.1⟩
      · exact h1 g hg hr
    · have a := hf' hn
      have b := h2 a.1
      exact ⟨b.1, Int.le_trans b.2 a.2⟩
    · rcases h3 with h3 | ⟨g, hg, hr, h3⟩
      · rw [h3]
        unfold lst
        split
        · rename_i hh; right; exact ⟨f, List.mem_cons_self, hh.1, rfl⟩
        · left; rfl
      · right; exact ⟨g, List.mem_cons_of_mem _ hg, hr, h3⟩

/-- Lists of the same members come to the same. -/
theorem lst_mem (l m : List (Int × Int)) (h : ∀ f, f ∈ l ↔ f ∈ m) : encp (l.foldl lst (0, 0)) = encp (m.foldl lst (0, 0)) := by
  obtain ⟨a1, _, a3⟩ := lst_char l (0, 0) (.inl rfl)
  obtain ⟨b1, _, b3⟩ := lst_char m (0, 0) (.inl rfl)
  rcases a3 with a3 | ⟨f, hf, hr, a3⟩
  · rcases b3 with b3 | ⟨g, hg, hr', b3⟩
    · rw [a3, b3]
    · have := (a1 g ((h g).2 hg) hr').1
      rw [a3] at this
      exact absurd rfl this
  · have h1 := b1 f ((h f).1 hf) hr
    rcases b3 with b3 | ⟨g, hg, hr', b3⟩
    · rw [b3] at h1
      exact absurd rfl h1.1
    · have h2 := a1 g ((h g).2 hg) hr'
      rw [← a3] at h1
      rw [← b3] at h2
      omega

/-- From one number on: what is held behind some offers. -/
theorem off_fold (l : List (Int × Int)) : ∀ p, goodp p → l.foldl (fun h f => off h f.1 f.2) (encp p) = encp (l.foldl lst p) := by
  induction l with
  | nil => intro p _; rfl
  | cons f l ih =>
    intro p h
    have := off_lst h f
    rw [List.foldl_cons, List.foldl_cons, this.1, ih _ this.2]
end Go.Proofs.Ytcgchcngiebgpaa
