/- What each worker did last to a plain cell; the first race. -/
import Derived.Test.YtffpphnjokmffaaHbRace
namespace Go.Proofs.Ytffpphnjokmffaa
open Go.RowKit

structure Sn where
  w : Int
  r : Int
  k : Int
def Sn.put (s : Sn) (n : Int) (iw : Bool) : Sn := if iw = true then { s with k := n } else { s with r := n }
def noteL (w n : Int) (iw : Bool) : List Sn → List Sn
  | [] => [Sn.put ⟨w, 0, 0⟩ n iw]
  | s :: L => if s.w = w then s.put n iw :: L else s :: noteL w n iw L
def snl (e : Nat → Ev) (c : Int) : Nat → List Sn
  | 0 => []
  | j + 1 => if plE (e j) = true ∧ (e j).c = c then noteL (e j).w (rk e j) ((e j).k == 6) (snl e c j) else snl e c j
/-- What a list says of a worker. -/
def ofW (w : Int) : List Sn → Int × Int
  | [] => (0, 0)
  | s :: L => if s.w = w then (s.r, s.k) else ofW w L
theorem put_w (s : Sn) (n : Int) (iw : Bool) : (s.put n iw).w = s.w := by unfold Sn.put; split <;> rfl
theorem ofW_note (w n : Int) (iw : Bool) (v : Int) : ∀ L, ofW v (noteL w n iw L) = if v = w then (if iw = true then ((ofW v L).1, n) else (n, (ofW v L).2)) else ofW v L
  | [] => by
    unfold noteL ofW ofW
    rw [put_w]
    by_cases h : v = w
    · subst h; rw [if_pos rfl, if_pos rfl]; unfold Sn.put; cases iw <;> rfl
    · rw [if_neg (show ¬ w = v from fun x => h x.symm), if_neg h]
  | s :: L => by
    unfold noteL
    by_cases hs : s.w = w
    · rw [if_pos hs]
      show (if (s.put n iw).w = v then ((s.put n iw).r, (s.put n iw).k) else ofW v L) = if v = w then (if iw = true then ((if s.w = v then (s.r, s.k) else ofW v L).1, n) else (n, (if s.w = v then (s.r, s.k) else ofW v L).2)) else (if s.w = v then (s.r, s.k) else ofW v L)
      rw [put_w]
      by_cases h : v = w
      · subst h; rw [if_pos hs, if_pos rfl, if_pos hs]; unfold Sn.put; cases iw <;> rfl
      · rw [if_neg (show ¬ s.w = v from fun x => h (by rw [← x, hs])), if_neg h, if_neg (show ¬ s.w = v from fun x => h (by rw [← x, hs]))]
    · rw [if_neg hs]
      show (if s.w = v then (s.r, s.k) else ofW v (noteL w n iw L)) = if v = w then (if iw = true then ((if s.w = v then (s.r, s.k) else ofW v L).1, n) else (n, (if s.w = v then (s.r, s.k) else ofW v L).2)) else (if s.w = v then (s.r, s.k) else ofW v L)
      by_cases h : s.w = v
      · rw [if_pos h, if_neg (show ¬ v = w from fun x => hs (by rw [h, x])), if_pos h]
      · rw [if_neg h, ofW_note w n iw v L, if_neg h]
section
variable {e : Nat → Ev}
theorem snl_last (hk : ∀ i, 1 ≤ (e i).k ∧ (e i).k ≤ 6) (c w : Int) : ∀ j, ofW w (snl e c j) = ((lastK e 5 c w j : Int), (lastK e 6 c w j : Int))
  | 0 => rfl
  | j + 1 => by
    unfold snl
    by_cases hp : plE (e j) = true ∧ (e j).c = c
    · rw [if_pos hp, ofW_note, snl_last hk c w j]
      obtain ⟨h1, h2⟩ := hp
      have h56 := (pl_kinds (hk j)).1 h1
      by_cases hw : w = (e j).w
      · rw [if_pos hw]
        rcases h56 with h | h
        · rw [if_neg (by rw [h]; decide)]
          simp only [lastK, hw.symm, h2, h]
          simp
        · rw [if_pos (by rw [h]; decide)]
          simp only [lastK, hw.symm, h2, h]
          simp
      · rw [if_neg hw]
        simp only [lastK]
        rw [if_neg (fun x => hw x.1.symm), if_neg (fun x => hw x.1.symm)]
    · rw [if_neg hp, snl_last hk c w j]
      simp only [lastK]
      have hn : ∀ q : Int, q = 5 ∨ q = 6 → ¬ ((e j).w = w ∧ (e j).c = c ∧ (e j).k = q) := fun q hq x => hp ⟨(pl_kinds (hk j)).2 (by rw [x.2.2]; exact hq), x.2.1⟩
      rw [if_neg (hn 5 (.inl rfl)), if_neg (hn 6 (.inr rfl))]
/-- No worker stands there twice. -/
def OnceW : List Sn → Prop
  | [] => True
  | s :: L => (∀ t ∈ L, t.w ≠ s.w) ∧ OnceW L
theorem note_mem {w n : Int} {iw : Bool} : ∀ {L : List Sn} {t : Sn}, t ∈ noteL w n iw L → t.w = w ∨ ∃ s ∈ L, s.w = t.w
  | [], t, h => by
    unfold noteL at h
    simp at h; subst h; left; rw [put_w]
  | s :: L, t, h => by
    unfold noteL at h
    split at h
    · rcases List.mem_cons.1 h with rfl | h
      · right; exact ⟨s, List.mem_cons_self, by rw [put_w]⟩
      · right; exact ⟨t, List.mem_cons_of_mem _ h, rfl⟩
    · rcases List.mem_cons.1 h with rfl | h
      · right; exact ⟨t, List.mem_cons_self, rfl⟩
      · rcases note_mem h with h | ⟨q, h1, h2⟩
        · exact .inl h
        · exact .inr ⟨q, List.mem_cons_of_mem _ h1, h2⟩
theorem once_note {w n : Int} {iw : Bool} : ∀ {L : List Sn}, OnceW L → OnceW (noteL w n iw L)
  | [], _ => ⟨fun t h => by simp at h, trivial⟩
  | s :: L, h => by
    unfold noteL
    split
    · exact ⟨fun t ht => by rw [put_w]; exact h.1 t ht, h.2⟩
    · next hs =>
      refine ⟨fun t ht hx => ?_, once_note h.2⟩
      rcases note_mem ht with h1 | ⟨q, h1, h2⟩
      · exact hs (by rw [← hx, h1])
      · exact h.1 q h1 (by rw [h2, hx])
theorem once_snl (c : Int) : ∀ j, OnceW (snl e c j)
  | 0 => trivial
  | j + 1 => by
    unfold snl
    split
    · exact once_note (once_snl c j)
    · exact once_snl c j
theorem ofW_mem : ∀ {L : List Sn} {s : Sn}, OnceW L → s ∈ L → ofW s.w L = (s.r, s.k)
  | t :: L, s, h, hm => by
    unfold ofW
    rcases List.mem_cons.1 hm with rfl | hm
    · rw [if_pos rfl]
    · rw [if_neg (fun x => h.1 s hm x.symm)]; exact ofW_mem h.2 hm
theorem ofW_pos {w : Int} : ∀ {L : List Sn}, ofW w L ≠ (0, 0) → ∃ s ∈ L, s.w = w ∧ ofW w L = (s.r, s.k)
  | [], h => absurd rfl h
  | s :: L, h => by
    unfold ofW at h ⊢
    split at h
    · next hs => exact ⟨s, List.mem_cons_self, hs, by rw [if_pos hs]⟩
    · next hs =>
      obtain ⟨t, h1, h2, h3⟩ := ofW_pos h
      exact ⟨t, List.mem_cons_of_mem _ h1, h2, by rw [if_neg hs]; exact h3⟩
/-- What the program asks at a plain access. -/
def Bad (e : Nat → Ev) (j : Nat) (s : Sn) : Prop := (stamp e j s.w : Int) < s.k ∨ ((e j).k = 6 ∧ (stamp e j s.w : Int) < s.r)
theorem bad_iff {j : Nat} (hk : ∀ i, 1 ≤ (e i).k ∧ (e i).k ≤ 6) (hj : plE (e j) = true) : (∃ i, Racy e i j) ↔ ∃ s ∈ snl e (e j).c j, Bad e j s := by
  rw [racy_iff hk hj]
  constructor
  · rintro ⟨w, h⟩
    have hl := snl_last hk (e j).c w j
    have hne : ofW w (snl e (e j).c j) ≠ (0, 0) := by
      rw [hl]; intro h0
      simp only [Prod.mk.injEq] at h0
      rcases h with h | ⟨_, h⟩ <;> omega
    obtain ⟨s, hs, hw, ho⟩ := ofW_pos hne
    rw [hl] at ho
    simp only [Prod.mk.injEq] at ho
    refine ⟨s, hs, ?_⟩
    unfold Bad
    rw [hw]
    rcases h with h | ⟨h6, h⟩
    · left; omega
    · right; exact ⟨h6, by omega⟩
  · rintro ⟨s, hs, hb⟩
    have ho := ofW_mem (once_snl (e := e) (e j).c j) hs
    rw [snl_last hk] at ho
    simp only [Prod.mk.injEq] at ho
    refine ⟨s.w, ?_⟩
    rcases hb with h | ⟨h6, h⟩
    · left; omega
    · right; exact ⟨h6, by omega⟩
/-- The first race, or none. -/
def RaceIs (e : Nat → Ev) (L : Nat) (i j : Nat) (is : Bool) : Prop :=
  (is = true ∧ j < L ∧ Racy e i j ∧ (∀ j', j' < j → ∀ i', ¬ Racy e i' j') ∧ ∀ i', i' < i → ¬ Racy e i' j) ∨ (is = false ∧ i = 0 ∧ j = 0 ∧ ∀ j', j' < L → ∀ i', ¬ Racy e i' j')
theorem RaceIs.uniq {L i j i' j' : Nat} {is is' : Bool} (h : RaceIs e L i j is) (h' : RaceIs e L i' j' is') : i = i' ∧ j = j' ∧ is = is' := by
  rcases h with ⟨a1, a2, a3, a4, a5⟩ | ⟨a1, a2, a3, a4⟩
  · rcases h' with ⟨b1, b2, b3, b4, b5⟩ | ⟨b1, b2, b3, b4⟩
    · have hj : j = j' := by
        rcases Nat.lt_trichotomy j j' with h | h | h
        · exact absurd a3 (b4 j h i)
        · exact h
        · exact absurd b3 (a4 j' h i')
      subst hj
      have hi : i = i' := by
        rcases Nat.lt_trichotomy i i' with h | h | h
        · exact absurd a3 (b5 i h)
        · exact h
        · exact absurd b3 (a5 i' h)
      exact ⟨hi, rfl, by rw [a1, b1]⟩
    · exact absurd a3 (b4 j a2 i)
  · rcases h' with ⟨b1, b2, b3, b4, b5⟩ | ⟨b1, b2, b3, b4⟩
    · exact absurd b3 (a4 j' b2 i')
    · exact ⟨by rw [a2, b2], by rw [a3, b3], by rw [a1, b1]⟩
theorem RaceIs.race {L i j : Nat} {is : Bool} (h : RaceIs e L i j is) : is = true ↔ Race e L := by
  rcases h with ⟨a1, a2, a3, a4, a5⟩ | ⟨a1, a2, a3, a4⟩
  · exact ⟨fun _ => ⟨i, j, a2, a3⟩, fun _ => a1⟩
  · rw [a1]
    exact ⟨(fun h => by cases h), fun ⟨i', j', h1, h2⟩ => absurd h2 (a4 j' h1 i')⟩
end
end Go.Proofs.Ytffpphnjokmffaa
