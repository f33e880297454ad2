/- Logs with some events turned; neighbours counted: the plain law of ClockLone. -/
import Derived.Test.YtffpphnjokmffaaEI
namespace Go.Proofs.Ytffpphnjokmffaa
open Go.RowKit Go.Maps

theorem eflat_at : ∀ (l : List Ev) (k : Nat) (h : k < l.length), (l.map ecell).flatten[k * 3]? = some (.int .i64 l[k].w) ∧ (l.map ecell).flatten[k * 3 + 1]? = some (.int .u8 l[k].k) ∧ (l.map ecell).flatten[k * 3 + 2]? = some (.int .i64 l[k].c)
  | [], k, h => by simp at h
  | e :: l, 0, _ => by simp [ecell]
  | e :: l, k + 1, h => by
    have ih := eflat_at l k (by simpa using h)
    simp only [List.map_cons, List.flatten_cons, List.getElem_cons_succ]
    have e3 : (ecell e).length = 3 := rfl
    have q : ∀ j, (ecell e ++ (l.map ecell).flatten)[3 + j]? = (l.map ecell).flatten[j]? := fun j => by rw [List.getElem?_append_right (by rw [e3]; omega), e3]; congr 1; omega
    rw [show (k + 1) * 3 = 3 + k * 3 from by omega, show 3 + k * 3 + 1 = 3 + (k * 3 + 1) from by omega, show 3 + k * 3 + 2 = 3 + (k * 3 + 2) from by omega, q, q, q]
    exact ih
theorem eflat_set : ∀ (l : List Ev) (k : Nat) (h : k < l.length) (n : Int), (l.map ecell).flatten.set (k * 3) (.int .i64 n) = ((l.set k ⟨n, l[k].k, l[k].c⟩).map ecell).flatten ∧ (l.map ecell).flatten.set (k * 3 + 2) (.int .i64 n) = ((l.set k ⟨l[k].w, l[k].k, n⟩).map ecell).flatten
  | [], k, h, n => by simp at h
  | e :: l, 0, _, n => by simp [ecell]
  | e :: l, k + 1, h, n => by
    have ih := eflat_set l k (by simpa using h) n
    simp only [List.map_cons, List.flatten_cons, List.getElem_cons_succ, List.set_cons_succ]
    have e3 : (ecell e).length = 3 := rfl
    have q : ∀ j v, (ecell e ++ (l.map ecell).flatten).set (3 + j) v = ecell e ++ (l.map ecell).flatten.set j v := fun j v => by rw [List.set_append_right _ _ (by rw [e3]; omega), e3]; congr 2; omega
    rw [show (k + 1) * 3 = 3 + k * 3 from by omega, show 3 + k * 3 + 2 = 3 + (k * 3 + 2) from by omega, q, q, ih.1, ih.2]
    exact ⟨rfl, rfl⟩
/-- The first i of a log turned by f. -/
def mid (f : Ev → Ev) (l : List Ev) (i : Nat) : List Ev := (l.take i).map f ++ l.drop i
theorem mid_zero (f : Ev → Ev) (l : List Ev) : mid f l 0 = l := by simp [mid]
theorem mid_full (f : Ev → Ev) (l : List Ev) : mid f l l.length = l.map f := by simp [mid]
theorem mid_len (f : Ev → Ev) {l : List Ev} {i : Nat} (h : i ≤ l.length) : (mid f l i).length = l.length := by simp [mid]; omega
theorem mid_at (f : Ev → Ev) {l : List Ev} {i : Nat} (h : i < l.length) (h2 : i < (mid f l i).length) : (mid f l i)[i] = l[i] := by
  have : (mid f l i)[i]? = some l[i] := by
    unfold mid
    rw [List.getElem?_append_right (by simp; omega)]
    simp [List.length_take, Nat.min_eq_left (Nat.le_of_lt h)]
  rw [List.getElem?_eq_getElem h2] at this
  exact Option.some.inj this
theorem mid_set (f : Ev → Ev) {l : List Ev} {i : Nat} (h : i < l.length) : (mid f l i).set i (f l[i]) = mid f l (i + 1) := by
  unfold mid
  have e : (l.take i).length = i := by simp; omega
  rw [List.set_append_right _ _ (by simp; omega), List.length_map, e, Nat.sub_self, List.drop_eq_getElem_cons h, List.set_cons_zero, List.take_succ_eq_append_getElem h]
  simp only [List.map_append, List.map_cons, List.map_nil, List.append_assoc, List.cons_append, List.nil_append]
theorem mid_same (f : Ev → Ev) {l : List Ev} {i : Nat} (h : i < l.length) (hf : f l[i] = l[i]) : mid f l (i + 1) = mid f l i := by
  rw [← mid_set f h, hf]
  have h2 : i < (mid f l i).length := by rw [mid_len f (Nat.le_of_lt h)]; exact h
  conv => lhs; rw [← mid_at f h h2]
  simp
def zW (e : Ev) : Ev := ⟨0, e.k, e.c⟩
def oC (e : Ev) : Ev := if plE e = true then ⟨e.w, e.k, e.w⟩ else e
def plL (l : List Ev) (i : Nat) : List Ev := (l.take i).filter plE
theorem plL_yes {l : List Ev} {i : Nat} (h : i < l.length) (hp : plE l[i] = true) : plL l (i + 1) = plL l i ++ [l[i]] := by
  unfold plL; rw [List.take_succ_eq_append_getElem h, List.filter_append]; simp [hp]
theorem plL_no {l : List Ev} {i : Nat} (h : i < l.length) (hp : plE l[i] = false) : plL l (i + 1) = plL l i := by
  unfold plL; rw [List.take_succ_eq_append_getElem h, List.filter_append]; simp [hp]
theorem plL_le (l : List Ev) (i : Nat) : (plL l i).length ≤ l.length := by
  unfold plL; have := List.length_filter_le plE (l.take i); rw [List.length_take] at this; omega
theorem plL_mem {l : List Ev} {i : Nat} : ∀ x ∈ plL l i, x ∈ l ∧ plE x = true := fun x hx => by
  unfold plL at hx; rw [List.mem_filter] at hx; exact ⟨List.mem_of_mem_take hx.1, hx.2⟩
theorem gl_mem {l : List Ev} {i : Nat} (h : i < l.length) : gl l i ∈ l := by rw [gl_at h]; exact List.getElem_mem h
theorem log_map {n : Int} {l : List Ev} (f : Ev → Ev) (h : LogOk n l) (hf : ∀ x ∈ l, EvOk n (f x)) : LogOk n (l.map f) := ⟨h.nb, by rw [List.length_map]; exact h.lb, fun x hx => by
  rw [List.mem_map] at hx; obtain ⟨y, hy, rfl⟩ := hx; exact hf y hy⟩
theorem log_one {n : Int} {l : List Ev} (h : LogOk n l) : LogOk n (l.map zW) := log_map zW h fun x hx => ⟨⟨Int.le_refl _, by have := h.nb; show (0 : Int) < n; omega⟩, (h.ev x hx).c, (h.ev x hx).k⟩
theorem log_own {n : Int} {l : List Ev} (h : LogOk n l) : LogOk n (l.map oC) := log_map oC h fun x hx => by
  unfold oC
  split
  · exact ⟨(h.ev x hx).w, (h.ev x hx).w.1, (h.ev x hx).k⟩
  · exact h.ev x hx
theorem log_pl {n : Int} {l : List Ev} (h : LogOk n l) (i : Nat) : LogOk n (plL l i) := ⟨h.nb, Nat.le_trans (plL_le l i) h.lb, fun x hx => h.ev x (plL_mem x hx).1⟩
theorem far_one {l : List Ev} (h : ∀ x ∈ l, x.c ≤ 9223372036854775807) : ∀ x ∈ l.map zW, x.c ≤ 9223372036854775807 := fun x hx => by
  rw [List.mem_map] at hx; obtain ⟨y, hy, rfl⟩ := hx; exact h y hy
theorem far_own {n : Int} {l : List Ev} (hM : LogOk n l) (h : ∀ x ∈ l, x.c ≤ 9223372036854775807) : ∀ x ∈ l.map oC, x.c ≤ 9223372036854775807 := fun x hx => by
  rw [List.mem_map] at hx; obtain ⟨y, hy, rfl⟩ := hx
  unfold oC
  split
  · have := (hM.ev y hy).w; have := hM.nb; show y.w ≤ _; omega
  · exact h y hy
theorem norace_one {l : List Ev} {i j : Nat} {is : Bool} (h : RaceIs (gl (l.map zW)) (l.map zW).length i j is) : is = false := by
  cases is with
  | false => rfl
  | true =>
    refine absurd (h.race.1 rfl) (race_one fun a b ha hb => ?_)
    have q : ∀ k, k < (l.map zW).length → (gl (l.map zW) k).w = 0 := fun k hk => by
      have := gl_mem hk
      rw [List.mem_map] at this
      obtain ⟨y, _, hy⟩ := this
      rw [← hy]; rfl
    rw [q a ha, q b hb]
theorem norace_own {l : List Ev} {i j : Nat} {is : Bool} (h : RaceIs (gl (l.map oC)) (l.map oC).length i j is) : is = false := by
  cases is with
  | false => rfl
  | true =>
    refine absurd (h.race.1 rfl) (race_own fun a ha hp => ?_)
    have := gl_mem ha
    rw [List.mem_map] at this
    obtain ⟨y, _, hy⟩ := this
    rw [← hy] at hp ⊢
    unfold oC at hp ⊢
    split
    · rfl
    · next hn => rw [if_neg hn] at hp; exact absurd hp hn
def mt (p : List Ev) (i j : Nat) : Bool := !((gl p i).w == (gl p j).w) && ((gl p i).c == (gl p j).c && ((gl p i).k == 6 || (gl p j).k == 6))
def rowM (p : List Ev) (i : Nat) : Nat → Bool
  | 0 => false
  | j + 1 => rowM p i j || mt p i j
def totM (p : List Ev) : Nat → Bool
  | 0 => false
  | i + 1 => totM p i || rowM p i i
theorem rowM_iff (p : List Ev) (i : Nat) : ∀ j, rowM p i j = true ↔ ∃ k, k < j ∧ mt p i k = true
  | 0 => by simp [rowM]
  | j + 1 => by
    rw [rowM, Bool.or_eq_true, rowM_iff p i j]
    constructor
    · rintro (⟨k, h1, h2⟩ | h)
      · exact ⟨k, by omega, h2⟩
      · exact ⟨j, by omega, h⟩
    · rintro ⟨k, h1, h2⟩
      by_cases hk : k = j
      · subst hk; exact .inr h2
      · exact .inl ⟨k, by omega, h2⟩
theorem totM_iff (p : List Ev) : ∀ n, totM p n = true ↔ ∃ i j, i < n ∧ j < i ∧ mt p i j = true
  | 0 => by simp [totM]
  | n + 1 => by
    rw [totM, Bool.or_eq_true, totM_iff p n, rowM_iff]
    constructor
    · rintro (⟨i, j, h1, h2, h3⟩ | ⟨j, h1, h2⟩)
      · exact ⟨i, j, by omega, h2, h3⟩
      · exact ⟨n, j, by omega, h1, h2⟩
    · rintro ⟨i, j, h1, h2, h3⟩
      by_cases hi : i = n
      · subst hi; exact .inr ⟨j, h2, h3⟩
      · exact .inl ⟨i, j, by omega, h2, h3⟩
theorem meets_race {p : List Ev} {i j : Nat} {is : Bool} (hp : ∀ x ∈ p, plE x = true) (h : RaceIs (gl p) p.length i j is) : is = totM p p.length := by
  have hpl : ∀ k, k < p.length → plE (gl p k) = true := fun k hk => hp _ (gl_mem hk)
  have hrd : ∀ k, k < p.length → rdE (gl p k) = false := fun k hk => (wr_np (hpl k hk)).2
  rw [Bool.eq_iff_iff, h.race, race_plain hrd, totM_iff]
  constructor
  · rintro ⟨a, b, h1, h2, h3, h4⟩
    refine ⟨b, a, h1, h2, ?_⟩
    unfold meetE at h4
    simp only [Bool.and_eq_true, Bool.or_eq_true, beq_iff_eq] at h4
    obtain ⟨⟨_, h5⟩, h6⟩ := h4
    unfold mt
    simp only [Bool.and_eq_true, Bool.or_eq_true, beq_iff_eq, Bool.not_eq_true', beq_eq_false_iff_ne]
    exact ⟨fun e => h3 e.symm, h5.symm, h6.symm⟩
  · rintro ⟨b, a, h1, h2, h3⟩
    unfold mt at h3
    simp only [Bool.and_eq_true, Bool.or_eq_true, beq_iff_eq, Bool.not_eq_true', beq_eq_false_iff_ne] at h3
    obtain ⟨h4, h5, h6⟩ := h3
    refine ⟨a, b, h1, h2, fun e => h4 e.symm, ?_⟩
    unfold meetE
    simp only [Bool.and_eq_true, Bool.or_eq_true, beq_iff_eq]
    exact ⟨⟨⟨hpl a (by omega), hpl b h1⟩, h5.symm⟩, h6.symm⟩
end Go.Proofs.Ytffpphnjokmffaa
