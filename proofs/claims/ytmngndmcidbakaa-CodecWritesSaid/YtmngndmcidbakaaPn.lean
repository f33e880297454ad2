/- Trees av bytes, av plain lists. -/
import Derived.Test.YtmngndmcidbakaaPm
namespace Go.Proofs.Ytmngndmcidbakaa
open Go.RowKit
def rdL {α : Type} (rd : List Int → Option (α × List Int)) : Nat → List Int → Option (List α × List Int)
  | 0, l => some ([], l)
  | n + 1, l => match rd l with
    | some (x, r) => match rdL rd n r with
      | some (xs, r') => some (x :: xs, r')
      | none => none
    | none => none
section
variable {α : Type} {rd : List Int → Option (α × List Int)} {wr : α → List Int} {ok : α → Prop}
theorem rdL_wr (hc : ∀ x r, ok x → rd (wr x ++ r) = some (x, r)) : ∀ (xs : List α) (r : List Int), (∀ x ∈ xs, ok x) → rdL rd xs.length ((xs.map wr).flatten ++ r) = some (xs, r)
  | [], _, _ => rfl
  | x :: xs, r, h => by
    have ih := rdL_wr hc xs r (fun y hy => h y (List.mem_cons_of_mem _ hy))
    rw [List.length_cons, List.map_cons, List.flatten_cons, List.append_assoc]
    unfold rdL
    rw [hc x _ (h x List.mem_cons_self)]
    dsimp only
    rw [ih]
theorem rdL_sound (hs : ∀ l x r, Bts l → rd l = some (x, r) → l = wr x ++ r ∧ ok x) : ∀ (n : Nat) (l : List Int) (xs : List α) (r : List Int), Bts l → rdL rd n l = some (xs, r) → xs.length = n ∧ l = (xs.map wr).flatten ++ r ∧ ∀ x ∈ xs, ok x
  | 0, l, xs, r, _, h => by
    simp only [rdL, Option.some.injEq, Prod.mk.injEq] at h
    obtain ⟨rfl, rfl⟩ := h
    exact ⟨rfl, rfl, fun u hu => by cases hu⟩
  | n + 1, l, xs, r, hb, h => by
    unfold rdL at h
    cases e : rd l with
    | none => rw [e] at h; cases h
    | some p =>
      obtain ⟨x, q⟩ := p
      rw [e] at h
      dsimp only at h
      obtain ⟨s1, s2⟩ := hs l x q hb e
      cases e2 : rdL rd n q with
      | none => rw [e2] at h; cases h
      | some p2 =>
        obtain ⟨ys, q2⟩ := p2
        rw [e2] at h
        simp only [Option.some.injEq, Prod.mk.injEq] at h
        obtain ⟨rfl, rfl⟩ := h
        obtain ⟨i1, i2, i3⟩ := rdL_sound hs n q ys q2 (Bts.of_app (s1 ▸ hb)).2 e2
        refine ⟨by rw [List.length_cons, i1], ?_, fun u hu => ?_⟩
        · rw [List.map_cons, List.flatten_cons, List.append_assoc, ← i2]; exact s1
        · rcases List.mem_cons.1 hu with rfl | hu
          · exact s2
          · exact i3 u hu
theorem flat_ge (h1 : ∀ x, ok x → 1 ≤ (wr x).length) : ∀ (xs : List α), (∀ x ∈ xs, ok x) → xs.length ≤ (xs.map wr).flatten.length
  | [], _ => by simp
  | x :: xs, h => by
    have ih := flat_ge h1 xs (fun y hy => h y (List.mem_cons_of_mem _ hy))
    have := h1 x (h x List.mem_cons_self)
    rw [List.map_cons, List.flatten_cons, List.length_append, List.length_cons]; omega
theorem flat_bts (h1 : ∀ x, ok x → Bts (wr x)) (xs : List α) (h : ∀ x ∈ xs, ok x) : Bts (xs.map wr).flatten := by
  intro y hy
  rw [List.mem_flatten] at hy
  obtain ⟨q, hq, hy⟩ := hy
  rw [List.mem_map] at hq
  obtain ⟨x, hx, rfl⟩ := hq
  exact h1 x (h x hx) y hy
end
abbrev Nd := Int × List (List Int)
structure Tr where
  view : Int
  adv : List Int
  nodes : List Nd
def okN (n : Nd) : Prop := I64 n.1 ∧ okS KD n.2
structure okT (T : Tr) : Prop where
  view : I64 T.view
  adv : ∀ a ∈ T.adv, I64 a
  nadv : T.adv.length ≤ 9223372036854775807
  nodes : ∀ n ∈ T.nodes, okN n
  nnodes : T.nodes.length ≤ 9223372036854775807
def wrN (n : Nd) : List Int := num n.1 ++ wrF KD 1 n.2
def wrT (T : Tr) : List Int := num T.view ++ (num T.adv.length ++ ((T.adv.map num).flatten ++ (num T.nodes.length ++ (T.nodes.map wrN).flatten)))
def rdNd (l : List Int) : Option (Nd × List Int) := match rdN l with
  | some (p, r) => match rdF KD 1 r with
    | some (s, r') => some ((p, s), r')
    | none => none
  | none => none
/-- The nodes part. -/
def rdP3 (v : Int) (av : List Int) (l : List Int) : Option (Tr × List Int) := match rdC l with
  | some (k, r) => match rdL rdNd k.toNat r with
    | some (ns, r') => some (⟨v, av, ns⟩, r')
    | none => none
  | none => none
def rdP2 (v : Int) (l : List Int) : Option (Tr × List Int) := match rdC l with
  | some (m, r) => match rdL rdN m.toNat r with
    | some (av, r') => rdP3 v av r'
    | none => none
  | none => none
def rdP (l : List Int) : Option (Tr × List Int) := match rdN l with
  | some (v, r) => rdP2 v r
  | none => none
def rdT (l : List Int) : Option Tr := match rdP l with
  | some (T, r) => if r = [] then some T else none
  | none => none
theorem rdNd_wr (n : Nd) (r : List Int) (h : okN n) : rdNd (wrN n ++ r) = some (n, r) := by
  unfold rdNd wrN
  rw [List.append_assoc, rdN_num h.1]
  dsimp only
  rw [rdF_wrF (by omega) h.2]
theorem rdNd_sound (l : List Int) (n : Nd) (r : List Int) (hb : Bts l) (h : rdNd l = some (n, r)) : l = wrN n ++ r ∧ okN n := by
  unfold rdNd at h
  cases e : rdN l with
  | none => rw [e] at h; cases h
  | some p =>
    obtain ⟨x, q⟩ := p
    rw [e] at h
    dsimp only at h
    obtain ⟨s1, s2⟩ := rdN_sound hb e
    cases e2 : rdF KD 1 q with
    | none => rw [e2] at h; cases h
    | some p2 =>
      obtain ⟨ys, q2⟩ := p2
      rw [e2] at h
      simp only [Option.some.injEq, Prod.mk.injEq] at h
      obtain ⟨rfl, rfl⟩ := h
      obtain ⟨i1, i2⟩ := rdF_sound (Bts.of_app (s1 ▸ hb)).2 e2
      refine ⟨?_, s2, i2⟩
      unfold wrN
      rw [List.append_assoc, ← i1]; exact s1
theorem wrN_len {n : Nd} (h : okN n) : 1 ≤ (wrN n).length := by
  have := (num_len h.1).2
  unfold wrN; rw [List.length_append]; omega
theorem wrN_bts {n : Nd} (h : okN n) : Bts (wrN n) := Bts.app (num_bts h.1) (wrF_bts (by decide) h.2)
theorem rdP_wr {T : Tr} {r : List Int} (h : okT T) : rdP (wrT T ++ r) = some (T, r) := by
  obtain ⟨v, av, ns⟩ := T
  obtain ⟨h1, h2, h3, h4, h5⟩ := h
  dsimp only at h1 h2 h3 h4 h5
  unfold rdP wrT
  simp only [List.append_assoc]
  rw [rdN_num h1]
  dsimp only
  unfold rdP2
  have l1 := flat_ge (wr := num) (ok := I64) (fun x hx => (num_len hx).2) av h2
  have l2 := flat_ge (wr := wrN) (ok := okN) (fun x hx => wrN_len hx) ns h4
  rw [rdC_num (by simp only [List.length_append]; omega) h3]
  dsimp only
  rw [Int.toNat_natCast, rdL_wr (wr := num) (ok := I64) (fun x r hx => rdN_num hx) av _ h2]
  dsimp only
  unfold rdP3
  rw [rdC_num (by simp only [List.length_append]; omega) h5]
  dsimp only
  rw [Int.toNat_natCast, rdL_wr (wr := wrN) (ok := okN) rdNd_wr ns _ h4]
theorem rdP_sound {T : Tr} {l r : List Int} (hb : Bts l) (h : rdP l = some (T, r)) : l = wrT T ++ r ∧ okT T := by
  unfold rdP at h
  cases e : rdN l with
  | none => rw [e] at h; cases h
  | some p =>
    obtain ⟨v, q⟩ := p
    rw [e] at h
    dsimp only at h
    obtain ⟨s1, s2⟩ := rdN_sound hb e
    have hq := (Bts.of_app (s1 ▸ hb)).2
    unfold rdP2 at h
    cases e2 : rdC q with
    | none => rw [e2] at h; cases h
    | some p2 =>
      obtain ⟨m, q2⟩ := p2
      rw [e2] at h
      dsimp only at h
      obtain ⟨m', rfl, t1, t2, t3⟩ := rdC_sound hq e2
      rw [Int.toNat_natCast] at h
      have hq2 := (Bts.of_app (t1 ▸ hq)).2
      cases e3 : rdL rdN m' q2 with
      | none => rw [e3] at h; cases h
      | some p3 =>
        obtain ⟨av, q3⟩ := p3
        rw [e3] at h
        dsimp only at h
        obtain ⟨u1, u2, u3⟩ := rdL_sound (wr := num) (ok := I64) (fun l x r hb h => rdN_sound hb h) m' q2 av q3 hq2 e3
        have hq3 := (Bts.of_app (u2 ▸ hq2)).2
        unfold rdP3 at h
        cases e4 : rdC q3 with
        | none => rw [e4] at h; cases h
        | some p4 =>
          obtain ⟨k, q4⟩ := p4
          rw [e4] at h
          dsimp only at h
          obtain ⟨k', rfl, x1, x2, x3⟩ := rdC_sound hq3 e4
          rw [Int.toNat_natCast] at h
          have hq4 := (Bts.of_app (x1 ▸ hq3)).2
          cases e5 : rdL rdNd k' q4 with
          | none => rw [e5] at h; cases h
          | some p5 =>
            obtain ⟨ns, q5⟩ := p5
            rw [e5] at h
            simp only [Option.some.injEq, Prod.mk.injEq] at h
            obtain ⟨rfl, rfl⟩ := h
            obtain ⟨y1, y2, y3⟩ := rdL_sound (wr := wrN) (ok := okN) rdNd_sound k' q4 ns q5 hq4 e5
            refine ⟨?_, s2, u3, by rw [u1]; exact t3, y3, by rw [y1]; exact x3⟩
            unfold wrT
            dsimp only
            rw [u1, y1]
            simp only [List.append_assoc]
            rw [← y2, ← x1, ← u2, ← t1]
            exact s1
theorem rdT_wr {T : Tr} (h : okT T) : rdT (wrT T) = some T := by
  unfold rdT
  have := rdP_wr (r := []) h
  rw [List.append_nil] at this
  rw [this]; exact if_pos rfl
theorem rdT_sound {T : Tr} {l : List Int} (hb : Bts l) (h : rdT l = some T) : l = wrT T ∧ okT T := by
  unfold rdT at h
  cases e : rdP l with
  | none => rw [e] at h; cases h
  | some p =>
    obtain ⟨T', r⟩ := p
    rw [e] at h
    dsimp only at h
    split at h
    · next hr =>
      injection h with h
      subst h hr
      obtain ⟨h1, h2⟩ := rdP_sound hb e
      exact ⟨by rw [h1, List.append_nil], h2⟩
    · cases h
/-- With anything behind them they are none's; and their beginnings are none's. -/
theorem rdT_more {T : Tr} {l m : List Int} (hb : Bts l) (h : rdT l = some T) (hm : m ≠ []) : rdT (l ++ m) = none := by
  obtain ⟨h1, h2⟩ := rdT_sound hb h
  unfold rdT
  rw [h1, rdP_wr h2]
  exact if_neg hm
theorem rdT_less {T : Tr} {l : List Int} (hb : Bts l) (h : rdT l = some T) {i : Nat} (hi : i < l.length) : rdT (l.take i) = none := by
  cases e : rdT (l.take i) with
  | none => rfl
  | some T' =>
    have := rdT_more (m := l.drop i) (fun x hx => hb x (List.mem_of_mem_take hx)) e (fun e => by have := congrArg List.length e; rw [List.length_drop] at this; simp at this; omega)
    rw [List.take_append_drop, h] at this
    cases this
theorem wrT_inj {T U : Tr} (hT : okT T) (hU : okT U) (h : wrT T = wrT U) : T = U := by
  have := rdT_wr hT
  rw [h, rdT_wr hU] at this
  injection this with this
  exact this.symm
theorem wrT_bts {T : Tr} (h : okT T) : Bts (wrT T) := by
  obtain ⟨h1, h2, h3, h4, h5⟩ := h
  unfold wrT
  exact (num_bts h1).app ((num_bts (by unfold I64; omega)).app ((flat_bts (ok := I64) (fun x hx => num_bts hx) _ h2).app ((num_bts (by unfold I64; omega)).app (flat_bts (ok := okN) (fun x hx => wrN_bts hx) _ h4))))
end Go.Proofs.Ytmngndmcidbakaa
