/- Laws of words in rows: ends, alignment. -/
import Derived.Test.YtpdfeifnbeojcaaLnLaw
namespace Go.Proofs.Ytpdfeifnbeojcaa
open Go.RowKit

/-! ### As many empty rows as the ends say -/
def sumE : Nat → List Wd → Nat
  | _, [] => 0
  | k, w :: l => ends k w + sumE (k + 1) l
def sumS : Nat → List Wd → Nat
  | _, [] => 0
  | k, w :: l => (if k = 0 ∨ 0 < w.n then 1 else 0) + sumS (k + 1) l
def gotN (rs : List Rw) : Nat := (rs.filter fun r => r.xs.isEmpty).length
theorem gotN_append (a b : List Rw) : gotN (a ++ b) = gotN a + gotN b := by simp [gotN]
theorem gotN_empties (h : Int) (k : Nat) : ∀ n y, gotN (empties h k n y) = n
  | 0, _ => rfl
  | n + 1, y => by unfold empties; rw [gotN_append, gotN_empties h k n y]; rfl
theorem sumE_drop : ∀ (m k : Nat) (l : List Wd), m ≤ l.length → (∀ j (h : j < m) (h2 : j < l.length), l[j].n = 0) → 1 ≤ k → sumE k l = sumE (k + m) (l.drop m) ∧ sumS k l = sumS (k + m) (l.drop m)
  | 0, k, l, _, _, _ => by simp
  | m + 1, k, [], h, _, _ => by simp at h
  | m + 1, k, w :: l, h, hn, hk => by
    have h0 : w.n = 0 := hn 0 (by omega) (by simp)
    have ih := sumE_drop m (k + 1) l (by simpa using h) (fun j hj h2 => hn (j + 1) (by omega) (by simpa using h2)) (by omega)
    simp only [sumE, sumS, List.drop_succ_cons]
    rw [ih.1, ih.2, show k + 1 + m = k + (m + 1) from by omega]
    constructor
    · have : ends k w = 0 := by unfold ends; rw [if_neg (by omega), h0]; rfl
      omega
    · rw [if_neg (by omega)]; omega
theorem row_xs_ne (c : Rm) (k : Nat) (w : Wd) (l : List Wd) (y : Int) : (rowOf c k w l y).xs.isEmpty = false := by unfold rowOf; rfl
theorem row_words (c : Rm) (k : Nat) (w : Wd) (l : List Wd) (y : Int) : ∀ j (_ : j < (rowOf c k w l y).t - (k + 1)) (h2 : j < l.length), l[j].n = 0 := fun j h h2 => by
  have g := grow_spec (c.at_ (dwn c w.w y)).2 l ((c.at_ (dwn c w.w y)).1 + w.w)
  refine (g.i1 j ?_ h2).1
  unfold rowOf at h
  simp at h
  omega
theorem fill_ends {c : Rm} (hf : c.fl = []) : ∀ (n : Nat) (k : Nat) (l : List Wd) (y : Int), l.length ≤ n →
    gotN (fill c k l y).1 = sumE k l ∧ sumS k l + gotN (fill c k l y).1 ≤ (fill c k l y).1.length ∧ (fill c k l y).2 = y + (fill c k l y).1.length * c.h := by
  intro n
  induction n with
  | zero =>
    intro k l y h
    obtain rfl : l = [] := List.eq_nil_of_length_eq_zero (by omega)
    rw [fill_nil]; simp [gotN, sumE, sumS]
  | succ n ih =>
    intro k l y h
    cases l with
    | nil => rw [fill_nil]; simp [gotN, sumE, sumS]
    | cons w l =>
      rw [fill_cons]
      dsimp only
      have ht := row_t c k w l (y + ends k w * c.h)
      have hw := row_words c k w l (y + ends k w * c.h)
      have hx := row_xs_ne c k w l (y + ends k w * c.h)
      have hy : (rowOf c k w l (y + ends k w * c.h)).y = y + ends k w * c.h := by
        show dwn c w.w _ = _
        apply dwn_ok
        unfold okD Rm.at_ tall
        rw [hf]; simp
      generalize rowOf c k w l (y + ends k w * c.h) = r at ht hw hx hy
      obtain ⟨i1, i2, i3⟩ := ih r.t (l.drop (r.t - (k + 1))) (r.y + c.h) (by simp at h ⊢; omega)
      obtain ⟨d1, d2⟩ := sumE_drop (r.t - (k + 1)) (k + 1) l (by omega) (fun j hj h2 => hw j hj h2) (by omega)
      rw [show k + 1 + (r.t - (k + 1)) = r.t from by omega] at d1 d2
      generalize fill c r.t (l.drop (r.t - (k + 1))) (r.y + c.h) = q at i1 i2 i3
      have g1 : gotN (r :: q.1) = gotN q.1 := by unfold gotN; rw [List.filter_cons, hx]; simp
      refine ⟨?_, ?_, ?_⟩
      · rw [gotN_append, gotN_empties, g1, i1]
        show _ = ends k w + sumE (k + 1) l
        rw [d1]
      · rw [gotN_append, gotN_empties, g1, List.length_append, empties_len, List.length_cons]
        show (if k = 0 ∨ 0 < w.n then 1 else 0) + sumS (k + 1) l + _ ≤ _
        rw [d2]
        split <;> omega
      · rw [i3, hy, List.length_append, empties_len, List.length_cons]
        rw [Int.natCast_add, Int.natCast_add, Int.add_mul, Int.add_mul]
        omega

/-! ### Alignment -/
def lastW (ws : List Wd) (r : Rw) : Int := r.xs.getLastD 0 + (match ws[r.t - 1]? with | some w => w.w | none => 0)
def freeOf (c : Rm) (ws : List Wd) (r : Rw) : Int := max ((c.at_ r.y).2 - lastW ws r) 0
def shiftR (c : Rm) (ws : List Wd) (al : Int) (r : Rw) : Rw := { r with xs := r.xs.map (· + moveOf al (freeOf c ws r)) }
def Rm.with_ (c : Rm) (al : Int) : Rm := { c with al := al }
theorem dwn_with (c : Rm) (al : Int) (w : Int) : ∀ (n : Nat) (y : Int), cntB c.fl y ≤ n → dwn (c.with_ al) w y = dwn c w y := by
  intro n
  induction n with
  | zero =>
    intro y h
    cases ho : okD c w y
    · have := cnt_lt (okD_nxt ho); omega
    · rw [dwn_ok ho, dwn_ok (c := c.with_ al) (show okD (c.with_ al) w y = true from ho)]
  | succ n ih =>
    intro y h
    cases ho : okD c w y
    · have h1 := cnt_lt (okD_nxt ho)
      rw [dwn_no ho, dwn_no (c := c.with_ al) (show okD (c.with_ al) w y = false from ho)]
      exact ih (nxt c.fl y).1 (by omega)
    · rw [dwn_ok ho, dwn_ok (c := c.with_ al) (show okD (c.with_ al) w y = true from ho)]
theorem row_shift {c : Rm} {ws : List Wd} {k : Nat} {w : Wd} {l : List Wd} {y : Int} (hd : ws.drop k = w :: l) (al : Int) : rowOf (c.with_ al) k w l y = shiftR c ws al (rowOf (c.with_ 0) k w l y) := by
  obtain ⟨hk, hw, hl, _, hl2⟩ := drop_at (j := 0) hd
  have hw := hw hk
  have hlj : ∀ j (h1 : j < l.length) (h2 : k + 1 + j < ws.length), ws[k + 1 + j] = l[j] := fun j h1 h2 => (drop_at (j := j) hd).2.2.2.1 h1 h2
  have hm : ∀ x, moveOf 0 x = 0 := fun x => by unfold moveOf; simp
  obtain ⟨p, hp⟩ : ∃ p, p = c.at_ (dwn c w.w y) := ⟨_, rfl⟩
  have g := grow_spec p.2 l (p.1 + w.w)
  have hlen := grow_len p.2 l (p.1 + w.w)
  obtain ⟨q, hq⟩ : ∃ q, q = grow p.2 l (p.1 + w.w) := ⟨_, rfl⟩
  have hr : ∀ al, rowOf (c.with_ al) k w l y = { y := dwn c w.w y, f := k, t := k + 1 + q.1.length, xs := (p.1 :: q.1).map (· + moveOf al (max (p.2 - q.2) 0)) } := fun al => by
    unfold rowOf
    dsimp only
    rw [dwn_with c al w.w _ y (Nat.le_refl _), show (c.with_ al).at_ (dwn c w.w y) = p from hp.symm, ← hq]
    rfl
  rw [← hq] at g hlen
  rw [hr al, hr 0]
  unfold shiftR freeOf
  simp only [hm, Int.add_zero, List.map_id', ← hp]
  have e : lastW ws { y := dwn c w.w y, f := k, t := k + 1 + q.1.length, xs := p.1 :: q.1 } = q.2 := by
    unfold lastW
    simp only [List.getLastD_cons]
    rw [List.getElem?_eq_getElem (by omega)]
    by_cases h0 : q.1.length = 0
    · have hnil : q.1 = [] := List.eq_nil_of_length_eq_zero h0
      have e4 : ws[k + 1 + q.1.length - 1]'(by omega) = w := by rw [← hw]; congr 1; omega
      rw [e4, g.i4 hnil]
      rw [hnil]; rfl
    · obtain ⟨m, hm2⟩ : ∃ m, q.1.length = m + 1 := ⟨q.1.length - 1, by omega⟩
      rw [g.i5 m (by omega) (by omega) (by omega)]
      have e4 : ws[k + 1 + q.1.length - 1]'(by omega) = l[m]'(by omega) := by
        have := hlj m (by omega) (by omega)
        rw [← this]; congr 1; omega
      rw [e4]
      congr 1
      rw [List.getLastD_eq_getLast?, List.getLast?_eq_getElem?, List.getElem?_eq_getElem (by omega)]
      simp [hm2]
  rw [e]
theorem empties_shift {c : Rm} {ws : List Wd} {al : Int} (h : Int) (k : Nat) : ∀ n y, (empties h k n y).map (shiftR c ws al) = empties h k n y
  | 0, _ => rfl
  | n + 1, y => by
    unfold empties
    rw [List.map_append, empties_shift h k n y]
    rfl
theorem fill_shift {c : Rm} {ws : List Wd} (al : Int) : ∀ (n k : Nat) (y : Int), ws.length - k ≤ n → fill (c.with_ al) k (ws.drop k) y = ((fill (c.with_ 0) k (ws.drop k) y).1.map (shiftR c ws al), (fill (c.with_ 0) k (ws.drop k) y).2) := by
  intro n
  induction n with
  | zero =>
    intro k y h
    rw [List.drop_eq_nil_of_le (by omega), fill_nil, fill_nil]; rfl
  | succ n ih =>
    intro k y h
    cases hd : ws.drop k with
    | nil => rw [fill_nil, fill_nil]; rfl
    | cons w l =>
      obtain ⟨hk, _, hl, _, hl2⟩ := drop_at (j := 0) hd
      rw [fill_cons, fill_cons]
      rw [show (c.with_ al).h = (c.with_ 0).h from rfl, row_shift (y := y + ends k w * (c.with_ 0).h) hd al]
      have ht := row_t (c.with_ 0) k w l (y + ends k w * (c.with_ 0).h)
      generalize rowOf (c.with_ 0) k w l (y + ends k w * (c.with_ 0).h) = r at ht
      have e1 : (shiftR c ws al r).t = r.t := rfl
      have e2 : (shiftR c ws al r).y = r.y := rfl
      rw [e1, e2]
      have hdd : l.drop (r.t - (k + 1)) = ws.drop r.t := by rw [hl2, List.drop_drop]; congr 1; omega
      rw [hdd, ih r.t _ (by omega)]
      simp only [List.map_append, List.map_cons, empties_shift]
end Go.Proofs.Ytpdfeifnbeojcaa
