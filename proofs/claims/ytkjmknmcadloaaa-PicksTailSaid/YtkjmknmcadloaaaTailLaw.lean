/- What follows a script, as plain numbers. -/
import Derived.Test.YtkjmknmcadloaaaPNextW
namespace Go.Proofs.Ytkjmknmcadloaaa
open Go.RowKit

/-- Whom worker i robs in turn s. -/
def vic (n s i : Nat) : Nat := if n = 1 then 0 else (i + 1 + s % (n - 1)) % n
theorem vic_lt {n s i : Nat} (hn : 1 ≤ n) : vic n s i < n := by
  unfold vic; split
  · omega
  · exact Nat.mod_lt _ (by omega)
def tlp (n s i : Nat) : Pk := ⟨(i : Int), (vic n s i : Int)⟩
theorem behind_tl {n s i : Nat} (hn : 1 ≤ n) (hi : i < n) : behind (((n * s + i : Nat)) : Int) n = tlp n s i := by
  unfold behind tlp vic
  by_cases h1 : n = 1
  · subst h1
    obtain rfl : i = 0 := by omega
    rfl
  · rw [if_neg (by omega), if_neg h1]
    have e1 : (n * s + i) % n = i := by rw [Nat.mul_add_mod, Nat.mod_eq_of_lt hi]
    have e2 : (n * s + i) / n = s := by rw [Nat.mul_add_div (by omega), Nat.div_eq_of_lt hi, Nat.add_zero]
    have e3 : (((n * s + i : Nat)) : Int) % (n : Int) = (i : Int) := by rw [← Int.natCast_emod, e1]
    have e4 : (((n * s + i : Nat)) : Int) / (n : Int) = (s : Int) := by rw [← Int.natCast_ediv, e2]
    rw [e3, e4, show ((n : Int) - 1) = ((n - 1 : Nat) : Int) from by omega, ← Int.natCast_emod]
    congr 1
theorem at_tl {l : List Pk} {n s i : Nat} (hn : 1 ≤ n) (hi : i < n) : at_ l n (l.length + (n * s + i)) = tlp n s i := by
  unfold at_
  rw [dif_neg (by omega), ← behind_tl hn hi]
  congr 1
  omega
/-- How often each robs each one in the first q picks. -/
def rb (n sk : Nat) : Nat → Nat → Nat
  | 0 => fun _ => 0
  | q + 1 => bump (rb n sk q) (q % n * n + vic n (sk + q / n) (q % n))
def tls (n sk : Nat) : Nat → List Pk
  | 0 => []
  | q + 1 => tls n sk q ++ [tlp n (sk + q / n) (q % n)]
theorem tls_len (n sk : Nat) : ∀ q, (tls n sk q).length = q
  | 0 => rfl
  | q + 1 => by unfold tls; rw [List.length_append, tls_len n sk q]; rfl
theorem tls_get (n sk : Nat) : ∀ q i (h : i < (tls n sk q).length), (tls n sk q)[i] = tlp n (sk + i / n) (i % n)
  | 0, i, h => by simp [tls] at h
  | q + 1, i, h => by
    have hl := tls_len n sk q
    unfold tls
    by_cases e : i < q
    · rw [List.getElem_append_left (by omega)]; exact tls_get n sk q i (by omega)
    · rw [List.getElem_append_right (by omega)]
      rw [tls_len] at h
      obtain rfl : i = q := by omega
      simp [hl]
theorem tls_ok {n : Nat} (hn : 1 ≤ n) (hn2 : n ≤ 64) (sk q : Nat) : ∀ p ∈ tls n sk q, PkOk p := by
  intro p hp
  obtain ⟨i, hi, rfl⟩ := List.getElem_of_mem hp
  rw [tls_get]
  have h1 : i % n < n := Nat.mod_lt _ (by omega)
  have h2 := vic_lt (s := sk + i / n) (i := i % n) hn
  exact ⟨by unfold tlp; simp; omega, by unfold tlp; simp; omega⟩
theorem tls_fair {n : Nat} (hn : 1 ≤ n) (sk q : Nat) : fair n (tls n sk q) n = true := by
  rw [fair_iff]
  intro a ha j hj
  rw [tls_len] at ha
  obtain ⟨d, hd, hm⟩ : ∃ d, d < n ∧ (a + d) % n = j := by
    have h1 : a % n < n := Nat.mod_lt _ (by omega)
    have h2 := Nat.div_add_mod a n
    by_cases h : a % n ≤ j
    · refine ⟨j - a % n, by omega, ?_⟩
      rw [show a + (j - a % n) = n * (a / n) + j from by omega, Nat.mul_add_mod, Nat.mod_eq_of_lt hj]
    · refine ⟨j + n - a % n, by omega, ?_⟩
      rw [show a + (j + n - a % n) = n * (a / n) + n + j from by omega, ← Nat.mul_succ, Nat.mul_add_mod, Nat.mod_eq_of_lt hj]
  refine ⟨tlp n (sk + (a + d) / n) ((a + d) % n), ?_, ?_⟩
  · unfold win
    rw [← tls_get n sk q (a + d) (by rw [tls_len]; omega)]
    have hlt : d < (((tls n sk q).drop a).take n).length := by rw [List.length_take, List.length_drop, tls_len]; omega
    have := List.getElem_mem hlt
    rwa [List.getElem_take, List.getElem_drop] at this
  · unfold tlp
    rw [hm]
    exact Int.emod_eq_of_lt (a := (j : Int)) (b := (n : Int)) (by omega) (by omega)
def robsT (n sk T w v : Nat) : Nat := (List.range T).countP fun t => vic n (sk + t) w == v
theorem idx2 {n w v w' v' : Nat} (hv : v < n) (hv' : v' < n) : w * n + v = w' * n + v' ↔ w = w' ∧ v = v' := by
  constructor
  · intro h; exact idx_inj hv hv' h
  · rintro ⟨rfl, rfl⟩; rfl
theorem rb_turn {n sk T : Nat} (hn : 1 ≤ n) {w v : Nat} (hw : w < n) (hv : v < n) (ih : rb n sk (n * T) (w * n + v) = robsT n sk T w v) :
    ∀ i, i ≤ n → rb n sk (n * T + i) (w * n + v) = robsT n sk T w v + if w < i ∧ vic n (sk + T) w = v then 1 else 0
  | 0, _ => by rw [if_neg (by omega)]; exact ih
  | i + 1, hi => by
    have e1 : (n * T + i) % n = i := by rw [Nat.mul_add_mod, Nat.mod_eq_of_lt (by omega)]
    have e2 : (n * T + i) / n = T := by rw [Nat.mul_add_div (by omega), Nat.div_eq_of_lt (by omega), Nat.add_zero]
    show bump (rb n sk (n * T + i)) ((n * T + i) % n * n + vic n (sk + (n * T + i) / n) ((n * T + i) % n)) (w * n + v) = _
    rw [e1, e2]
    unfold bump
    have h2 := idx2 (w := w) (w' := i) hv (vic_lt (s := sk + T) (i := i) hn)
    rw [rb_turn hn hw hv ih i (by omega)]
    by_cases h : w * n + v = i * n + vic n (sk + T) i
    · obtain ⟨rfl, h4⟩ := h2.1 h
      rw [if_pos h, if_neg (by omega), if_pos ⟨by omega, h4.symm⟩]
    · rw [if_neg h]
      by_cases h3 : w < i ∧ vic n (sk + T) w = v
      · rw [if_pos h3, if_pos ⟨by omega, h3.2⟩]
      · rw [if_neg h3, if_neg]
        rintro ⟨h5, h6⟩
        have : w ≠ i := fun e => by subst e; exact h (h2.2 ⟨rfl, h6.symm⟩)
        exact h3 ⟨by omega, h6⟩
theorem rb_robs {n sk : Nat} (hn : 1 ≤ n) {w v : Nat} (hw : w < n) (hv : v < n) : ∀ T, rb n sk (n * T) (w * n + v) = robsT n sk T w v
  | 0 => by simp [rb, robsT]
  | T + 1 => by
    have := rb_turn (sk := sk) hn hw hv (rb_robs hn hw hv T) n (Nat.le_refl _)
    rw [Nat.mul_succ, this]
    unfold robsT
    rw [List.range_succ, List.countP_append, List.countP_singleton]
    by_cases h : vic n (sk + T) w = v
    · rw [if_pos ⟨hw, h⟩]; simp [h]
    · rw [if_neg (fun e => h e.2)]; simp [h]
theorem robs_all : ∀ n, n < 13 → 2 ≤ n → ∀ sk, sk < 9 → ∀ w, w < n → ∀ v, v < n → robsT n sk (n - 1) w v = if w = v then 0 else 1 := by decide +kernel
theorem rb_le (n sk j : Nat) : ∀ q, rb n sk q j ≤ q
  | 0 => Nat.le_refl _
  | q + 1 => by
    have := rb_le n sk j q
    show bump (rb n sk q) _ j ≤ q + 1
    unfold bump
    split <;> omega
theorem means_rng {p : Pk} {n : Int} (hn : 1 ≤ n) : 0 ≤ (means p n).w ∧ (means p n).w < n ∧ 0 ≤ (means p n).v ∧ (means p n).v < n ∧ (1 < n → (means p n).v ≠ (means p n).w) := by
  have a1 := Int.emod_nonneg p.w (show n ≠ 0 by omega)
  have a2 := Int.emod_lt_of_pos p.w (show 0 < n by omega)
  have a3 := Int.emod_nonneg p.v (show n ≠ 0 by omega)
  have a4 := Int.emod_lt_of_pos p.v (show 0 < n by omega)
  have a5 := Int.emod_nonneg (p.w % n + 1) (show n ≠ 0 by omega)
  have a6 := Int.emod_lt_of_pos (p.w % n + 1) (show 0 < n by omega)
  unfold means
  dsimp only
  refine ⟨a1, a2, ?_, ?_, ?_⟩
  · split <;> omega
  · split <;> omega
  · intro h
    split
    · next he =>
      by_cases e : p.w % n + 1 = n
      · rw [e, Int.emod_self]; omega
      · rw [Int.emod_eq_of_lt (by omega) (by omega)]; omega
    · next he => exact fun e => he e.symm
end Go.Proofs.Ytkjmknmcadloaaa
