/- Other numbers for the workers, and for the cells: the plain law of ClockRenamed. -/
import Derived.Test.YtffpphnjokmffaaEO
import Derived.Test.YtffpphnjokmffaaEQ
namespace Go.Proofs.Ytffpphnjokmffaa
open Go.RowKit Go.Maps

def renE (n : Nat) (y z : Int) (e : Ev) : Ev := ⟨(e.w + y) % n, e.k, e.c * 2 + z⟩
structure Near (n : Nat) (e : Ev) : Prop where
  w : 0 ≤ e.w ∧ e.w < n
  c : 0 ≤ e.c ∧ e.c ≤ 1099511627776
theorem ren_inj {n : Nat} {y a b : Int} (ha : 0 ≤ a ∧ a < n) (hb : 0 ≤ b ∧ b < n) (h : (a + y) % n = (b + y) % n) : a = b := by
  have h1 := Int.emod_eq_emod_iff_emod_sub_eq_zero.1 h
  obtain ⟨k, hk⟩ := Int.dvd_of_emod_eq_zero h1
  rcases Int.lt_trichotomy k 0 with h2 | h2 | h2
  · have : (n : Int) * k ≤ (n : Int) * (-1) := Int.mul_le_mul_of_nonneg_left (by omega) (by omega)
    omega
  · subst h2; simp at hk; omega
  · have : (n : Int) * 1 ≤ (n : Int) * k := Int.mul_le_mul_of_nonneg_left (by omega) (by omega)
    omega
theorem gl_map (f : Ev → Ev) {l : List Ev} {i : Nat} (h : i < l.length) : gl (l.map f) i = f (gl l i) := by
  rw [gl_at (show i < (l.map f).length by rw [List.length_map]; exact h), gl_at h, List.getElem_map]
section
variable {l : List Ev} {n : Nat} {y z : Int}
theorem near_gl (h : ∀ x ∈ l, Near n x) {i : Nat} (hi : i < l.length) : Near n (gl l i) := h _ (gl_mem hi)
theorem renamed (h : ∀ x ∈ l, Near n x) : Renamed (gl l) (gl (l.map (renE n y z))) l.length (fun w => (w + y) % n) (fun c => c * 2 + z) :=
  ⟨fun i hi => by rw [gl_map _ hi]; rfl, fun i hi => by rw [gl_map _ hi]; rfl, fun i hi => by rw [gl_map _ hi]; rfl,
   fun i hi w ⟨j, hj, hw⟩ he => by subst hw; exact ren_inj (near_gl h hi).w (near_gl h hj).w he,
   fun i j hi hj he => by omega⟩
theorem ren_st (h : ∀ x ∈ l, Near n x) {j v q : Nat} (hj : j < l.length) (hv : v < n) (hq : ((v : Int) + y) % n = (q : Int)) : stamp (gl (l.map (renE n y z))) j (q : Int) = stamp (gl l) j (v : Int) :=
  ren_stamp (renamed (z := z) h) (w := (v : Int)) (w' := (q : Int)) (fun i hi => by
    rw [gl_map _ hi]
    show ((gl l i).w + y) % n = (q : Int) ↔ _
    rw [← hq]
    exact ⟨fun e => ren_inj (near_gl h hi).w ⟨by omega, by omega⟩ e, fun e => by rw [e]⟩) j hj
theorem ren_bef (h : ∀ x ∈ l, Near n x) {i j : Nat} (hi : i < l.length) (hj : j < l.length) : bef (gl (l.map (renE n y z))) i j = bef (gl l) i j := by
  have q : ∀ k, k < l.length → stamp (gl (l.map (renE n y z))) k (gl (l.map (renE n y z)) i).w = stamp (gl l) k (gl l i).w := fun k hk =>
    ren_stamp (renamed (z := z) h) (fun i' hi' => by
      rw [gl_map _ hi', gl_map _ hi]
      exact ⟨fun e => ren_inj (near_gl h hi').w (near_gl h hi).w e, fun e => by unfold renE; rw [e]⟩) k hk
  unfold bef
  rw [q i hi, q j hj]
theorem ren_race (h : ∀ x ∈ l, Near n x) {a b c d : Nat} {is so : Bool} (h1 : RaceIs (gl l) l.length a b is) (h2 : RaceIs (gl (l.map (renE n y z))) l.length c d so) : a = c ∧ b = d ∧ is = so := by
  have q : ∀ i j, j < l.length → (Racy (gl (l.map (renE n y z))) i j ↔ Racy (gl l) i j) := fun i j hj => ren_racy (renamed (z := z) h) hj
  have h3 : RaceIs (gl l) l.length c d so := by
    rcases h2 with ⟨e, a1, a2, a3, a4⟩ | ⟨e, a1, a2, a3⟩
    · exact .inl ⟨e, a1, (q _ _ a1).1 a2, fun j' hj i' hr => a3 j' hj i' ((q _ _ (by omega)).2 hr), fun i' hi hr => a4 i' hi ((q _ _ a1).2 hr)⟩
    · exact .inr ⟨e, a1, a2, fun j' hj i' hr => a3 j' hj i' ((q _ _ hj).2 hr)⟩
  exact h1.uniq h3
theorem log_ren (h : ∀ x ∈ l, Near n x) (hn : 1 ≤ n) (hz : 0 ≤ z) : LogOk n (l.map (renE n y z)) ↔ LogOk n l := by
  constructor
  · intro ⟨h1, h2, h3⟩
    refine ⟨h1, by rwa [List.length_map] at h2, fun x hx => ⟨(h x hx).w, (h x hx).c.1, ?_⟩⟩
    exact (h3 _ (List.mem_map_of_mem hx)).k
  · intro hM
    exact log_map _ hM fun x hx => ⟨⟨Int.emod_nonneg _ (by omega), Int.emod_lt_of_pos _ (by omega)⟩, by have := (h x hx).c; show 0 ≤ x.c * 2 + z; omega, (hM.ev x hx).k⟩
end
end Go.Proofs.Ytffpphnjokmffaa
