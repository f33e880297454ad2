/- Walk: Before. -/
import Derived.Test.YtffpphnjokmffaaED
import Derived.Test.YtffpphnjokmffaaHbSeen
namespace Go.Proofs.Ytffpphnjokmffaa
open Go.RowKit Go.Maps

theorem t_at {W : World} {A : Option Addr} {e : Nat → Ev} {n L : Nat} (h : TRow W A e n L) (hp : 0 < L) : ∃ b off, A = some ⟨b, off, none⟩ ∧ b < W.heap.size ∧
    ∀ j, j < L → ∃ g cap, W.cell? ⟨b, off + j, none⟩ = some (.slice (some ⟨g, 0, none⟩) n cap) ∧ n ≤ cap ∧ cap ≤ maxLen ∧ (0 < n → g < W.heap.size) ∧ ∀ v, v < n → W.cell? ⟨g, v, none⟩ = some (.int .i64 (stamp e j (v : Int) : Int)) := by
  obtain ⟨obs, h1, h2, h3⟩ := h
  obtain ⟨b, off, ha, hb, hc⟩ := h2.2 (by rw [List.length_map, h1]; exact hp)
  refine ⟨b, off, ha, hb, fun j hj => ?_⟩
  have hjo : j < obs.length := by omega
  obtain ⟨a2, a3, a4⟩ := h3 j hjo
  have hcj := hc j (by rw [List.length_map]; exact hjo)
  rw [List.getElem_map] at hcj
  have hrow : ∀ v, v < n → obs[j].1 < W.heap.size ∧ W.cell? ⟨obs[j].1, v, none⟩ = some (.int .i64 (stamp e j (v : Int) : Int)) := fun v hv => by
    obtain ⟨b', o', e1, hb', hc'⟩ := row_int a4 (by rw [stRow_len]; omega)
    simp only [Option.some.injEq, Addr.mk.injEq, and_true] at e1
    obtain ⟨e1, e2⟩ := e1
    subst e1 e2
    have := hc' v (by rw [stRow_len]; exact hv)
    simp only [Nat.zero_add, stRow, List.getElem_map, List.getElem_range] at this
    exact ⟨hb', this⟩
  exact ⟨obs[j].1, obs[j].2, hcj, a2, a3, fun hn => (hrow 0 hn).1, fun v hv => (hrow v hv).2⟩

theorem before_out (a : Option Addr) (L c : Nat) (A : Option Addr) (d : Nat) (i j : Int) (w : World) (h : ¬ (0 ≤ i ∧ i < j ∧ j < L)) (hL : L ≤ 65536) :
    Calls Try.prog 17 #[.slice a L c, .slice A L d, .int .i64 i, .int .i64 j] w (BPost false w) := by
  go_enter Try.func17, Try.ntmps17
  by_cases h1 : i < 0
  · go_wp2_with fail
    go_returns
    exact ⟨rfl, Below.refl _ _⟩
  have b1 : decide (i < 0) = false := by simpa using h1
  by_cases h2 : j ≤ i
  · go_wp2_with fail
    go_returns
    exact ⟨rfl, Below.refl _ _⟩
  have b2 : decide (j ≤ i) = false := by simpa using h2
  have h3 : (L : Int) ≤ j := by omega
  clear h
  go_wp2_with fail
  go_returns
  exact ⟨rfl, Below.refl _ _⟩
set_option maxHeartbeats 1000000 in
theorem before_in (a : Option Addr) (l : List Ev) (c : Nat) (A : Option Addr) (d n : Nat) (i j : Nat) (w : World) (hr : ERow w a l) (hok : ∀ x ∈ l, EvOk n x) (hT : TRow w A (gl l) n l.length) (hij : i < j) (hj : j < l.length) (hL : l.length ≤ 65536) (hn : n ≤ 65) :
    Calls Try.prog 17 #[.slice a l.length c, .slice A l.length d, .int .i64 i, .int .i64 j] w (BPost (decide (stamp (gl l) i (gl l i).w ≤ stamp (gl l) j (gl l i).w)) w) := by
  have hil : i < l.length := by omega
  obtain ⟨b, off, rfl, hb, hc⟩ := e_at hr (by omega)
  obtain ⟨x0, _, _⟩ := hc i hil
  obtain ⟨p1, p2⟩ := (hok _ (List.getElem_mem hil)).w
  have hg := gl_at hil
  obtain ⟨bs, os, rfl, hbs, hcs⟩ := t_at hT (by omega)
  obtain ⟨g1, c1, y1, _, m1, _, s1⟩ := hcs i hil
  obtain ⟨g2, c2, y2, _, m2, _, s2⟩ := hcs j hj
  rw [hg]
  obtain ⟨v, hv⟩ := Int.eq_ofNat_of_zero_le p1
  have hvn : v < n := by omega
  rw [hv] at x0 ⊢
  have z1 := s1 v hvn
  have z2 := s2 v hvn
  have hb1 := stamp_le (e := gl l) i (v : Int)
  have hb2 := stamp_le (e := gl l) j (v : Int)
  have b1 : decide ((j : Int) ≤ (i : Int)) = false := by simp; omega
  have b2 : decide ((l.length : Int) ≤ (j : Int)) = false := by simp; omega
  have b3 : decide ((n : Int) ≤ (v : Int)) = false := by simp; omega
  clear hc hcs s1 s2 hg hv p1 p2 hok hT hr
  generalize stamp (gl l) i (v : Int) = t1 at z1 hb1 ⊢
  generalize stamp (gl l) j (v : Int) = t2 at z2 hb2 ⊢
  unfold maxLen at m1 m2
  go_enter Try.func17, Try.ntmps17
  go_upto_region 6 with fail
  have q1 := keepd y1
  have q2 := keepd y2
  have q3 := keepd z1
  have q4 := keepd z2
  clear y1 y2 z1 z2 x0
  refine Reg.region (by kernel_rfl) 16 [] (fun _ w' => w' = w.drew) (by kernel_rfl) (by kernel_rfl) rfl ?_
  iterate 16
    refine Reg.WT.yield (v := ?_) rfl rfl ?_ ?_
    rotate_left
    · intro w' _ hS; go_simp; (try go_bits); (first | rfl | rw [if_pos (by omega)])
    simp only [Act.put, List.setIfInBounds_toArray, List.set_cons_zero, List.set_cons_succ]
  intro w2 hS
  subst hS
  go_wp2_with fail
  go_returns
  refine ⟨?_, (Below.refl _ _).drew⟩
  congr 2
end Go.Proofs.Ytffpphnjokmffaa
