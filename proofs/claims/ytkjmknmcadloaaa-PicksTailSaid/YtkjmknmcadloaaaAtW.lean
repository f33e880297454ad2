/- Walks: the reference's at; the script's Made, Next, New. -/
import Derived.Test.YtkjmknmcadloaaaRMeans
namespace Go.Proofs.Ytkjmknmcadloaaa
open Go.RowKit

def PRow (w : World) (a : Option Addr) (l : List Pk) : Prop := RowS w a 2 (l.map pcell)
theorem PRow.below {w w' : World} {a : Option Addr} {l : List Pk} (h : PRow w a l) (hb : Below w.heap.size w w') : PRow w' a l := RowS.below h hb
theorem PRow.len {w : World} {a : Option Addr} {l : List Pk} (h : PRow w a l) : l.length ≤ 9223372036854775807 := by have := RowS.mono_len h; rwa [List.length_map] at this
theorem p_at {w : World} {a : Option Addr} {l : List Pk} (h : PRow w a l) (hp : 0 < l.length) : ∃ b off, a = some ⟨b, off, none⟩ ∧ b < w.heap.size ∧
    ∀ i (hi : i < l.length), w.cell? ⟨b, off + i * 2, none⟩ = some (.int .i64 l[i].w) ∧ w.cell? ⟨b, off + i * 2 + 1, none⟩ = some (.int .i64 l[i].v) := by
  obtain ⟨b, off, ha, hb, hc⟩ := RowS.at_ h (by simpa using hp)
  refine ⟨b, off, ha, hb, fun i hi => ⟨?_, ?_⟩⟩
  · have := hc i (by simpa using hi) 0 (by simp [pcell]); simpa [pcell] using this
  · have := hc i (by simpa using hi) 1 (by simp [pcell]); simpa [pcell] using this
def at_ (l : List Pk) (n : Int) (i : Nat) : Pk := if h : i < l.length then means l[i] n else behind ((i : Int) - l.length) n
theorem box2 {w : World} {g : Nat} {t : TypeId} {a0 a1 : Value} (B : Blk w g t #[a0, a1]) (v0 v1 : Value) : Blk ((w.setCell ⟨g, 0, none⟩ v0).setCell ⟨g, 1, none⟩ v1) g t #[v0, v1] := by
  simpa using (B.set_ 0 v0).set_ 1 v1
theorem below2 {w w' : World} {g : Nat} (h : Below w.heap.size w w') (hg : w.heap.size ≤ g) (v0 v1 : Value) : Below w.heap.size w ((w'.setCell ⟨g, 0, none⟩ v0).setCell ⟨g, 1, none⟩ v1) :=
  (h.setCell (p := ⟨g, 0, none⟩) hg v0).setCell (p := ⟨g, 1, none⟩) hg v1

set_option maxHeartbeats 2000000 in
theorem rat_any (a : Option Addr) (l : List Pk) (len c : Nat) (n : Int) (i : Nat) (w : World) (hr : PRow w a l) (hlen : l.length = len) (hl : ∀ p ∈ l, PkOk p) (hn : 1 ≤ n) (hn2 : n ≤ 64) (hl2 : len ≤ 1000000) (hi : i ≤ 1000000) :
    Calls Try.prog 12 #[.slice a len c, .int .i64 n, .int .i64 i] w (KPost (at_ l n i) w) := by
  have HN := hide hlen
  have HL := hide hl
  clear hlen hl
  obtain ⟨w1, hw1⟩ : ∃ w1, w1 = w.alloc (.cells #[.int .i64 0, .int .i64 0] 29) := ⟨_, rfl⟩
  have B1 : Hid (Blk w1 w.heap.size 29 #[.int .i64 0, .int .i64 0]) := hide (hw1 ▸ Blk.new w 29 _)
  have t1 : Hid (Below w.heap.size w w1) := hide (by rw [hw1]; go_grown)
  have HW1 := hide hw1
  clear hw1
  by_cases h1 : i < len
  · have h1' : i < l.length := by have := HN.out; omega
    have HA : Hid (at_ l n i = means l[i] n) := hide (by unfold at_; rw [dif_pos h1'])
    obtain ⟨b, off, rfl, hb, hc⟩ := p_at hr (by omega)
    obtain ⟨x0, x1⟩ := hc i h1'
    have hok := hide (HL.out _ (List.getElem_mem h1'))
    clear hc
    generalize l[i] = p at x0 x1 HA hok
    go_enter Try.func12, Try.ntmps12
    go_wp2_with fail
    rw [← HW1.out]
    refine (rmeans_any p n w1 hok.out hn hn2).mono ?_
    rintro r w2 ⟨rfl, k2⟩
    generalize means p n = m at HA
    have B2 := hide (B1.out.below k2 B1.out.lt)
    have t2 := hide (below_call (w := w) t1.out k2)
    clear k2 x0 x1
    have c0 := B2.out.cell 0
    have c1 := B2.out.cell 1
    have f0 := B2.out.frozen 0
    have f1 := B2.out.frozen 1
    have B4 := hide (box2 B2.out (.int .i64 m.w) (.int .i64 m.v))
    have t4 := hide (below2 t2.out (Nat.le_refl _) (.int .i64 m.w) (.int .i64 m.v))
    go_wp2
    refine bodyPost_ret (results_cell_row Try.results12 _ _ w.heap.size 29 _ (0, 0) _ rfl B4.out Try.underlying29 rfl (by kernel_rfl)) rfl ?_
    exact kpost HA.out.symm t4.out
  · have h1' : ¬ i < l.length := by have := HN.out; omega
    obtain ⟨k, hk⟩ : ∃ k : Nat, (i : Int) - len = (k : Int) := ⟨i - len, by omega⟩
    have HA : Hid (at_ l n i = behind (k : Int) n) := hide (by unfold at_; rw [dif_neg h1', HN.out, hk])
    have hkb : k ≤ 1000000 := by omega
    have b1 := Int.emod_nonneg (k : Int) (show n ≠ 0 by omega)
    have b2 := Int.emod_lt_of_pos (k : Int) (show 0 < n by omega)
    have HK := hide hk
    have R1 := hide (fun W => rround_any (k : Int) n W hn (by omega) (by omega) (by omega))
    clear hk
    by_cases hn1 : n = 1
    · subst hn1
      have hz : (k : Int) % 1 = 0 := by omega
      rw [show behind (k : Int) 1 = ⟨0, 0⟩ from rfl] at HA
      rw [hz] at R1
      clear hz b1 b2
      go_enter Try.func12, Try.ntmps12
      go_wp2_with fail
      rw [← HW1.out, HK.out]
      refine (R1.out w1).mono ?_
      rintro r w2 ⟨rfl, rfl⟩
      have c0 := B1.out.cell 0
      have c1 := B1.out.cell 1
      have f0 := B1.out.frozen 0
      have f1 := B1.out.frozen 1
      have B4 := hide (box2 B1.out (.int .i64 0) (.int .i64 0))
      have t4 := hide (below2 t1.out (Nat.le_refl _) (.int .i64 0) (.int .i64 0))
      go_wp2
      refine bodyPost_ret (results_cell_row Try.results12 _ _ w.heap.size 29 _ (0, 0) _ rfl B4.out Try.underlying29 rfl (by kernel_rfl)) rfl ?_
      exact kpost (p := ⟨0, 0⟩) HA.out.symm t4.out
    · have hnb : (n == 1) = false := by simpa using hn1
      have d1 : 0 ≤ (k : Int) / n := Int.ediv_nonneg (by omega) (by omega)
      have d2 : (k : Int) / n ≤ k := Int.ediv_le_self n (by omega)
      obtain ⟨q, hq⟩ : ∃ q, q = (k : Int) / n := ⟨_, rfl⟩
      obtain ⟨r, hr'⟩ : ∃ r, r = (k : Int) % n := ⟨_, rfl⟩
      have b3 := Int.emod_nonneg q (show n - 1 ≠ 0 by omega)
      have b4 := Int.emod_lt_of_pos q (show 0 < n - 1 by omega)
      obtain ⟨s, hs⟩ : ∃ s, s = q % (n - 1) := ⟨_, rfl⟩
      rw [show behind (k : Int) n = ⟨r, (r + 1 + s) % n⟩ from by unfold behind; rw [if_neg hn1, hs, hq, hr']] at HA
      have e1 := d1
      have e2 := d2
      rw [← hq] at d1 d2
      rw [← hr'] at b1 b2 R1
      rw [← hs] at b3 b4
      have R2 := hide (fun W => rround_any q (n - 1) W (by omega) (by omega) (by omega) (by omega))
      rw [← hs] at R2
      have R3 := hide (fun W => rround_any (r + 1 + s) n W hn (by omega) (by omega) (by omega))
      have HQ := hide hq
      clear hn1 hq hr' hs
      go_enter Try.func12, Try.ntmps12
      go_wp2_with fail
      rw [← HW1.out, HK.out]
      refine (R1.out w1).mono ?_
      rintro rr w2 ⟨rfl, rfl⟩
      go_wp2_with fail
      rw [← HQ.out]
      refine (R2.out w1).mono ?_
      rintro rr w2 ⟨rfl, rfl⟩
      go_wp2_with fail
      refine (R3.out w1).mono ?_
      rintro rr w2 ⟨rfl, rfl⟩
      generalize (r + 1 + s) % n = z at HA
      have c0 := B1.out.cell 0
      have c1 := B1.out.cell 1
      have f0 := B1.out.frozen 0
      have f1 := B1.out.frozen 1
      have B4 := hide (box2 B1.out (.int .i64 r) (.int .i64 z))
      have t4 := hide (below2 t1.out (Nat.le_refl _) (.int .i64 r) (.int .i64 z))
      go_wp2
      refine bodyPost_ret (results_cell_row Try.results12 _ _ w.heap.size 29 _ (0, 0) _ rfl B4.out Try.underlying29 rfl (by kernel_rfl)) rfl ?_
      exact kpost (p := ⟨r, z⟩) HA.out.symm t4.out
end Go.Proofs.Ytkjmknmcadloaaa
