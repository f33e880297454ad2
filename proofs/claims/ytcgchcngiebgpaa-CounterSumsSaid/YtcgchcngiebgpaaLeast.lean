/- walks of the reference of the layer counter: the least failure. -/
import Derived.Test.YtcgchcngiebgpaaWalks
namespace Go.Proofs.Ytcgchcngiebgpaa
open Go.RowKit

theorem right_any (n e : Int) (w : World) :
    Calls Try.prog 13 #[.agg #[.int .i64 n, .int .i64 e]] w fun r w' => r = .returned (.bool (right n e)) ∧ Below w.heap.size w w' := by
  by_cases h1 : 0 ≤ n
  · by_cases h2 : n < 65536
    · by_cases h3 : 1 ≤ e
      · by_cases h4 : e ≤ 255
        all_goals
          go_enter Try.func13, Try.ntmps13
          go_wp2
          go_returns
          exact ⟨by simp [right, h1, h2, h3, h4], by go_grown⟩
      · go_enter Try.func13, Try.ntmps13
        go_wp2
        go_returns
        exact ⟨by rw [show right n e = false from by simp [right]; omega]; rfl, by go_grown⟩
    · go_enter Try.func13, Try.ntmps13
      go_wp2
      go_returns
      exact ⟨by rw [show right n e = false from by simp [right]; omega]; rfl, by go_grown⟩
  · go_enter Try.func13, Try.ntmps13
    go_wp2
    go_returns
    exact ⟨by rw [show right n e = false from by simp [right]; omega]; rfl, by go_grown⟩
theorem right_eq (n e : Int) (w : World) {b : Bool} (hb : right n e = b) :
    Calls Try.prog 13 #[.agg #[.int .i64 n, .int .i64 e]] w fun r w' => r = .returned (.bool b) ∧ Below w.heap.size w w' := by
  subst hb; exact right_any n e w

/-- The least of two by the document: nothing held is (0, 0). -/
def lst (p f : Int × Int) : Int × Int := if right f.1 f.2 = true ∧ (p.2 = 0 ∨ f.1 < p.1 ∨ (f.1 = p.1 ∧ f.2 < p.2)) then f else p

def prs (l : List (Int × Int)) : List (List Value) := l.map fun p => [.int .i64 p.1, .int .i64 p.2]
theorem prs_len (l : List (Int × Int)) : (prs l).length = l.length := by simp [prs]
theorem prs_at {w : World} {a : Option Addr} {l : List (Int × Int)} (h : RowS w a 2 (prs l)) (hp : 0 < l.length) : ∃ b off, a = some ⟨b, off, none⟩ ∧ b < w.heap.size ∧
    ∀ i (hi : i < l.length), w.cell? ⟨b, off + i * 2, none⟩ = some (.int .i64 l[i].1) ∧ w.cell? ⟨b, off + i * 2 + 1, none⟩ = some (.int .i64 l[i].2) := by
  obtain ⟨b, off, ha, hb, hc⟩ := h.2 (by rw [prs_len]; exact hp)
  refine ⟨b, off, ha, hb, fun i hi => ⟨?_, ?_⟩⟩
  · have := hc i (by rw [prs_len]; exact hi) 0 (by simp [prs])
    simpa [prs] using this
  · have := hc i (by rw [prs_len]; exact hi) 1 (by simp [prs])
    simpa [prs] using this

set_option maxHeartbeats 2000000 in
theorem ref_least_any (a : Option Addr) (l : List (Int × Int)) (n cap : Nat) (w : World) (h : RowS w a 2 (prs l)) (hn : n = l.length) :
    Calls Try.prog 11 #[.slice a n cap] w fun r w' => r = .returned (.agg #[.int .i64 (l.foldl lst (0, 0)).1, .int .i64 (l.foldl lst (0, 0)).2]) ∧ Below w.heap.size w w' := by
  subst hn
  have hl : l.length ≤ 9223372036854775807 := by have := h.1; rwa [prs_len] at this
  go_enter Try.func11, Try.ntmps11
  go_wp2
  go_loopw [4] (fun i wr => ∃ (k : Nat) (x y : Int), k ≤ l.length ∧ i = .int .i64 k ∧ (x, y) = (l.take k).foldl lst (0, 0) ∧ Blk wr w.heap.size 34 #[.int .i64 0, .int .i64 0] ∧ Blk wr (w.heap.size + 1) 34 #[.int .i64 x, .int .i64 y] ∧ Below w.heap.size w wr)
    (fun i _ => l.length - (intOf i).toNat)
  case atStart => exact ⟨0, 0, 0, Nat.zero_le _, rfl, rfl, (Blk.new w _ _).alloc _, by simpa using Blk.new (w.alloc _) 34 #[.int .i64 0, .int .i64 0], by go_grown⟩
  case round =>
    obtain ⟨k, x, y, hk, rfl, hp, hb0, hb1, hbel⟩ := hrel
    have hp' := hide hp; clear hp
    have c0 : wr.cell? ⟨w.heap.size + 1, 0, none⟩ = some (.int .i64 x) := hb1.cell 0
    have c1 : wr.cell? ⟨w.heap.size + 1, 1, none⟩ = some (.int .i64 y) := hb1.cell 1
    have f0 := hb1.frozen 0
    have f1 := hb1.frozen 1
    have d0 : wr.cell? ⟨w.heap.size, 0, none⟩ = some (.int .i64 0) := hb0.cell 0
    have d1 : wr.cell? ⟨w.heap.size, 1, none⟩ = some (.int .i64 0) := hb0.cell 1
    have g0 := hb0.frozen 0
    have g1 := hb0.frozen 1
    have hs1 := hb1.lt
    have sz := hbel.size
    by_cases hlt : k < l.length
    · obtain ⟨b, off, rfl, hbw, hcell⟩ := prs_at h (by omega)
      obtain ⟨⟨u, v⟩, huv⟩ : ∃ q, l[k] = q := ⟨_, rfl⟩
      have hc0 := (hbel.cell (p := ⟨b, off + k * 2, none⟩) hbw).trans ((hcell k hlt).1.trans (by rw [huv]))
      have hc1 := (hbel.cell (p := ⟨b, off + k * 2 + 1, none⟩) hbw).trans ((hcell k hlt).2.trans (by rw [huv]))
      have huv' := hide huv
      clear hcell huv
      have E0 := keepc (p := ⟨b, off + k * 2, none⟩) (by simp; omega) hc0
      have E1 := keepc (p := ⟨b, off + k * 2 + 1, none⟩) (by simp; omega) hc1
      have C0 := keepc (p := ⟨w.heap.size + 1, 0, none⟩) hs1 c0
      have C1 := keepc (p := ⟨w.heap.size + 1, 1, none⟩) hs1 c1
      have F0 := keepf (p := ⟨w.heap.size + 1, 0, none⟩) hs1 f0
      have F1 := keepf (p := ⟨w.heap.size + 1, 1, none⟩) hs1 f1
      cases hr : right u v
      · go_wp2_with fail
        refine Reg.region (by kernel_rfl) 40 [4] (fun _ w' => Below wr.heap.size wr w') (by kernel_rfl) (by kernel_rfl) (Below.refl _ _).drew ?_
        iterate 4
          refine Reg.WT.yield (v := ?_) rfl rfl ?_ ?_
          rotate_left
          · intro w' _ hS; go_simp; (try go_bits); (first | rfl | rw [if_pos (by omega)])
          simp only [Act.put, List.setIfInBounds_toArray, List.set_cons_zero, List.set_cons_succ]
        refine Reg.WT.call (v := ?_) (f := ?_) (args := ?_) rfl rfl ?_ ?_ ?_
        rotate_left 3
        · intro w2; go_simp; exact ⟨by rfl, by rfl⟩
        · intro w2 hS; refine (right_eq _ _ _ hr).mono ?_; rintro e w3 ⟨rfl, hb⟩; exact ⟨by rfl, hS.trans (hb.mono hS.size)⟩
        simp only [Act.put, List.setIfInBounds_toArray, List.set_cons_zero, List.set_cons_succ]
        iterate 35
          first
            | refine Reg.WT.idle rfl rfl ?_
            | (refine Reg.WT.yield (v := ?_) rfl rfl ?_ ?_
               rotate_left
               · intro w' _ hS; go_simp; (try go_bits); (first | rfl | rw [if_pos (by omega)]))
          simp only [Act.put, List.setIfInBounds_toArray, List.set_cons_zero, List.set_cons_succ]
        intro w2 hS
        have b0 := hb0.below hS (Nat.lt_trans (Nat.lt_succ_self _) hs1)
        have b1 := hb1.below hS hs1
        have t2 := below_call (w := w) hbel hS
        go_wp2
        go_roundw
        case measure => simp [intOf]; omega
        case rel =>
          refine ⟨k + 1, x, y, hlt, by go_num, ?_, b0, b1, t2⟩
          rw [List.take_succ_eq_append_getElem hlt, List.foldl_append, ← hp'.out, huv'.out]
          simp only [List.foldl_cons, List.foldl_nil, lst]
          rw [if_neg (by rintro ⟨h1, _⟩; rw [hr] at h1; cases h1)]
      by_cases q1 : y = 0
      · subst q1
        go_wp2_with fail
        refine Reg.region (by kernel_rfl) 40 [4] (fun _ w' => Below wr.heap.size wr w') (by kernel_rfl) (by kernel_rfl) (Below.refl _ _).drew ?_
        iterate 4
          refine Reg.WT.yield (v := ?_) rfl rfl ?_ ?_
          rotate_left
          · intro w' _ hS; go_simp; (try go_bits); (first | rfl | rw [if_pos (by omega)])
          simp only [Act.put, List.setIfInBounds_toArray, List.set_cons_zero, List.set_cons_succ]
        refine Reg.WT.call (v := ?_) (f := ?_) (args := ?_) rfl rfl ?_ ?_ ?_
        rotate_left 3
        · intro w2; go_simp; exact ⟨by rfl, by rfl⟩
        · intro w2 hS; refine (right_eq _ _ _ hr).mono ?_; rintro e w3 ⟨rfl, hb⟩; exact ⟨by rfl, hS.trans (hb.mono hS.size)⟩
        simp only [Act.put, List.setIfInBounds_toArray, List.set_cons_zero, List.set_cons_succ]
        iterate 35
          first
            | refine Reg.WT.idle rfl rfl ?_
            | (refine Reg.WT.yield (v := ?_) rfl rfl ?_ ?_
               rotate_left
               · intro w' _ hS; go_simp; (try go_bits); (first | rfl | rw [if_pos (by omega)]))
          simp only [Act.put, List.setIfInBounds_toArray, List.set_cons_zero, List.set_cons_succ]
        intro w2 hS
        have b0 := hb0.below hS (Nat.lt_trans (Nat.lt_succ_self _) hs1)
        have b1 := hb1.below hS hs1
        have t2 := below_call (w := w) hbel hS
        go_wp2
        go_roundw
        case measure => simp [intOf]; omega
        case rel =>
          refine ⟨k + 1, u, v, hlt, by go_num, ?_, ((b0.far (by simp) _).far (by simp) _), (b1.set_ 0 _).set_ 1 _, ((t2.setCell (by simp) _).setCell (by simp) _)⟩
          rw [List.take_succ_eq_append_getElem hlt, List.foldl_append, ← hp'.out, huv'.out]
          simp only [List.foldl_cons, List.foldl_nil, lst]
          rw [if_pos (⟨hr, by simp⟩)]
      have q1' : (y == 0) = false := by simpa using q1
      by_cases q2 : u < x
      · go_wp2_with fail
        refine Reg.region (by kernel_rfl) 40 [4] (fun _ w' => Below wr.heap.size wr w') (by kernel_rfl) (by kernel_rfl) (Below.refl _ _).drew ?_
        iterate 4
          refine Reg.WT.yield (v := ?_) rfl rfl ?_ ?_
          rotate_left
          · intro w' _ hS; go_simp; (try go_bits); (first | rfl | rw [if_pos (by omega)])
          simp only [Act.put, List.setIfInBounds_toArray, List.set_cons_zero, List.set_cons_succ]
        refine Reg.WT.call (v := ?_) (f := ?_) (args := ?_) rfl rfl ?_ ?_ ?_
        rotate_left 3
        · intro w2; go_simp; exact ⟨by rfl, by rfl⟩
        · intro w2 hS; refine (right_eq _ _ _ hr).mono ?_; rintro e w3 ⟨rfl, hb⟩; exact ⟨by rfl, hS.trans (hb.mono hS.size)⟩
        simp only [Act.put, List.setIfInBounds_toArray, List.set_cons_zero, List.set_cons_succ]
        iterate 35
          first
            | refine Reg.WT.idle rfl rfl ?_
            | (refine Reg.WT.yield (v := ?_) rfl rfl ?_ ?_
               rotate_left
               · intro w' _ hS; go_simp; (try go_bits); (first | rfl | rw [if_pos (by omega)]))
          simp only [Act.put, List.setIfInBounds_toArray, List.set_cons_zero, List.set_cons_succ]
        intro w2 hS
        have b0 := hb0.below hS (Nat.lt_trans (Nat.lt_succ_self _) hs1)
        have b1 := hb1.below hS hs1
        have t2 := below_call (w := w) hbel hS
        go_wp2
        go_roundw
        case measure => simp [intOf]; omega
        case rel =>
          refine ⟨k + 1, u, v, hlt, by go_num, ?_, ((b0.far (by simp) _).far (by simp) _), (b1.set_ 0 _).set_ 1 _, ((t2.setCell (by simp) _).setCell (by simp) _)⟩
          rw [List.take_succ_eq_append_getElem hlt, List.foldl_append, ← hp'.out, huv'.out]
          simp only [List.foldl_cons, List.foldl_nil, lst]
          rw [if_pos (⟨hr, by omega⟩)]
      by_cases q3 : u = x
      · subst q3
        by_cases q4 : v < y
        · go_wp2_with fail
          refine Reg.region (by kernel_rfl) 40 [4] (fun _ w' => Below wr.heap.size wr w') (by kernel_rfl) (by kernel_rfl) (Below.refl _ _).drew ?_
          iterate 4
            refine Reg.WT.yield (v := ?_) rfl rfl ?_ ?_
            rotate_left
            · intro w' _ hS; go_simp; (try go_bits); (first | rfl | rw [if_pos (by omega)])
            simp only [Act.put, List.setIfInBounds_toArray, List.set_cons_zero, List.set_cons_succ]
          refine Reg.WT.call (v := ?_) (f := ?_) (args := ?_) rfl rfl ?_ ?_ ?_
          rotate_left 3
          · intro w2; go_simp; exact ⟨by rfl, by rfl⟩
          · intro w2 hS; refine (right_eq _ _ _ hr).mono ?_; rintro e w3 ⟨rfl, hb⟩; exact ⟨by rfl, hS.trans (hb.mono hS.size)⟩
          simp only [Act.put, List.setIfInBounds_toArray, List.set_cons_zero, List.set_cons_succ]
          iterate 35
            first
              | refine Reg.WT.idle rfl rfl ?_
              | (refine Reg.WT.yield (v := ?_) rfl rfl ?_ ?_
                 rotate_left
                 · intro w' _ hS; go_simp; (try go_bits); (first | rfl | rw [if_pos (by omega)]))
            simp only [Act.put, List.setIfInBounds_toArray, List.set_cons_zero, List.set_cons_succ]
          intro w2 hS
          have b0 := hb0.below hS (Nat.lt_trans (Nat.lt_succ_self _) hs1)
          have b1 := hb1.below hS hs1
          have t2 := below_call (w := w) hbel hS
          go_wp2
          go_roundw
          case measure => simp [intOf]; omega
          case rel =>
            refine ⟨k + 1, u, v, hlt, by go_num, ?_, ((b0.far (by simp) _).far (by simp) _), (b1.set_ 0 _).set_ 1 _, ((t2.setCell (by simp) _).setCell (by simp) _)⟩
            rw [List.take_succ_eq_append_getElem hlt, List.foldl_append, ← hp'.out, huv'.out]
            simp only [List.foldl_cons, List.foldl_nil, lst]
            rw [if_pos (⟨hr, by simp; omega⟩)]
        · go_wp2_with fail
          refine Reg.region (by kernel_rfl) 40 [4] (fun _ w' => Below wr.heap.size wr w') (by kernel_rfl) (by kernel_rfl) (Below.refl _ _).drew ?_
          iterate 4
            refine Reg.WT.yield (v := ?_) rfl rfl ?_ ?_
            rotate_left
            · intro w' _ hS; go_simp; (try go_bits); (first | rfl | rw [if_pos (by omega)])
            simp only [Act.put, List.setIfInBounds_toArray, List.set_cons_zero, List.set_cons_succ]
          refine Reg.WT.call (v := ?_) (f := ?_) (args := ?_) rfl rfl ?_ ?_ ?_
          rotate_left 3
          · intro w2; go_simp; exact ⟨by rfl, by rfl⟩
          · intro w2 hS; refine (right_eq _ _ _ hr).mono ?_; rintro e w3 ⟨rfl, hb⟩; exact ⟨by rfl, hS.trans (hb.mono hS.size)⟩
          simp only [Act.put, List.setIfInBounds_toArray, List.set_cons_zero, List.set_cons_succ]
          iterate 35
            first
              | refine Reg.WT.idle rfl rfl ?_
              | (refine Reg.WT.yield (v := ?_) rfl rfl ?_ ?_
                 rotate_left
                 · intro w' _ hS; go_simp; (try go_bits); (first | rfl | rw [if_pos (by omega)]))
            simp only [Act.put, List.setIfInBounds_toArray, List.set_cons_zero, List.set_cons_succ]
          intro w2 hS
          have b0 := hb0.below hS (Nat.lt_trans (Nat.lt_succ_self _) hs1)
          have b1 := hb1.below hS hs1
          have t2 := below_call (w := w) hbel hS
          go_wp2
          go_roundw
          case measure => simp [intOf]; omega
          case rel =>
            refine ⟨k + 1, u, y, hlt, by go_num, ?_, b0, b1, t2⟩
            rw [List.take_succ_eq_append_getElem hlt, List.foldl_append, ← hp'.out, huv'.out]
            simp only [List.foldl_cons, List.foldl_nil, lst]
            rw [if_neg (by rintro ⟨_, hh⟩; omega)]
      · have q3' : (u == x) = false := by simpa using q3
        have q2' : decide (u < x) = false := by simpa using q2
        go_wp2_with fail
        refine Reg.region (by kernel_rfl) 40 [4] (fun _ w' => Below wr.heap.size wr w') (by kernel_rfl) (by kernel_rfl) (Below.refl _ _).drew ?_
        iterate 4
          refine Reg.WT.yield (v := ?_) rfl rfl ?_ ?_
          rotate_left
          · intro w' _ hS; go_simp; (try go_bits); (first | rfl | rw [if_pos (by omega)])
          simp only [Act.put, List.setIfInBounds_toArray, List.set_cons_zero, List.set_cons_succ]
        refine Reg.WT.call (v := ?_) (f := ?_) (args := ?_) rfl rfl ?_ ?_ ?_
        rotate_left 3
        · intro w2; go_simp; exact ⟨by rfl, by rfl⟩
        · intro w2 hS; refine (right_eq _ _ _ hr).mono ?_; rintro e w3 ⟨rfl, hb⟩; exact ⟨by rfl, hS.trans (hb.mono hS.size)⟩
        simp only [Act.put, List.setIfInBounds_toArray, List.set_cons_zero, List.set_cons_succ]
        iterate 35
          first
            | refine Reg.WT.idle rfl rfl ?_
            | (refine Reg.WT.yield (v := ?_) rfl rfl ?_ ?_
               rotate_left
               · intro w' _ hS; go_simp; (try go_bits); (first | rfl | rw [if_pos (by omega)]))
          simp only [Act.put, List.setIfInBounds_toArray, List.set_cons_zero, List.set_cons_succ]
        intro w2 hS
        have b0 := hb0.below hS (Nat.lt_trans (Nat.lt_succ_self _) hs1)
        have b1 := hb1.below hS hs1
        have t2 := below_call (w := w) hbel hS
        go_wp2
        go_roundw
        case measure => simp [intOf]; omega
        case rel =>
          refine ⟨k + 1, x, y, hlt, by go_num, ?_, b0, b1, t2⟩
          rw [List.take_succ_eq_append_getElem hlt, List.foldl_append, ← hp'.out, huv'.out]
          simp only [List.foldl_cons, List.foldl_nil, lst]
          rw [if_neg (by rintro ⟨_, hh⟩; omega)]
    · have : k = l.length := by omega
      subst this
      have R0 : ((wr.setCell ⟨w.heap.size, 0, none⟩ (.int .i64 x)).setCell ⟨w.heap.size, 1, none⟩ (.int .i64 y)).cell? ⟨w.heap.size, 0, none⟩ = some (.int .i64 x) := ((hb0.set_ 0 _).set_ 1 _).cell 0
      have R1 : ((wr.setCell ⟨w.heap.size, 0, none⟩ (.int .i64 x)).setCell ⟨w.heap.size, 1, none⟩ (.int .i64 y)).cell? ⟨w.heap.size, 1, none⟩ = some (.int .i64 y) := ((hb0.set_ 0 _).set_ 1 _).cell 1
      go_wp2
      refine bodyPost_ret (v := .agg #[.int .i64 x, .int .i64 y]) (by simp [results, Try.results11, go_sem, R0, R1]) rfl ⟨?_, ?_⟩
      · have := hp'.out
        rw [List.take_length] at this
        rw [← this]
      · exact (hbel.setCell (by simp) _).setCell (by simp) _
end Go.Proofs.Ytcgchcngiebgpaa
