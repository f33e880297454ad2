/- The walk of TableOrders. -/
import Derived.Test.YtoannafiemnijaaOrdersLaw
import Derived.Test.YtoannafiemnijaaStaysWalk
import Derived.BigRegion
namespace Go.Proofs.Ytoannafiemnijaa
open Go.RowKit

def u16s (l : List Int) : List Value := l.map (Value.int .u16)
theorem row_u16 {w : World} {a : Option Addr} {l : List Int} (h : Row w a (u16s l)) (hp : 0 < l.length) : ∃ b off, a = some ⟨b, off, none⟩ ∧ b < w.heap.size ∧
    ∀ i (hi : i < l.length), w.cell? ⟨b, off + i, none⟩ = some (.int .u16 l[i]) := by
  obtain ⟨b, off, ha, hb, hc⟩ := h.2 (by simpa [u16s] using hp)
  refine ⟨b, off, ha, hb, fun i hi => ?_⟩
  have := hc i (by simpa [u16s] using hi)
  simpa [u16s] using this
theorem wf_u16 {l : List Int} (hw : ∀ n ∈ l, (Lit.int .u16 n).wf = true) : ∀ x ∈ l, 0 ≤ x ∧ x ≤ 65535 := fun x hx => by
  have := hw x hx
  simpa [Lit.wf, IntKind.min, IntKind.max, IntKind.signed, IntKind.bits] using this
def part (N k : Nat) : List Int := (List.range k).map (fun i : Nat => (i : Int)) ++ List.replicate (N - k) 0
theorem part_len (N k : Nat) (h : k ≤ N) : (part N k).length = N := by unfold part; simp; omega
theorem part_set {N k : Nat} (h : k < N) : (part N k).set k k = part N (k + 1) := by
  unfold part
  apply List.ext_getElem
  · simp; omega
  · intro i h1 h2
    simp only [List.length_set, List.length_append, List.length_replicate, List.length_map, List.length_range] at h1
    rw [List.getElem_set]
    simp only [List.getElem_append, List.length_replicate, List.getElem_replicate, List.length_map, List.length_range, List.getElem_map, List.getElem_range]
    rcases Nat.lt_trichotomy i k with h | h | h
    · rw [if_neg (by omega), dif_pos h, dif_pos (by omega)]
    · rw [if_pos (by omega), dif_pos (by omega)]; omega
    · rw [if_neg (by omega), dif_neg (by omega), dif_neg (by omega)]
theorem part_full (N : Nat) : part N N = lst (fun i => i) N := by simp [part, lst]

set_option maxHeartbeats 4000000 in
set_option maxRecDepth 100000 in
theorem orders_most (w : World) (a0 : Option Addr) (l : List (Int × ByteArray)) (cap : Nat) (hr : RowS w a0 2 (l.map pc)) (hl : l.length ≤ 200)
    (a1 : Option Addr) (m : List Int) (cap1 : Nat) (hr1 : Row w a1 (u16s m)) (hw1 : ∀ n ∈ m, (Lit.int .u16 n).wf = true) (hm : m.length ≤ 400) :
    Calls Try.prog 5 #[.slice a0 l.length cap, .slice a1 m.length cap1] w fun e w' => e = .returned (.bool true) ∧ Below w.heap.size w w' := by
  obtain ⟨i0, hi, hz0, hz1, hz2⟩ := info_parts info3
  have HW1 := hide (wf_u16 hw1)
  obtain ⟨N, hN⟩ : ∃ N, N = l.length := ⟨_, rfl⟩
  have HN := hide hN
  rw [← hN] at hl ⊢
  clear hw1 hN
  have hmk := fun W => run_make1 (P := Try.prog) 47 3 Try.underlying47 hi hz0 hz1 rfl hz2 N (by omega) (by omega) W
  go_enter Try.func5, Try.ntmps5
  go_wp2_with fail
  have B2 := Blk.new w 3 (List.replicate N (Value.int .i64 0)).toArray
  have t2 : Below w.heap.size w (w.alloc (.cells (List.replicate N (Value.int .i64 0)).toArray 3)) := by go_grown
  have h0 : (List.replicate N (Value.int .i64 0)) = ints (part N 0) := by simp [part, ints]
  rw [h0] at B2 t2
  rw [show Array.replicate N (Value.int .i64 0) = (ints (part N 0)).toArray from by rw [← List.toArray_replicate, h0]]
  have B2 := hide B2
  have t2 := hide t2
  clear h0
  go_loopw [6] (fun i wr => ∃ k : Nat, k ≤ N ∧ i = .int .i64 k ∧ Blk wr w.heap.size 3 (ints (part N k)).toArray ∧ Below w.heap.size w wr) (fun i _ => N - (intOf i).toNat)
  case atStart => exact ⟨0, Nat.zero_le _, rfl, B2.out, t2.out⟩
  case round =>
    clear B2 t2
    obtain ⟨k, hk, rfl, B, hbel⟩ := hrel
    by_cases hlt : k < N
    · have c0 := blk_int (i := k) B (by rw [part_len _ _ hk]; exact hlt)
      have f0 := B.frozen k
      have B' := hide (blk_int_set B k k)
      rw [part_set hlt] at B'
      have t' := hide (hbel.setCell (p := ⟨w.heap.size, k, none⟩) (by simp) (.int .i64 k))
      generalize (part N k)[k]'(by rw [part_len _ _ hk]; exact hlt) = x at c0
      go_wp2
      go_roundw
      case rel => exact ⟨k + 1, hlt, by go_num, B'.out, t'.out⟩
      case measure => simp [intOf]; omega
    · obtain rfl : k = N := by omega
      obtain ⟨wo, rfl⟩ : ∃ wo : World, wo = wr := ⟨_, rfl⟩
      rw [part_full] at B
      have B := hide B
      have t := hide hbel
      clear hbel hmk
      go_wp2_with fail
      go_loopw [7] (fun i wr => ∃ (q : Nat) (f : Nat → Nat), q ≤ m.length + 1 ∧ i = .int .i64 q ∧ Inj k f ∧ Blk wr w.heap.size 3 (ints (lst f k)).toArray ∧ Below w.heap.size w wr) (fun i _ => m.length + 1 - (intOf i).toNat)
      case atStart => exact ⟨0, _, Nat.zero_le _, rfl, Inj.id k, B.out, t.out⟩
      case round =>
        clear B t
        obtain ⟨q, f, hq, rfl, HI, B, hbel⟩ := hrel
        have HI := hide HI
        have B := hide B
        have t := hide hbel
        by_cases hlt : q + 1 < m.length ∧ 0 < k
        · obtain ⟨hlt1, hkp⟩ := hlt
          obtain ⟨b, off, rfl, hbw, hcell⟩ := row_u16 hr1 (by omega)
          have x0 := (hbel.cell (p := ⟨b, off + q, none⟩) hbw).trans (hcell q (by omega))
          have x1 := (hbel.cell (p := ⟨b, off + (q + 1), none⟩) hbw).trans (hcell (q + 1) (by omega))
          obtain ⟨hx0, hx1⟩ := HW1.out m[q] (List.getElem_mem (by omega))
          obtain ⟨hy0, hy1⟩ := HW1.out m[q + 1] (List.getElem_mem (by omega))
          obtain ⟨c, hc⟩ := Int.eq_ofNat_of_zero_le hx0
          obtain ⟨d, hd⟩ := Int.eq_ofNat_of_zero_le hy0
          rw [hc] at x0 hx0 hx1
          rw [hd] at x1 hy0 hy1
          obtain ⟨i, hi⟩ : ∃ i, i = c % k := ⟨_, rfl⟩
          obtain ⟨j, hj⟩ : ∃ j, j = d % k := ⟨_, rfl⟩
          have hik : i < k := by rw [hi]; exact Nat.mod_lt _ hkp
          have hjk : j < k := by rw [hj]; exact Nat.mod_lt _ hkp
          have hii : (c : Int) % (k : Int) = (i : Int) := by rw [hi, Int.natCast_emod]
          have hjj : (d : Int) % (k : Int) = (j : Int) := by rw [hj, Int.natCast_emod]
          have c0 := blk_int (i := i) B.out (by rw [lst_len]; exact hik)
          have c1 := blk_int (i := j) B.out (by rw [lst_len]; exact hjk)
          rw [lst_get] at c0 c1
          have f0 := B.out.frozen i
          have f1 := B.out.frozen j
          clear hcell hc hd hi hj
          go_wp2_with fail
          simp only [hii, hjj]
          clear hii hjj x0 x1 hx0 hx1 hy0 hy1
          have B1 := hide (blk_int_set B.out i (f j))
          have B2 := hide (blk_int_set B1.out j (f i))
          rw [lst_swap] at B2
          have t2 := hide ((t.out.setCell (p := ⟨w.heap.size, i, none⟩) (by simp) (.int .i64 (f j))).setCell (p := ⟨w.heap.size, j, none⟩) (by simp) (.int .i64 (f i)))
          have c2 := blk_int (i := j) B1.out (by rw [List.length_set, lst_len]; exact hjk)
          have f2 := B1.out.frozen j
          generalize ((lst f k).set i (f j))[j]'(by rw [List.length_set, lst_len]; exact hjk) = z at c2
          go_region
          go_wp2
          go_roundw
          case rel => exact ⟨q + 2, swap f i j, by omega, by go_num, HI.out.swap hik hjk, B2.out.drew, t2.out.drew⟩
          case measure => simp [intOf]; omega
        · have hno : m.length ≤ q + 1 ∨ k = 0 := by omega
          have HL := hide (pub_left (l := l) HI.out)
          obtain ⟨wo, rfl⟩ : ∃ wo : World, wo = wr := ⟨_, rfl⟩
          have hlk : Hid (l.length = k) := hide HN.out.symm
          have key : ∀ (b1 : Bool), b1 = false → True := fun _ _ => trivial
          clear hlt key hbel
          have go_on : True := trivial
          rcases Nat.lt_or_ge (q + 1) m.length with hq1 | hq1
          · obtain rfl : k = 0 := by omega
            clear hno
            go_wp2_with fail
            refine (newP_ok 0 wo (by omega)).mono ?_
            rintro r w1 ⟨gt, gm, gc, rfl, T1, u1, u2, u3, k1⟩
            have t1 := hide (below_call t.out k1)
            have T1 := hide T1
            have B1 := hide (B.out.below k1 B.out.lt)
            have hB := B.out.lt
            have s1 := t.out.size
            clear k1 B t
            go_wp2_with fail
            go_loopw [12] (fun i wr => ∃ c : Nat, c ≤ 0 ∧ i = .int .i64 c ∧ Tab kP wr gt gm gc 0 (pub l f c) ∧ Blk wr w.heap.size 3 (ints (lst f 0)).toArray ∧ Below w.heap.size w wr) (fun i _ => 0 - (intOf i).toNat)
            case atStart => exact ⟨0, Nat.zero_le _, rfl, T1.out, B1.out, t1.out⟩
            case round =>
              clear T1 B1 t1
              obtain ⟨c, hc, rfl, T, B, hbel⟩ := hrel
              have T := hide T
              have B := hide B
              have t := hide hbel
              by_cases hlt : c < 0
              · try (exfalso; omega)
                all_goals
                  have hfl := HI.out.lt c hlt
                  obtain ⟨b, off, rfl, hbw, hcell⟩ := pc_at (hr.below hbel) (by have := hlk.out; omega)
                  obtain ⟨y0, y1⟩ := hcell (f c) (by have := hlk.out; omega)
                  clear hcell
                  obtain ⟨e1, e2⟩ := pub_next HI.out hlk.out hlt (by have := hlk.out; omega)
                  have P := hide (fun (W : World) (hT : Tab kP W gt gm gc 0 (pub l f c)) => put_at (w := W) (v := l[f c]'(by have := hlk.out; omega)) hT e1 e2)
                  have hlf := HL.out c (by omega)
                  have c0 := blk_int (i := c) B.out (by rw [lst_len]; exact hlt)
                  rw [lst_get] at c0
                  have hpos : 0 < left (pub l f c) 0 := by omega
                  have S := hide (all_short_P gt gm gc 0 _ wr T.out hpos)
                  generalize l[f c]'(by have := hlk.out; omega) = v at y0 y1 P
                  clear e1 e2 hlf hpos
                  go_wp2_with fail
                  refine S.out.mono ?_
                  rintro r w3 ⟨rfl, rfl⟩
                  clear S
                  go_wp2_with fail
                  have d0 := keepd c0
                  have d1 := keepd y0
                  have d2 := keepd y1
                  clear c0 y0 y1
                  refine Reg.region (by kernel_rfl) 15 [] (fun _ w' => w' = wr.drew) (by kernel_rfl) (by kernel_rfl) rfl ?_
                  iterate 15
                    refine Reg.WT.yield (v := ?_) rfl rfl ?_ ?_
                    rotate_left
                    · intro w' _ hS; go_simp; (try go_bits); (first | rfl | rw [if_pos (by omega)])
                    simp only [Act.put, List.setIfInBounds_toArray, List.set_cons_zero, List.set_cons_succ]
                  intro w4 hS
                  subst hS
                  clear d0 d1 d2
                  go_wp2_with fail
                  refine (P.out _ (T.out.below (Below.refl _ _).drew)).mono ?_
                  rintro r w5 ⟨rfl, T5, k5⟩
                  have t5 := hide (below_foot t.out.drew k5 (by intro x hx; simp at hx; omega))
                  have B5 := hide (B.out.drew.foot k5 (by simp; omega))
                  clear k5
                  go_wp2
                  go_roundw
                  case rel => exact ⟨c + 1, hlt, by go_num, T5, B5.out, t5.out⟩
                  case measure => simp [intOf]; omega
              · obtain rfl : c = 0 := by omega
                have hpa := pub_all (l := l) (f := f) (by rw [hlk.out]; exact HI.out)
                rw [hlk.out] at hpa
                have PA := hide hpa
                clear hpa
                go_wp2_with fail
                refine (all_full_P gt gm gc _ _ wr T.out PA.out.1).mono ?_
                rintro r w3 ⟨v, rfl, own, k3⟩
                rw [PA.out.2, hlk.out] at own
                obtain ⟨a, cp, rfl, _, _, _, hG⟩ := own_rowG (pc_len _) (by decide) own
                have t3 := hide (below_call t.out k3)
                have T3 := hide (T.out.below k3)
                have HG := hide hG
                have LT := hide (left_at (x := 0) T3.out (by rw [PA.out.1]; rfl))
                clear own hG k3 t T
                go_wp2_with fail
                refine (same_eq _ _ _ _ _ l w3 HG.out.1 (hr.below t3.out) hlk.out).mono ?_
                rintro r w4 ⟨rfl, k4⟩
                have t4 := hide (below_call t3.out k4)
                have T4 := hide (T3.out.below k4)
                clear k4 LT
                go_wp2_with fail
                refine (left_at (x := 0) T4.out (by rw [PA.out.1]; rfl)).mono ?_
                rintro r w5 ⟨rfl, k5⟩
                have t5 := hide (below_call t4.out k5)
                clear k5
                go_wp2_with fail
                refine (works_any _).mono ?_
                rintro e w9 ⟨rfl, k9⟩
                have t9 := hide (below_call t5.out k9)
                clear k9
                go_wp2
                go_returns
                exact ⟨rfl, t9.out⟩
          · clear hno
            go_wp2_with fail
            refine (newP_ok k wo (by omega)).mono ?_
            rintro r w1 ⟨gt, gm, gc, rfl, T1, u1, u2, u3, k1⟩
            have t1 := hide (below_call t.out k1)
            have T1 := hide T1
            have B1 := hide (B.out.below k1 B.out.lt)
            have hB := B.out.lt
            have s1 := t.out.size
            clear k1 B t
            go_wp2_with fail
            go_loopw [12] (fun i wr => ∃ c : Nat, c ≤ k ∧ i = .int .i64 c ∧ Tab kP wr gt gm gc k (pub l f c) ∧ Blk wr w.heap.size 3 (ints (lst f k)).toArray ∧ Below w.heap.size w wr) (fun i _ => k - (intOf i).toNat)
            case atStart => exact ⟨0, Nat.zero_le _, rfl, T1.out, B1.out, t1.out⟩
            case round =>
              clear T1 B1 t1
              obtain ⟨c, hc, rfl, T, B, hbel⟩ := hrel
              have T := hide T
              have B := hide B
              have t := hide hbel
              by_cases hlt : c < k
              · try (exfalso; omega)
                all_goals
                  have hfl := HI.out.lt c hlt
                  obtain ⟨b, off, rfl, hbw, hcell⟩ := pc_at (hr.below hbel) (by have := hlk.out; omega)
                  obtain ⟨y0, y1⟩ := hcell (f c) (by have := hlk.out; omega)
                  clear hcell
                  obtain ⟨e1, e2⟩ := pub_next HI.out hlk.out hlt (by have := hlk.out; omega)
                  have P := hide (fun (W : World) (hT : Tab kP W gt gm gc k (pub l f c)) => put_at (w := W) (v := l[f c]'(by have := hlk.out; omega)) hT e1 e2)
                  have hlf := HL.out c (by omega)
                  have c0 := blk_int (i := c) B.out (by rw [lst_len]; exact hlt)
                  rw [lst_get] at c0
                  have hpos : 0 < left (pub l f c) k := by omega
                  have S := hide (all_short_P gt gm gc k _ wr T.out hpos)
                  generalize l[f c]'(by have := hlk.out; omega) = v at y0 y1 P
                  clear e1 e2 hlf hpos
                  go_wp2_with fail
                  refine S.out.mono ?_
                  rintro r w3 ⟨rfl, rfl⟩
                  clear S
                  go_wp2_with fail
                  have d0 := keepd c0
                  have d1 := keepd y0
                  have d2 := keepd y1
                  clear c0 y0 y1
                  refine Reg.region (by kernel_rfl) 15 [] (fun _ w' => w' = wr.drew) (by kernel_rfl) (by kernel_rfl) rfl ?_
                  iterate 15
                    refine Reg.WT.yield (v := ?_) rfl rfl ?_ ?_
                    rotate_left
                    · intro w' _ hS; go_simp; (try go_bits); (first | rfl | rw [if_pos (by omega)])
                    simp only [Act.put, List.setIfInBounds_toArray, List.set_cons_zero, List.set_cons_succ]
                  intro w4 hS
                  subst hS
                  clear d0 d1 d2
                  go_wp2_with fail
                  refine (P.out _ (T.out.below (Below.refl _ _).drew)).mono ?_
                  rintro r w5 ⟨rfl, T5, k5⟩
                  have t5 := hide (below_foot t.out.drew k5 (by intro x hx; simp at hx; omega))
                  have B5 := hide (B.out.drew.foot k5 (by simp; omega))
                  clear k5
                  go_wp2
                  go_roundw
                  case rel => exact ⟨c + 1, hlt, by go_num, T5, B5.out, t5.out⟩
                  case measure => simp [intOf]; omega
              · obtain rfl : c = k := by omega
                have hpa := pub_all (l := l) (f := f) (by rw [hlk.out]; exact HI.out)
                rw [hlk.out] at hpa
                have PA := hide hpa
                clear hpa
                go_wp2_with fail
                refine (all_full_P gt gm gc _ _ wr T.out PA.out.1).mono ?_
                rintro r w3 ⟨v, rfl, own, k3⟩
                rw [PA.out.2, hlk.out] at own
                obtain ⟨a, cp, rfl, _, _, _, hG⟩ := own_rowG (pc_len _) (by decide) own
                have t3 := hide (below_call t.out k3)
                have T3 := hide (T.out.below k3)
                have HG := hide hG
                have LT := hide (left_at (x := 0) T3.out (by rw [PA.out.1]; rfl))
                clear own hG k3 t T
                go_wp2_with fail
                refine (same_eq _ _ _ _ _ l w3 HG.out.1 (hr.below t3.out) hlk.out).mono ?_
                rintro r w4 ⟨rfl, k4⟩
                have t4 := hide (below_call t3.out k4)
                have T4 := hide (T3.out.below k4)
                clear k4 LT
                go_wp2_with fail
                refine (left_at (x := 0) T4.out (by rw [PA.out.1]; rfl)).mono ?_
                rintro r w5 ⟨rfl, k5⟩
                have t5 := hide (below_call t4.out k5)
                clear k5
                go_wp2_with fail
                refine (works_any _).mono ?_
                rintro e w9 ⟨rfl, k9⟩
                have t9 := hide (below_call t5.out k9)
                clear k9
                go_wp2
                go_returns
                exact ⟨rfl, t9.out⟩

set_option maxHeartbeats 1000000 in
set_option maxRecDepth 100000 in
theorem walk_TableOrders (w : World) (a0 : Option Addr) (l : List (Int × ByteArray)) (cap : Nat) (hr : RowS w a0 2 (l.map pc)) (_hw : ∀ f ∈ l, (Lit.int .i64 f.1).wf = true) (hc : l.length ≤ cap) (hm : cap ≤ maxLen)
    (a1 : Option Addr) (m : List Int) (cap1 : Nat) (hr1 : Row w a1 (u16s m)) (hw1 : ∀ n ∈ m, (Lit.int .u16 n).wf = true) (hc1 : m.length ≤ cap1) (hm1 : cap1 ≤ maxLen) :
    Calls Try.prog 5 #[.slice a0 l.length cap, .slice a1 m.length cap1] w fun e w' => e = .returned (.bool true) ∧ Below w.heap.size w w' := by
  unfold maxLen at hm hm1
  by_cases h1 : 200 < l.length
  · clear hw1 _hw
    go_enter Try.func5, Try.ntmps5
    go_wp2_with fail
    refine (works_any _).mono ?_
    rintro e w9 ⟨rfl, k9⟩
    have t9 := hide (below_call (Below.refl _ _) k9)
    clear k9
    go_wp2
    go_returns
    exact ⟨rfl, t9.out⟩
  by_cases h2 : 400 < m.length
  · clear hw1 _hw
    go_enter Try.func5, Try.ntmps5
    go_wp2_with fail
    refine (works_any _).mono ?_
    rintro e w9 ⟨rfl, k9⟩
    have t9 := hide (below_call (Below.refl _ _) k9)
    clear k9
    go_wp2
    go_returns
    exact ⟨rfl, t9.out⟩
  exact orders_most w a0 l cap hr (by omega) a1 m cap1 hr1 hw1 (by omega)
end Go.Proofs.Ytoannafiemnijaa
