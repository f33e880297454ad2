/- The walk of StrutOrder. -/
import Derived.Test.YtgljpedmmmnhbaaPlays
namespace Go.Proofs.Ytgljpedmmmnhbaa
open Go.RowKit

/-- What a list comes to: the least upper bound of p's first and the list, the greatest lower one of p's second. -/
theorem jn_fold_char (l : List Int) : ∀ p : Int × Int, (∀ n ∈ l, n ≤ (l.foldl jn p).1) ∧ (∀ n ∈ l, (l.foldl jn p).2 ≤ n) ∧ ((l.foldl jn p).1 = p.1 ∨ (l.foldl jn p).1 ∈ l) ∧ ((l.foldl jn p).2 = p.2 ∨ (l.foldl jn p).2 ∈ l) := by
  induction l with
  | nil => intro p; simp
  | cons m l ih =>
    intro p
    obtain ⟨h1, h2, h3, h4⟩ := ih (jn p m)
    have hle := jn_fold_le l (jn p m)
    rw [List.foldl_cons]
    generalize l.foldl jn (jn p m) = r at *
    simp only [jn] at h3 h4 hle
    refine ⟨fun n hn => ?_, fun n hn => ?_, ?_, ?_⟩
    · rcases List.mem_cons.1 hn with rfl | hn
      · omega
      · exact h1 n hn
    · rcases List.mem_cons.1 hn with rfl | hn
      · omega
      · exact h2 n hn
    · rcases h3 with h3 | h3
      · rcases Int.le_total p.1 m with h5 | h5
        · right; rw [h3, Int.max_eq_right h5]; exact List.mem_cons_self
        · left; rw [h3, Int.max_eq_left h5]
      · right; exact List.mem_cons_of_mem _ h3
    · rcases h4 with h4 | h4
      · rcases Int.le_total p.2 m with h5 | h5
        · left; rw [h4, Int.min_eq_left h5]
        · right; rw [h4, Int.min_eq_right h5]; exact List.mem_cons_self
      · right; exact List.mem_cons_of_mem _ h4
theorem jn_fold_mem (l m : List Int) (h : ∀ n, n ∈ l ↔ n ∈ m) (p : Int × Int) : l.foldl jn p = m.foldl jn p := by
  obtain ⟨a1, a2, a3, a4⟩ := jn_fold_char l p
  obtain ⟨b1, b2, b3, b4⟩ := jn_fold_char m p
  have c := jn_fold_le l p
  have d := jn_fold_le m p
  generalize l.foldl jn p = x at *
  generalize m.foldl jn p = y at *
  refine Prod.ext (Int.le_antisymm ?_ ?_) (Int.le_antisymm ?_ ?_)
  · rcases a3 with a3 | a3
    · omega
    · exact b1 _ ((h _).1 a3)
  · rcases b3 with b3 | b3
    · omega
    · exact a1 _ ((h _).2 b3)
  · rcases b4 with b4 | b4
    · omega
    · exact a2 _ ((h _).2 b4)
  · rcases a4 with a4 | a4
    · omega
    · exact b2 _ ((h _).1 a4)

/-- The list that the law makes: from the end on, and from the beginning on. -/
def bk (l : List Int) : Nat → List Int
  | 0 => []
  | k + 1 => bk l k ++ [l.getD (l.length - 1 - k) 0, l.getD k 0]
theorem bk_len (l : List Int) : ∀ k, (bk l k).length = 2 * k
  | 0 => rfl
  | k + 1 => by simp [bk, bk_len l k]; omega
theorem bk_mem (l : List Int) : ∀ k, k ≤ l.length → ∀ n, n ∈ bk l k → n ∈ l
  | 0, _, n, h => by simp [bk] at h
  | k + 1, hk, n, h => by
    have h1 : l.length - 1 - k < l.length := by omega
    simp only [bk, List.mem_append, List.mem_cons, List.not_mem_nil, or_false] at h
    rcases h with h | h | h
    · exact bk_mem l k (by omega) n h
    · subst h; rw [List.getD_eq_getElem?_getD, List.getElem?_eq_getElem h1]; exact List.getElem_mem h1
    · subst h; rw [List.getD_eq_getElem?_getD, List.getElem?_eq_getElem (by omega)]; exact List.getElem_mem _
theorem mem_bk (l : List Int) : ∀ k j (hj : j < l.length), j < k → l[j] ∈ bk l k
  | 0, j, _, h => absurd h (by omega)
  | k + 1, j, hj, h => by
    simp only [bk, List.mem_append, List.mem_cons, List.not_mem_nil, or_false]
    by_cases e : j = k
    · subst e; right; right; rw [List.getD_eq_getElem?_getD, List.getElem?_eq_getElem hj]; rfl
    · left; exact mem_bk l k j hj (by omega)
theorem bk_fold (l : List Int) : (bk l l.length).foldl jn (0, 0) = l.foldl jn (0, 0) :=
  jn_fold_mem _ _ (fun n => ⟨bk_mem l _ (Nat.le_refl _) n, fun h => by obtain ⟨j, hj, rfl⟩ := List.getElem_of_mem h; exact mem_bk l _ j hj hj⟩) _

theorem info2 : (Try.prog.info? 2).map (fun i => (i.zero, i.size, i.bytes)) = some (some (.int .i64 0), 1, 8) := by kernel_rfl

theorem walk_StrutOrder (w : World) (a0 : Option Addr) (l : List Int) (c : Nat) (hr : Row w a0 (ints l)) (hw : ∀ n ∈ l, (Lit.int .i64 n).wf = true) (hc : l.length ≤ c) (hm : c ≤ maxLen) :
    Calls Try.prog 5 #[.slice a0 l.length c] w fun e w' => e = .returned (.bool true) ∧ Below w.heap.size w w' := by
  unfold maxLen at hm
  obtain ⟨i0, hi, hz0, hz1, hz2⟩ := info_parts info2
  by_cases hbig : 200 < l.length
  · go_enter Try.func5, Try.ntmps5
    go_wp2_with fail
    refine (works_any _).mono ?_
    rintro e w2 ⟨rfl, k2⟩
    have t2 := below_call (w := w) (by go_grown) k2
    go_wp2
    go_returns
    exact ⟨rfl, t2⟩
  · go_enter Try.func5, Try.ntmps5
    go_wp2_with fail
    go_loopw [3, 4, 5, 6] (fun v lo hi i wr => ∃ (k : Nat) (x y : Int), k ≤ l.length ∧ i = .int .i64 k ∧ lo = .int .i64 y ∧ hi = .int .i64 x ∧ (x, y) = (l.take k).foldl jn (0, 0) ∧
        (∀ n ∈ l.take k, -1152921504606846976 ≤ n ∧ n ≤ 1152921504606846976) ∧ wr.ownsRow w.heap.size 2 1 v (2 * k) (ints (bk l k)) ∧ Below w.heap.size w wr) (fun _ _ _ i _ => l.length - (intOf i).toNat)
    case atStart => exact ⟨0, 0, 0, Nat.zero_le _, rfl, rfl, rfl, rfl, by simp, World.ownsRow_nil _ _ _ _, Below.refl _ _⟩
    case round =>
      obtain ⟨k, x, y, hk, rfl, rfl, rfl, hp, hbd, hown, hbel⟩ := hrel
      have hp' := hide hp; clear hp
      have hbd' := hide hbd; clear hbd
      have HO := hide hown; clear hown
      have sz := hbel.size
      by_cases hlt : k < l.length
      · have hex : l[k] ∈ l := List.getElem_mem hlt
        have hb64 := bd64 hw l[k] hex
        obtain ⟨b, off, rfl, hbw, hcell⟩ := hr.2 (by rw [ints_len]; omega)
        have hcA := ((hbel.cell (p := ⟨b, off + k, none⟩) hbw).trans (hcell k (by rw [ints_len]; exact hlt))).trans (by rw [ints_get])
        have hcB := ((hbel.cell (p := ⟨b, off + (l.length - 1 - k), none⟩) hbw).trans (hcell (l.length - 1 - k) (by rw [ints_len]; omega))).trans (by rw [ints_get])
        clear hcell
        by_cases q : l[k] < -1152921504606846976 ∨ 1152921504606846976 < l[k]
        · by_cases q1 : 1152921504606846976 < l[k]
          · go_wp2_with fail
            refine (works_any _).mono ?_
            rintro e w2 ⟨rfl, k2⟩
            have t2 := below_call (w := w) (by go_grown) k2
            go_wp2
            go_returns
            exact ⟨rfl, t2⟩
          · have q2 : l[k] < -1152921504606846976 := by omega
            clear q
            go_wp2_with fail
            refine (works_any _).mono ?_
            rintro e w2 ⟨rfl, k2⟩
            have t2 := below_call (w := w) (by go_grown) k2
            go_wp2
            go_returns
            exact ⟨rfl, t2⟩
        · have q1 : -1152921504606846976 ≤ l[k] := by omega
          have q2 : l[k] ≤ 1152921504606846976 := by omega
          clear q
          go_wp2_with fail
          have A1 := keepc (W := wr) (p := ⟨b, off + k, none⟩) (by simp; omega) hcA
          have A2 := keepc (W := wr) (p := ⟨b, off + (l.length - 1 - k), none⟩) (by simp; omega) hcB
          have e1 : ((l.length : Int) - 1 - (k : Int)).toNat = l.length - 1 - k := by omega
          refine Reg.region (by kernel_rfl) 14 [13] (fun c w' => Below wr.heap.size wr w' ∧ (c = 0 → w' = wr.drew) ∧ (c = 1 → w' = wr.drew.alloc (.cells #[.int .i64 (l[l.length - 1 - k]'(by omega)), .int .i64 l[k]] 2))) (by kernel_rfl) (by kernel_rfl) ⟨(Below.refl _ _).drew, fun _ => rfl, fun h => by cases h⟩ ?_
          iterate 13
            refine Reg.WT.yield (v := ?_) rfl rfl ?_ ?_
            rotate_left
            · intro w' _ hS; go_simp; (try go_bits); (first | rfl | rw [if_pos (by omega)])
            simp only [Act.put, List.setIfInBounds_toArray, List.set_cons_zero, List.set_cons_succ]
          refine Reg.WT.skip (v := .slice (some ⟨wr.heap.size, 0, none⟩) 2 2) rfl rfl (fun w2 hS => ?_) ?_
          · obtain ⟨_, h0, _⟩ := hS
            obtain rfl := h0 rfl
            go_simp
            exact ((Below.refl _ _).alloc (Nat.le_refl _) _).drew
          simp only [Act.put, List.setIfInBounds_toArray, List.set_cons_zero, List.set_cons_succ]
          rintro w2 ⟨_, _, h1⟩
          obtain rfl := h1 rfl
          go_wp2_with (at_builtin; refine wpList_append_own _ rfl _ _ 26 rfl w.heap.size 2 i0 (.int .i64 0) 1 8 Try.underlying26 hi hz0 hz1 hz2 rfl (by decide) _ _ _ rfl (HO.out.alloc _) ⟨wr.heap.size, 0, none⟩ 2 2 [.int .i64 (l[l.length - 1 - k]'(by omega)), .int .i64 l[k]] rfl rfl ?c1 ?c2 ?c3 ?c4 ?c5 ?_)
          case c1 => exact (Blk.new wr 2 #[.int .i64 (l[l.length - 1 - k]'(by omega)), .int .i64 l[k]]).news
          case c2 => intro u hu; simp at hu; rcases hu with rfl | rfl <;> rfl
          case c3 => unfold maxLen; omega
          case c4 => omega
          case c5 => omega
          intro v' w1 hown' hgrow _
          have HO' := hide hown'
          have t1 := below_grown (a := w) (by go_grown) hgrow (own_ge HO.out)
          clear hown' hgrow
          have hcA' := (t1.cell (p := ⟨b, off + k, none⟩) hbw).trans ((hbel.cell (p := ⟨b, off + k, none⟩) hbw).symm.trans hcA)
          have HR : Hid (wr.ownsRow w.heap.size 2 1 u3 (2 * k) (ints (bk l k))) := HO
          go_wp2
          all_goals
            go_roundw
            case measure => simp [intOf]; omega
            case rel =>
              refine ⟨k + 1, (jn (x, y) l[k]).1, (jn (x, y) l[k]).2, hlt, by go_num, ?_, ?_, ?_, ?_, ?_, t1⟩
              · congr 1; simp only [jn]; omega
              · congr 1; simp only [jn]; omega
              · rw [List.take_succ_eq_append_getElem hlt, List.foldl_append, ← hp'.out]; rfl
              · intro n hn
                rw [List.take_succ_eq_append_getElem hlt, List.mem_append] at hn
                rcases hn with hn | hn
                · exact hbd'.out n hn
                · rw [List.mem_singleton] at hn; subst hn; exact ⟨q1, q2⟩
              · have := HO'.out
                rw [show 2 * (k + 1) = 2 * k + 2 from by omega]
                have e2 : ints (bk l (k + 1)) = ints (bk l k) ++ [.int .i64 (l[l.length - 1 - k]'(by omega)), .int .i64 l[k]] := by
                  simp [ints, bk, List.getElem?_eq_getElem hlt, List.getElem?_eq_getElem (show l.length - 1 - k < l.length from by omega)]
                rw [e2]
                exact this
      · have : k = l.length := by omega
        subst this
        rw [List.take_length] at hp'
        have hp2 := hp'.out
        have hb := jn_fold_bd l 1152921504606846976 (fun n hn => by have := hbd'.out n (by rw [List.take_length]; exact hn); omega) (0, 0) (by decide) (by decide)
        have hb' := jn_fold_le l (0, 0)
        rw [← hp2] at hb hb'
        obtain ⟨b1, b2⟩ := hb
        obtain ⟨b3, b4⟩ := hb'
        simp only at b1 b2 b3 b4
        have hpb := (bk_fold l).trans hp2.symm
        have hq : jn (jn (x, y) x) y = (x, y) := by simp only [jn, Prod.mk.injEq]; constructor <;> omega
        have hq2 : jn (jn (x, y) 0) 0 = (x, y) := by simp only [jn, Prod.mk.injEq]; constructor <;> omega
        have HP := hide hp2.symm
        have HPB := hide hpb
        have HQ := hide hq
        have HQ2 := hide hq2
        obtain ⟨ab, cb, rfl, hcb, hmb, hlb, hrb⟩ := own_row HO.out
        have hlb' : 2 * l.length = (bk l l.length).length := (bk_len l _).symm
        have HL := hide hlb'
        have es : (x + y == y + x) = true := by simp; omega
        have s1 : -9223372036854775808 ≤ y + x := by omega
        have s2 : y + x ≤ 9223372036854775807 := by omega
        clear hp2 hpb hq hq2 hp' hlb hlb'
        go_wp2_with fail
        refine (joined_eq _ l _ _ (hr.below hbel) HP.out).mono ?_
        rintro e w2 ⟨rfl, k2⟩
        have t2 := below_call (w := w) (by go_grown) k2
        have s3 := t2.size
        have B5 := Blk.new w2 24 #[.int .i64 x, .int .i64 y]
        go_wp2_with fail
        have t5 : Below w.heap.size w (w2.alloc (.cells #[.int .i64 x, .int .i64 y] 24)) := by go_grown
        have hr5 := hrb.below k2
        have hr6 : Row (w2.alloc (.cells #[.int .i64 x, .int .i64 y] 24)) ab (ints (bk l l.length)) := hr5.below ((Below.refl _ _).alloc (Nat.le_refl _) _)
        generalize w2.alloc (.cells #[.int .i64 x, .int .i64 y] 24) = W5 at *
        have C0 := keepc (p := ⟨w2.heap.size, 0, none⟩) B5.lt (B5.cell 0)
        have C1 := keepc (p := ⟨w2.heap.size, 1, none⟩) B5.lt (B5.cell 1)
        clear hr5 hrb
        refine Reg.region (by kernel_rfl) 29 [2, 7, 14, 20, 27] (fun _ w' => Below W5.heap.size W5 w') (by kernel_rfl) (by kernel_rfl) (Below.refl _ _).drew ?_
        iterate 2
          refine Reg.WT.yield (v := ?_) rfl rfl ?_ ?_
          rotate_left
          · intro w' _ hS; go_simp; (try go_bits); (first | rfl | rw [if_pos (by omega)])
          simp only [Act.put, List.setIfInBounds_toArray, List.set_cons_zero, List.set_cons_succ]
        refine Reg.WT.call (v := ?_) (f := ?_) (args := ?_) rfl rfl ?_ ?_ ?_
        rotate_left 3
        · intro w2; go_simp; exact ⟨by rfl, by rfl⟩
        · intro w2 hS; refine (joined_len (hr6.below hS) HL.out HPB.out).mono ?_; rintro e w3 ⟨rfl, hb⟩; exact ⟨by rfl, hS.trans (hb.mono hS.size)⟩
        simp only [Act.put, List.setIfInBounds_toArray, List.set_cons_zero, List.set_cons_succ]
        iterate 4
          refine Reg.WT.yield (v := ?_) rfl rfl ?_ ?_
          rotate_left
          · intro w' _ hS; go_simp; (try go_bits); (first | rfl | rw [if_pos (by omega)])
          simp only [Act.put, List.setIfInBounds_toArray, List.set_cons_zero, List.set_cons_succ]
        refine Reg.WT.call (v := ?_) (f := ?_) (args := ?_) rfl rfl ?_ ?_ ?_
        rotate_left 3
        · intro w2; go_simp; exact ⟨by rfl, by rfl⟩
        · intro w2 hS; refine (both_eq HQ.out).mono ?_; rintro e w3 ⟨rfl, hb⟩; exact ⟨by rfl, hS.trans (hb.mono hS.size)⟩
        simp only [Act.put, List.setIfInBounds_toArray, List.set_cons_zero, List.set_cons_succ]
        iterate 6
          refine Reg.WT.yield (v := ?_) rfl rfl ?_ ?_
          rotate_left
          · intro w' _ hS; go_simp; (try go_bits); (first | rfl | rw [if_pos (by omega)])
          simp only [Act.put, List.setIfInBounds_toArray, List.set_cons_zero, List.set_cons_succ]
        refine Reg.WT.call (v := ?_) (f := ?_) (args := ?_) rfl rfl ?_ ?_ ?_
        rotate_left 3
        · intro w2; go_simp; exact ⟨by rfl, by rfl⟩
        · intro w2 hS; refine (both_eq HQ2.out).mono ?_; rintro e w3 ⟨rfl, hb⟩; exact ⟨by rfl, hS.trans (hb.mono hS.size)⟩
        simp only [Act.put, List.setIfInBounds_toArray, List.set_cons_zero, List.set_cons_succ]
        iterate 5
          refine Reg.WT.yield (v := ?_) rfl rfl ?_ ?_
          rotate_left
          · intro w' _ hS; go_simp; (try go_bits); (first | rfl | rw [if_pos (by omega)])
          simp only [Act.put, List.setIfInBounds_toArray, List.set_cons_zero, List.set_cons_succ]
        refine Reg.WT.call (v := ?_) (f := ?_) (args := ?_) rfl rfl ?_ ?_ ?_
        rotate_left 3
        · intro w2; go_simp; exact ⟨by rfl, by rfl⟩
        · intro w2 hS; refine (sum_any _ _ _ b3 (by omega) b4 (by omega)).mono ?_; rintro e w3 ⟨rfl, hb⟩; exact ⟨by rfl, hS.trans (hb.mono hS.size)⟩
        simp only [Act.put, List.setIfInBounds_toArray, List.set_cons_zero, List.set_cons_succ]
        iterate 6
          refine Reg.WT.yield (v := ?_) rfl rfl ?_ ?_
          rotate_left
          · intro w' _ hS; go_simp; (try go_bits); (first | rfl | rw [if_pos (by omega)])
          simp only [Act.put, List.setIfInBounds_toArray, List.set_cons_zero, List.set_cons_succ]
        refine Reg.WT.call (v := ?_) (f := ?_) (args := ?_) rfl rfl ?_ ?_ ?_
        rotate_left 3
        · intro w2; go_simp; exact ⟨by rfl, by rfl⟩
        · intro w2 hS; refine (works_any _).mono ?_; rintro e w3 ⟨rfl, hb⟩; exact ⟨by rfl, hS.trans (hb.mono hS.size)⟩
        simp only [Act.put, List.setIfInBounds_toArray, List.set_cons_zero, List.set_cons_succ]
        iterate 1
          refine Reg.WT.yield (v := ?_) rfl rfl ?_ ?_
          rotate_left
          · intro w' _ hS; go_simp; (try go_bits); (first | rfl | rw [if_pos (by omega)])
          simp only [Act.put, List.setIfInBounds_toArray, List.set_cons_zero, List.set_cons_succ]
        intro w6 hS
        have t6 := below_call (w := w) t5 hS
        go_wp2
        go_returns
        exact ⟨rfl, t6⟩
end Go.Proofs.Ytgljpedmmmnhbaa
