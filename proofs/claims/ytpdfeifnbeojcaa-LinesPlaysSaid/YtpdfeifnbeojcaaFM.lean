/- May, in. -/
import Derived.Test.YtpdfeifnbeojcaaFB
import Derived.Test.YtpdfeifnbeojcaaRegM
namespace Go.Proofs.Ytpdfeifnbeojcaa
open Go.RowKit

def near (x : Int) : Prop := -1125899906842624 ≤ x ∧ x ≤ 1125899906842624
theorem in_yes (a : Option Addr) (l : List Int) (n c : Nat) (w : World) (hr : Row w a (ints l)) (hn : l.length = n) (hl : ∀ x ∈ l, near x) : Calls Try.prog 18 #[.slice a n c] w fun r w' => r = .returned (.bool true) ∧ w = w' := by
  have hlen := row_len hr
  rw [hn] at hlen
  have HN := hide hn
  have HL := hide hl
  clear hn hl
  go_enter Try.func18, Try.ntmps18
  go_wp2
  go_loop [3] (fun i => ∃ k : Nat, k ≤ n ∧ i = .int .i64 k) (fun i => n - (intOf i).toNat)
  case atStart => exact ⟨0, Nat.zero_le _, rfl⟩
  case round =>
    obtain ⟨k, hk, rfl⟩ := hrel
    by_cases hlt : k < n
    · obtain ⟨b, off, rfl, _, hc⟩ := row_int hr (by have := HN.out; omega)
      have hlt' : k < l.length := by have := HN.out; omega
      have c0 := hc k hlt'
      obtain ⟨h1, h2⟩ := HL.out _ (List.getElem_mem hlt')
      clear hc
      generalize l[k] = x at c0 h1 h2
      have b2 : decide (x < -1125899906842624) = false := by simp; omega
      go_wp2
      go_round
      case rel => exact ⟨k + 1, hlt, by go_num⟩
      case measure => simp [intOf]; omega
    · go_wp2
      go_returns
      exact ⟨rfl, rfl⟩
theorem in_no (a : Option Addr) (l : List Int) (n c : Nat) (w : World) (hr : Row w a (ints l)) (hn : l.length = n) (hl : ¬ ∀ x ∈ l, near x) : Calls Try.prog 18 #[.slice a n c] w fun r w' => r = .returned (.bool false) ∧ w = w' := by
  have hlen := row_len hr
  rw [hn] at hlen
  have hex : ∃ j, ∃ h : j < l.length, ¬ near l[j] := by
    refine Classical.byContradiction fun hno => hl fun x hx => ?_
    obtain ⟨j, hj, rfl⟩ := List.getElem_of_mem hx
    exact Classical.byContradiction fun hc => hno ⟨j, hj, hc⟩
  obtain ⟨j, hj, hbad⟩ := hex
  have HN := hide hn
  have HB := hide hbad
  have hjn : j < n := by omega
  clear hn hl hbad
  go_enter Try.func18, Try.ntmps18
  go_wp2
  go_loop [3] (fun i => ∃ k : Nat, k ≤ j ∧ i = .int .i64 k) (fun i => n - (intOf i).toNat)
  case atStart => exact ⟨0, Nat.zero_le _, rfl⟩
  case round =>
    obtain ⟨k, hk, rfl⟩ := hrel
    have hlt : k < n := by omega
    obtain ⟨b, off, rfl, _, hc⟩ := row_int hr (by have := HN.out; omega)
    have hlt' : k < l.length := by have := HN.out; omega
    have c0 := hc k hlt'
    have HE : Hid (k = j → ¬ near l[k]) := hide (fun e => by subst e; exact HB.out)
    clear hc
    generalize l[k] = x at c0 HE
    by_cases h1 : 1125899906842624 < x
    · go_wp2
      go_returns
      exact ⟨rfl, rfl⟩
    by_cases h2 : x < -1125899906842624
    · go_wp2
      go_returns
      exact ⟨rfl, rfl⟩
    have hne : k ≠ j := fun e => HE.out e ⟨by omega, by omega⟩
    have b2 : decide (x < -1125899906842624) = false := by simp; omega
    go_wp2
    go_round
    case rel => exact ⟨k + 1, by omega, by go_num⟩
    case measure => simp [intOf]; omega

def four (f : Flt) : List Int := [f.x, f.y, f.w, f.h]
def MS (W : World) (f : Flt) (c : Nat) (w' : World) : Prop :=
  if c = 0 then w' = W.drew else Below W.heap.size W w' ∧ Row w' (some ⟨W.heap.size, 0, none⟩ ) (ints (four f))
theorem ms_cell {W : World} {f : Flt} {p : Addr} {v : Value} (hp : p.block < W.heap.size) (h : W.cell? p = some v) : ∀ w' c, MS W f c w' → w'.cell? p = some v := fun w' c hS => by
  unfold MS at hS
  split at hS
  · subst hS; exact h
  · exact (hS.1.cell hp).trans h
theorem ms_make {W w2 : World} {f : Flt} (h : MS W f 0 w2) : w2 = W.drew ∧ MS W f 1 (W.drew.alloc (.cells #[.int .i64 f.x, .int .i64 f.y, .int .i64 f.w, .int .i64 f.h] 2)) :=
  ⟨h, by
    unfold MS
    rw [if_neg (by decide)]
    exact ⟨(Below.refl _ _).drew.alloc (Nat.le_refl _) _, (Blk.new W.drew 2 #[.int .i64 f.x, .int .i64 f.y, .int .i64 f.w, .int .i64 f.h]).row (by simp)⟩⟩
theorem ms_in_yes {W w2 : World} {f : Flt} (h : MS W f 1 w2) (hl : ∀ x ∈ four f, near x) : Calls Try.prog 18 #[.slice (some ⟨W.heap.size, 0, none⟩) 4 4] w2 fun r w' => r = .returned (.bool true) ∧ MS W f 2 w' := by
  obtain ⟨h1, h2⟩ := h
  refine (in_yes _ (four f) 4 4 w2 h2 rfl hl).mono fun r w' hh => ?_
  obtain ⟨rfl, rfl⟩ := hh
  exact ⟨rfl, h1, h2⟩
theorem ms_in_no {W w2 : World} {f : Flt} (h : MS W f 1 w2) (hl : ¬ ∀ x ∈ four f, near x) : Calls Try.prog 18 #[.slice (some ⟨W.heap.size, 0, none⟩) 4 4] w2 fun r w' => r = .returned (.bool false) ∧ MS W f 2 w' := by
  obtain ⟨h1, h2⟩ := h
  refine (in_no _ (four f) 4 4 w2 h2 rfl hl).mono fun r w' hh => ?_
  obtain ⟨rfl, rfl⟩ := hh
  exact ⟨rfl, h1, h2⟩
theorem ms_end {W w2 : World} {f : Flt} (h : MS W f 2 w2) : Below W.heap.size W w2 := h.1

set_option maxHeartbeats 2000000 in
set_option maxRecDepth 100000 in
theorem may_yes (a : Option Addr) (l : List Flt) (n c : Nat) (w : World) (hr : FRow w a l) (hn : l.length = n) (hl : ∀ f ∈ l, Fit f) (hn2 : n ≤ 200) : Calls Try.prog 13 #[.slice a n c] w fun r w' => r = .returned (.bool true) ∧ Below w.heap.size w w' := by
  have HN := hide hn
  have HL := hide hl
  clear hn hl
  go_enter Try.func13, Try.ntmps13
  go_wp2
  go_loopw [3] (fun i wr => ∃ k : Nat, k ≤ n ∧ i = .int .i64 k ∧ Below w.heap.size w wr) (fun i _ => n - (intOf i).toNat)
  case atStart => exact ⟨0, Nat.zero_le _, rfl, Below.refl _ _⟩
  case round =>
    obtain ⟨k, hk, rfl, hbel⟩ := hrel
    have t := hide hbel
    by_cases hlt : k < n
    · obtain ⟨b, off, rfl, hbw, hcell⟩ := f_at (hr.below hbel) (by have := HN.out; omega)
      have hlt' : k < l.length := by have := HN.out; omega
      obtain ⟨x0, x1, x2, x3, x4⟩ := hcell k hlt'
      have hfit := HL.out _ (List.getElem_mem hlt')
      clear hbel hcell
      generalize l[k] = f at x0 x1 x2 x3 x4 hfit
      obtain ⟨hsd, hx, hyb, hw, hh⟩ := hfit
      have HF : Hid (∀ x ∈ four f, near x) := hide (by
        intro x hx; unfold four at hx; simp at hx; unfold near; omega)
      have bw : decide (f.w < 0) = false := by simp; omega
      have bh : decide (f.h < 0) = false := by simp; omega
      go_wp2
      rcases hsd with hsd | hsd
      · rw [hsd] at x0
        have z0 := ms_cell (f := f) hbw x0
        have z1 := ms_cell (f := f) hbw x1
        have z2 := ms_cell (f := f) hbw x2
        have z3 := ms_cell (f := f) hbw x3
        have z4 := ms_cell (f := f) hbw x4
        refine Reg.region (by kernel_rfl) 55 [35, 36] (MS wr f) (by kernel_rfl) (by kernel_rfl) (rfl) ?_
        iterate 35
          first
            | refine Reg.WT.idle rfl rfl ?_
            | (refine Reg.WT.yield (v := ?_) rfl rfl ?_ ?_
               rotate_left
               · intro w' _ hS; have z0_ := z0 _ _ hS; have z1_ := z1 _ _ hS; have z2_ := z2 _ _ hS; have z3_ := z3 _ _ hS; have z4_ := z4 _ _ hS; go_simp; (try go_bits); (first | rfl | rw [if_pos (by omega)]))
          simp only [Act.put, List.setIfInBounds_toArray, List.set_cons_zero, List.set_cons_succ]
        refine Reg.WT.make (v := .slice (some ⟨wr.heap.size, 0, none⟩) 4 4) rfl rfl ?_ ?_
        · intro w2 hS
          obtain ⟨rfl, h2⟩ := ms_make hS
          exact ⟨_, by go_simp, h2⟩
        simp only [Act.put, List.setIfInBounds_toArray, List.set_cons_zero, List.set_cons_succ]
        refine Reg.WT.call (v := ?_) (f := ?_) (args := ?_) rfl rfl ?_ ?_ ?_
        rotate_left 3
        · intro w2; go_simp; exact ⟨by rfl, by rfl⟩
        · intro w2 hS; exact ms_in_yes hS HF.out
        simp only [Act.put, List.setIfInBounds_toArray, List.set_cons_zero, List.set_cons_succ]
        iterate 18
          first
            | refine Reg.WT.idle rfl rfl ?_
            | (refine Reg.WT.yield (v := ?_) rfl rfl ?_ ?_
               rotate_left
               · intro w' _ hS; have z0_ := z0 _ _ hS; have z1_ := z1 _ _ hS; have z2_ := z2 _ _ hS; have z3_ := z3 _ _ hS; have z4_ := z4 _ _ hS; go_simp; (try go_bits); (first | rfl | rw [if_pos (by omega)]))
          simp only [Act.put, List.setIfInBounds_toArray, List.set_cons_zero, List.set_cons_succ]
        intro w2 hS
        have t2 := hide (below_call t.out (ms_end hS))
        clear z0 z1 z2 z3 z4 hS
        go_wp2
        go_roundw
        case rel => exact ⟨k + 1, hlt, by go_num, t2.out⟩
        case measure => simp [intOf]; omega
      · rw [hsd] at x0
        have z0 := ms_cell (f := f) hbw x0
        have z1 := ms_cell (f := f) hbw x1
        have z2 := ms_cell (f := f) hbw x2
        have z3 := ms_cell (f := f) hbw x3
        have z4 := ms_cell (f := f) hbw x4
        refine Reg.region (by kernel_rfl) 55 [35, 36] (MS wr f) (by kernel_rfl) (by kernel_rfl) (rfl) ?_
        iterate 35
          first
            | refine Reg.WT.idle rfl rfl ?_
            | (refine Reg.WT.yield (v := ?_) rfl rfl ?_ ?_
               rotate_left
               · intro w' _ hS; have z0_ := z0 _ _ hS; have z1_ := z1 _ _ hS; have z2_ := z2 _ _ hS; have z3_ := z3 _ _ hS; have z4_ := z4 _ _ hS; go_simp; (try go_bits); (first | rfl | rw [if_pos (by omega)]))
          simp only [Act.put, List.setIfInBounds_toArray, List.set_cons_zero, List.set_cons_succ]
        refine Reg.WT.make (v := .slice (some ⟨wr.heap.size, 0, none⟩) 4 4) rfl rfl ?_ ?_
        · intro w2 hS
          obtain ⟨rfl, h2⟩ := ms_make hS
          exact ⟨_, by go_simp, h2⟩
        simp only [Act.put, List.setIfInBounds_toArray, List.set_cons_zero, List.set_cons_succ]
        refine Reg.WT.call (v := ?_) (f := ?_) (args := ?_) rfl rfl ?_ ?_ ?_
        rotate_left 3
        · intro w2; go_simp; exact ⟨by rfl, by rfl⟩
        · intro w2 hS; exact ms_in_yes hS HF.out
        simp only [Act.put, List.setIfInBounds_toArray, List.set_cons_zero, List.set_cons_succ]
        iterate 18
          first
            | refine Reg.WT.idle rfl rfl ?_
            | (refine Reg.WT.yield (v := ?_) rfl rfl ?_ ?_
               rotate_left
               · intro w' _ hS; have z0_ := z0 _ _ hS; have z1_ := z1 _ _ hS; have z2_ := z2 _ _ hS; have z3_ := z3 _ _ hS; have z4_ := z4 _ _ hS; go_simp; (try go_bits); (first | rfl | rw [if_pos (by omega)]))
          simp only [Act.put, List.setIfInBounds_toArray, List.set_cons_zero, List.set_cons_succ]
        intro w2 hS
        have t2 := hide (below_call t.out (ms_end hS))
        clear z0 z1 z2 z3 z4 hS
        go_wp2
        go_roundw
        case rel => exact ⟨k + 1, hlt, by go_num, t2.out⟩
        case measure => simp [intOf]; omega
    · go_wp2
      go_returns
      exact ⟨rfl, t.out⟩

theorem bad_first {l : List Flt} (h : ¬ ∀ f ∈ l, Fit f) : ∃ j, ∃ hj : j < l.length, ¬ Fit l[j] := by
  refine Classical.byContradiction fun hno => h fun x hx => ?_
  obtain ⟨j, hj, rfl⟩ := List.getElem_of_mem hx
  exact Classical.byContradiction fun hc => hno ⟨j, hj, hc⟩
set_option maxHeartbeats 4000000 in
set_option maxRecDepth 100000 in
theorem may_no (a : Option Addr) (l : List Flt) (n c : Nat) (w : World) (hr : FRow w a l) (hn : l.length = n) (hl : ¬ ∀ f ∈ l, Fit f) (hn2 : n ≤ 200) (hu : ∀ f ∈ l, 0 ≤ f.s ∧ f.s ≤ 255) : Calls Try.prog 13 #[.slice a n c] w fun r w' => r = .returned (.bool false) ∧ Below w.heap.size w w' := by
  obtain ⟨j, hj, hbad⟩ := bad_first hl
  have HN := hide hn
  have HB := hide hbad
  have hjn : j < n := by omega
  clear hn hl hbad hu
  go_enter Try.func13, Try.ntmps13
  go_wp2
  go_loopw [3] (fun i wr => ∃ k : Nat, k ≤ j ∧ i = .int .i64 k ∧ Below w.heap.size w wr) (fun i _ => n - (intOf i).toNat)
  case atStart => exact ⟨0, Nat.zero_le _, rfl, Below.refl _ _⟩
  case round =>
    obtain ⟨k, hk, rfl, hbel⟩ := hrel
    have t := hide hbel
    have hlt : k < n := by omega
    obtain ⟨b, off, rfl, hbw, hcell⟩ := f_at (hr.below hbel) (by have := HN.out; omega)
    have hlt' : k < l.length := by have := HN.out; omega
    obtain ⟨x0, x1, x2, x3, x4⟩ := hcell k hlt'
    have HE : Hid (k = j → ¬ Fit l[k]) := hide (fun e => by subst e; exact HB.out)
    clear hbel hcell
    generalize l[k] = f at x0 x1 x2 x3 x4 HE
    have HF : Hid (near f.x → near f.y → near f.w → near f.h → ∀ x ∈ four f, near x) := hide (by
      intro h1 h2 h3 h4 x hx; unfold four at hx; simp at hx; rcases hx with rfl | rfl | rfl | rfl <;> assumption)
    have HG : Hid ((∀ x ∈ four f, near x) → near f.x ∧ near f.y ∧ near f.w ∧ near f.h) := hide (fun h => ⟨h _ (by simp [four]), h _ (by simp [four]), h _ (by simp [four]), h _ (by simp [four])⟩)
    go_wp2
    by_cases s1 : f.s = 1 ∨ f.s = 2
    · by_cases hin : ∀ x ∈ four f, near x
      · have HIN := hide hin
        clear hin
        by_cases hw : f.w < 0
        · rcases s1 with s1 | s1
          · rw [s1] at x0
            have z0 := ms_cell (f := f) hbw x0
            have z1 := ms_cell (f := f) hbw x1
            have z2 := ms_cell (f := f) hbw x2
            have z3 := ms_cell (f := f) hbw x3
            have z4 := ms_cell (f := f) hbw x4
            refine Reg.region (by kernel_rfl) 55 [35, 36] (MS wr f) (by kernel_rfl) (by kernel_rfl) (rfl) ?_
            iterate 35
              first
                | refine Reg.WT.idle rfl rfl ?_
                | (refine Reg.WT.yield (v := ?_) rfl rfl ?_ ?_
                   rotate_left
                   · intro w' _ hS; have z0_ := z0 _ _ hS; have z1_ := z1 _ _ hS; have z2_ := z2 _ _ hS; have z3_ := z3 _ _ hS; have z4_ := z4 _ _ hS; go_simp; (try go_bits); (first | rfl | rw [if_pos (by omega)]))
              simp only [Act.put, List.setIfInBounds_toArray, List.set_cons_zero, List.set_cons_succ]
            refine Reg.WT.make (v := .slice (some ⟨wr.heap.size, 0, none⟩) 4 4) rfl rfl ?_ ?_
            · intro w2 hS
              obtain ⟨rfl, h2⟩ := ms_make hS
              exact ⟨_, by go_simp, h2⟩
            simp only [Act.put, List.setIfInBounds_toArray, List.set_cons_zero, List.set_cons_succ]
            refine Reg.WT.call (v := ?_) (f := ?_) (args := ?_) rfl rfl ?_ ?_ ?_
            rotate_left 3
            · intro w2; go_simp; exact ⟨by rfl, by rfl⟩
            · intro w2 hS; exact ms_in_yes hS HIN.out
            simp only [Act.put, List.setIfInBounds_toArray, List.set_cons_zero, List.set_cons_succ]
            iterate 18
              first
                | refine Reg.WT.idle rfl rfl ?_
                | (refine Reg.WT.yield (v := ?_) rfl rfl ?_ ?_
                   rotate_left
                   · intro w' _ hS; have z0_ := z0 _ _ hS; have z1_ := z1 _ _ hS; have z2_ := z2 _ _ hS; have z3_ := z3 _ _ hS; have z4_ := z4 _ _ hS; go_simp; (try go_bits); (first | rfl | rw [if_pos (by omega)]))
              simp only [Act.put, List.setIfInBounds_toArray, List.set_cons_zero, List.set_cons_succ]
            intro w2 hS
            have t2 := hide (below_call t.out (ms_end hS))
            clear z0 z1 z2 z3 z4 hS
            go_wp2
            go_returns
            exact ⟨rfl, t2.out⟩
          · rw [s1] at x0
            have z0 := ms_cell (f := f) hbw x0
            have z1 := ms_cell (f := f) hbw x1
            have z2 := ms_cell (f := f) hbw x2
            have z3 := ms_cell (f := f) hbw x3
            have z4 := ms_cell (f := f) hbw x4
            refine Reg.region (by kernel_rfl) 55 [35, 36] (MS wr f) (by kernel_rfl) (by kernel_rfl) (rfl) ?_
            iterate 35
              first
                | refine Reg.WT.idle rfl rfl ?_
                | (refine Reg.WT.yield (v := ?_) rfl rfl ?_ ?_
                   rotate_left
                   · intro w' _ hS; have z0_ := z0 _ _ hS; have z1_ := z1 _ _ hS; have z2_ := z2 _ _ hS; have z3_ := z3 _ _ hS; have z4_ := z4 _ _ hS; go_simp; (try go_bits); (first | rfl | rw [if_pos (by omega)]))
              simp only [Act.put, List.setIfInBounds_toArray, List.set_cons_zero, List.set_cons_succ]
            refine Reg.WT.make (v := .slice (some ⟨wr.heap.size, 0, none⟩) 4 4) rfl rfl ?_ ?_
            · intro w2 hS
              obtain ⟨rfl, h2⟩ := ms_make hS
              exact ⟨_, by go_simp, h2⟩
            simp only [Act.put, List.setIfInBounds_toArray, List.set_cons_zero, List.set_cons_succ]
            refine Reg.WT.call (v := ?_) (f := ?_) (args := ?_) rfl rfl ?_ ?_ ?_
            rotate_left 3
            · intro w2; go_simp; exact ⟨by rfl, by rfl⟩
            · intro w2 hS; exact ms_in_yes hS HIN.out
            simp only [Act.put, List.setIfInBounds_toArray, List.set_cons_zero, List.set_cons_succ]
            iterate 18
              first
                | refine Reg.WT.idle rfl rfl ?_
                | (refine Reg.WT.yield (v := ?_) rfl rfl ?_ ?_
                   rotate_left
                   · intro w' _ hS; have z0_ := z0 _ _ hS; have z1_ := z1 _ _ hS; have z2_ := z2 _ _ hS; have z3_ := z3 _ _ hS; have z4_ := z4 _ _ hS; go_simp; (try go_bits); (first | rfl | rw [if_pos (by omega)]))
              simp only [Act.put, List.setIfInBounds_toArray, List.set_cons_zero, List.set_cons_succ]
            intro w2 hS
            have t2 := hide (below_call t.out (ms_end hS))
            clear z0 z1 z2 z3 z4 hS
            go_wp2
            go_returns
            exact ⟨rfl, t2.out⟩
        · have bw : decide (f.w < 0) = false := by simp; omega
          by_cases hh : f.h < 0
          · rcases s1 with s1 | s1
            · rw [s1] at x0
              have z0 := ms_cell (f := f) hbw x0
              have z1 := ms_cell (f := f) hbw x1
              have z2 := ms_cell (f := f) hbw x2
              have z3 := ms_cell (f := f) hbw x3
              have z4 := ms_cell (f := f) hbw x4
              refine Reg.region (by kernel_rfl) 55 [35, 36] (MS wr f) (by kernel_rfl) (by kernel_rfl) (rfl) ?_
              iterate 35
                first
                  | refine Reg.WT.idle rfl rfl ?_
                  | (refine Reg.WT.yield (v := ?_) rfl rfl ?_ ?_
                     rotate_left
                     · intro w' _ hS; have z0_ := z0 _ _ hS; have z1_ := z1 _ _ hS; have z2_ := z2 _ _ hS; have z3_ := z3 _ _ hS; have z4_ := z4 _ _ hS; go_simp; (try go_bits); (first | rfl | rw [if_pos (by omega)]))
                simp only [Act.put, List.setIfInBounds_toArray, List.set_cons_zero, List.set_cons_succ]
              refine Reg.WT.make (v := .slice (some ⟨wr.heap.size, 0, none⟩) 4 4) rfl rfl ?_ ?_
              · intro w2 hS
                obtain ⟨rfl, h2⟩ := ms_make hS
                exact ⟨_, by go_simp, h2⟩
              simp only [Act.put, List.setIfInBounds_toArray, List.set_cons_zero, List.set_cons_succ]
              refine Reg.WT.call (v := ?_) (f := ?_) (args := ?_) rfl rfl ?_ ?_ ?_
              rotate_left 3
              · intro w2; go_simp; exact ⟨by rfl, by rfl⟩
              · intro w2 hS; exact ms_in_yes hS HIN.out
              simp only [Act.put, List.setIfInBounds_toArray, List.set_cons_zero, List.set_cons_succ]
              iterate 18
                first
                  | refine Reg.WT.idle rfl rfl ?_
                  | (refine Reg.WT.yield (v := ?_) rfl rfl ?_ ?_
                     rotate_left
                     · intro w' _ hS; have z0_ := z0 _ _ hS; have z1_ := z1 _ _ hS; have z2_ := z2 _ _ hS; have z3_ := z3 _ _ hS; have z4_ := z4 _ _ hS; go_simp; (try go_bits); (first | rfl | rw [if_pos (by omega)]))
                simp only [Act.put, List.setIfInBounds_toArray, List.set_cons_zero, List.set_cons_succ]
              intro w2 hS
              have t2 := hide (below_call t.out (ms_end hS))
              clear z0 z1 z2 z3 z4 hS
              go_wp2
              go_returns
              exact ⟨rfl, t2.out⟩
            · rw [s1] at x0
              have z0 := ms_cell (f := f) hbw x0
              have z1 := ms_cell (f := f) hbw x1
              have z2 := ms_cell (f := f) hbw x2
              have z3 := ms_cell (f := f) hbw x3
              have z4 := ms_cell (f := f) hbw x4
              refine Reg.region (by kernel_rfl) 55 [35, 36] (MS wr f) (by kernel_rfl) (by kernel_rfl) (rfl) ?_
              iterate 35
                first
                  | refine Reg.WT.idle rfl rfl ?_
                  | (refine Reg.WT.yield (v := ?_) rfl rfl ?_ ?_
                     rotate_left
                     · intro w' _ hS; have z0_ := z0 _ _ hS; have z1_ := z1 _ _ hS; have z2_ := z2 _ _ hS; have z3_ := z3 _ _ hS; have z4_ := z4 _ _ hS; go_simp; (try go_bits); (first | rfl | rw [if_pos (by omega)]))
                simp only [Act.put, List.setIfInBounds_toArray, List.set_cons_zero, List.set_cons_succ]
              refine Reg.WT.make (v := .slice (some ⟨wr.heap.size, 0, none⟩) 4 4) rfl rfl ?_ ?_
              · intro w2 hS
                obtain ⟨rfl, h2⟩ := ms_make hS
                exact ⟨_, by go_simp, h2⟩
              simp only [Act.put, List.setIfInBounds_toArray, List.set_cons_zero, List.set_cons_succ]
              refine Reg.WT.call (v := ?_) (f := ?_) (args := ?_) rfl rfl ?_ ?_ ?_
              rotate_left 3
              · intro w2; go_simp; exact ⟨by rfl, by rfl⟩
              · intro w2 hS; exact ms_in_yes hS HIN.out
              simp only [Act.put, List.setIfInBounds_toArray, List.set_cons_zero, List.set_cons_succ]
              iterate 18
                first
                  | refine Reg.WT.idle rfl rfl ?_
                  | (refine Reg.WT.yield (v := ?_) rfl rfl ?_ ?_
                     rotate_left
                     · intro w' _ hS; have z0_ := z0 _ _ hS; have z1_ := z1 _ _ hS; have z2_ := z2 _ _ hS; have z3_ := z3 _ _ hS; have z4_ := z4 _ _ hS; go_simp; (try go_bits); (first | rfl | rw [if_pos (by omega)]))
                simp only [Act.put, List.setIfInBounds_toArray, List.set_cons_zero, List.set_cons_succ]
              intro w2 hS
              have t2 := hide (below_call t.out (ms_end hS))
              clear z0 z1 z2 z3 z4 hS
              go_wp2
              go_returns
              exact ⟨rfl, t2.out⟩
          · have bh : decide (f.h < 0) = false := by simp; omega
            have hne : k ≠ j := fun e => HE.out e (by
              obtain ⟨h1, h2, h3, h4⟩ := HG.out HIN.out
              exact ⟨s1, h1, h2, ⟨by omega, h3.2⟩, ⟨by omega, h4.2⟩⟩)
            rcases s1 with s1 | s1
            · rw [s1] at x0
              have z0 := ms_cell (f := f) hbw x0
              have z1 := ms_cell (f := f) hbw x1
              have z2 := ms_cell (f := f) hbw x2
              have z3 := ms_cell (f := f) hbw x3
              have z4 := ms_cell (f := f) hbw x4
              refine Reg.region (by kernel_rfl) 55 [35, 36] (MS wr f) (by kernel_rfl) (by kernel_rfl) (rfl) ?_
              iterate 35
                first
                  | refine Reg.WT.idle rfl rfl ?_
                  | (refine Reg.WT.yield (v := ?_) rfl rfl ?_ ?_
                     rotate_left
                     · intro w' _ hS; have z0_ := z0 _ _ hS; have z1_ := z1 _ _ hS; have z2_ := z2 _ _ hS; have z3_ := z3 _ _ hS; have z4_ := z4 _ _ hS; go_simp; (try go_bits); (first | rfl | rw [if_pos (by omega)]))
                simp only [Act.put, List.setIfInBounds_toArray, List.set_cons_zero, List.set_cons_succ]
              refine Reg.WT.make (v := .slice (some ⟨wr.heap.size, 0, none⟩) 4 4) rfl rfl ?_ ?_
              · intro w2 hS
                obtain ⟨rfl, h2⟩ := ms_make hS
                exact ⟨_, by go_simp, h2⟩
              simp only [Act.put, List.setIfInBounds_toArray, List.set_cons_zero, List.set_cons_succ]
              refine Reg.WT.call (v := ?_) (f := ?_) (args := ?_) rfl rfl ?_ ?_ ?_
              rotate_left 3
              · intro w2; go_simp; exact ⟨by rfl, by rfl⟩
              · intro w2 hS; exact ms_in_yes hS HIN.out
              simp only [Act.put, List.setIfInBounds_toArray, List.set_cons_zero, List.set_cons_succ]
              iterate 18
                first
                  | refine Reg.WT.idle rfl rfl ?_
                  | (refine Reg.WT.yield (v := ?_) rfl rfl ?_ ?_
                     rotate_left
                     · intro w' _ hS; have z0_ := z0 _ _ hS; have z1_ := z1 _ _ hS; have z2_ := z2 _ _ hS; have z3_ := z3 _ _ hS; have z4_ := z4 _ _ hS; go_simp; (try go_bits); (first | rfl | rw [if_pos (by omega)]))
                simp only [Act.put, List.setIfInBounds_toArray, List.set_cons_zero, List.set_cons_succ]
              intro w2 hS
              have t2 := hide (below_call t.out (ms_end hS))
              clear z0 z1 z2 z3 z4 hS
              go_wp2
              go_roundw
              case rel => exact ⟨k + 1, by omega, by go_num, t2.out⟩
              case measure => simp [intOf]; omega
            · rw [s1] at x0
              have z0 := ms_cell (f := f) hbw x0
              have z1 := ms_cell (f := f) hbw x1
              have z2 := ms_cell (f := f) hbw x2
              have z3 := ms_cell (f := f) hbw x3
              have z4 := ms_cell (f := f) hbw x4
              refine Reg.region (by kernel_rfl) 55 [35, 36] (MS wr f) (by kernel_rfl) (by kernel_rfl) (rfl) ?_
              iterate 35
                first
                  | refine Reg.WT.idle rfl rfl ?_
                  | (refine Reg.WT.yield (v := ?_) rfl rfl ?_ ?_
                     rotate_left
                     · intro w' _ hS; have z0_ := z0 _ _ hS; have z1_ := z1 _ _ hS; have z2_ := z2 _ _ hS; have z3_ := z3 _ _ hS; have z4_ := z4 _ _ hS; go_simp; (try go_bits); (first | rfl | rw [if_pos (by omega)]))
                simp only [Act.put, List.setIfInBounds_toArray, List.set_cons_zero, List.set_cons_succ]
              refine Reg.WT.make (v := .slice (some ⟨wr.heap.size, 0, none⟩) 4 4) rfl rfl ?_ ?_
              · intro w2 hS
                obtain ⟨rfl, h2⟩ := ms_make hS
                exact ⟨_, by go_simp, h2⟩
              simp only [Act.put, List.setIfInBounds_toArray, List.set_cons_zero, List.set_cons_succ]
              refine Reg.WT.call (v := ?_) (f := ?_) (args := ?_) rfl rfl ?_ ?_ ?_
              rotate_left 3
              · intro w2; go_simp; exact ⟨by rfl, by rfl⟩
              · intro w2 hS; exact ms_in_yes hS HIN.out
              simp only [Act.put, List.setIfInBounds_toArray, List.set_cons_zero, List.set_cons_succ]
              iterate 18
                first
                  | refine Reg.WT.idle rfl rfl ?_
                  | (refine Reg.WT.yield (v := ?_) rfl rfl ?_ ?_
                     rotate_left
                     · intro w' _ hS; have z0_ := z0 _ _ hS; have z1_ := z1 _ _ hS; have z2_ := z2 _ _ hS; have z3_ := z3 _ _ hS; have z4_ := z4 _ _ hS; go_simp; (try go_bits); (first | rfl | rw [if_pos (by omega)]))
                simp only [Act.put, List.setIfInBounds_toArray, List.set_cons_zero, List.set_cons_succ]
              intro w2 hS
              have t2 := hide (below_call t.out (ms_end hS))
              clear z0 z1 z2 z3 z4 hS
              go_wp2
              go_roundw
              case rel => exact ⟨k + 1, by omega, by go_num, t2.out⟩
              case measure => simp [intOf]; omega
      · have HIN := hide hin
        clear hin
        rcases s1 with s1 | s1
        · rw [s1] at x0
          have z0 := ms_cell (f := f) hbw x0
          have z1 := ms_cell (f := f) hbw x1
          have z2 := ms_cell (f := f) hbw x2
          have z3 := ms_cell (f := f) hbw x3
          have z4 := ms_cell (f := f) hbw x4
          refine Reg.region (by kernel_rfl) 55 [35, 36] (MS wr f) (by kernel_rfl) (by kernel_rfl) (rfl) ?_
          iterate 35
            first
              | refine Reg.WT.idle rfl rfl ?_
              | (refine Reg.WT.yield (v := ?_) rfl rfl ?_ ?_
                 rotate_left
                 · intro w' _ hS; have z0_ := z0 _ _ hS; have z1_ := z1 _ _ hS; have z2_ := z2 _ _ hS; have z3_ := z3 _ _ hS; have z4_ := z4 _ _ hS; go_simp; (try go_bits); (first | rfl | rw [if_pos (by omega)]))
            simp only [Act.put, List.setIfInBounds_toArray, List.set_cons_zero, List.set_cons_succ]
          refine Reg.WT.make (v := .slice (some ⟨wr.heap.size, 0, none⟩) 4 4) rfl rfl ?_ ?_
          · intro w2 hS
            obtain ⟨rfl, h2⟩ := ms_make hS
            exact ⟨_, by go_simp, h2⟩
          simp only [Act.put, List.setIfInBounds_toArray, List.set_cons_zero, List.set_cons_succ]
          refine Reg.WT.call (v := ?_) (f := ?_) (args := ?_) rfl rfl ?_ ?_ ?_
          rotate_left 3
          · intro w2; go_simp; exact ⟨by rfl, by rfl⟩
          · intro w2 hS; exact ms_in_no hS HIN.out
          simp only [Act.put, List.setIfInBounds_toArray, List.set_cons_zero, List.set_cons_succ]
          iterate 18
            first
              | refine Reg.WT.idle rfl rfl ?_
              | (refine Reg.WT.yield (v := ?_) rfl rfl ?_ ?_
                 rotate_left
                 · intro w' _ hS; have z0_ := z0 _ _ hS; have z1_ := z1 _ _ hS; have z2_ := z2 _ _ hS; have z3_ := z3 _ _ hS; have z4_ := z4 _ _ hS; go_simp; (try go_bits); (first | rfl | rw [if_pos (by omega)]))
            simp only [Act.put, List.setIfInBounds_toArray, List.set_cons_zero, List.set_cons_succ]
          intro w2 hS
          have t2 := hide (below_call t.out (ms_end hS))
          clear z0 z1 z2 z3 z4 hS
          go_wp2
          go_returns
          exact ⟨rfl, t2.out⟩
        · rw [s1] at x0
          have z0 := ms_cell (f := f) hbw x0
          have z1 := ms_cell (f := f) hbw x1
          have z2 := ms_cell (f := f) hbw x2
          have z3 := ms_cell (f := f) hbw x3
          have z4 := ms_cell (f := f) hbw x4
          refine Reg.region (by kernel_rfl) 55 [35, 36] (MS wr f) (by kernel_rfl) (by kernel_rfl) (rfl) ?_
          iterate 35
            first
              | refine Reg.WT.idle rfl rfl ?_
              | (refine Reg.WT.yield (v := ?_) rfl rfl ?_ ?_
                 rotate_left
                 · intro w' _ hS; have z0_ := z0 _ _ hS; have z1_ := z1 _ _ hS; have z2_ := z2 _ _ hS; have z3_ := z3 _ _ hS; have z4_ := z4 _ _ hS; go_simp; (try go_bits); (first | rfl | rw [if_pos (by omega)]))
            simp only [Act.put, List.setIfInBounds_toArray, List.set_cons_zero, List.set_cons_succ]
          refine Reg.WT.make (v := .slice (some ⟨wr.heap.size, 0, none⟩) 4 4) rfl rfl ?_ ?_
          · intro w2 hS
            obtain ⟨rfl, h2⟩ := ms_make hS
            exact ⟨_, by go_simp, h2⟩
          simp only [Act.put, List.setIfInBounds_toArray, List.set_cons_zero, List.set_cons_succ]
          refine Reg.WT.call (v := ?_) (f := ?_) (args := ?_) rfl rfl ?_ ?_ ?_
          rotate_left 3
          · intro w2; go_simp; exact ⟨by rfl, by rfl⟩
          · intro w2 hS; exact ms_in_no hS HIN.out
          simp only [Act.put, List.setIfInBounds_toArray, List.set_cons_zero, List.set_cons_succ]
          iterate 18
            first
              | refine Reg.WT.idle rfl rfl ?_
              | (refine Reg.WT.yield (v := ?_) rfl rfl ?_ ?_
                 rotate_left
                 · intro w' _ hS; have z0_ := z0 _ _ hS; have z1_ := z1 _ _ hS; have z2_ := z2 _ _ hS; have z3_ := z3 _ _ hS; have z4_ := z4 _ _ hS; go_simp; (try go_bits); (first | rfl | rw [if_pos (by omega)]))
            simp only [Act.put, List.setIfInBounds_toArray, List.set_cons_zero, List.set_cons_succ]
          intro w2 hS
          have t2 := hide (below_call t.out (ms_end hS))
          clear z0 z1 z2 z3 z4 hS
          go_wp2
          go_returns
          exact ⟨rfl, t2.out⟩
    · have b1 : (f.s == 1) = false := by simp; omega
      have b2 : (f.s == 2) = false := by simp; omega
      have b3 : (f.s != 1) = true := by simp; omega
      have b4 : (f.s != 2) = true := by simp; omega
      have z0 := keepd x0
      refine Reg.region (by kernel_rfl) 55 [] (fun _ w' => w' = wr.drew) (by kernel_rfl) (by kernel_rfl) rfl ?_
      iterate 55
        first
          | refine Reg.WT.idle rfl rfl ?_
          | (refine Reg.WT.yield (v := ?_) rfl rfl ?_ ?_
             rotate_left
             · intro w' _ hS; go_simp; (try go_bits); (first | rfl | rw [if_pos (by omega)]))
        simp only [Act.put, List.setIfInBounds_toArray, List.set_cons_zero, List.set_cons_succ]
      intro w2 hS
      subst hS
      have t2 := hide t.out.drew
      clear z0
      go_wp2
      go_returns
      exact ⟨rfl, t2.out⟩
theorem may_big (a : Option Addr) (n c : Nat) (w : World) (hn : n ≤ 9223372036854775807) (hn2 : 200 < n) : Calls Try.prog 13 #[.slice a n c] w fun r w' => r = .returned (.bool false) ∧ Below w.heap.size w w' := by
  go_enter Try.func13, Try.ntmps13
  go_wp2
  go_returns
  exact ⟨rfl, Below.refl _ _⟩
def Mays (l : List Flt) : Prop := l.length ≤ 200 ∧ ∀ f ∈ l, Fit f
theorem may_any (a : Option Addr) (l : List Flt) (n c : Nat) (w : World) (hr : FRow w a l) (hn : l.length = n) (hu : ∀ f ∈ l, 0 ≤ f.s ∧ f.s ≤ 255) :
    (Mays l → Calls Try.prog 13 #[.slice a n c] w fun r w' => r = .returned (.bool true) ∧ Below w.heap.size w w') ∧ (¬ Mays l → Calls Try.prog 13 #[.slice a n c] w fun r w' => r = .returned (.bool false) ∧ Below w.heap.size w w') := by
  refine ⟨fun h => may_yes a l n c w hr hn h.2 (by have := h.1; omega), fun h => ?_⟩
  by_cases hb : n ≤ 200
  · exact may_no a l n c w hr hn (fun hf => h ⟨by omega, hf⟩) hb hu
  · exact may_big a n c w (by have := hr.len; omega) (by omega)
end Go.Proofs.Ytpdfeifnbeojcaa
