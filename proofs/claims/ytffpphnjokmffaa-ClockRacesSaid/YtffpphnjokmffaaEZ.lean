/- Walk: the reference's Race. -/
import Derived.Test.YtffpphnjokmffaaEY
import Derived.Test.YtffpphnjokmffaaHbSeen
namespace Go.Proofs.Ytffpphnjokmffaa
open Go.RowKit Go.Maps

def racB (e : Nat → Ev) (i j : Nat) : Bool := plE (e i) && (plE (e j) && (((e i).c == (e j).c) && (((e i).k == 6 || (e j).k == 6) && !bef e i j)))
theorem racB_iff {e : Nat → Ev} {i j : Nat} (h : i < j) : racB e i j = true ↔ Racy e i j := by
  unfold racB Racy meetE
  have hb : (!bef e i j) = true ↔ ¬ Hb e i j := by rw [← bef_hb]; simp
  rw [Bool.and_eq_true, Bool.and_eq_true, Bool.and_eq_true, Bool.and_eq_true, hb, Bool.and_eq_true, Bool.and_eq_true, Bool.and_eq_true]
  constructor
  · rintro ⟨h1, h2, h3, h4, h5⟩; exact ⟨h, ⟨⟨⟨h1, h2⟩, h3⟩, h4⟩, h5⟩
  · rintro ⟨_, ⟨⟨⟨h1, h2⟩, h3⟩, h4⟩, h5⟩; exact ⟨h1, h2, h3, h4, h5⟩
def RRPost (e : Nat → Ev) (L : Nat) (w : World) (r : Ending) (w' : World) : Prop := ∃ (i j : Nat) (is : Bool), r = .returned (.tuple #[.int .i64 i, .int .i64 j, .bool is]) ∧ RaceIs e L i j is ∧ Below w.heap.size w w'
set_option maxRecDepth 100000 in
set_option maxHeartbeats 4000000 in
theorem rrace_any (a : Option Addr) (l : List Ev) (c : Nat) (w : World) (hr : ERow w a l) (hL : l.length ≤ 400) :
    Calls Try.prog 19 #[.slice a l.length c] w (RRPost (gl l) l.length w) := by
  have HR := hide hr
  clear hr
  go_enter Try.func19, Try.ntmps19
  go_wp2_with fail
  refine (table_any a l c w HR.out hL).mono ?_
  rintro r w1 ⟨N0, rfl, hT, hN0, k1⟩
  have T := hide hT
  have t1 := hide k1
  have HN0 := hide hN0
  clear hT k1 hN0
  go_wp2_with fail
  go_loopw [6] (fun jv wr => ∃ j : Nat, j ≤ l.length ∧ jv = .int .i64 j ∧ Hid (∀ j', j' < j → ∀ i', ¬ Racy (gl l) i' j') ∧ Below w1.heap.size w1 wr) (fun jv _ => l.length - (intOf jv).toNat)
  case atStart => exact ⟨0, Nat.zero_le _, rfl, hide (fun j' h => by omega), Below.refl _ _⟩
  case round =>
    obtain ⟨j, hj, rfl, HJ, hb⟩ := hrel
    have b4 := hide hb
    clear hb
    by_cases hjt : j < l.length
    · go_wp2_with fail
      go_loopw [7] (fun iv wr => ∃ i : Nat, i ≤ j ∧ iv = .int .i64 i ∧ Hid (∀ i', i' < i → ¬ Racy (gl l) i' j) ∧ Below w1.heap.size w1 wr) (fun iv _ => j - (intOf iv).toNat)
      case atStart => exact ⟨0, Nat.zero_le _, rfl, hide (fun i' h => by omega), b4.out⟩
      case round =>
        clear b4
        obtain ⟨i, hi, rfl, HI, hb⟩ := hrel
        have b4 := hide hb
        clear hb
        by_cases hij : i < j
        · have hil : i < l.length := by omega
          obtain ⟨b, off, rfl, hb, hcell⟩ := e_at (HR.out.below (below_call (w := w) t1.out b4.out)) (by omega)
          obtain ⟨x0, x1, x2⟩ := hcell i hil
          obtain ⟨y0, y1, y2⟩ := hcell j hjt
          have m1 := (T.out.below b4.out).row hil
          have m2 := (T.out.below b4.out).at_ hil hjt
          have hn1 := (T.out.below b4.out).nb.lt
          have hn2 := ((T.out.below b4.out).nr i hil).lt
          have HRB : Hid (racB (gl l) i j = (plE l[i] && (plE l[j] && ((l[i].c == l[j].c) && ((l[i].k == 6 || l[j].k == 6) && !bef (gl l) i j))))) := hide (by unfold racB; rw [gl_at hil, gl_at hjt])
          have HRR := hide (racB_iff (e := gl l) hij)
          clear hcell
          generalize l[i] = ei at x0 x1 x2 HRB
          generalize l[j] = ej at y0 y1 y2 HRB
          generalize bef (gl l) i j = BF at m2 HRB
          generalize racB (gl l) i j = RB at HRB HRR
          go_upto_region 8 with fail
          go_cut [8] from 17 to 79 (fun s8 wx => s8 = .bool (ei.k == 6 || ej.k == 6) ∧ wr = wx)
          case first =>
            cases h6 : (ei.k == 6) with
            | true =>
              go_wp2_with fail
              go_meet
              exact ⟨by rw [h6, Bool.true_or], rfl⟩
            | false =>
              go_wp2_with fail
              go_meet
              exact ⟨by rw [h6, Bool.false_or], rfl⟩
          case rest =>
            obtain ⟨rfl, rfl⟩ := hcut
            generalize (ei.k == 6 || ej.k == 6) = SM at HRB ⊢
            go_upto_region 9 with fail
            go_cut [77] from 17 to 79 (fun s77 wx => s77 = .bool RB ∧ Below wr.heap.size wr wx)
            case first =>
              have r0 := keepc hb x0
              have r1 := keepc hb x1
              have r2 := keepc hb x2
              have v0 := keepc hb y0
              have v1 := keepc hb y1
              have v2 := keepc hb y2
              have n1 := keepc hn1 m1
              have n2 := keepc hn2 m2
              clear x0 x1 x2 y0 y1 y2 m1 m2
              have P1 := hide (fun W => rplain_any ei W)
              have P2 := hide (fun W => rplain_any ej W)
              cases h1 : plE ei with
              | false =>
                rw [h1] at P1
                refine Reg.region (by kernel_rfl) 40 [4] (fun _ w' => Below wr.heap.size wr w') (by kernel_rfl) (by kernel_rfl) (Below.refl _ _).drew ?_
                iterate 4
                  first
                    | refine Reg.WT.idle rfl rfl ?_
                    | (refine Reg.WT.yield (v := ?_) rfl rfl ?_ ?_
                       rotate_left
                       · intro w' _ hS; go_simp; (try go_bits); (first | rfl | rw [if_pos (by omega)]))
                  simp only [Act.put, List.setIfInBounds_toArray, List.set_cons_zero, List.set_cons_succ]
                refine Reg.WT.call (v := ?_) (f := ?_) (args := ?_) rfl rfl ?_ ?_ ?_
                rotate_left 3
                · intro w2; go_simp; exact ⟨by rfl, by rfl⟩
                · intro w2 hS; refine (P1.out w2).mono ?_; rintro e w3 ⟨rfl, hb⟩; exact ⟨by rfl, hS.trans (hb.mono hS.size)⟩
                simp only [Act.put, List.setIfInBounds_toArray, List.set_cons_zero, List.set_cons_succ]
                iterate 35
                  first
                    | refine Reg.WT.idle rfl rfl ?_
                    | (refine Reg.WT.yield (v := ?_) rfl rfl ?_ ?_
                       rotate_left
                       · intro w' _ hS; go_simp; (try go_bits); (first | rfl | rw [if_pos (by omega)]))
                  simp only [Act.put, List.setIfInBounds_toArray, List.set_cons_zero, List.set_cons_succ]
                intro w5 hS
                clear r0 r1 r2 v0 v1 v2 n1 n2
                go_wp2_with fail
                go_meet
                exact ⟨by rw [HRB.out]; simp [*], hS⟩
              | true =>
                rw [h1] at P1
                cases h2 : plE ej with
                | false =>
                  rw [h2] at P2
                  refine Reg.region (by kernel_rfl) 40 [4, 10] (fun _ w' => Below wr.heap.size wr w') (by kernel_rfl) (by kernel_rfl) (Below.refl _ _).drew ?_
                  iterate 4
                    first
                      | refine Reg.WT.idle rfl rfl ?_
                      | (refine Reg.WT.yield (v := ?_) rfl rfl ?_ ?_
                         rotate_left
                         · intro w' _ hS; go_simp; (try go_bits); (first | rfl | rw [if_pos (by omega)]))
                    simp only [Act.put, List.setIfInBounds_toArray, List.set_cons_zero, List.set_cons_succ]
                  refine Reg.WT.call (v := ?_) (f := ?_) (args := ?_) rfl rfl ?_ ?_ ?_
                  rotate_left 3
                  · intro w2; go_simp; exact ⟨by rfl, by rfl⟩
                  · intro w2 hS; refine (P1.out w2).mono ?_; rintro e w3 ⟨rfl, hb⟩; exact ⟨by rfl, hS.trans (hb.mono hS.size)⟩
                  simp only [Act.put, List.setIfInBounds_toArray, List.set_cons_zero, List.set_cons_succ]
                  iterate 5
                    first
                      | refine Reg.WT.idle rfl rfl ?_
                      | (refine Reg.WT.yield (v := ?_) rfl rfl ?_ ?_
                         rotate_left
                         · intro w' _ hS; go_simp; (try go_bits); (first | rfl | rw [if_pos (by omega)]))
                    simp only [Act.put, List.setIfInBounds_toArray, List.set_cons_zero, List.set_cons_succ]
                  refine Reg.WT.call (v := ?_) (f := ?_) (args := ?_) rfl rfl ?_ ?_ ?_
                  rotate_left 3
                  · intro w2; go_simp; exact ⟨by rfl, by rfl⟩
                  · intro w2 hS; refine (P2.out w2).mono ?_; rintro e w3 ⟨rfl, hb⟩; exact ⟨by rfl, hS.trans (hb.mono hS.size)⟩
                  simp only [Act.put, List.setIfInBounds_toArray, List.set_cons_zero, List.set_cons_succ]
                  iterate 29
                    first
                      | refine Reg.WT.idle rfl rfl ?_
                      | (refine Reg.WT.yield (v := ?_) rfl rfl ?_ ?_
                         rotate_left
                         · intro w' _ hS; go_simp; (try go_bits); (first | rfl | rw [if_pos (by omega)]))
                    simp only [Act.put, List.setIfInBounds_toArray, List.set_cons_zero, List.set_cons_succ]
                  intro w5 hS
                  clear r0 r1 r2 v0 v1 v2 n1 n2
                  go_wp2_with fail
                  go_meet
                  exact ⟨by rw [HRB.out]; simp [*], hS⟩
                | true =>
                  rw [h2] at P2
                  cases h3 : (ei.c == ej.c) with
                  | false =>
                    refine Reg.region (by kernel_rfl) 40 [4, 10] (fun _ w' => Below wr.heap.size wr w') (by kernel_rfl) (by kernel_rfl) (Below.refl _ _).drew ?_
                    iterate 4
                      first
                        | refine Reg.WT.idle rfl rfl ?_
                        | (refine Reg.WT.yield (v := ?_) rfl rfl ?_ ?_
                           rotate_left
                           · intro w' _ hS; go_simp; (try go_bits); (first | rfl | rw [if_pos (by omega)]))
                      simp only [Act.put, List.setIfInBounds_toArray, List.set_cons_zero, List.set_cons_succ]
                    refine Reg.WT.call (v := ?_) (f := ?_) (args := ?_) rfl rfl ?_ ?_ ?_
                    rotate_left 3
                    · intro w2; go_simp; exact ⟨by rfl, by rfl⟩
                    · intro w2 hS; refine (P1.out w2).mono ?_; rintro e w3 ⟨rfl, hb⟩; exact ⟨by rfl, hS.trans (hb.mono hS.size)⟩
                    simp only [Act.put, List.setIfInBounds_toArray, List.set_cons_zero, List.set_cons_succ]
                    iterate 5
                      first
                        | refine Reg.WT.idle rfl rfl ?_
                        | (refine Reg.WT.yield (v := ?_) rfl rfl ?_ ?_
                           rotate_left
                           · intro w' _ hS; go_simp; (try go_bits); (first | rfl | rw [if_pos (by omega)]))
                      simp only [Act.put, List.setIfInBounds_toArray, List.set_cons_zero, List.set_cons_succ]
                    refine Reg.WT.call (v := ?_) (f := ?_) (args := ?_) rfl rfl ?_ ?_ ?_
                    rotate_left 3
                    · intro w2; go_simp; exact ⟨by rfl, by rfl⟩
                    · intro w2 hS; refine (P2.out w2).mono ?_; rintro e w3 ⟨rfl, hb⟩; exact ⟨by rfl, hS.trans (hb.mono hS.size)⟩
                    simp only [Act.put, List.setIfInBounds_toArray, List.set_cons_zero, List.set_cons_succ]
                    iterate 29
                      first
                        | refine Reg.WT.idle rfl rfl ?_
                        | (refine Reg.WT.yield (v := ?_) rfl rfl ?_ ?_
                           rotate_left
                           · intro w' _ hS; go_simp; (try go_bits); (first | rfl | rw [if_pos (by omega)]))
                      simp only [Act.put, List.setIfInBounds_toArray, List.set_cons_zero, List.set_cons_succ]
                    intro w5 hS
                    clear r0 r1 r2 v0 v1 v2 n1 n2
                    go_wp2_with fail
                    go_meet
                    exact ⟨by rw [HRB.out]; simp [*], hS⟩
                  | true =>
                    cases SM with
                    | false =>
                      refine Reg.region (by kernel_rfl) 40 [4, 10] (fun _ w' => Below wr.heap.size wr w') (by kernel_rfl) (by kernel_rfl) (Below.refl _ _).drew ?_
                      iterate 4
                        first
                          | refine Reg.WT.idle rfl rfl ?_
                          | (refine Reg.WT.yield (v := ?_) rfl rfl ?_ ?_
                             rotate_left
                             · intro w' _ hS; go_simp; (try go_bits); (first | rfl | rw [if_pos (by omega)]))
                        simp only [Act.put, List.setIfInBounds_toArray, List.set_cons_zero, List.set_cons_succ]
                      refine Reg.WT.call (v := ?_) (f := ?_) (args := ?_) rfl rfl ?_ ?_ ?_
                      rotate_left 3
                      · intro w2; go_simp; exact ⟨by rfl, by rfl⟩
                      · intro w2 hS; refine (P1.out w2).mono ?_; rintro e w3 ⟨rfl, hb⟩; exact ⟨by rfl, hS.trans (hb.mono hS.size)⟩
                      simp only [Act.put, List.setIfInBounds_toArray, List.set_cons_zero, List.set_cons_succ]
                      iterate 5
                        first
                          | refine Reg.WT.idle rfl rfl ?_
                          | (refine Reg.WT.yield (v := ?_) rfl rfl ?_ ?_
                             rotate_left
                             · intro w' _ hS; go_simp; (try go_bits); (first | rfl | rw [if_pos (by omega)]))
                        simp only [Act.put, List.setIfInBounds_toArray, List.set_cons_zero, List.set_cons_succ]
                      refine Reg.WT.call (v := ?_) (f := ?_) (args := ?_) rfl rfl ?_ ?_ ?_
                      rotate_left 3
                      · intro w2; go_simp; exact ⟨by rfl, by rfl⟩
                      · intro w2 hS; refine (P2.out w2).mono ?_; rintro e w3 ⟨rfl, hb⟩; exact ⟨by rfl, hS.trans (hb.mono hS.size)⟩
                      simp only [Act.put, List.setIfInBounds_toArray, List.set_cons_zero, List.set_cons_succ]
                      iterate 29
                        first
                          | refine Reg.WT.idle rfl rfl ?_
                          | (refine Reg.WT.yield (v := ?_) rfl rfl ?_ ?_
                             rotate_left
                             · intro w' _ hS; go_simp; (try go_bits); (first | rfl | rw [if_pos (by omega)]))
                        simp only [Act.put, List.setIfInBounds_toArray, List.set_cons_zero, List.set_cons_succ]
                      intro w5 hS
                      clear r0 r1 r2 v0 v1 v2 n1 n2
                      go_wp2_with fail
                      go_meet
                      exact ⟨by rw [HRB.out]; simp [*], hS⟩
                    | true =>
                      refine Reg.region (by kernel_rfl) 40 [4, 10] (fun _ w' => Below wr.heap.size wr w') (by kernel_rfl) (by kernel_rfl) (Below.refl _ _).drew ?_
                      iterate 4
                        first
                          | refine Reg.WT.idle rfl rfl ?_
                          | (refine Reg.WT.yield (v := ?_) rfl rfl ?_ ?_
                             rotate_left
                             · intro w' _ hS; go_simp; (try go_bits); (first | rfl | rw [if_pos (by omega)]))
                        simp only [Act.put, List.setIfInBounds_toArray, List.set_cons_zero, List.set_cons_succ]
                      refine Reg.WT.call (v := ?_) (f := ?_) (args := ?_) rfl rfl ?_ ?_ ?_
                      rotate_left 3
                      · intro w2; go_simp; exact ⟨by rfl, by rfl⟩
                      · intro w2 hS; refine (P1.out w2).mono ?_; rintro e w3 ⟨rfl, hb⟩; exact ⟨by rfl, hS.trans (hb.mono hS.size)⟩
                      simp only [Act.put, List.setIfInBounds_toArray, List.set_cons_zero, List.set_cons_succ]
                      iterate 5
                        first
                          | refine Reg.WT.idle rfl rfl ?_
                          | (refine Reg.WT.yield (v := ?_) rfl rfl ?_ ?_
                             rotate_left
                             · intro w' _ hS; go_simp; (try go_bits); (first | rfl | rw [if_pos (by omega)]))
                        simp only [Act.put, List.setIfInBounds_toArray, List.set_cons_zero, List.set_cons_succ]
                      refine Reg.WT.call (v := ?_) (f := ?_) (args := ?_) rfl rfl ?_ ?_ ?_
                      rotate_left 3
                      · intro w2; go_simp; exact ⟨by rfl, by rfl⟩
                      · intro w2 hS; refine (P2.out w2).mono ?_; rintro e w3 ⟨rfl, hb⟩; exact ⟨by rfl, hS.trans (hb.mono hS.size)⟩
                      simp only [Act.put, List.setIfInBounds_toArray, List.set_cons_zero, List.set_cons_succ]
                      iterate 29
                        first
                          | refine Reg.WT.idle rfl rfl ?_
                          | (refine Reg.WT.yield (v := ?_) rfl rfl ?_ ?_
                             rotate_left
                             · intro w' _ hS; go_simp; (try go_bits); (first | rfl | rw [if_pos (by omega)]))
                        simp only [Act.put, List.setIfInBounds_toArray, List.set_cons_zero, List.set_cons_succ]
                      intro w5 hS
                      clear r0 r1 r2 v0 v1 v2 n1 n2
                      go_wp2_with fail
                      go_meet
                      exact ⟨by rw [HRB.out]; simp [*], hS⟩
            case rest =>
              obtain ⟨rfl, hbc⟩ := hcut
              have b5 := hide (b4.out.trans (hbc.mono b4.out.size))
              clear x0 x1 x2 y0 y1 y2 m1 m2 hn1 hn2 hb hbc HRB
              cases RB with
              | true =>
                have HX := hide (HRR.out.1 rfl)
                have t5 := hide (below_call (w := w) t1.out b5.out)
                go_wp2_with fail
                go_returns
                exact ⟨i, j, true, rfl, .inl ⟨rfl, hjt, HX.out, HJ.out, HI.out⟩, t5.out⟩
              | false =>
                have HX : Hid (¬ Racy (gl l) i j) := hide (fun h => by have := HRR.out.2 h; cases this)
                clear HRR
                go_wp2_with fail
                go_roundw
                case rel => exact ⟨i + 1, hij, by go_num, hide (fun i' h => by
                  by_cases he : i' = i
                  · subst he; exact HX.out
                  · exact HI.out i' (by omega)), b5.out⟩
                case measure => simp [intOf]; omega
        · obtain rfl : i = j := by omega
          have HX : Hid (∀ j', j' < i + 1 → ∀ i', ¬ Racy (gl l) i' j') := hide (fun j' h i' hr => by
            by_cases he : j' = i
            · subst he
              exact HI.out i' (hr.1) hr
            · exact HJ.out j' (by omega) i' hr)
          go_wp2_with fail
          go_roundw
          case rel => exact ⟨i + 1, hjt, by go_num, HX, b4.out⟩
          case measure => simp [intOf]; omega
    · obtain rfl : j = l.length := by omega
      have t5 := hide (below_call (w := w) t1.out b4.out)
      go_wp2_with fail
      go_returns
      exact ⟨0, 0, false, rfl, .inr ⟨rfl, rfl, rfl, HJ.out⟩, t5.out⟩
end Go.Proofs.Ytffpphnjokmffaa
