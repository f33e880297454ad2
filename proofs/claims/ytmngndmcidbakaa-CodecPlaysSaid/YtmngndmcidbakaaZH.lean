/- Walk: the reference's Same of trees. -/
import Derived.Test.YtmngndmcidbakaaSE
namespace Go.Proofs.Ytmngndmcidbakaa
open Go.RowKit
instance : DecidableEq Tr := fun T U => decidable_of_iff (T.view = U.view ∧ T.adv = U.adv ∧ T.nodes = U.nodes) (by cases T; cases U; simp)
/-- A tree of a size that may be counted. -/
structure SzT (T : Tr) : Prop where
  n : T.nodes.length ≤ 10000000
  a : T.adv.length ≤ 10000000
  u : ∀ x ∈ T.nodes, (x.2.getD 31 []).length ≤ 10000000
theorem mem_flat_le {α : Type} {f : α → List Int} {l : List α} {x : α} (h : x ∈ l) : (f x).length ≤ (l.map f).flatten.length := by
  obtain ⟨a, b, rfl⟩ := List.append_of_mem h
  simp
  omega
theorem SzT.of_wr {T : Tr} (ok : okT T) (h : (wrT T).length ≤ 10000000) : SzT T := by
  unfold wrT at h
  simp only [List.length_append] at h
  have h1 := flat_ge (wr := num) (ok := fun _ => True) (fun x _ => num_ge x) T.adv (fun _ _ => trivial)
  have h2 := flat_ge (wr := wrN) (ok := okN) (fun x hx => wrN_len hx) T.nodes ok.nodes
  refine ⟨by omega, by omega, fun x hx => ?_⟩
  have h3 := mem_flat_le (f := wrN) hx
  have h4 := units_le (ok.nodes x hx).2
  unfold wrN at h3
  rw [List.length_append] at h3
  unfold wrN at h
  omega
theorem st_range {W : World} {b o : Nat} {L : List (List Int)} (h : StAt W b o L) : ∃ uv, W.rangeAt b o (SC (gof L) uv) ∧ UR W uv (L.getD 31 []) := by
  obtain ⟨_, uv, h1, h2⟩ := h
  refine ⟨uv, fun j v hv => ?_, h2⟩
  have hj : j < 43 := (List.getElem?_eq_some_iff.1 hv).1
  rw [h1 j hj, hv]
theorem run_load_style {w : World} {b o : Nat} {L : List (List Int)} {uv : Value} {a : Act} {op : Oper} {x : Operand} (ho : op.op = .load 49 x) (hx : a.eval x = .pointer (some ⟨b, o, none⟩)) (h : w.rangeAt b o (SC (gof L) uv)) :
    (execOp a.eval op).run Try.prog w = .ok (.value (.agg (SC (gof L) uv).toArray)) w := by
  have hs : (Try.prog.info? 49).map (·.size) = some (SC (gof L) uv).length := st_size (gof L) uv
  have := run_loadAt_mid w b o 49 (SC (gof L) uv) _ h Try.underlying49 rfl hs
  unfold execOp
  simp only [ho, hx, Sem.run_bind, Sem.run_pure, Result.andThen_ok, this]
theorem range_below {w w' : World} {b o : Nat} {l : List Value} (h : w.rangeAt b o l) (hb : Below w.heap.size w w') (hlt : b < w.heap.size) : w'.rangeAt b o l := fun j v hv => (hb.cell (p := ⟨b, o + j, none⟩) hlt).trans (h j v hv)
set_option maxRecDepth 100000 in
set_option maxHeartbeats 4000000 in
theorem tsame_any (v1 v2 : Value) (T U : Tr) (w : World) (hT : TrV w v1 T) (hU : TrV w v2 U) (sT : SzT T) (sU : SzT U) :
    Calls Try.prog 20 #[v1, v2] w fun r w' => r = .returned (.bool (decide (T = U))) ∧ Below w.heap.size w w' := by
  obtain ⟨na, nc, aa, ac, rfl, hn1, ha1, ok1, _⟩ := hT
  obtain ⟨nb, nd, ab, ad, rfl, hn2, ha2, ok2, _⟩ := hU
  obtain ⟨x1, y1, z1⟩ := T
  obtain ⟨x2, y2, z2⟩ := U
  obtain ⟨s1, s2, s3⟩ := sT
  obtain ⟨t1, t2, t3⟩ := sU
  dsimp only at hn1 ha1 hn2 ha2 s1 s2 s3 t1 t2 t3 ⊢
  have OK1 := hide ok1.nodes
  have OK2 := hide ok2.nodes
  dsimp only at OK1 OK2
  clear ok1 ok2
  obtain ⟨W2, hW2⟩ : ∃ W2, W2 = (w.alloc (.cells #[.slice na z1.length nc, .slice aa y1.length ac, .int .i64 x1] 35)).alloc (.cells #[.slice nb z2.length nd, .slice ab y2.length ad, .int .i64 x2] 35) := ⟨_, rfl⟩
  have k2 : Below w.heap.size w W2 := by rw [hW2]; exact ((Below.refl _ _).alloc (Nat.le_refl _) _).alloc (by simp) _
  obtain ⟨ga, hga⟩ : ∃ ga, ga = w.heap.size := ⟨_, rfl⟩
  have BA : Blk W2 ga 35 #[.slice na z1.length nc, .slice aa y1.length ac, .int .i64 x1] := by rw [hW2, hga]; exact (Blk.new w _ _).alloc _
  have BB : Blk W2 (ga + 1) 35 #[.slice nb z2.length nd, .slice ab y2.length ad, .int .i64 x2] := by
    rw [hW2, hga]
    have := Blk.new (w.alloc (.cells #[.slice na z1.length nc, .slice aa y1.length ac, .int .i64 x1] 35)) 35 #[.slice nb z2.length nd, .slice ab y2.length ad, .int .i64 x2]
    simpa using this
  have N1 := hide (hn1.below k2)
  have N2 := hide (hn2.below k2)
  have A1 := hide (ha1.below k2)
  have A2 := hide (ha2.below k2)
  have K2 : Hid (Below ga w W2) := hide (hga ▸ k2)
  have HGS : Hid (ga ≤ W2.heap.size) := hide (by rw [hga]; exact k2.size)
  have HW2 := hide hW2
  have HGA := hide hga
  have BA := hide BA
  have BB := hide BB
  clear hn1 hn2 ha1 ha2 hW2 k2 hga
  rw [← HGA.out]
  generalize hdd : decide ((⟨x1, y1, z1⟩ : Tr) = ⟨x2, y2, z2⟩) = dd
  have HDD := hide hdd
  clear hdd
  go_enter Try.func20, Try.ntmps20
  go_upto_region 1 with fail
  rw [← HW2.out, ← HGA.out]
  have c0 : W2.cell? ⟨ga, 0, none⟩ = some (.slice na z1.length nc) := BA.out.cell 0
  have c1 : W2.cell? ⟨ga, 1, none⟩ = some (.slice aa y1.length ac) := BA.out.cell 1
  have c2 : W2.cell? ⟨ga, 2, none⟩ = some (.int .i64 x1) := BA.out.cell 2
  have d0 : W2.cell? ⟨ga + 1, 0, none⟩ = some (.slice nb z2.length nd) := BB.out.cell 0
  have d1 : W2.cell? ⟨ga + 1, 1, none⟩ = some (.slice ab y2.length ad) := BB.out.cell 1
  have d2 : W2.cell? ⟨ga + 1, 2, none⟩ = some (.int .i64 x2) := BB.out.cell 2
  by_cases hx : x1 = x2
  · have e0 : (x1 != x2) = false := by simp [hx]
    by_cases hz : z1.length = z2.length
    · have e1 : ((z1.length : Int) != (z2.length : Int)) = false := by simp [hz]
      by_cases hy : y1.length = y2.length
      · have e2 : ((y1.length : Int) != (y2.length : Int)) = false := by simp [hy]
        have hx := hide hx
        have hz := hide hz
        have hy := hide hy
        go_wp2_with fail
        clear e0 e1 e2 c0 d0
        go_loopw [5] (fun s5 wr => ∃ i : Nat, i ≤ y1.length ∧ s5 = .int .i64 i ∧ Hid (y1.take i = y2.take i) ∧ ∃ q, wr = W2.drewN q) (fun s5 _ => y1.length - (intOf s5).toNat)
        case atStart => exact ⟨0, Nat.zero_le _, rfl, hide rfl, 0, rfl⟩
        case round =>
          obtain ⟨i, hi, rfl, htk, q, rfl⟩ := hrel
          have c1 : (W2.drewN q).cell? ⟨ga, 1, none⟩ = some (.slice aa y1.length ac) := c1
          have d1 : (W2.drewN q).cell? ⟨ga + 1, 1, none⟩ = some (.slice ab y2.length ad) := d1
          by_cases hlt : i < y1.length
          · obtain ⟨b1, o1, e1, hb1, hc1'⟩ := A1.out.2 (by rw [List.length_map]; omega)
            obtain ⟨b2, o2, e2, hb2, hc2'⟩ := A2.out.2 (by have := hy.out; rw [List.length_map]; omega)
            subst e1 e2
            have z1' := hc1' i (by rw [List.length_map]; exact hlt)
            have z2' := hc2' i (by have := hy.out; rw [List.length_map]; omega)
            rw [List.getElem_map] at z1' z2'
            have hlt2 : i < y2.length := by have := hy.out; omega
            have HT1 := hide (List.take_succ_eq_append_getElem hlt)
            have HT2 := hide (List.take_succ_eq_append_getElem hlt2)
            clear hc1' hc2'
            have HG : Hid (y1[i] ≠ y2[i] → dd = false) := hide (fun hne => by
              rw [← HDD.out]
              rw [decide_eq_false_iff_not]
              intro e
              injection e with _ e _
              apply hne
              subst e
              rfl)
            generalize y1[i] = u at z1' HT1 HG
            generalize y2[i] = v at z2' HT2 HG
            have z1' : (W2.drewN q).cell? ⟨b1, o1 + i, none⟩ = some (.int .i64 u) := z1'
            have z2' : (W2.drewN q).cell? ⟨b2, o2 + i, none⟩ = some (.int .i64 v) := z2'
            have hd : decide ((i : Int) < (y1.length : Int)) = true := by rw [decide_eq_true_eq]; omega
            go_upto_region 6 with fail
            have C0 := keepd c1
            have C1 := keepd d1
            have C2 := keepd z1'
            have C3 := keepd z2'
            refine Reg.region (by kernel_rfl) 11 [] (fun _ w' => w' = (W2.drewN q).drew) (by kernel_rfl) (by kernel_rfl) rfl ?_
            iterate 11
              first
                | refine Reg.WT.idle rfl rfl ?_
                | (refine Reg.WT.yield (v := ?_) rfl rfl ?_ ?_
                   rotate_left
                   · intro w' _ hS; go_simp; (try go_bits); (first | rfl | rw [if_pos (by omega)]))
              simp only [Act.put, List.setIfInBounds_toArray, List.set_cons_zero, List.set_cons_succ]
            intro w4 hS
            subst hS
            clear C0 C1 C2 C3
            by_cases hne : u = v
            · have d1' : (u != v) = false := by simp [hne]
              have HTT : Hid (y1.take (i + 1) = y2.take (i + 1)) := hide (by rw [HT1.out, HT2.out, htk.out, hne])
              clear HT1 HT2 HG htk
              go_wp2_with fail
              go_roundw
              case rel => exact ⟨i + 1, hlt, by go_num, HTT, q + 1, rfl⟩
              case measure => simp [intOf]; omega
            · have d1' : (u != v) = true := by simp [hne]
              have HD := hide (HG.out hne)
              go_wp2_with fail
              go_returns
              rw [HD.out]
              exact ⟨rfl, (below_drewN K2.out _).drew⟩
          · obtain rfl : i = y1.length := by omega
            have HE : Hid (y1 = y2) := hide (by have := htk.out; rw [List.take_length, hy.out, List.take_length] at this; exact this)
            clear htk hi hlt c1 d1
            obtain ⟨w5, hw5⟩ : ∃ w5, w5 = W2.drewN q := ⟨_, rfl⟩
            have BA5 := hide (hw5 ▸ BA.out.drewN q)
            have BB5 := hide (hw5 ▸ BB.out.drewN q)
            have K5 := hide (hw5 ▸ below_drewN K2.out q)
            have N15 := hide (N1.out.below (hw5 ▸ below_drewN (Below.refl W2.heap.size W2) q))
            have N25 := hide (N2.out.below (hw5 ▸ below_drewN (Below.refl W2.heap.size W2) q))
            have HGS5 : ga ≤ w5.heap.size := by rw [hw5]; exact HGS.out
            rw [← hw5]
            have c1 : w5.cell? ⟨ga, 1, none⟩ = some (.slice aa y1.length ac) := BA5.out.cell 1
            have c0 : w5.cell? ⟨ga, 0, none⟩ = some (.slice na z1.length nc) := BA5.out.cell 0
            clear hw5 BA BB K2 N1 N2
            go_wp2_with fail
            go_loopw [6] (fun s6 wr => ∃ j : Nat, j ≤ z1.length ∧ s6 = .int .i64 j ∧ Hid (z1.take j = z2.take j) ∧ Below w5.heap.size w5 wr) (fun s6 _ => z1.length - (intOf s6).toNat)
            case atStart => exact ⟨0, Nat.zero_le _, rfl, hide rfl, Below.refl _ _⟩
            case round =>
              obtain ⟨j, hj, rfl, htk, hb⟩ := hrel
              have T5 := hide hb
              have hb5 := T5
              have BA6 := hide (BA5.out.below hb BA5.out.lt)
              have BB6 := hide (BB5.out.below hb BB5.out.lt)
              have c0 : wr.cell? ⟨ga, 0, none⟩ = some (.slice na z1.length nc) := BA6.out.cell 0
              have d0 : wr.cell? ⟨ga + 1, 0, none⟩ = some (.slice nb z2.length nd) := BB6.out.cell 0
              have hga : ga < wr.heap.size := BA6.out.lt
              have hgb : ga + 1 < wr.heap.size := BB6.out.lt
              by_cases hlt : j < z1.length
              · obtain ⟨b1, o1, e1, hb1, hn1⟩ := (N15.out.below hb).2 (by omega)
                obtain ⟨b2, o2, e2, hb2, hn2⟩ := (N25.out.below hb).2 (by have := hz.out; omega)
                subst e1 e2
                have hlt2 : j < z2.length := by have := hz.out; omega
                obtain ⟨p1, q1⟩ := hn1 j hlt
                obtain ⟨p2, q2⟩ := hn2 j hlt2
                obtain ⟨u1, r1, ur1⟩ := st_range q1
                obtain ⟨u2, r2, ur2⟩ := st_range q2
                have HT1 := hide (List.take_succ_eq_append_getElem hlt)
                have HT2 := hide (List.take_succ_eq_append_getElem hlt2)
                have okA := (OK1.out _ (List.getElem_mem hlt)).2
                have okB := (OK2.out _ (List.getElem_mem hlt2)).2
                have suA := s3 _ (List.getElem_mem hlt)
                have suB := t3 _ (List.getElem_mem hlt2)
                have HG : Hid (z1[j] ≠ z2[j] → dd = false) := hide (fun hne => by
                  rw [← HDD.out]
                  rw [decide_eq_false_iff_not]
                  intro e
                  injection e with _ _ e
                  apply hne
                  subst e
                  rfl)
                clear hn1 hn2 q1 q2 hb
                generalize z1[j] = n1 at p1 r1 ur1 HT1 okA suA HG
                generalize z2[j] = n2 at p2 r2 ur2 HT2 okB suB HG
                obtain ⟨pa, L⟩ := n1
                obtain ⟨pb, M⟩ := n2
                dsimp only at p1 r1 ur1 okA suA p2 r2 ur2 okB suB
                have okA := hide okA
                have okB := hide okB
                have ur1 := hide ur1
                have ur2 := hide ur2
                have hd : decide ((j : Int) < (z1.length : Int)) = true := by rw [decide_eq_true_eq]; omega
                go_upto_region 11 with fail
                have C0 := keepc (p := ⟨ga, 0, none⟩) hga c0
                have C1 := keepc (p := ⟨ga + 1, 0, none⟩) hgb d0
                have C2 := keepc (p := ⟨b1, o1 + j * 44, none⟩) hb1 p1
                have C3 := keepc (p := ⟨b2, o2 + j * 44, none⟩) hb2 p2
                obtain ⟨bb, hbb⟩ : ∃ bb, bb = decide (L = M) := ⟨_, rfl⟩
                have HC : Hid (∀ w2, Below wr.heap.size wr w2 → Calls Try.prog 31 #[.agg (SC (gof L) u1).toArray, .agg (SC (gof M) u2).toArray] w2 fun r w' => r = .returned (.bool bb) ∧ Below w2.heap.size w2 w') := hide (fun w2 hS => by rw [hbb]; exact ssame_any L M u1 u2 w2 okA.out okB.out (ur1.out.below hS) (ur2.out.below hS) suA suB)
                have HBB := hide hbb
                clear hbb
                by_cases hp : pa = pb
                · have d3 : (pa != pb) = false := by simp [hp]
                  have hp := hide hp
                  refine Reg.region (by kernel_rfl) 28 [26] (fun _ w' => Below wr.heap.size wr w') (by kernel_rfl) (by kernel_rfl) (Below.refl _ _).drew ?_
                  iterate 14
                    refine Reg.WT.yield (v := ?_) rfl rfl ?_ ?_
                    rotate_left
                    · intro w' _ hS; go_simp; (try go_bits); (first | rfl | rw [if_pos (by omega)])
                    simp only [Act.put, List.setIfInBounds_toArray, List.set_cons_zero, List.set_cons_succ]
                  iterate 5
                    refine Reg.WT.yield (v := ?_) rfl rfl ?_ ?_
                    rotate_left
                    · intro w' _ hS; go_simp; (try go_bits); (first | rfl | rw [if_pos (by omega)])
                    simp only [Act.put, List.setIfInBounds_toArray, List.set_cons_zero, List.set_cons_succ]
                  refine Reg.WT.yield (v := .agg (SC (gof L) u1).toArray) rfl rfl (fun w' _ hS => run_load_style (b := b1) (o := o1 + j * 44 + 1) rfl rfl (range_below r1 hS hb1)) ?_
                  simp only [Act.put, List.setIfInBounds_toArray, List.set_cons_zero, List.set_cons_succ]
                  iterate 5
                    refine Reg.WT.yield (v := ?_) rfl rfl ?_ ?_
                    rotate_left
                    · intro w' _ hS; go_simp; (try go_bits); (first | rfl | rw [if_pos (by omega)])
                    simp only [Act.put, List.setIfInBounds_toArray, List.set_cons_zero, List.set_cons_succ]
                  refine Reg.WT.yield (v := .agg (SC (gof M) u2).toArray) rfl rfl (fun w' _ hS => run_load_style (b := b2) (o := o2 + j * 44 + 1) rfl rfl (range_below r2 hS hb2)) ?_
                  simp only [Act.put, List.setIfInBounds_toArray, List.set_cons_zero, List.set_cons_succ]
                  refine Reg.WT.call (v := ?_) (f := ?_) (args := ?_) rfl rfl ?_ ?_ ?_
                  rotate_left 3
                  · intro w2; go_simp; exact ⟨by rfl, by rfl⟩
                  · intro w2 hS; refine (HC.out w2 hS).mono ?_; rintro e w3 ⟨rfl, hb⟩; exact ⟨by rfl, hS.trans (hb.mono hS.size)⟩
                  simp only [Act.put, List.setIfInBounds_toArray, List.set_cons_zero, List.set_cons_succ]
                  iterate 1
                    refine Reg.WT.yield (v := ?_) rfl rfl ?_ ?_
                    rotate_left
                    · intro w' _ hS; go_simp; (try go_bits); (first | rfl | rw [if_pos (by omega)])
                    simp only [Act.put, List.setIfInBounds_toArray, List.set_cons_zero, List.set_cons_succ]
                  intro w7 hS
                  have T7 := hide (hb5.out.trans (hS.mono hb5.out.size))
                  clear hS C0 C1 C2 C3 d3 c0 d0 p1 p2 r1 r2
                  cases bb with
                  | true =>
                    have HTT : Hid (z1.take (j + 1) = z2.take (j + 1)) := hide (by
                      have hLM : L = M := by have := HBB.out; simpa using this.symm
                      rw [HT1.out, HT2.out, htk.out, hLM, hp.out])
                    go_wp2_with fail
                    go_roundw
                    case rel => exact ⟨j + 1, hlt, by go_num, HTT, T7.out⟩
                    case measure => simp [intOf]; omega
                  | false =>
                    have HD := hide (HG.out (fun e => by
                      injection e with _ e
                      rw [e] at HBB
                      exact absurd HBB.out (by simp)))
                    go_wp2_with fail
                    go_returns
                    rw [HD.out]
                    exact ⟨rfl, K5.out.trans (T7.out.mono HGS5)⟩
                · have d3 : (pa != pb) = true := by simp [hp]
                  have HD := hide (HG.out (fun e => hp (by injection e)))
                  refine Reg.region (by kernel_rfl) 28 [] (fun _ w' => Below wr.heap.size wr w') (by kernel_rfl) (by kernel_rfl) (Below.refl _ _).drew ?_
                  iterate 14
                    refine Reg.WT.yield (v := ?_) rfl rfl ?_ ?_
                    rotate_left
                    · intro w' _ hS; go_simp; (try go_bits); (first | rfl | rw [if_pos (by omega)])
                    simp only [Act.put, List.setIfInBounds_toArray, List.set_cons_zero, List.set_cons_succ]
                  iterate 14
                    refine Reg.WT.idle rfl rfl ?_
                    simp only [Act.put, List.setIfInBounds_toArray, List.set_cons_zero, List.set_cons_succ]
                  intro w7 hS
                  have T7 := hide (hb5.out.trans (hS.mono hb5.out.size))
                  clear hS C0 C1 C2 C3 c0 d0 p1 p2 r1 r2
                  go_wp2_with fail
                  go_returns
                  rw [HD.out]
                  exact ⟨rfl, K5.out.trans (T7.out.mono HGS5)⟩
              · obtain rfl : j = z1.length := by omega
                have HF : Hid (true = dd) := hide (by
                  rw [← HDD.out]
                  have h1 := htk.out
                  rw [List.take_length, hz.out, List.take_length] at h1
                  rw [hx.out, HE.out, h1]
                  simp)
                clear hlt
                go_wp2_with fail
                go_returns
                rw [← HF.out]
                exact ⟨rfl, K5.out.trans (T5.out.mono HGS5)⟩
      · have e2 : ((y1.length : Int) != (y2.length : Int)) = true := by simp; omega
        have HD : Hid (dd = false) := hide (HDD.out.symm.trans <| decide_eq_false (fun e => hy (by injection e with _ e _; rw [e])))
        go_wp2_with fail
        go_returns
        rw [HD.out]
        exact ⟨rfl, K2.out⟩
    · have e1 : ((z1.length : Int) != (z2.length : Int)) = true := by simp; omega
      have HD : Hid (dd = false) := hide (HDD.out.symm.trans <| decide_eq_false (fun e => hz (by injection e with _ _ e; rw [e])))
      go_wp2_with fail
      go_returns
      rw [HD.out]
      exact ⟨rfl, K2.out⟩
  · have e0 : (x1 != x2) = true := by simp [hx]
    have HD : Hid (dd = false) := hide (HDD.out.symm.trans <| decide_eq_false (fun e => hx (by injection e)))
    go_wp2_with fail
    go_returns
    rw [HD.out]
    exact ⟨rfl, K2.out⟩
end Go.Proofs.Ytmngndmcidbakaa
