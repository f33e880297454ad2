/- The walk of CounterLeast. -/
import Derived.Test.YtcgchcngiebgpaaLeastLaw
import Derived.Test.YtcgchcngiebgpaaAnchor
namespace Go.Proofs.Ytcgchcngiebgpaa
open Go.RowKit

theorem told_eq {g : Nat} {p : Int × Int} {w : World} (hp : goodp p) (B : Blk w g 30 #[.int .i64 (encp p)]) {x y : Int} (hxy : p = (x, y)) :
    Calls Try.prog 12 #[.pointer (some ⟨g, 0, none⟩)] w fun r w' => r = .returned (.tuple #[.int .i64 x, .int .i64 y]) ∧ w = w' := by
  subst hxy
  have h := goodp_bd hp
  refine (told_any g _ w B h.1 h.2.1).mono fun r w' ⟨h1, h2⟩ => ⟨?_, h2⟩
  rw [h1, h.2.2.1, h.2.2.2]
theorem offer_eq {g : Nat} {p : Int × Int} {w : World} (hp : goodp p) (B : Blk w g 30 #[.int .i64 (encp p)]) (n e : Int) {c : Int} (hc : ec n e = c) :
    Calls Try.prog 10 #[.pointer (some ⟨g, 0, none⟩), .int .i64 n, .int .i64 e] w fun r w' => r = .returned (.int .i64 c) ∧ Blk w' g 30 #[.int .i64 (encp (lst p (n, e)))] ∧ w.grownBy w' (some g) := by
  subst hc
  have := offer_any g n e _ w B
  rwa [(off_lst hp (n, e)).1] at this
theorem ref_least_eq {a : Option Addr} {l : List (Int × Int)} {n cap : Nat} {w : World} (h : RowS w a 2 (prs l)) (hn : n = l.length) {x y : Int} (hxy : l.foldl lst (0, 0) = (x, y)) :
    Calls Try.prog 11 #[.slice a n cap] w fun r w' => r = .returned (.agg #[.int .i64 x, .int .i64 y]) ∧ Below w.heap.size w w' := by
  have := ref_least_any a l n cap w h hn
  rwa [hxy] at this

theorem prs_take {w : World} {a : Option Addr} {l : List (Int × Int)} (h : RowS w a 2 (prs l)) (k : Nat) : RowS w a 2 (prs (l.take k)) := by
  have := h.take k
  unfold prs at this ⊢
  rwa [List.map_take]

theorem fold_take {l : List (Int × Int)} {k : Nat} (h : k < l.length) (p : Int × Int) : (l.take (k + 1)).foldl lst p = lst ((l.take k).foldl lst p) l[k] := by
  rw [List.take_succ_eq_append_getElem h, List.foldl_append]; rfl

set_option maxHeartbeats 1000000 in
set_option maxRecDepth 100000 in
theorem walk_CounterLeast (w : World) (a0 : Option Addr) (l : List (Int × Int)) (cap : Nat) (hr : RowS w a0 2 (prs l)) (_hw : ∀ f ∈ l, (Lit.int .i64 f.1).wf = true ∧ (Lit.int .i64 f.2).wf = true) (hcap : l.length ≤ cap) (hm : cap ≤ maxLen) :
    Calls Try.prog 3 #[.slice a0 l.length cap] w fun e w' => e = .returned (.bool true) ∧ Below w.heap.size w w' := by
  unfold maxLen at hm
  by_cases hbig : 500 < l.length
  · go_enter Try.func3, Try.ntmps3
    go_wp2_with fail
    refine (works_any _).mono ?_
    rintro e w2 ⟨rfl, k2⟩
    have t2 := below_call (w := w) (by go_grown) k2
    go_wp2
    go_returns
    exact ⟨rfl, t2⟩
  go_enter Try.func3, Try.ntmps3
  go_wp2_with fail
  go_loopw [5] (fun i wr => ∃ (k : Nat), k ≤ l.length ∧ i = .int .i64 k ∧ Blk wr w.heap.size 30 #[.int .i64 (encp ((l.take k).foldl lst (0, 0)))] ∧ Blk wr (w.heap.size + 1) 30 #[.int .i64 (encp ((l.reverse.take k).foldl lst (0, 0)))] ∧ Below w.heap.size w wr)
    (fun i _ => l.length - (intOf i).toNat)
  case atStart => exact ⟨0, Nat.zero_le _, rfl, (Blk.new w _ _).alloc _, by have := Blk.new (w.alloc (.cells #[.int .i64 0] 30)) 30 #[.int .i64 0]; simp only [World.size_alloc] at this; exact this, by go_grown⟩
  case round =>
    obtain ⟨k, hk, rfl, B0, B1, hbel⟩ := hrel
    have sz := hbel.size
    have sz1 := B1.lt
    by_cases hlt : k < l.length
    · have hrev : l.reverse[k]'(by rw [List.length_reverse]; exact hlt) = l[l.length - 1 - k]'(by omega) := by rw [List.getElem_reverse]
      have hft := fold_take hlt (0, 0)
      have hft' := fold_take (l := l.reverse) (k := k) (by rw [List.length_reverse]; exact hlt) (0, 0)
      rw [hrev] at hft'
      have gd := lst_good (l.take k) (0, 0) (.inl rfl)
      have gd1 := lst_good (l.take (k + 1)) (0, 0) (.inl rfl)
      have gd' := lst_good (l.reverse.take k) (0, 0) (.inl rfl)
      obtain ⟨⟨x, y⟩, hxy⟩ : ∃ q, (l.take (k + 1)).foldl lst (0, 0) = q := ⟨_, rfl⟩
      obtain ⟨b, off, rfl, hbw, hcell⟩ := prs_at hr (by omega)
      have hA0 := (hbel.cell (p := ⟨b, off + k * 2, none⟩) hbw).trans (hcell k hlt).1
      have hA1 := (hbel.cell (p := ⟨b, off + k * 2 + 1, none⟩) hbw).trans (hcell k hlt).2
      have hC := hide hcell
      have HX := hide hxy
      have HF := hide hft
      have HF' := hide hft'
      have HG := hide gd
      have HG1 := hide gd1
      have HG' := hide gd'
      clear hcell hxy hft hft' hrev gd gd1 gd'
      obtain ⟨⟨u, v⟩, huv⟩ : ∃ q, l[k] = q := ⟨_, rfl⟩
      rw [huv] at hA0 hA1
      cases hR : right u v
      · have HC := hide (show ec u v = 1 from by simp [ec, hR])
        have HU := hide huv
        have HR := hide hR
        clear hR huv
        go_wp2_with fail
        refine Reg.region (by kernel_rfl) 10 [] (fun _ w' => w' = wr.drew) (by kernel_rfl) (by kernel_rfl) rfl ?_
        iterate 10
          refine Reg.WT.yield (v := ?_) rfl rfl ?_ ?_
          rotate_left
          · intro w' _ hS; go_simp; (try go_bits); (first | rfl | rw [if_pos (by omega)])
          simp only [Act.put, List.setIfInBounds_toArray, List.set_cons_zero, List.set_cons_succ]
        intro w2 hS
        subst hS
        go_wp2_with fail
        refine (offer_eq HG.out B0.drew _ _ HC.out).mono ?_
        rintro e w2 ⟨rfl, C0, k2⟩
        have t2 := below_grown1 (a := w) hbel.drew k2 (Nat.le_refl _)
        have C1 := B1.drew.grown k2 (by simp)
        rw [← HU.out, ← HF.out] at C0
        have s2 := t2.size
        go_wp2_with fail
        refine (ref_least_eq (prs_take (hr.below t2) (k + 1)) (by rw [List.length_take]; omega) HX.out).mono ?_
        rintro e w3 ⟨rfl, k3⟩
        have t3 := below_call (w := w) t2 k3
        have s3 := t3.size
        have D0 := (C0.below k3 C0.lt).alloc (.cells #[.int .i64 x, .int .i64 y] 34)
        have D1 := (C1.below k3 C1.lt).alloc (.cells #[.int .i64 x, .int .i64 y] 34)
        have D2 := Blk.new w3 34 #[.int .i64 x, .int .i64 y]
        have t4 : Below w.heap.size w (w3.alloc (.cells #[.int .i64 x, .int .i64 y] 34)) := by go_grown
        go_wp2_with fail
        generalize w3.alloc (.cells #[.int .i64 x, .int .i64 y] 34) = w4 at *
        refine (told_eq HG1.out D0 HX.out).mono ?_
        rintro e w5 ⟨rfl, rfl⟩
        have hA0' := (t4.cell (p := ⟨b, off + k * 2, none⟩) hbw).trans ((hbel.cell (p := ⟨b, off + k * 2, none⟩) hbw).symm.trans hA0)
        have hA1' := (t4.cell (p := ⟨b, off + k * 2 + 1, none⟩) hbw).trans ((hbel.cell (p := ⟨b, off + k * 2 + 1, none⟩) hbw).symm.trans hA1)
        go_wp2_with fail
        refine (right_eq u v _ HR.out).mono ?_
        rintro e w6 ⟨rfl, k6⟩
        have t6 := below_call (w := w) t4 k6
        have s6 := t6.size
        have E0 := D0.below k6 D0.lt
        have E1 := D1.below k6 D1.lt
        have E2 := D2.below k6 D2.lt
        have e0 : w6.cell? ⟨w3.heap.size, 0, none⟩ = some (.int .i64 x) := E2.cell 0
        have e1 : w6.cell? ⟨w3.heap.size, 1, none⟩ = some (.int .i64 y) := E2.cell 1
        have hB0 := (t6.cell (p := ⟨b, off + (l.length - 1 - k) * 2, none⟩) hbw).trans (hC.out (l.length - 1 - k) (by omega)).1
        have hB1 := (t6.cell (p := ⟨b, off + (l.length - 1 - k) * 2 + 1, none⟩) hbw).trans (hC.out (l.length - 1 - k) (by omega)).2
        go_wp2_with fail
        refine Reg.region (by kernel_rfl) 18 [] (fun _ w' => w' = w6.drew) (by kernel_rfl) (by kernel_rfl) rfl ?_
        iterate 18
          refine Reg.WT.yield (v := ?_) rfl rfl ?_ ?_
          rotate_left
          · intro w' _ hS; go_simp; (try go_bits); (first | rfl | rw [if_pos (by omega)])
          simp only [Act.put, List.setIfInBounds_toArray, List.set_cons_zero, List.set_cons_succ]
        intro w7 hS
        subst hS
        go_wp2_with fail
        refine (offer_eq HG'.out E1.drew _ _ rfl).mono ?_
        rintro e w8 ⟨rfl, G1, k8⟩
        have t8 := below_grown1 (a := w) t6.drew k8 (by omega)
        have G0 := E0.drew.grown k8 (by simp)
        rw [← HF'.out] at G1
        go_wp2
        go_roundw
        case rel => exact ⟨k + 1, hlt, by go_num, G0, G1, t8⟩
        case measure => simp [intOf]; omega
      · have HC := hide (show ec u v = 0 from by simp [ec, hR])
        have HU := hide huv
        have HR := hide hR
        clear hR huv
        go_wp2_with fail
        refine Reg.region (by kernel_rfl) 10 [] (fun _ w' => w' = wr.drew) (by kernel_rfl) (by kernel_rfl) rfl ?_
        iterate 10
          refine Reg.WT.yield (v := ?_) rfl rfl ?_ ?_
          rotate_left
          · intro w' _ hS; go_simp; (try go_bits); (first | rfl | rw [if_pos (by omega)])
          simp only [Act.put, List.setIfInBounds_toArray, List.set_cons_zero, List.set_cons_succ]
        intro w2 hS
        subst hS
        go_wp2_with fail
        refine (offer_eq HG.out B0.drew _ _ HC.out).mono ?_
        rintro e w2 ⟨rfl, C0, k2⟩
        have t2 := below_grown1 (a := w) hbel.drew k2 (Nat.le_refl _)
        have C1 := B1.drew.grown k2 (by simp)
        rw [← HU.out, ← HF.out] at C0
        have s2 := t2.size
        go_wp2_with fail
        refine (ref_least_eq (prs_take (hr.below t2) (k + 1)) (by rw [List.length_take]; omega) HX.out).mono ?_
        rintro e w3 ⟨rfl, k3⟩
        have t3 := below_call (w := w) t2 k3
        have s3 := t3.size
        have D0 := (C0.below k3 C0.lt).alloc (.cells #[.int .i64 x, .int .i64 y] 34)
        have D1 := (C1.below k3 C1.lt).alloc (.cells #[.int .i64 x, .int .i64 y] 34)
        have D2 := Blk.new w3 34 #[.int .i64 x, .int .i64 y]
        have t4 : Below w.heap.size w (w3.alloc (.cells #[.int .i64 x, .int .i64 y] 34)) := by go_grown
        go_wp2_with fail
        generalize w3.alloc (.cells #[.int .i64 x, .int .i64 y] 34) = w4 at *
        refine (told_eq HG1.out D0 HX.out).mono ?_
        rintro e w5 ⟨rfl, rfl⟩
        have hA0' := (t4.cell (p := ⟨b, off + k * 2, none⟩) hbw).trans ((hbel.cell (p := ⟨b, off + k * 2, none⟩) hbw).symm.trans hA0)
        have hA1' := (t4.cell (p := ⟨b, off + k * 2 + 1, none⟩) hbw).trans ((hbel.cell (p := ⟨b, off + k * 2 + 1, none⟩) hbw).symm.trans hA1)
        go_wp2_with fail
        refine (right_eq u v _ HR.out).mono ?_
        rintro e w6 ⟨rfl, k6⟩
        have t6 := below_call (w := w) t4 k6
        have s6 := t6.size
        have E0 := D0.below k6 D0.lt
        have E1 := D1.below k6 D1.lt
        have E2 := D2.below k6 D2.lt
        have e0 : w6.cell? ⟨w3.heap.size, 0, none⟩ = some (.int .i64 x) := E2.cell 0
        have e1 : w6.cell? ⟨w3.heap.size, 1, none⟩ = some (.int .i64 y) := E2.cell 1
        have hB0 := (t6.cell (p := ⟨b, off + (l.length - 1 - k) * 2, none⟩) hbw).trans (hC.out (l.length - 1 - k) (by omega)).1
        have hB1 := (t6.cell (p := ⟨b, off + (l.length - 1 - k) * 2 + 1, none⟩) hbw).trans (hC.out (l.length - 1 - k) (by omega)).2
        go_wp2_with fail
        refine Reg.region (by kernel_rfl) 18 [] (fun _ w' => w' = w6.drew) (by kernel_rfl) (by kernel_rfl) rfl ?_
        iterate 18
          refine Reg.WT.yield (v := ?_) rfl rfl ?_ ?_
          rotate_left
          · intro w' _ hS; go_simp; (try go_bits); (first | rfl | rw [if_pos (by omega)])
          simp only [Act.put, List.setIfInBounds_toArray, List.set_cons_zero, List.set_cons_succ]
        intro w7 hS
        subst hS
        go_wp2_with fail
        refine (offer_eq HG'.out E1.drew _ _ rfl).mono ?_
        rintro e w8 ⟨rfl, G1, k8⟩
        have t8 := below_grown1 (a := w) t6.drew k8 (by omega)
        have G0 := E0.drew.grown k8 (by simp)
        rw [← HF'.out] at G1
        go_wp2
        go_roundw
        case rel => exact ⟨k + 1, hlt, by go_num, G0, G1, t8⟩
        case measure => simp [intOf]; omega
    · have : k = l.length := by omega
      subst this
      rw [List.take_length] at B0
      rw [List.take_of_length_le (by rw [List.length_reverse]; exact Nat.le_refl _), lst_mem l.reverse l (fun f => by simp)] at B1
      have gd := lst_good l (0, 0) (.inl rfl)
      obtain ⟨⟨x, y⟩, hxy⟩ : ∃ q, l.foldl lst (0, 0) = q := ⟨_, rfl⟩
      have HX := hide hxy
      have HG := hide gd
      clear hxy gd
      go_wp2_with fail
      refine (told_eq HG.out B0 HX.out).mono ?_
      rintro e w5 ⟨rfl, rfl⟩
      go_wp2_with fail
      refine (told_eq HG.out B1 HX.out).mono ?_
      rintro e w5 ⟨rfl, rfl⟩
      go_wp2_with fail
      refine (works_any _).mono ?_
      rintro e w2 ⟨rfl, k2⟩
      have t2 := below_call (w := w) hbel k2
      go_wp2
      go_returns
      exact ⟨rfl, t2⟩
end Go.Proofs.Ytcgchcngiebgpaa
