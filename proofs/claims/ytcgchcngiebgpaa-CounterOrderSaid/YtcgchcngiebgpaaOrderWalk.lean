/- The walk of CounterOrder. -/
import Derived.Test.YtcgchcngiebgpaaLeastWalk
namespace Go.Proofs.Ytcgchcngiebgpaa
open Go.RowKit

theorem lst_le {p : Int × Int} (h : goodp p) (f : Int × Int) (hn : p.2 ≠ 0) : (lst p f).1 ≤ p.1 := by
  unfold lst
  split
  · rename_i hh
    rcases hh.2 with h1 | h1 | h1
    · exact absurd h1 hn
    · omega
    · omega
  · exact Int.le_refl _

def pick (l : List (Int × Int)) (m : List Int) : List (Int × Int) := m.map fun x => l.getD (x.toNat % l.length) (0, 0)

theorem pick_mem {l : List (Int × Int)} {m : List Int} (h : 0 < l.length) : ∀ f ∈ pick l m, f ∈ l := by
  intro f hf
  unfold pick at hf
  rw [List.mem_map] at hf
  obtain ⟨x, _, rfl⟩ := hf
  have := Nat.mod_lt x.toNat h
  rw [List.getD_eq_getElem?_getD, List.getElem?_eq_getElem this]
  exact List.getElem_mem this

theorem snoc_fold {m : List (Int × Int)} {f : Int × Int} (p : Int × Int) : (m ++ [f]).foldl lst p = lst (m.foldl lst p) f := by rw [List.foldl_append]; rfl

def u16s (l : List Int) : List Value := l.map (Value.int .u16)

set_option maxHeartbeats 2000000 in
set_option maxRecDepth 100000 in
theorem walk_CounterOrder (w : World) (a0 : Option Addr) (l : List (Int × Int)) (cap : Nat) (hr : RowS w a0 2 (prs l)) (_hw : ∀ f ∈ l, (Lit.int .i64 f.1).wf = true ∧ (Lit.int .i64 f.2).wf = true) (hcap : l.length ≤ cap) (hm : cap ≤ maxLen)
    (a1 : Option Addr) (m : List Int) (cap' : Nat) (hr1 : Row w a1 (u16s m)) (hw1 : ∀ n ∈ m, (Lit.int .u16 n).wf = true) (hcap' : m.length ≤ cap') (hm' : cap' ≤ maxLen) :
    Calls Try.prog 4 #[.slice a0 l.length cap, .slice a1 m.length cap'] w fun e w' => e = .returned (.bool true) ∧ Below w.heap.size w w' := by
  unfold maxLen at hm hm'
  by_cases hbig : 200 < l.length
  · go_enter Try.func4, Try.ntmps4
    go_wp2_with fail
    refine (works_any _).mono ?_
    rintro e w2 ⟨rfl, k2⟩
    have t2 := below_call (w := w) (by go_grown) k2
    go_wp2
    go_returns
    exact ⟨rfl, t2⟩
  by_cases hbig' : 400 < m.length
  · go_enter Try.func4, Try.ntmps4
    go_wp2_with fail
    refine (works_any _).mono ?_
    rintro e w2 ⟨rfl, k2⟩
    have t2 := below_call (w := w) (by go_grown) k2
    go_wp2
    go_returns
    exact ⟨rfl, t2⟩
  go_enter Try.func4, Try.ntmps4
  go_wp2_with fail
  go_loopw [7] (fun i wr => ∃ (k : Nat), k ≤ l.length ∧ i = .int .i64 k ∧ Blk wr w.heap.size 30 #[.int .i64 (encp ((l.take k).foldl lst (0, 0)))] ∧ Blk wr (w.heap.size + 1) 30 #[.int .i64 (encp ((pick l (m.take 0)).foldl lst (0, 0)))] ∧ Below w.heap.size w wr)
    (fun i _ => l.length - (intOf i).toNat)
  case atStart => exact ⟨0, Nat.zero_le _, rfl, (Blk.new w _ _).alloc _, by have := Blk.new (w.alloc (.cells #[.int .i64 0] 30)) 30 #[.int .i64 0]; simp only [World.size_alloc] at this; exact this, by go_grown⟩
  case round =>
    obtain ⟨k, hk, rfl, B0, B1, hbel⟩ := hrel
    have sz := hbel.size
    have sz1 := B1.lt
    by_cases hlt : k < l.length
    · have gd := lst_good (l.take k) (0, 0) (.inl rfl)
      have gd1 := lst_good (l.take (k + 1)) (0, 0) (.inl rfl)
      have hft := fold_take hlt (0, 0)
      obtain ⟨⟨x, y⟩, hxy⟩ : ∃ q, (l.take k).foldl lst (0, 0) = q := ⟨_, rfl⟩
      obtain ⟨⟨x', y'⟩, hxy'⟩ : ∃ q, (l.take (k + 1)).foldl lst (0, 0) = q := ⟨_, rfl⟩
      obtain ⟨b, off, rfl, hbw, hcell⟩ := prs_at hr (by omega)
      have hA0 := (hbel.cell (p := ⟨b, off + k * 2, none⟩) hbw).trans (hcell k hlt).1
      have hA1 := (hbel.cell (p := ⟨b, off + k * 2 + 1, none⟩) hbw).trans (hcell k hlt).2
      have hle : y ≠ 0 → x' ≤ x := fun hy => by
        have := lst_le gd l[k] (by rw [hxy]; exact hy)
        rw [← hft, hxy', hxy] at this
        exact this
      obtain ⟨⟨u, v⟩, huv⟩ : ∃ q, l[k] = q := ⟨_, rfl⟩
      rw [huv] at hA0 hA1 hft
      have HX := hide hxy
      have HX' := hide hxy'
      have HF := hide hft
      have HG := hide gd
      have HG1 := hide gd1
      clear hcell hxy hxy' hft gd gd1 huv
      by_cases hy : y = 0
      all_goals
        first
          | have hy1 : (y != 0) = false := by simpa using hy
          | (have hy1 : (y != 0) = true := by simpa using hy
             have hx1 := hle hy)
        clear hle hy
        go_wp2_with fail
        refine (told_eq HG.out B0 HX.out).mono ?_
        rintro e w5 ⟨rfl, rfl⟩
        go_wp2_with fail
        refine Reg.region (by kernel_rfl) 10 [] (fun _ w' => w' = wr.drew) (by kernel_rfl) (by kernel_rfl) rfl ?_
        iterate 10
          refine Reg.WT.yield (v := ?_) rfl rfl ?_ ?_
          rotate_left
          · intro w' _ hS; go_simp; (try go_bits); (first | rfl | rw [if_pos (by omega)])
          simp only [Act.put, List.setIfInBounds_toArray, List.set_cons_zero, List.set_cons_succ]
        intro w2 hS
        subst hS
        go_wp2_with fail
        refine (offer_eq HG.out B0.drew _ _ rfl).mono ?_
        rintro e w2 ⟨rfl, C0, k2⟩
        have t2 := below_grown1 (a := w) hbel.drew k2 (Nat.le_refl _)
        have C1 := B1.drew.grown k2 (by simp)
        rw [← HF.out] at C0
        go_wp2_with fail
        refine (told_eq HG1.out C0 HX'.out).mono ?_
        rintro e w5 ⟨rfl, rfl⟩
        go_wp2
        go_roundw
        case rel => exact ⟨k + 1, hlt, by go_num, C0, C1, t2⟩
        case measure => simp [intOf]; omega
    · have : k = l.length := by omega
      subst this
      rw [List.take_length] at B0
      go_wp2_with fail
      go_loopw [12] (fun i wr => ∃ (k : Nat), k ≤ m.length ∧ (l.length = 0 → k = 0) ∧ i = .int .i64 k ∧ Blk wr w.heap.size 30 #[.int .i64 (encp (l.foldl lst (0, 0)))] ∧ Blk wr (w.heap.size + 1) 30 #[.int .i64 (encp ((pick l (m.take k)).foldl lst (0, 0)))] ∧ Below w.heap.size w wr)
        (fun i _ => m.length - (intOf i).toNat)
      case atStart => exact ⟨0, Nat.zero_le _, fun _ => rfl, rfl, B0, B1, hbel⟩
      case round =>
        obtain ⟨k, hk, hk0, rfl, B0, B1, hbel⟩ := hrel
        have HK := hide hk0
        clear hk0
        have sz := hbel.size
        have sz1 := B1.lt
        by_cases hlt : k < m.length ∧ 0 < l.length
        · obtain ⟨hlt, hl0⟩ := hlt
          obtain ⟨b1, off1, rfl, hbw1, hcell1⟩ := hr1.2 (by simp [u16s]; omega)
          have hmk := hw1 m[k] (List.getElem_mem hlt)
          have hmk' : 0 ≤ m[k] ∧ m[k] ≤ 65535 := by simpa [Lit.wf, IntKind.min, IntKind.max, IntKind.signed, IntKind.bits] using hmk
          have hA2 := (hbel.cell (p := ⟨b1, off1 + k, none⟩) hbw1).trans (hcell1 k (by simpa [u16s] using hlt))
          simp only [u16s, List.getElem_map] at hA2
          obtain ⟨c, hc⟩ := Int.eq_ofNat_of_zero_le hmk'.1
          rw [hc] at hA2 hmk'
          obtain ⟨q, hq⟩ : ∃ q, q = c % l.length := ⟨_, rfl⟩
          have hql : q < l.length := by rw [hq]; exact Nat.mod_lt _ hl0
          have hqq : (c : Int) % (l.length : Int) = (q : Int) := by rw [hq, Int.natCast_emod]
          have hpk : pick l (m.take (k + 1)) = pick l (m.take k) ++ [l[q]] := by
            unfold pick
            rw [List.take_succ_eq_append_getElem hlt, List.map_append, List.map_cons, List.map_nil, hc, Int.toNat_natCast, ← hq, List.getD_eq_getElem?_getD, List.getElem?_eq_getElem hql]; rfl
          have hft := snoc_fold (m := pick l (m.take k)) (f := l[q]) (0, 0)
          rw [← hpk] at hft
          have gd := lst_good (pick l (m.take k)) (0, 0) (.inl rfl)
          obtain ⟨b, off, rfl, hbw, hcell⟩ := prs_at hr (by omega)
          have hA0 := (hbel.cell (p := ⟨b, off + q * 2, none⟩) hbw).trans (hcell q hql).1
          have hA1 := (hbel.cell (p := ⟨b, off + q * 2 + 1, none⟩) hbw).trans (hcell q hql).2
          have HF := hide hft
          have HG := hide gd
          have HC := hide hc
          clear hcell hcell1 hft gd hc hq hpk hmk
          go_wp2_with fail
          refine Reg.region (by kernel_rfl) 10 [] (fun _ w' => w' = wr.drew) (by kernel_rfl) (by kernel_rfl) rfl ?_
          iterate 10
            refine Reg.WT.yield (v := ?_) rfl rfl ?_ ?_
            rotate_left
            · intro w' _ hS; go_simp; (try go_bits); (first | rfl | rw [if_pos (by omega)])
            simp only [Act.put, List.setIfInBounds_toArray, List.set_cons_zero, List.set_cons_succ]
          intro w2 hS
          subst hS
          go_wp2_with fail
          refine (offer_eq HG.out B1.drew _ _ rfl).mono ?_
          rintro e w2 ⟨rfl, C1, k2⟩
          have t2 := below_grown1 (a := w) hbel.drew k2 (by omega)
          have C0 := B0.drew.grown k2 (by simp)
          rw [← HF.out] at C1
          go_wp2
          go_roundw
          case rel => exact ⟨k + 1, hlt, fun h => by omega, by go_num, C0, C1, t2⟩
          case measure => simp [intOf]; omega
        · have hM : ∀ f ∈ pick l (m.take k), f ∈ l := by
            by_cases h0 : l.length = 0
            · have := HK.out h0
              subst this
              intro f hf; simp [pick] at hf
            · exact pick_mem (by omega)
          obtain ⟨M, hMM⟩ : ∃ M, M = pick l (m.take k) := ⟨_, rfl⟩
          rw [← hMM] at hM B1
          have HM := hide hM
          clear hM hMM
          by_cases hz : k < m.length
          all_goals
            first
              | have hz0 : ¬ 0 < l.length := fun h => hlt ⟨hz, h⟩
              | have hz0 : True := trivial
            clear hlt
            go_wp2_with fail
            go_loopw [14] (fun i wr => ∃ (n : Nat), n ≤ l.length ∧ i = .int .i64 ((n : Int) - 1) ∧ Blk wr w.heap.size 30 #[.int .i64 (encp (l.foldl lst (0, 0)))] ∧ Blk wr (w.heap.size + 1) 30 #[.int .i64 (encp ((M ++ (l.drop n).reverse).foldl lst (0, 0)))] ∧ Below w.heap.size w wr)
              (fun i _ => (intOf i + 1).toNat)
            case atStart => exact ⟨l.length, Nat.le_refl _, rfl, B0, by simpa using B1, hbel⟩
            case round =>
              obtain ⟨n, hn, rfl, B0, B1, hbel⟩ := hrel
              have sz := hbel.size
              have sz1 := B1.lt
              by_cases hn0 : 0 < n
              · obtain ⟨q, rfl⟩ : ∃ q, n = q + 1 := ⟨n - 1, by omega⟩
                have hql : q < l.length := by omega
                rw [show ((q + 1 : Nat) : Int) - 1 = (q : Int) from by omega]
                have hdr : M ++ (l.drop q).reverse = (M ++ (l.drop (q + 1)).reverse) ++ [l[q]] := by
                  rw [List.drop_eq_getElem_cons hql, List.reverse_cons, List.append_assoc]
                have hft := snoc_fold (m := M ++ (l.drop (q + 1)).reverse) (f := l[q]) (0, 0)
                rw [← hdr] at hft
                have gd := lst_good (M ++ (l.drop (q + 1)).reverse) (0, 0) (.inl rfl)
                obtain ⟨b, off, rfl, hbw, hcell⟩ := prs_at hr (by omega)
                have hA0 := (hbel.cell (p := ⟨b, off + q * 2, none⟩) hbw).trans (hcell q hql).1
                have hA1 := (hbel.cell (p := ⟨b, off + q * 2 + 1, none⟩) hbw).trans (hcell q hql).2
                have HF := hide hft
                have HG := hide gd
                clear hcell hft gd hdr
                go_wp2_with fail
                refine Reg.region (by kernel_rfl) 10 [] (fun _ w' => w' = wr.drew) (by kernel_rfl) (by kernel_rfl) rfl ?_
                iterate 10
                  refine Reg.WT.yield (v := ?_) rfl rfl ?_ ?_
                  rotate_left
                  · intro w' _ hS; go_simp; (try go_bits); (first | rfl | rw [if_pos (by omega)])
                  simp only [Act.put, List.setIfInBounds_toArray, List.set_cons_zero, List.set_cons_succ]
                intro w2 hS
                subst hS
                go_wp2_with fail
                refine (offer_eq HG.out B1.drew _ _ rfl).mono ?_
                rintro e w2 ⟨rfl, C1, k2⟩
                have t2 := below_grown1 (a := w) hbel.drew k2 (by omega)
                have C0 := B0.drew.grown k2 (by simp)
                rw [← HF.out] at C1
                go_wp2
                go_roundw
                case rel => exact ⟨q, by omega, by first | rfl | go_num, C0, C1, t2⟩
                case measure => first | (simp [intOf]; done) | (simp [intOf]; omega)
              · have : n = 0 := by omega
                subst this
                have hmem : encp ((M ++ (l.drop 0).reverse).foldl lst (0, 0)) = encp (l.foldl lst (0, 0)) := lst_mem _ _ (fun f => by
                  rw [List.drop_zero, List.mem_append, List.mem_reverse]
                  exact ⟨fun h => h.elim (HM.out f) id, .inr⟩)
                rw [hmem] at B1
                have gd := lst_good l (0, 0) (.inl rfl)
                obtain ⟨⟨x, y⟩, hxy⟩ : ∃ q, l.foldl lst (0, 0) = q := ⟨_, rfl⟩
                have HX := hide hxy
                have HG := hide gd
                clear hxy gd hmem
                go_wp2_with fail
                refine (told_eq HG.out B0 HX.out).mono ?_
                rintro e w5 ⟨rfl, rfl⟩
                go_wp2_with fail
                refine (told_eq HG.out B1 HX.out).mono ?_
                rintro e w5 ⟨rfl, rfl⟩
                go_wp2_with fail
                refine (works_any _).mono ?_
                rintro e w2 ⟨rfl, k2⟩
                have t2 := below_call (w := w) hbel k2
                go_wp2
                go_returns
                exact ⟨rfl, t2⟩
end Go.Proofs.Ytcgchcngiebgpaa
