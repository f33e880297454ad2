/- The walk of PicksDraw. -/
import Derived.Test.YtkjmknmcadloaaaPFairW
import Derived.Test.YtkjmknmcadloaaaDrawW2
namespace Go.Proofs.Ytkjmknmcadloaaa
open Go.RowKit

theorem info5 : (Try.prog.info? 5).map (fun i => (i.zero, i.size, i.bytes)) = some (some (.int .u8 0), 1, 1) := by kernel_rfl
theorem u8s_one (l : List Int) : ∀ u ∈ u8s l, u.oneCell' = true := by
  intro u hu
  unfold u8s at hu
  rw [List.mem_map] at hu
  obtain ⟨x, _, rfl⟩ := hu
  rfl
set_option maxHeartbeats 2000000 in
theorem walk_PicksDraw (w : World) (a0 : Option Addr) (l : List Int) (cap : Nat) (hr : Row w a0 (l.map (Value.int .u8))) (hl : ∀ n ∈ l, (Lit.int .u8 n).wf = true) (hcap : l.length ≤ cap) (hm : cap ≤ maxLen) :
    Calls Try.prog 7 #[.slice a0 l.length cap] w fun e w' => e = .returned (.bool true) ∧ Below w.heap.size w w' := by
  have HL := hide (fun x hx => u8_of (hl x hx))
  clear hl
  by_cases hlen : l.length ≤ 16384
  · obtain ⟨i0, hi, hz0, hz1, hz2⟩ := info_parts info5
    have hown := hide (World.ownsRow_made (base := w.heap.size) (e := 5) (size := 1) w #[] 0 (Nat.le_refl _) (by simp) rfl)
    have hr' : Row w a0 (u8s l) := hr
    go_enter Try.func7, Try.ntmps7
    go_wp2_with (at_builtin; refine wpList_append_row rfl _ _ 39 rfl w.heap.size 5 i0 (.int .u8 0) 1 Try.underlying39 hi hz0 hz1 hz2 rfl _ _ _ rfl hown.out a0 l.length cap (u8s l) rfl (hr'.below ((Below.refl _ _).alloc (Nat.le_refl _) _)) (by simp [u8s]) (u8s_one l) ?c1 ?c2 ?c3 ?_)
    case c1 => unfold maxLen; omega
    case c2 => omega
    case c3 => simp
    intro v' w1 hown' hgrow _
    (try simp only [List.nil_append, Nat.zero_add] at hown')
    have t1 : Hid (Below w.heap.size w w1) := hide (below_grown (a := w) ((Below.refl _ _).alloc (Nat.le_refl _) _) hgrow (fun q hq => own_ge hown.out q hq))
    obtain ⟨a5, c5, rfl, hc5, hm5, _, G5⟩ := own_row hown'
    have G5 := hide G5
    clear hown' hgrow hown
    go_wp2_with fail
    refine (draw_any a5 l l.length c5 w1 G5.out rfl HL.out (by omega)).mono ?_
    rintro r w2 ⟨v, rfl, hown, k2⟩
    obtain ⟨a6, c6, rfl, _, _, hn6, R6, _⟩ := own_rowS (pcell_len _) (by decide) hown
    have t2 := hide (below_call (w := w) t1.out k2)
    have R6 := hide R6
    clear k2 hown
    go_wp2_with fail
    refine (rdraw_any a0 l l.length cap w2 (hr'.below t2.out) rfl HL.out (by omega)).mono ?_
    rintro r w3 ⟨v, rfl, hown, k3⟩
    obtain ⟨a7, c7, rfl, _, _, _, R7, _⟩ := own_rowS (pcell_len _) (by decide) hown
    have t3 := hide (below_call (w := w) t2.out k3)
    have R6 : Hid (PRow w3 a6 (drw l (l.length / 2))) := hide (R6.out.below k3)
    have R7 : Hid (PRow w3 a7 (drw l (l.length / 2))) := hide R7
    clear k3 hown
    rw [List.length_map] at hn6
    generalize drw l (l.length / 2) = D at R6 R7 hn6
    obtain ⟨N, hN⟩ : ∃ N, N = l.length / 2 := ⟨_, rfl⟩
    rw [← hN] at hn6 ⊢
    have HN6 := hide hn6
    have hNb : N ≤ 8192 := by omega
    clear hN hn6
    go_wp2
    go_loopw [5] (fun i wr => ∃ k : Nat, k ≤ N ∧ i = .int .i64 k ∧ Below w3.heap.size w3 wr) (fun i _ => N - (intOf i).toNat)
    case atStart => exact ⟨0, by omega, rfl, Below.refl _ _⟩
    case round =>
      obtain ⟨k, hk, rfl, hB⟩ := hrel
      have hB := hide hB
      by_cases hkN : k < N
      · obtain ⟨b6, o6, rfl, _, hc6⟩ := p_at (PRow.below R6.out hB.out) (by have := HN6.out; omega)
        obtain ⟨b7, o7, rfl, _, hc7⟩ := p_at (PRow.below R7.out hB.out) (by have := HN6.out; omega)
        obtain ⟨x0, x1⟩ := hc6 k (by have := HN6.out; omega)
        obtain ⟨y0, y1⟩ := hc7 k (by have := HN6.out; omega)
        clear hc6 hc7
        generalize D[k]'_ = p at x0 x1 y0 y1
        have x0 := keepd x0
        have x1 := keepd x1
        have y0 := keepd y0
        have y1 := keepd y1
        go_wp2_with fail
        refine Reg.region (by kernel_rfl) 9 [] (fun _ w' => w' = wr.drew) (by kernel_rfl) (by kernel_rfl) rfl ?_
        iterate 9
          refine Reg.WT.yield (v := ?_) rfl rfl ?_ ?_
          rotate_left
          · intro w' _ hS; go_simp; (try go_bits); (first | rfl | rw [if_pos (by omega)])
          simp only [Act.put, List.setIfInBounds_toArray, List.set_cons_zero, List.set_cons_succ]
        intro W2 hS
        subst hS
        have hB2 := hide (hB.out.drew)
        clear x0 x1 y0 y1
        go_wp2
        go_roundw
        case rel => exact ⟨k + 1, by omega, by go_num, hB2.out⟩
        case measure => simp [intOf]; omega
      · go_wp2_with fail
        refine (works_any wr).mono ?_
        rintro r w5 ⟨rfl, k5⟩
        have t5 := hide (below_call (w := w) (below_call (w := w) t3.out hB.out) k5)
        clear k5
        go_wp2
        go_returns
        exact ⟨rfl, t5.out⟩
  · go_enter Try.func7, Try.ntmps7
    go_wp2_with fail
    refine (works_any w).mono ?_
    rintro r w2 ⟨rfl, k2⟩
    go_wp2
    go_returns
    exact ⟨rfl, k2⟩
end Go.Proofs.Ytkjmknmcadloaaa
