/- The walk of CounterSums. -/
import Derived.Test.YtcgchcngiebgpaaSumsLaw
import Derived.Test.YtcgchcngiebgpaaOnceWalk
namespace Go.Proofs.Ytcgchcngiebgpaa
open Go.RowKit

theorem Own.grown {w w' : World} {g g' : Nat} {l : List Int} {k : Nat} (h : Own w g l k) (hb : w.grownBy w' (some g')) (hne : g ≠ g') : Own w' g l k := by
  obtain ⟨cur, h1, h2⟩ := h.ex
  exact ⟨cur, h1.grown hb (by simpa using hne), h2⟩
theorem Own.at0 {w : World} {g : Nat} {l : List Int} (h : Own w g l 0) {k : Nat} (hk : k < l.length) : w.cell? ⟨g, k, none⟩ = some (.int .i64 l[k]) := by
  obtain ⟨cur, hb, ht⟩ := h.ex
  rw [hb.cell]
  have := congrArg (fun m => m[k]?) ht
  simp only [List.getElem?_take_of_lt hk] at this
  rw [← Array.getElem?_toList, this]
  simp [ints, hk]
theorem own_nonnil {w : World} {base n : Nat} {v : Value} {L : List Int} (h : w.ownsRow base 3 1 v n (ints L)) (hn : n = L.length) (h0 : 0 < n) : ∃ g c, v = .slice (some ⟨g, 0, none⟩) n c ∧ base ≤ g ∧ Own w g L 0 ∧ n ≤ c ∧ c ≤ maxLen := by
  rcases h.2 with ⟨_, h1⟩ | ⟨g, c, cur, h1, h2, h3, h4, h5, _, h6⟩
  · omega
  · exact ⟨g, c, h1, h2, ⟨cur, h3, by rw [← hn]; simpa using h6⟩, h4, h5⟩
theorem m9_take {l : List Int} {k : Nat} (h : k < l.length) : ints ((m9 l).take (k + 1)) = ints ((m9 l).take k) ++ [.int .i64 (l[k] % 9)] := by
  rw [take_ints (by simpa [m9] using h)]; simp [m9]

set_option maxHeartbeats 4000000 in
set_option maxRecDepth 100000 in
theorem walk_CounterSums (w : World) (a0 : Option Addr) (l : List Int) (cap : Nat) (hr : Row w a0 (u8s l)) (hw : ∀ n ∈ l, (Lit.int .u8 n).wf = true) (hcap : l.length ≤ cap) (hm : cap ≤ maxLen)
    (a1 : Option Addr) (m : List Int) (cap' : Nat) (hr1 : Row w a1 (u8s m)) (hw1 : ∀ n ∈ m, (Lit.int .u8 n).wf = true) (hcap' : m.length ≤ cap') (hm' : cap' ≤ maxLen) :
    Calls Try.prog 8 #[.slice a0 l.length cap, .slice a1 m.length cap'] w fun e w' => e = .returned (.bool true) ∧ Below w.heap.size w w' := by
  unfold maxLen at hm hm'
  obtain ⟨i0, hi, hz0, hz1, hz2⟩ := info_parts info3
  by_cases b2 : 60 < l.length
  · go_enter Try.func8, Try.ntmps8
    go_wp2_with fail
    refine (works_any _).mono ?_
    rintro e w9 ⟨rfl, k9⟩
    have t9 := below_call (w := w) (by go_grown) k9
    go_wp2
    go_returns
    exact ⟨rfl, t9⟩
  by_cases b3 : 400 < m.length
  · go_enter Try.func8, Try.ntmps8
    go_wp2_with fail
    refine (works_any _).mono ?_
    rintro e w9 ⟨rfl, k9⟩
    have t9 := below_call (w := w) (by go_grown) k9
    go_wp2
    go_returns
    exact ⟨rfl, t9⟩
  by_cases b1 : l.length = 0
  · have b1' : ((l.length : Int) == 0) = true := by simpa using b1
    have B1 := hide b1
    clear b1
    go_enter Try.func8, Try.ntmps8
    go_wp2_with fail
    refine (works_any _).mono ?_
    rintro e w9 ⟨rfl, k9⟩
    have t9 := below_call (w := w) (by go_grown) k9
    go_wp2
    go_returns
    exact ⟨rfl, t9⟩
  have b1' : ((l.length : Int) == 0) = false := by simpa using b1
  have b4 : 0 < l.length := by omega
  clear b1
  have HW := hide (wf_u8 hw)
  have HW1 := hide (wf_u8 hw1)
  have hmk := fun W => run_make1 (P := Try.prog) 43 3 Try.underlying43 hi hz0 hz1 rfl hz2 l.length (by omega) (by omega) W
  clear hw hw1
  go_enter Try.func8, Try.ntmps8
  go_wp2_with fail
  go_loopw [5, 6, 7] (fun v al i wr => ∃ k : Nat, k ≤ l.length ∧ i = .int .i64 k ∧ al = .int .i64 (isum ((m9 l).take k)) ∧ wr.ownsRow w.heap.size 3 1 v k (ints ((m9 l).take k)) ∧ Below w.heap.size w wr)
    (fun _ _ i _ => l.length - (intOf i).toNat)
  case atStart => exact ⟨0, Nat.zero_le _, rfl, rfl, World.ownsRow_nil _ _ _ _, Below.refl _ _⟩
  case round =>
    obtain ⟨k, hk, rfl, rfl, hown, hbel⟩ := hrel
    have sz := hbel.size
    have HO := hide hown
    clear hown
    by_cases hlt : k < l.length
    · obtain ⟨b, off, rfl, hbw, hcell⟩ := row_u8 hr (by omega)
      have hA := (hbel.cell (p := ⟨b, off + k, none⟩) hbw).trans (hcell k hlt)
      obtain ⟨hx0, hx1⟩ := HW.out l[k] (List.getElem_mem hlt)
      have HT := hide (m9_take hlt)
      have HS := hide (isum_take (l := m9 l) (k := k) (by simpa [m9] using hlt))
      obtain ⟨sb0, sb1⟩ := isum_take_bd (m9_bd l) (by simp [m9]; omega) k
      obtain ⟨y, hy⟩ : ∃ y, isum ((m9 l).take k) = y := ⟨_, rfl⟩
      rw [hy] at sb0 sb1 ⊢
      have HY := hide hy
      have hmod0 : 0 ≤ l[k] % 9 := by omega
      have hmod1 : l[k] % 9 ≤ 8 := by omega
      clear hcell hy
      go_wp2_with (at_builtin; refine wpList_append_own _ rfl _ _ 43 rfl w.heap.size 3 i0 (.int .i64 0) 1 8 Try.underlying43 hi hz0 hz1 hz2 rfl (by decide) _ _ _ rfl (HO.out.alloc _) ⟨wr.heap.size, 0, none⟩ 1 1 [.int .i64 (l[k] % 9)] rfl rfl ?c1 ?c2 ?c3 ?c4 ?c5 ?_)
      case c1 => exact (Blk.new wr 3 #[.int .i64 (l[k] % 9)]).news
      case c2 => intro u hu; simp at hu; subst hu; rfl
      case c3 => unfold maxLen; omega
      case c4 => omega
      case c5 => simp; omega
      intro v' w1 hown' hgrow _
      have hge := own_ge HO.out
      have t1 : Below w.heap.size w w1 := below_grown (a := w) (by go_grown) hgrow hge
      have hA1 := (t1.cell (p := ⟨b, off + k, none⟩) hbw).trans ((hbel.cell (p := ⟨b, off + k, none⟩) hbw).symm.trans hA)
      have HO2 : Hid (w1.ownsRow w.heap.size 3 1 v' (k + 1) (ints ((m9 l).take (k + 1)))) := by
        rw [HT.out]; exact hide hown'
      clear hown' hgrow hge
      go_wp2
      go_roundw
      case rel => exact ⟨k + 1, hlt, by go_num, by rw [HS.out, HY.out]; simp [m9], HO2.out, t1⟩
      case measure => simp [intOf]; omega
    · have : k = l.length := by omega
      subst this
      have hmt : (m9 l).take l.length = m9 l := List.take_of_length_le (by simp [m9])
      rw [hmt] at HO ⊢
      have hml : l.length = (m9 l).length := by simp [m9]
      obtain ⟨g, c, rfl, hg, hO, hgc, hgm⟩ := own_nonnil HO.out hml b4
      have hrg : Row wr (some ⟨g, 0, none⟩) (ints (m9 l)) := by
        obtain ⟨cur, h1, h2⟩ := hO.ex
        exact row_of_take h1 h2 (by rw [ints_len]) (by rw [ints_len, ← hml]; omega)
      have HML := hide hml
      have HRG := hide hrg
      have lg := hO.lt
      clear hmt hml HO hrg hgm
      have hown2 : (wr.alloc (.cells #[] 3)).ownsRow w.heap.size 3 1 (.slice (some ⟨wr.heap.size, 0, none⟩) 0 0) 0 [] := World.ownsRow_made wr #[] 0 sz (by simp) rfl
      have HO := hide hown2
      clear hown2
      go_wp2_with (at_builtin; refine wpList_append_row rfl _ _ 43 rfl w.heap.size 3 i0 (.int .i64 0) 8 Try.underlying43 hi hz0 hz1 hz2 rfl _ _ _ rfl HO.out (some ⟨g, 0, none⟩) l.length c (ints (m9 l)) rfl (HRG.out.below ((Below.refl _ _).alloc (Nat.le_refl _) _)) (by rw [ints_len]; exact HML.out.symm) (ints_one _) ?d1 ?d2 ?d3 ?_)
      case d1 => unfold maxLen; omega
      case d2 => omega
      (try case d3 => simp; omega)
      intro v' w1 hown' hgrow hnil
      have t1 : Below w.heap.size w w1 := below_grown (a := w) (by go_grown) hgrow (own_ge HO.out)
      have hO1 : Own w1 g (m9 l) 0 := by
        obtain ⟨cur, h1, h2⟩ := hO.ex
        exact ⟨cur, (h1.alloc _).grown hgrow (by simp [Value.ownBlock]; omega), h2⟩
      obtain ⟨a2, c2, rfl, _, _, _, hr2⟩ := own_row hown'
      have hr2' : Row w1 a2 (ints (m9 l)) := by simpa using hr2
      have HR2 := hide hr2'
      clear hown' hgrow hnil hr2 hr2' HO hO HRG
      have HP := hide (fun x hx => (m9_bd l x hx).1 : ∀ x ∈ m9 l, 0 ≤ x)
      have l1 := hO1.lt
      go_wp2_with fail
      refine (new_ok _ (m9 l) _ _ _ HR2.out (by simpa using HML.out) (by rw [← HML.out]; omega) HP.out).mono ?_
      rintro e w2 ⟨rfl, C2, k2⟩
      have t2 := below_call (w := w) t1 k2
      have O2 := hO1.below k2
      have s2 := t2.size
      have lc := C2.box.lt
      obtain ⟨gn, hgn⟩ : ∃ gn, gn = w1.heap.size := ⟨_, rfl⟩
      rw [← hgn] at C2 lc l1
      have u1 : w.heap.size ≤ gn := by have := t1.size; omega
      rw [← hgn]
      clear hgn hO1
      go_wp2_with fail
      have O3 : Own (w2.alloc (.cells (List.replicate l.length (Value.int .i64 0)).toArray 3)) g (m9 l) 0 := by
        obtain ⟨cur, h1, h2⟩ := O2.ex
        exact ⟨cur, h1.alloc _, h2⟩
      have C3 : Cnt (w2.alloc (.cells (List.replicate l.length (Value.int .i64 0)).toArray 3)) (gn + 1) gn (m9 l) := ⟨C2.box.alloc _, C2.row.alloc _, C2.ne⟩
      have F3 := Blk.new w2 3 (List.replicate l.length (Value.int .i64 0)).toArray
      have t3 : Below w.heap.size w (w2.alloc (.cells (List.replicate l.length (Value.int .i64 0)).toArray 3)) := by go_grown
      have hz00 : (List.replicate l.length (Value.int .i64 0)) = ints (fn (m9 l) (m9 l)) := by rw [fn_self, ← HML.out]; simp [ints]
      rw [hz00] at F3 O3 C3 t3
      rw [show Array.replicate l.length (Value.int .i64 0) = (ints (fn (m9 l) (m9 l))).toArray from by rw [← List.toArray_replicate, hz00]]
      obtain ⟨gf, hgf⟩ : ∃ gf, gf = w2.heap.size := ⟨_, rfl⟩
      rw [← hgf] at F3 lc ⊢
      obtain ⟨L, hL⟩ : ∃ L, L = m9 l := ⟨_, rfl⟩
      have HL8 := hide (m9_bd l)
      rw [← hL] at F3 O3 C3 t3 HML HL8 HP ⊢
      clear hgf hz00 hL C2 O2
      have u2 : w.heap.size ≤ gf := by omega
      go_loopw [6, 11] (fun al i wr => ∃ (k : Nat) (s : List Int), k ≤ m.length ∧ i = .int .i64 k ∧ al = .int .i64 (isum s) ∧ Low L s ∧ Cnt wr (gn + 1) gn s ∧ Own wr g L 0 ∧ Blk wr gf 3 (ints (fn L s)).toArray ∧ Below w.heap.size w wr) (fun _ i _ => m.length - (intOf i).toNat)
      case atStart => exact ⟨0, L, Nat.zero_le _, rfl, rfl, Low.refl L HP.out, C3, O3, F3, t3⟩
      case round =>
        obtain ⟨k, s, hk, rfl, rfl, hlow, C, O, F, hbel⟩ := hrel
        have sz := hbel.size
        have HSLn := hide hlow.1
        have hsl1 : s.length ≤ L.length := Nat.le_of_eq hlow.1
        have hsl2 : L.length ≤ s.length := Nat.le_of_eq hlow.1.symm
        have hLl1 : l.length ≤ L.length := Nat.le_of_eq HML.out
        have hLl2 : L.length ≤ l.length := Nat.le_of_eq HML.out.symm
        by_cases hlt : k < m.length
        · obtain ⟨b, off, rfl, hbw, hcell⟩ := row_u8 hr1 (by omega)
          have hA := (hbel.cell (p := ⟨b, off + k, none⟩) hbw).trans (hcell k hlt)
          obtain ⟨hx0, hx1⟩ := HW1.out m[k] (List.getElem_mem hlt)
          obtain ⟨c', hc⟩ := Int.eq_ofNat_of_zero_le hx0
          rw [hc] at hA hx0 hx1
          obtain ⟨q, hq⟩ : ∃ q, q = c' % l.length := ⟨_, rfl⟩
          have hql : q < l.length := by rw [hq]; exact Nat.mod_lt _ b4
          have hqq : (c' : Int) % (l.length : Int) = (q : Int) := by rw [hq, Int.natCast_emod]
          have hqL : q < L.length := by omega
          have hqs : q < s.length := by omega
          obtain ⟨x, hx⟩ : ∃ x, s[q] = x := ⟨_, rfl⟩
          obtain ⟨y, hy⟩ : ∃ y, L[q] = y := ⟨_, rfl⟩
          have hlq := hlow.2 q hqs hqL
          have hy8 := HL8.out L[q] (List.getElem_mem hqL)
          rw [hx, hy] at hlq
          rw [hy] at hy8
          obtain ⟨hxx0, hxy⟩ := hlq
          obtain ⟨hy0, hy1⟩ := hy8
          have HLow := hide hlow
          have HX := hide hx
          have HY := hide hy
          have cY : wr.cell? ⟨g, q, none⟩ = some (.int .i64 y) := by rw [O.at0 hqL, hy]
          have cF : wr.cell? ⟨gf, q, none⟩ = some (.int .i64 (y - x)) := by rw [blk_int (i := q) F (by rw [fn_len]; exact hqL), fn_at HSLn.out hqL, hx, hy]
          have hs8 : ∀ z ∈ s, 0 ≤ z ∧ z ≤ 8 := by
            intro z hz
            obtain ⟨i, hi', rfl⟩ := List.getElem_of_mem hz
            have h1 := hlow.2 i hi' (by omega)
            have h2 := HL8.out L[i] (List.getElem_mem (by omega))
            omega
          have hsum := isum_take_bd hs8 (by omega) s.length
          rw [List.take_length] at hsum
          obtain ⟨A, hAA⟩ : ∃ A, isum s = A := ⟨_, rfl⟩
          rw [hAA] at hsum ⊢
          obtain ⟨A0, A1⟩ := hsum
          have HA := hide hAA
          clear hcell hc hq hlow hx hy hs8 hAA
          by_cases h0 : x = 0
          · subst h0
            go_wp2_with fail
            refine (down_zero _ _ s q _ C hqs (by omega) HX.out).mono ?_
            rintro e wa ⟨rfl, rfl⟩
            have hsub : y - (y - 0) = 0 := by omega
            obtain ⟨f, hf⟩ : ∃ f, y - 0 = f := ⟨_, rfl⟩
            rw [hf] at cF hsub
            have f0 : 0 ≤ f := by omega
            have f1 : f ≤ 8 := by omega
            clear hf
            go_wp2_with fail
            refine Reg.region (by kernel_rfl) 11 [] (fun _ w' => w' = wr.drew) (by kernel_rfl) (by kernel_rfl) rfl ?_
            iterate 11
              first
                | refine Reg.WT.idle rfl rfl ?_
                | (refine Reg.WT.yield (v := ?_) rfl rfl ?_ ?_
                   rotate_left
                   · intro w' _ hS; go_simp; (try go_bits); (first | rfl | rw [if_pos (by omega)]))
              simp only [Act.put, List.setIfInBounds_toArray, List.set_cons_zero, List.set_cons_succ]
            intro w7 hS7
            subst hS7
            go_wp2_with fail
            obtain ⟨wo, hwo⟩ : ∃ wo : World, wo = wr.drew := ⟨_, rfl⟩
            have Cn : Cnt wo (gn + 1) gn s := by rw [hwo]; exact Cnt.drew C
            have On : Own wo g L 0 := by rw [hwo]; exact Own.drew O
            have Fn : Blk wo gf 3 (ints (fn L s)).toArray := by rw [hwo]; exact F
            have tn : Below w.heap.size w wo := by rw [hwo]; exact Below.drew hbel
            rw [← hwo]
            clear hwo
            go_loopw [15, 16] (fun su j wr => ∃ (n : Nat), n ≤ l.length ∧ j = .int .i64 n ∧ su = .int .i64 (isum (s.take n)) ∧ Cnt wr (gn + 1) gn s ∧ Own wr g L 0 ∧ Blk wr gf 3 (ints (fn L s)).toArray ∧ Below w.heap.size w wr) (fun _ j _ => l.length - (intOf j).toNat)
            case atStart => exact ⟨0, Nat.zero_le _, rfl, rfl, Cn, On, Fn, tn⟩
            case round =>
              obtain ⟨n, hn, rfl, rfl, Ci, Oi, Fi, tbi⟩ := hrel
              have szi := tbi.size
              by_cases hnl : n < l.length
              · have hnL : n < L.length := by omega
                have hslen : s.length = L.length := HLow.out.1
                have hnS : n < s.length := by omega
                obtain ⟨xj, hxj⟩ : ∃ xj, s[n] = xj := ⟨_, rfl⟩
                obtain ⟨yj, hyj⟩ : ∃ yj, L[n] = yj := ⟨_, rfl⟩
                have hlj := (HLow.out).2 n hnS hnL
                have hyj8 := HL8.out L[n] (List.getElem_mem hnL)
                rw [hxj, hyj] at hlj
                rw [hyj] at hyj8
                obtain ⟨p0, p1⟩ := hlj
                obtain ⟨p2, p3⟩ := hyj8
                have dY : wr.cell? ⟨g, n, none⟩ = some (.int .i64 yj) := by rw [Oi.at0 hnL, hyj]
                obtain ⟨fj, hfj⟩ : ∃ fj, yj - xj = fj := ⟨_, rfl⟩
                have dF : wr.cell? ⟨gf, n, none⟩ = some (.int .i64 fj) := by rw [blk_int (i := n) Fi (by rw [fn_len]; exact hnL), fn_at hslen hnL, hxj, hyj, hfj]
                have hsubj : yj - fj = xj := by omega
                have p4 : 0 ≤ fj := by omega
                have p5 : fj ≤ 8 := by omega
                have HXj := hide hxj
                have HSj := hide (isum_take (l := s) (k := n) hnS)
                have hS8 : ∀ z ∈ s, 0 ≤ z ∧ z ≤ 8 := by
                  intro z hz
                  obtain ⟨i, hi', rfl⟩ := List.getElem_of_mem hz
                  have h1 := (HLow.out).2 i hi' (by omega)
                  have h2 := HL8.out L[i] (List.getElem_mem (by omega))
                  omega
                obtain ⟨p6, p7⟩ := isum_take_bd hS8 (by omega) n
                obtain ⟨su, hsu⟩ : ∃ su, isum (s.take n) = su := ⟨_, rfl⟩
                rw [hsu] at p6 p7 ⊢
                have HSu := hide hsu
                have HSlen := hide hslen
                have hsl3 := Nat.le_of_eq hslen
                clear hxj hyj hfj hS8 hsu hslen
                go_wp2_with fail
                refine (left_ok _ _ s n _ Ci hnS (by omega) HXj.out p0 (by omega)).mono ?_
                rintro e wb ⟨rfl, rfl⟩
                go_wp2_with fail
                refine Reg.region (by kernel_rfl) 19 [] (fun _ w' => w' = wr.drew) (by kernel_rfl) (by kernel_rfl) rfl ?_
                iterate 19
                  first
                    | refine Reg.WT.idle rfl rfl ?_
                    | (refine Reg.WT.yield (v := ?_) rfl rfl ?_ ?_
                       rotate_left
                       · intro w' _ hS; go_simp; (try go_bits); (first | rfl | rw [if_pos (by omega)]))
                  simp only [Act.put, List.setIfInBounds_toArray, List.set_cons_zero, List.set_cons_succ]
                intro w7 hS7
                subst hS7
                go_wp2
                go_roundw
                case rel => exact ⟨n + 1, hnl, by go_num, by rw [HSj.out, HXj.out, HSu.out], Ci.drew, Oi.drew, Fi, tbi.drew⟩
                case measure => simp [intOf]; omega
              · have hnn : n = l.length := by omega
                have htk : isum (s.take n) = A := by rw [hnn, List.take_of_length_le (by have := HLow.out.1; omega), HA.out]
                rw [htk]
                have hnnH := hide hnn
                clear hnn htk
                go_wp2
                go_roundw
                case rel => exact ⟨k + 1, s, hlt, by go_num, by rw [HA.out], HLow.out, Ci, Oi, Fi, tbi⟩
                case measure => simp [intOf]; omega
          · have h0b : (x == 0) = false := by simpa using h0
            have xp : 0 < x := by omega
            have hf1 : y - x + 1 = y - (x - 1) := by omega
            obtain ⟨f, hf⟩ : ∃ f, y - (x - 1) = f := ⟨_, rfl⟩
            have hsub : y - f = x - 1 := by omega
            have f0 : 0 ≤ f := by omega
            have f1 : f ≤ 8 := by omega
            have hfm : y - x + 1 = f := by omega
            have cF' : wr.cell? ⟨gf, q, none⟩ = some (.int .i64 (f - 1)) := by rw [cF]; congr 2; omega
            have HFm := hide hf
            have hsA : isum (s.set q (x - 1)) = A - 1 := by rw [isum_set hqs, HX.out, HA.out]; omega
            have hfs : fn L (s.set q (x - 1)) = (fn L s).set q f := by rw [fn_set HSLn.out hqL, HY.out, hf]
            have HLow' := hide (HLow.out.set_ hqs HX.out xp)
            obtain ⟨S, hS⟩ : ∃ S, S = s.set q (x - 1) := ⟨_, rfl⟩
            have HSL : Hid (S.length = L.length) := by rw [hS, List.length_set]; exact HSLn
            rw [← hS] at hsA hfs HLow'
            have HSA := hide hsA
            have HFS := hide hfs
            have HSS := hide hS
            clear hf1 hf hfm cF hsA hfs hS h0
            go_wp2_with fail
            refine (down_ok _ _ s q _ C hqs (by omega) HX.out xp (by omega)).mono ?_
            rintro e wa ⟨rfl, Ca, ka⟩
            rw [← HSS.out] at Ca
            have ta := below_grown1 (a := w) hbel ka (by omega)
            have Oa := O.grown ka (by omega)
            have Fa := F.grown ka (by simp; omega)
            have cFa : wa.cell? ⟨gf, q, none⟩ = some (.int .i64 (f - 1)) := (Fa.cell q).trans ((F.cell q).symm.trans cF')
            have fFa := Fa.frozen q
            have Fb := blk_int_set Fa q f
            rw [← HFS.out] at Fb
            have cFb : (wa.setCell ⟨gf, q, none⟩ (.int .i64 f)).cell? ⟨gf, q, none⟩ = some (.int .i64 f) := by
              have := blk_int (i := q) Fb (by rw [fn_len]; exact hqL)
              rw [this]
              congr 2
              simp only [HFS.out, List.getElem_set_self]
            have cYa : wa.cell? ⟨g, q, none⟩ = some (.int .i64 y) := by rw [Oa.at0 hqL, HY.out]
            have ne1 : ¬ g = gf := by omega
            have Cb := Ca.far (grownBy_set (w := wa) (g := gf) ⟨gf, q, none⟩ rfl (.int .i64 f)) (by omega) (by omega)
            have Ob := Oa.grown (grownBy_set (w := wa) (g := gf) ⟨gf, q, none⟩ rfl (.int .i64 f)) (by omega)
            have tb := ta.setCell (p := ⟨gf, q, none⟩) u2 (.int .i64 f)
            have cYb : (wa.setCell ⟨gf, q, none⟩ (.int .i64 f)).cell? ⟨g, q, none⟩ = some (.int .i64 y) := by rw [Ob.at0 hqL, HY.out]
            have hff : f - 1 + 1 = f := by omega
            go_wp2_with fail
            refine Reg.region (by kernel_rfl) 11 [] (fun _ w' => w' = (wa.setCell ⟨gf, q, none⟩ (.int .i64 f)).drew) (by kernel_rfl) (by kernel_rfl) rfl ?_
            iterate 11
              first
                | refine Reg.WT.idle rfl rfl ?_
                | (refine Reg.WT.yield (v := ?_) rfl rfl ?_ ?_
                   rotate_left
                   · intro w' _ hS; go_simp; (try go_bits); (first | rfl | rw [if_pos (by omega)]))
              simp only [Act.put, List.setIfInBounds_toArray, List.set_cons_zero, List.set_cons_succ]
            intro w7 hS7
            subst hS7
            go_wp2_with fail
            obtain ⟨wo, hwo⟩ : ∃ wo : World, wo = (wa.setCell ⟨gf, q, none⟩ (.int .i64 f)).drew := ⟨_, rfl⟩
            have Cn : Cnt wo (gn + 1) gn S := by rw [hwo]; exact Cnt.drew Cb
            have On : Own wo g L 0 := by rw [hwo]; exact Own.drew Ob
            have Fn : Blk wo gf 3 (ints (fn L S)).toArray := by rw [hwo]; exact Fb
            have tn : Below w.heap.size w wo := by rw [hwo]; exact Below.drew tb
            rw [← hwo]
            clear hwo
            go_loopw [15, 16] (fun su j wr => ∃ (n : Nat), n ≤ l.length ∧ j = .int .i64 n ∧ su = .int .i64 (isum (S.take n)) ∧ Cnt wr (gn + 1) gn S ∧ Own wr g L 0 ∧ Blk wr gf 3 (ints (fn L S)).toArray ∧ Below w.heap.size w wr) (fun _ j _ => l.length - (intOf j).toNat)
            case atStart => exact ⟨0, Nat.zero_le _, rfl, rfl, Cn, On, Fn, tn⟩
            case round =>
              obtain ⟨n, hn, rfl, rfl, Ci, Oi, Fi, tbi⟩ := hrel
              have szi := tbi.size
              by_cases hnl : n < l.length
              · have hnL : n < L.length := by omega
                have hslen : S.length = L.length := HSL.out
                have hnS : n < S.length := by omega
                obtain ⟨xj, hxj⟩ : ∃ xj, S[n] = xj := ⟨_, rfl⟩
                obtain ⟨yj, hyj⟩ : ∃ yj, L[n] = yj := ⟨_, rfl⟩
                have hlj := (HLow'.out).2 n hnS hnL
                have hyj8 := HL8.out L[n] (List.getElem_mem hnL)
                rw [hxj, hyj] at hlj
                rw [hyj] at hyj8
                obtain ⟨p0, p1⟩ := hlj
                obtain ⟨p2, p3⟩ := hyj8
                have dY : wr.cell? ⟨g, n, none⟩ = some (.int .i64 yj) := by rw [Oi.at0 hnL, hyj]
                obtain ⟨fj, hfj⟩ : ∃ fj, yj - xj = fj := ⟨_, rfl⟩
                have dF : wr.cell? ⟨gf, n, none⟩ = some (.int .i64 fj) := by rw [blk_int (i := n) Fi (by rw [fn_len]; exact hnL), fn_at hslen hnL, hxj, hyj, hfj]
                have hsubj : yj - fj = xj := by omega
                have p4 : 0 ≤ fj := by omega
                have p5 : fj ≤ 8 := by omega
                have HXj := hide hxj
                have HSj := hide (isum_take (l := S) (k := n) hnS)
                have hS8 : ∀ z ∈ S, 0 ≤ z ∧ z ≤ 8 := by
                  intro z hz
                  obtain ⟨i, hi', rfl⟩ := List.getElem_of_mem hz
                  have h1 := (HLow'.out).2 i hi' (by omega)
                  have h2 := HL8.out L[i] (List.getElem_mem (by omega))
                  omega
                obtain ⟨p6, p7⟩ := isum_take_bd hS8 (by omega) n
                obtain ⟨su, hsu⟩ : ∃ su, isum (S.take n) = su := ⟨_, rfl⟩
                rw [hsu] at p6 p7 ⊢
                have HSu := hide hsu
                have HSlen := hide hslen
                have hsl3 := Nat.le_of_eq hslen
                clear hxj hyj hfj hS8 hsu hslen
                go_wp2_with fail
                refine (left_ok _ _ S n _ Ci hnS (by omega) HXj.out p0 (by omega)).mono ?_
                rintro e wb ⟨rfl, rfl⟩
                go_wp2_with fail
                refine Reg.region (by kernel_rfl) 19 [] (fun _ w' => w' = wr.drew) (by kernel_rfl) (by kernel_rfl) rfl ?_
                iterate 19
                  first
                    | refine Reg.WT.idle rfl rfl ?_
                    | (refine Reg.WT.yield (v := ?_) rfl rfl ?_ ?_
                       rotate_left
                       · intro w' _ hS; go_simp; (try go_bits); (first | rfl | rw [if_pos (by omega)]))
                  simp only [Act.put, List.setIfInBounds_toArray, List.set_cons_zero, List.set_cons_succ]
                intro w7 hS7
                subst hS7
                go_wp2
                go_roundw
                case rel => exact ⟨n + 1, hnl, by go_num, by rw [HSj.out, HXj.out, HSu.out], Ci.drew, Oi.drew, Fi, tbi.drew⟩
                case measure => simp [intOf]; omega
              · have hnn : n = l.length := by omega
                have htk : isum (S.take n) = (A - 1) := by rw [hnn, List.take_of_length_le (by have := HSL.out; omega), HSA.out]
                rw [htk]
                have hnnH := hide hnn
                clear hnn htk
                go_wp2
                go_roundw
                case rel => exact ⟨k + 1, S, hlt, by go_num, by rw [HSA.out], HLow'.out, Ci, Oi, Fi, tbi⟩
                case measure => simp [intOf]; omega
        · have : k = m.length := by omega
          subst this
          go_wp2_with fail
          refine (works_any _).mono ?_
          rintro e w9 ⟨rfl, k9⟩
          have t9 := below_call (w := w) (by go_grown) k9
          go_wp2
          go_returns
          exact ⟨rfl, t9⟩
end Go.Proofs.Ytcgchcngiebgpaa
