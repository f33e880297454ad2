/- The walk of CounterOnce. -/
import Derived.Test.YtcgchcngiebgpaaOnceLaw
import Derived.Test.YtcgchcngiebgpaaPlaysWalk
namespace Go.Proofs.Ytcgchcngiebgpaa
open Go.RowKit

def u8s (l : List Int) : List Value := l.map (Value.int .u8)
theorem row_u8 {w : World} {a : Option Addr} {l : List Int} (h : Row w a (u8s l)) (hp : 0 < l.length) : ∃ b off, a = some ⟨b, off, none⟩ ∧ b < w.heap.size ∧
    ∀ i (hi : i < l.length), w.cell? ⟨b, off + i, none⟩ = some (.int .u8 l[i]) := by
  obtain ⟨b, off, ha, hb, hc⟩ := h.2 (by simpa [u8s] using hp)
  refine ⟨b, off, ha, hb, fun i hi => ?_⟩
  have := hc i (by simpa [u8s] using hi)
  simpa [u8s] using this
theorem wf_u8 {l : List Int} (hw : ∀ n ∈ l, (Lit.int .u8 n).wf = true) : ∀ x ∈ l, 0 ≤ x ∧ x ≤ 255 := fun x hx => by
  have := hw x hx
  simpa [Lit.wf, IntKind.min, IntKind.max, IntKind.signed, IntKind.bits] using this
theorem take_ints {l : List Int} {k : Nat} (h : k < l.length) : ints (l.take (k + 1)) = ints (l.take k) ++ [.int .i64 l[k]] := by
  rw [List.take_succ_eq_append_getElem h]; simp only [ints, List.map_append, List.map_cons, List.map_nil]

set_option maxHeartbeats 4000000 in
set_option maxRecDepth 100000 in
theorem walk_CounterOnce (w : World) (a0 : Option Addr) (l : List Int) (cap : Nat) (hr : Row w a0 (u8s l)) (hw : ∀ n ∈ l, (Lit.int .u8 n).wf = true) (hcap : l.length ≤ cap) (hm : cap ≤ maxLen)
    (a1 : Option Addr) (m : List Int) (cap' : Nat) (hr1 : Row w a1 (u8s m)) (hw1 : ∀ n ∈ m, (Lit.int .u8 n).wf = true) (hcap' : m.length ≤ cap') (hm' : cap' ≤ maxLen) :
    Calls Try.prog 6 #[.slice a0 l.length cap, .slice a1 m.length cap'] w fun e w' => e = .returned (.bool true) ∧ Below w.heap.size w w' := by
  unfold maxLen at hm hm'
  obtain ⟨i0, hi, hz0, hz1, hz2⟩ := info_parts info3
  by_cases b1 : l.length < 1
  · go_enter Try.func6, Try.ntmps6
    go_wp2_with fail
    refine (works_any _).mono ?_
    rintro e w9 ⟨rfl, k9⟩
    have t9 := below_call (w := w) (by go_grown) k9
    go_wp2
    go_returns
    exact ⟨rfl, t9⟩
  by_cases b2 : 40 < l.length
  · go_enter Try.func6, Try.ntmps6
    go_wp2_with fail
    refine (works_any _).mono ?_
    rintro e w9 ⟨rfl, k9⟩
    have t9 := below_call (w := w) (by go_grown) k9
    go_wp2
    go_returns
    exact ⟨rfl, t9⟩
  by_cases b3 : 2000 < m.length
  · go_enter Try.func6, Try.ntmps6
    go_wp2_with fail
    refine (works_any _).mono ?_
    rintro e w9 ⟨rfl, k9⟩
    have t9 := below_call (w := w) (by go_grown) k9
    go_wp2
    go_returns
    exact ⟨rfl, t9⟩
  have HW := hide (wf_u8 hw)
  have HW1 := hide (wf_u8 hw1)
  have hmk := fun W => run_make1 (P := Try.prog) 43 3 Try.underlying43 hi hz0 hz1 rfl hz2 l.length (by omega) (by omega) W
  clear hw hw1
  go_enter Try.func6, Try.ntmps6
  go_wp2_with fail
  go_loopw [5, 7] (fun v i wr => ∃ k : Nat, k ≤ l.length ∧ i = .int .i64 k ∧ wr.ownsRow (w.heap.size + 1) 3 1 v k (ints (l.take k)) ∧ Blk wr w.heap.size 3 (ints (mid l k)).toArray ∧ Below w.heap.size w wr)
    (fun _ i _ => l.length - (intOf i).toNat)
  case atStart =>
    refine ⟨0, Nat.zero_le _, rfl, World.ownsRow_nil _ _ _ _, ?_, by go_grown⟩
    have := Blk.new w 3 (List.replicate l.length (Value.int .i64 0)).toArray
    simpa [mid, ints] using this
  case round =>
    obtain ⟨k, hk, rfl, hown, B0, hbel⟩ := hrel
    have sz := hbel.size
    have HO := hide hown
    have lt0 := B0.lt
    clear hown
    by_cases hlt : k < l.length
    · obtain ⟨b, off, rfl, hbw, hcell⟩ := row_u8 hr (by omega)
      have hA := (hbel.cell (p := ⟨b, off + k, none⟩) hbw).trans (hcell k hlt)
      have hx := HW.out l[k] (List.getElem_mem hlt)
      obtain ⟨hx0, hx1⟩ := hx
      have HT := hide (take_ints hlt)
      clear hcell
      go_wp2_with (at_builtin; refine wpList_append_own _ rfl _ _ 43 rfl (w.heap.size + 1) 3 i0 (.int .i64 0) 1 8 Try.underlying43 hi hz0 hz1 hz2 rfl (by decide) _ _ _ rfl (HO.out.alloc _) ⟨wr.heap.size, 0, none⟩ 1 1 [.int .i64 l[k]] rfl rfl ?c1 ?c2 ?c3 ?c4 ?c5 ?_)
      case c1 => exact (Blk.new wr 3 #[.int .i64 l[k]]).news
      case c2 => intro u hu; simp at hu; subst hu; rfl
      case c3 => unfold maxLen; omega
      case c4 => omega
      case c5 => simp; omega
      intro v' w1 hown' hgrow _
      have hge := own_ge HO.out
      have t1 : Below w.heap.size w w1 := below_grown (a := w) (by go_grown) hgrow (fun q hq => by have := hge q hq; omega)
      have B1 : Blk w1 w.heap.size 3 (ints (mid l k)).toArray := (B0.alloc _).grown hgrow (fun hh => by have := hge _ hh.symm; omega)
      have c0 := blk_int (i := k) B1 (by rw [mid_len _ _ hk]; exact hlt)
      have f0 := B1.frozen k
      have hA1 := (t1.cell (p := ⟨b, off + k, none⟩) hbw).trans ((hbel.cell (p := ⟨b, off + k, none⟩) hbw).symm.trans hA)
      have B2 := blk_int_set B1 k l[k]
      rw [mid_set l k hlt] at B2
      have HO2 : Hid ((w1.setCell ⟨w.heap.size, k, none⟩ (.int .i64 l[k])).ownsRow (w.heap.size + 1) 3 1 v' (k + 1) (ints (l.take (k + 1)))) := by
        rw [HT.out]
        exact hide (hown'.kept (grownBy_set (g := w.heap.size) _ rfl _) (by
          right; intro hh; have := own_ge hown' _ hh; omega))
      clear hown' hgrow hge
      go_wp2
      go_roundw
      case rel => exact ⟨k + 1, hlt, by go_num, HO2.out, B2, t1.setCell (by simp) _⟩
      case measure => simp [intOf]; omega
    · have : k = l.length := by omega
      subst this
      have hmd : mid l l.length = l := by simp [mid]
      rw [hmd] at B0
      rw [List.take_length] at HO
      obtain ⟨al, cl, rfl, _, _, _, hrl⟩ := own_row HO.out
      have hpos : ∀ x ∈ l, 0 ≤ x := fun x hx => (HW.out x hx).1
      have HP := hide hpos
      clear hpos hmd
      go_wp2_with fail
      refine (new_ok _ l _ _ _ hrl rfl (by omega) HP.out).mono ?_
      rintro e w2 ⟨rfl, C2, k2⟩
      have t2 := below_call (w := w) hbel k2
      have D2 := B0.below k2 lt0
      have s2 := t2.size
      have l2 := C2.box.lt
      obtain ⟨gn, hgn⟩ : ∃ gn, gn = wr.heap.size := ⟨_, rfl⟩
      have hgc : gn + 1 = wr.heap.size + 1 := by rw [hgn]
      rw [← hgn] at C2
      have u1 : w.heap.size < gn := by omega
      have u2 : gn + 1 < w2.heap.size := by omega
      rw [← hgn]
      clear hgc hgn
      go_wp2_with fail
      have D3 := D2.alloc (.cells (List.replicate l.length (Value.int .i64 0)).toArray 3)
      have C3 : Cnt (w2.alloc (.cells (List.replicate l.length (Value.int .i64 0)).toArray 3)) (gn + 1) gn l := ⟨C2.box.alloc _, C2.row.alloc _, C2.ne⟩
      have Z3 := Blk.new w2 3 (List.replicate l.length (Value.int .i64 0)).toArray
      have hz00 : (List.replicate l.length (Value.int .i64 0)) = ints (zs l l) := by
        apply List.ext_getElem
        · simp [ints, zs_len]
        · intro i a b
          simp only [List.length_replicate] at a
          simp only [ints, List.getElem_map, List.getElem_replicate]
          rw [zs_at rfl a, if_neg (by omega)]
      rw [hz00] at Z3 D3 C3
      have t3 : Below w.heap.size w (w2.alloc (.cells (ints (zs l l)).toArray 3)) := by go_grown
      rw [show Array.replicate l.length (Value.int .i64 0) = (ints (zs l l)).toArray from by rw [← List.toArray_replicate, hz00]]
      obtain ⟨gz, hgz⟩ : ∃ gz, gz = w2.heap.size := ⟨_, rfl⟩
      rw [← hgz] at Z3 u2 ⊢
      clear hgz hz00
      go_loopw [11] (fun i wr => ∃ (k : Nat) (s : List Int), k ≤ m.length ∧ i = .int .i64 k ∧ Low l s ∧ Cnt wr (gn + 1) gn s ∧ Blk wr w.heap.size 3 (ints s).toArray ∧ Blk wr gz 3 (ints (zs l s)).toArray ∧ Below w.heap.size w wr) (fun i _ => m.length - (intOf i).toNat)
      case atStart => exact ⟨0, l, Nat.zero_le _, rfl, Low.refl l HP.out, C3, D3, Z3, t3⟩
      case round =>
        obtain ⟨k, s, hk, rfl, hlow, C, D, Z, hbel⟩ := hrel
        have sz := hbel.size
        have hsl := hlow.1
        have lz := Z.lt
        by_cases hlt : k < m.length
        · obtain ⟨b, off, rfl, hbw, hcell⟩ := row_u8 hr1 (by omega)
          have hA := (hbel.cell (p := ⟨b, off + k, none⟩) hbw).trans (hcell k hlt)
          obtain ⟨hx0, hx1⟩ := HW1.out m[k] (List.getElem_mem hlt)
          obtain ⟨c, hc⟩ := Int.eq_ofNat_of_zero_le hx0
          rw [hc] at hA hx0 hx1
          obtain ⟨q, hq⟩ : ∃ q, q = c % l.length := ⟨_, rfl⟩
          have hql : q < l.length := by rw [hq]; exact Nat.mod_lt _ (by omega)
          have hqq : (c : Int) % (l.length : Int) = (q : Int) := by rw [hq, Int.natCast_emod]
          have hqs : q < s.length := by omega
          obtain ⟨x, hx⟩ : ∃ x, s[q] = x := ⟨_, rfl⟩
          have hlq := hlow.2 q hqs hql
          rw [hx] at hlq
          have hlb := HW.out l[q] (List.getElem_mem hql)
          have HLow := hide hlow
          have HX := hide hx
          have cD : wr.cell? ⟨w.heap.size, q, none⟩ = some (.int .i64 x) := by rw [blk_int D hqs, hx]
          clear hcell hc hq hlow
          by_cases h0 : x = 0
          · have h0b : (x == 0) = true := by simpa using h0
            rw [h0] at hx cD
            clear h0b
            go_wp2_with fail
            refine (down_zero _ _ s q _ C hqs (by omega) hx).mono ?_
            rintro e wa ⟨rfl, rfl⟩
            go_wp2
            go_roundw
            case rel => exact ⟨k + 1, s, hlt, by go_num, HLow.out, C, D, Z, hbel⟩
            case measure => simp [intOf]; omega
          · have h0b : (x == 0) = false := by simpa using h0
            have xp : 0 < x := by omega
            have xb : x ≤ 255 := by omega
            have zq : (zs l s)[q]'(by rw [zs_len]; exact hql) = 0 := by rw [zs_at hsl hql, if_neg (by rw [hx]; omega)]
            have cZ : wr.cell? ⟨gz, q, none⟩ = some (.int .i64 0) := by rw [blk_int (i := q) Z (by rw [zs_len]; exact hql), zq]
            clear zq hx hlq hlb h0
            go_wp2_with fail
            refine (down_ok _ _ s q _ C hqs (by omega) HX.out xp (by omega)).mono ?_
            rintro e wa ⟨rfl, Ca, ka⟩
            have ta := below_grown1 (a := w) hbel ka (by omega)
            have Da := D.grown ka (by simp; omega)
            have Za := Z.grown ka (by simp; omega)
            have cDa : wa.cell? ⟨w.heap.size, q, none⟩ = some (.int .i64 x) := by rw [blk_int Da hqs, HX.out]
            have cZa : wa.cell? ⟨gz, q, none⟩ = some (.int .i64 0) := (Za.cell q).trans ((Z.cell q).symm.trans cZ)
            have fDa := Da.frozen q
            have fZa := Za.frozen q
            have Db := blk_int_set Da q (x - 1)
            have cDb : (wa.setCell ⟨w.heap.size, q, none⟩ (.int .i64 (x - 1))).cell? ⟨w.heap.size, q, none⟩ = some (.int .i64 (x - 1)) := by
              rw [blk_int (i := q) Db (by rw [List.length_set]; exact hqs), List.getElem_set_self]
            have ne1 : ¬ gz = w.heap.size := by omega
            have Zb := Za.far (p := ⟨w.heap.size, q, none⟩) (by show gz ≠ w.heap.size; omega) (.int .i64 (x - 1))
            have cZb : (wa.setCell ⟨w.heap.size, q, none⟩ (.int .i64 (x - 1))).cell? ⟨gz, q, none⟩ = some (.int .i64 0) := (Zb.cell q).trans ((Z.cell q).symm.trans cZ)
            have fZb := Zb.frozen q
            have Cb := Ca.far (grownBy_set (w := wa) (g := w.heap.size) ⟨w.heap.size, q, none⟩ rfl (.int .i64 (x - 1))) (by omega) (by omega)
            have tb := ta.setCell (p := ⟨w.heap.size, q, none⟩) (Nat.le_refl _) (.int .i64 (x - 1))
            have HLow' := hide (HLow.out.set_ hqs HX.out xp)
            by_cases h1 : x = 1
            · have Db1 : Blk (wa.setCell ⟨w.heap.size, q, none⟩ (.int .i64 0)) w.heap.size 3 (ints (s.set q 0)).toArray := by simpa [h1] using Db
              subst h1
              have hzs := zs_one hsl hql HX.out (by have := HLow.out.2 q hqs hql; rw [HX.out] at this; omega)
              have Zc := blk_int_set Zb q 1
              rw [← hzs] at Zc
              have Dc := Db1.far (p := ⟨gz, q, none⟩) (by show w.heap.size ≠ gz; omega) (.int .i64 1)
              have Cc := Cb.far (grownBy_set (g := gz) ⟨gz, q, none⟩ rfl (.int .i64 1)) (by omega) (by omega)
              have tc := tb.setCell (p := ⟨gz, q, none⟩) (by show _ ≤ gz; omega) (.int .i64 1)
              simp only [Int.sub_self] at *
              go_wp2
              go_roundw
              case rel => exact ⟨k + 1, s.set q 0, hlt, by go_num, HLow'.out, Cc, Dc, Zc, tc⟩
              case measure => simp [intOf]; omega
            · have h1b : (x - 1 == 0) = false := by simp; omega
              have hzs := zs_same hsl hql HX.out (by omega) (by omega)
              rw [← hzs] at Zb
              go_wp2
              go_roundw
              case rel => exact ⟨k + 1, s.set q (x - 1), hlt, by go_num, HLow'.out, Cb, Db, Zb, tb⟩
              case measure => simp [intOf]; omega
        · have : k = m.length := by omega
          subst this
          have HLow := hide hlow
          clear hlow
          go_wp2_with fail
          go_loopw [15] (fun i wr => ∃ (k : Nat), k ≤ l.length ∧ i = .int .i64 k ∧ Cnt wr (gn + 1) gn s ∧ Blk wr w.heap.size 3 (ints s).toArray ∧ Blk wr gz 3 (ints (zs l s)).toArray ∧ Below w.heap.size w wr) (fun i _ => l.length - (intOf i).toNat)
          case atStart => exact ⟨0, Nat.zero_le _, rfl, C, D, Z, hbel⟩
          case round =>
            obtain ⟨k, hk, rfl, C, D, Z, hbel⟩ := hrel
            have sz := hbel.size
            by_cases hlt : k < l.length
            · obtain ⟨b, off, rfl, hbw, hcell⟩ := row_u8 hr (by omega)
              have hA := (hbel.cell (p := ⟨b, off + k, none⟩) hbw).trans (hcell k hlt)
              have hks : k < s.length := by omega
              have hlq := HLow.out.2 k hks hlt
              have hlb := HW.out l[k] (List.getElem_mem hlt)
              obtain ⟨x, hx⟩ : ∃ x, s[k] = x := ⟨_, rfl⟩
              obtain ⟨y, hy⟩ : ∃ y, l[k] = y := ⟨_, rfl⟩
              have hzk := zs_at hsl hlt
              rw [hx, hy] at hzk
              rw [hx, hy] at hlq
              rw [hy] at hA hlb
              have cD : wr.cell? ⟨w.heap.size, k, none⟩ = some (.int .i64 x) := by rw [blk_int D hks, hx]
              have cZ := blk_int (i := k) Z (by rw [zs_len]; exact hlt)
              rw [hzk] at cZ
              have HX := hide hx
              obtain ⟨hx0, hx1⟩ := hlq
              obtain ⟨hy0, hy1⟩ := hlb
              have xb : x ≤ 255 := by omega
              clear hcell hzk hx hy hx1
              by_cases c1 : x = 0
              · subst c1
                by_cases c2 : 0 < y
                · rw [if_pos ⟨rfl, c2⟩] at cZ
                  go_wp2_with fail
                  refine (left_ok _ _ s k _ C hks (by omega) HX.out (by omega) (by omega)).mono ?_
                  rintro e wa ⟨rfl, rfl⟩
                  go_wp2_with fail
                  refine Reg.region (by kernel_rfl) 37 [] (fun _ w' => w' = wr.drew) (by kernel_rfl) (by kernel_rfl) rfl ?_
                  iterate 37
                    first
                      | refine Reg.WT.idle rfl rfl ?_
                      | (refine Reg.WT.yield (v := ?_) rfl rfl ?_ ?_
                         rotate_left
                         · intro w' _ hS; go_simp; (try go_bits); (first | rfl | rw [if_pos (by omega)]))
                    simp only [Act.put, List.setIfInBounds_toArray, List.set_cons_zero, List.set_cons_succ]
                  intro w7 hS
                  subst hS
                  go_wp2
                  go_roundw
                  case rel => exact ⟨k + 1, hlt, by go_num, C.drew, D, Z, hbel.drew⟩
                  case measure => simp [intOf]; omega
                · rw [if_neg (by omega)] at cZ
                  go_wp2_with fail
                  refine (left_ok _ _ s k _ C hks (by omega) HX.out (by omega) (by omega)).mono ?_
                  rintro e wa ⟨rfl, rfl⟩
                  go_wp2_with fail
                  refine Reg.region (by kernel_rfl) 37 [] (fun _ w' => w' = wr.drew) (by kernel_rfl) (by kernel_rfl) rfl ?_
                  iterate 37
                    first
                      | refine Reg.WT.idle rfl rfl ?_
                      | (refine Reg.WT.yield (v := ?_) rfl rfl ?_ ?_
                         rotate_left
                         · intro w' _ hS; go_simp; (try go_bits); (first | rfl | rw [if_pos (by omega)]))
                    simp only [Act.put, List.setIfInBounds_toArray, List.set_cons_zero, List.set_cons_succ]
                  intro w7 hS
                  subst hS
                  go_wp2
                  go_roundw
                  case rel => exact ⟨k + 1, hlt, by go_num, C.drew, D, Z, hbel.drew⟩
                  case measure => simp [intOf]; omega
              · rw [if_neg (by omega)] at cZ
                have c1b : (x == 0) = false := by simpa using c1
                go_wp2_with fail
                refine (left_ok _ _ s k _ C hks (by omega) HX.out hx0 (by omega)).mono ?_
                rintro e wa ⟨rfl, rfl⟩
                go_wp2_with fail
                refine Reg.region (by kernel_rfl) 37 [] (fun _ w' => w' = wr.drew) (by kernel_rfl) (by kernel_rfl) rfl ?_
                iterate 37
                  first
                    | refine Reg.WT.idle rfl rfl ?_
                    | (refine Reg.WT.yield (v := ?_) rfl rfl ?_ ?_
                       rotate_left
                       · intro w' _ hS; go_simp; (try go_bits); (first | rfl | rw [if_pos (by omega)]))
                  simp only [Act.put, List.setIfInBounds_toArray, List.set_cons_zero, List.set_cons_succ]
                intro w7 hS
                subst hS
                go_wp2
                go_roundw
                case rel => exact ⟨k + 1, hlt, by go_num, C.drew, D, Z, hbel.drew⟩
                case measure => simp [intOf]; omega
            · have : k = l.length := by omega
              subst this
              go_wp2_with fail
              refine (works_any _).mono ?_
              rintro e w9 ⟨rfl, k9⟩
              have t9 := below_call (w := w) (by go_grown) k9
              go_wp2
              go_returns
              exact ⟨rfl, t9⟩
end Go.Proofs.Ytcgchcngiebgpaa
