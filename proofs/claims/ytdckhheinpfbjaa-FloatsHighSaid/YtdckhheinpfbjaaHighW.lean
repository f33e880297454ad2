/- The walk of FloatsHigh. -/
import Derived.Test.YtdckhheinpfbjaaFlLaw
import Derived.Test.YtdckhheinpfbjaaOpens
import Derived.Test.YtdckhheinpfbjaaHoldL
import Derived.Deep.CutRange
namespace Go.Proofs.Ytdckhheinpfbjaa
open Go.RowKit

theorem s_at2 {w : World} {a : Option Addr} {l : List Siz} (h : RowS w a 4 (l.map scell)) (hp : 0 < l.length) : ∃ b off, a = some ⟨b, off, none⟩ ∧ b < w.heap.size ∧
    ∀ i (hi : i < l.length), w.cell? ⟨b, off + i * 4, none⟩ = some (.bool l[i].right) ∧ w.cell? ⟨b, off + i * 4 + 1, none⟩ = some (.int .u16 l[i].w) ∧ w.cell? ⟨b, off + i * 4 + 2, none⟩ = some (.int .u16 l[i].h) ∧ w.cell? ⟨b, off + i * 4 + 3, none⟩ = some (.int .u16 l[i].y) := by
  obtain ⟨b, off, ha, hb, hc⟩ := RowS.at_ h (by simpa using hp)
  refine ⟨b, off, ha, hb, fun i hi => ⟨?_, ?_, ?_, ?_⟩⟩
  · have := hc i (by simpa using hi) 0 (by simp [scell]); simpa [scell] using this
  · have := hc i (by simpa using hi) 1 (by simp [scell]); simpa [scell] using this
  · have := hc i (by simpa using hi) 2 (by simp [scell]); simpa [scell] using this
  · have := hc i (by simpa using hi) 3 (by simp [scell]); simpa [scell] using this
theorem keepd2 {W : World} {p : Addr} {v : Value} (h : W.cell? p = some v) : ∀ w', w' = W.drew → w'.cell? p = some v := fun _ e => e ▸ h

def sb (L : List Flt) (y : Int) (j : Nat) : Bool := (L.take j).any fun f => decide (f.y ≤ y) && decide (y < f.y + f.h)
theorem sb_zero (L : List Flt) (y : Int) : sb L y 0 = false := by simp [sb]
theorem sb_next {L : List Flt} {y : Int} {j : Nat} (h : j < L.length) : sb L y (j + 1) = (sb L y j || (decide (L[j].y ≤ y) && decide (y < L[j].y + L[j].h))) := by
  unfold sb; rw [List.take_succ_eq_append_getElem h, List.any_append]; simp
theorem sb_all {L : List Flt} {y : Int} {k : Nat} (h : L.length = k) : sb L y k = someS L y := by
  unfold sb someS
  rw [List.take_of_length_le (by omega)]
  congr 1
  funext f
  unfold std
  rw [Bool.eq_iff_iff]
  simp only [Bool.and_eq_true, decide_eq_true_eq]
  omega
/-- What is asked of one that stands as high as may be. -/
theorem high_at {L : List Flt} {V R Y0 : Int} {y : Int} (hV : 0 ≤ V) (h1 : top L Y0 ≤ y) (h2 : y < (place L 2 V 7 0 R Y0).y) : someS L y = true ∧ ¬ V ≤ (tall L y 1 0 R).2 - (tall L y 1 0 R).1 := by
  have e : (place L 2 V 7 0 R Y0).y = plc L V 0 R (top L Y0) := by unfold place; show plc L (max V 0) 0 R (top L Y0) = _; rw [show max V 0 = V from by omega]
  rw [e] at h2
  have h := high (l := L) (w := V) (a := 0) (b := R) (cntB L (top L Y0)) (Nat.le_refl _) (fun f hf => (top_ge L Y0).2 f hf) y h1 h2
  unfold okP at h
  rw [Bool.or_eq_false_iff] at h
  exact ⟨by simpa using h.1, by simpa using h.2⟩
set_option maxHeartbeats 8000000 in
set_option maxRecDepth 100000 in
theorem high_most (w : World) (a0 : Option Addr) (l : List Siz) (cap : Nat) (hr : RowS w a0 4 (l.map scell)) (hl : ∀ f ∈ l, SizOk f) (hn : l.length ≤ 60) (r0 : Nat) (hr0 : r0 ≤ 65535) (z : Siz) (hz : SizOk z) :
    Calls Try.prog 5 #[.slice a0 l.length cap, .int .u16 r0, .agg #[.bool z.right, .int .u16 z.w, .int .u16 z.h, .int .u16 z.y]] w fun e w' => e = .returned (.bool true) ∧ Below w.heap.size w w' := by
  obtain ⟨i0, hi, hz0, hz1, hz2⟩ := info_parts info34
  have HL := hide hl
  clear hl
  obtain ⟨zr, zw, zh, zy⟩ := z
  obtain ⟨⟨zw0, zw1⟩, ⟨zh0, zh1⟩, ⟨zy0, zy1⟩⟩ := hz
  simp only at zw0 zw1 zh0 zh1 zy0 zy1 ⊢
  obtain ⟨ZW, rfl⟩ := Int.eq_ofNat_of_zero_le zw0
  obtain ⟨ZH, rfl⟩ := Int.eq_ofNat_of_zero_le zh0
  obtain ⟨ZY, rfl⟩ := Int.eq_ofNat_of_zero_le zy0
  obtain ⟨R, hR, hR1, hR2⟩ : ∃ R : Nat, (r0 : Int) % 500 + 1 = (R : Int) ∧ 1 ≤ R ∧ R ≤ 500 := ⟨r0 % 500 + 1, by omega, by omega, by omega⟩
  obtain ⟨w1, hw1⟩ : ∃ w1, w1 = w.alloc (.cells #[.bool zr, .int .u16 ZW, .int .u16 ZH, .int .u16 ZY] 41) := ⟨_, rfl⟩
  have B1 : Hid (Blk w1 w.heap.size 41 #[.bool zr, .int .u16 ZW, .int .u16 ZH, .int .u16 ZY]) := hide (hw1 ▸ Blk.new w 41 _)
  have t1 : Hid (Below w.heap.size w w1) := hide (by rw [hw1]; go_grown)
  have hw1s : w.heap.size < w1.heap.size := by rw [hw1]; simp
  have HW1 := hide hw1
  have hr1 := RowS.below hr t1.out
  clear hw1
  go_enter Try.func5, Try.ntmps5
  go_wp2
  rw [← HW1.out]
  have HR := hide hR
  clear hR
  go_loopw [8, 9] (fun v i wr => ∃ (k : Nat) (L : List Flt), k ≤ l.length ∧ i = .int .i64 k ∧ Hid (L.length = k) ∧ Hid (∀ f ∈ L, Lies k f) ∧ wr.ownsRow w1.heap.size 34 5 v k (L.map fcell).flatten ∧ Below w1.heap.size w1 wr) (fun _ i _ => l.length - (intOf i).toNat)
  case atStart => exact ⟨0, [], Nat.zero_le _, rfl, rfl, fun f hf => absurd hf (by simp), World.ownsRow_nil _ _ _ _, Below.refl _ _⟩
  case round =>
    obtain ⟨k, L, hk, rfl, hLk, hLies, hown, hbel⟩ := hrel
    obtain ⟨aL, cL, rfl, _, _, _, hG⟩ := own_rowG (fcell_len L) (by decide) hown
    have HO := hide hown
    have t := hide hbel
    have GL : Hid (FRow wr aL L) := hide hG.1
    clear hown hG
    by_cases hlt : k < l.length
    · obtain ⟨b, off, rfl, hbw, hcell⟩ := s_at2 hr1 (by omega)
      obtain ⟨x0, x1, x2, x3⟩ := hcell k hlt
      have y00 := (t.out.cell (p := ⟨b, off + k * 4, none⟩) hbw).trans x0
      obtain ⟨⟨w0, w1'⟩, ⟨h0, h1⟩, ⟨y0, y1⟩⟩ := HL.out _ (List.getElem_mem hlt)
      clear hcell hbel
      generalize l[k] = z at x0 y00 x1 x2 x3 w0 w1' h0 h1 y0 y1
      obtain ⟨zr', zw, zh, zy⟩ := z
      simp only at x0 y00 x1 x2 x3 w0 w1' h0 h1 y0 y1
      obtain ⟨W, rfl⟩ := Int.eq_ofNat_of_zero_le w0
      obtain ⟨H, rfl⟩ := Int.eq_ofNat_of_zero_le h0
      obtain ⟨Y, rfl⟩ := Int.eq_ofNat_of_zero_le y0
      have HFit : Hid (∀ f ∈ L, Fit f) := hide (fun f hf => (hLies.out f hf).fit (by omega))
      obtain ⟨sd, hsd, hzs⟩ : ∃ sd : Int, (sd = 1 ∨ sd = 2) ∧ (zr' = true ∧ sd = 2 ∨ zr' = false ∧ sd = 1) := by
        cases zr'
        · exact ⟨1, .inl rfl, .inr ⟨rfl, rfl⟩⟩
        · exact ⟨2, .inr rfl, .inl ⟨rfl, rfl⟩⟩
      have hsd1 : 1 ≤ sd ∧ sd ≤ 2 := by omega
      go_upto_if 38 with fail
      go_cut [10] from 28 to 68 (fun s10 wx => s10 = .int .u8 sd ∧ wx = wr)
      case first =>
        rcases hzs with ⟨rfl, rfl⟩ | ⟨rfl, rfl⟩
        · go_wp2_with fail
          go_meet
          exact ⟨rfl, rfl⟩
        · go_wp2_with fail
          go_meet
          exact ⟨rfl, rfl⟩
      case rest =>
        obtain ⟨rfl, hwc⟩ := hcut
        have hwc := hwc.symm
        subst hwc
        clear hzs
        obtain ⟨W', hW'⟩ : ∃ W', W' = W % (R + 50) := ⟨_, rfl⟩
        obtain ⟨H', hH'⟩ : ∃ H', H' = H % 20 := ⟨_, rfl⟩
        obtain ⟨Y', hY'⟩ : ∃ Y', Y' = Y % 200 := ⟨_, rfl⟩
        have hWb : W' ≤ 65535 := by rw [hW']; exact Nat.le_trans (Nat.mod_le _ _) (by omega)
        have hHb : H' ≤ 65535 := by omega
        have hYb : Y' ≤ 65535 := by omega
        have wW : IntKind.i64.wrap (W : Int) = (W : Int) := by rw [IntKind.wrap_i64]; omega
        have wH : IntKind.i64.wrap (H : Int) = (H : Int) := by rw [IntKind.wrap_i64]; omega
        have wY : IntKind.i64.wrap (Y : Int) = (Y : Int) := by rw [IntKind.wrap_i64]; omega
        have wR : IntKind.i64.wrap ((R : Int) + 50) = (R : Int) + 50 := by rw [IntKind.wrap_i64]; omega
        have eW : (W : Int).tmod ((R : Int) + 50) = (W' : Int) := by rw [hW']; rfl
        have eH : (H : Int).tmod 20 = (H' : Int) := by rw [hH']; rfl
        have eY : (Y : Int).tmod 200 = (Y' : Int) := by rw [hY']; rfl
        have fW : (W : Int) % ((R : Int) + 50) = (W' : Int) := by rw [hW']; rfl
        have fH : (H : Int) % 20 = (H' : Int) := by rw [hH']; rfl
        have fY : (Y : Int) % 200 = (Y' : Int) := by rw [hY']; rfl
        clear hW' hH' hY'
        have HN := hide (Lies.place (n := k) (s := sd) (w := (W' : Int)) (h := (H' : Int)) (b := (R : Int)) (y := (Y' : Int)) hLies.out hsd (by omega) (by omega) (by omega) (by omega))
        have PL := hide (fun (W0 : World) (hb0 : Below wr.heap.size wr W0) => place_any aL L k cL sd W' H' 0 (R : Int) Y' W0 (FRow.below GL.out hb0) hLk.out HFit.out (by omega) ⟨by omega, by omega⟩ ⟨by omega, by omega⟩ ⟨by omega, by omega⟩)
        obtain ⟨f, hf⟩ : ∃ f, f = place L sd W' H' 0 (R : Int) Y' := ⟨_, rfl⟩
        rw [← hf] at HN PL
        clear hf
        go_wp2_with fail
        have z1 := keepc (p := ⟨b, off + k * 4 + 1, none⟩) hbw x1
        have z2 := keepc (p := ⟨b, off + k * 4 + 2, none⟩) hbw x2
        have z3 := keepc (p := ⟨b, off + k * 4 + 3, none⟩) hbw x3
        refine Hold.begin_ 31 (by kernel_rfl) rfl (fun w' => Below w1.heap.size w1 w') ?_ t.out.drew
        intro hS
        refine Hold.take (i := 0) (v := ?_) rfl (by kernel_rfl) (fun _ _ _ h => h) rfl ?_ hS ?_
        rotate_left
        · intro w' hS; have z0_ := z1 _ hS; have z1_ := z2 _ hS; have z2_ := z3 _ hS; go_simp; (try go_bits); (first | rfl | rw [if_pos (by omega)])
        simp only [Act.put, List.getElem_toArray, List.getElem_cons_zero, List.getElem_cons_succ, List.setIfInBounds_toArray, List.set_cons_zero, List.set_cons_succ]
        refine Hold.take (i := 1) (v := ?_) rfl (by kernel_rfl) (fun _ _ _ h => h) rfl ?_ hS ?_
        rotate_left
        · intro w' hS; have z0_ := z1 _ hS; have z1_ := z2 _ hS; have z2_ := z3 _ hS; go_simp; (try go_bits); (first | rfl | rw [if_pos (by omega)])
        simp only [Act.put, List.getElem_toArray, List.getElem_cons_zero, List.getElem_cons_succ, List.setIfInBounds_toArray, List.set_cons_zero, List.set_cons_succ]
        refine Hold.take (i := 2) (v := ?_) rfl (by kernel_rfl) (fun _ _ _ h => h) rfl ?_ hS ?_
        rotate_left
        · intro w' hS; have z0_ := z1 _ hS; have z1_ := z2 _ hS; have z2_ := z3 _ hS; go_simp; (try go_bits); (first | rfl | rw [if_pos (by omega)])
        simp only [Act.put, List.getElem_toArray, List.getElem_cons_zero, List.getElem_cons_succ, List.setIfInBounds_toArray, List.set_cons_zero, List.set_cons_succ]
        refine Hold.take (i := 3) (v := ?_) rfl (by kernel_rfl) (fun _ _ _ h => h) rfl ?_ hS ?_
        rotate_left
        · intro w' hS; have z0_ := z1 _ hS; have z1_ := z2 _ hS; have z2_ := z3 _ hS; go_simp; (try go_bits); (first | rfl | rw [if_pos (by omega)])
        simp only [Act.put, List.getElem_toArray, List.getElem_cons_zero, List.getElem_cons_succ, List.setIfInBounds_toArray, List.set_cons_zero, List.set_cons_succ]
        refine Hold.take (i := 4) (v := ?_) rfl (by kernel_rfl) (fun _ _ _ h => h) rfl ?_ hS ?_
        rotate_left
        · intro w' hS; have z0_ := z1 _ hS; have z1_ := z2 _ hS; have z2_ := z3 _ hS; go_simp; (try go_bits); (first | rfl | rw [if_pos (by omega)])
        simp only [Act.put, List.getElem_toArray, List.getElem_cons_zero, List.getElem_cons_succ, List.setIfInBounds_toArray, List.set_cons_zero, List.set_cons_succ]
        refine Hold.take (i := 5) (v := ?_) rfl (by kernel_rfl) (fun _ _ _ h => h) rfl ?_ hS ?_
        rotate_left
        · intro w' hS; have z0_ := z1 _ hS; have z1_ := z2 _ hS; have z2_ := z3 _ hS; go_simp; (try go_bits); (first | rfl | rw [if_pos (by omega)])
        simp only [Act.put, List.getElem_toArray, List.getElem_cons_zero, List.getElem_cons_succ, List.setIfInBounds_toArray, List.set_cons_zero, List.set_cons_succ]
        refine Hold.take (i := 6) (v := ?_) rfl (by kernel_rfl) (fun _ _ _ h => h) rfl ?_ hS ?_
        rotate_left
        · intro w' hS; have z0_ := z1 _ hS; have z1_ := z2 _ hS; have z2_ := z3 _ hS; go_simp; (try go_bits); (first | rfl | rw [if_pos (by omega)])
        simp only [Act.put, List.getElem_toArray, List.getElem_cons_zero, List.getElem_cons_succ, List.setIfInBounds_toArray, List.set_cons_zero, List.set_cons_succ]
        refine Hold.take (i := 7) (v := ?_) rfl (by kernel_rfl) (fun _ _ _ h => h) rfl ?_ hS ?_
        rotate_left
        · intro w' hS; have z0_ := z1 _ hS; have z1_ := z2 _ hS; have z2_ := z3 _ hS; go_simp; (try go_bits); (first | rfl | rw [if_pos (by omega)])
        simp only [Act.put, List.getElem_toArray, List.getElem_cons_zero, List.getElem_cons_succ, List.setIfInBounds_toArray, List.set_cons_zero, List.set_cons_succ]
        refine Hold.take (i := 8) (v := ?_) rfl (by kernel_rfl) (fun _ _ _ h => h) rfl ?_ hS ?_
        rotate_left
        · intro w' hS; have z0_ := z1 _ hS; have z1_ := z2 _ hS; have z2_ := z3 _ hS; go_simp; (try go_bits); (first | rfl | rw [if_pos (by omega)])
        simp only [Act.put, List.getElem_toArray, List.getElem_cons_zero, List.getElem_cons_succ, List.setIfInBounds_toArray, List.set_cons_zero, List.set_cons_succ]
        refine Hold.take (i := 9) (v := ?_) rfl (by kernel_rfl) (fun _ _ _ h => h) rfl ?_ hS ?_
        rotate_left
        · intro w' hS; have z0_ := z1 _ hS; have z1_ := z2 _ hS; have z2_ := z3 _ hS; go_simp; (try go_bits); (first | rfl | rw [if_pos (by omega)])
        simp only [Act.put, List.getElem_toArray, List.getElem_cons_zero, List.getElem_cons_succ, List.setIfInBounds_toArray, List.set_cons_zero, List.set_cons_succ]
        refine Hold.take (i := 10) (v := ?_) rfl (by kernel_rfl) (fun _ _ _ h => h) rfl ?_ hS ?_
        rotate_left
        · intro w' hS; have z0_ := z1 _ hS; have z1_ := z2 _ hS; have z2_ := z3 _ hS; go_simp; (try go_bits); (first | rfl | rw [if_pos (by omega)])
        simp only [Act.put, List.getElem_toArray, List.getElem_cons_zero, List.getElem_cons_succ, List.setIfInBounds_toArray, List.set_cons_zero, List.set_cons_succ]
        refine Hold.take (i := 11) (v := ?_) rfl (by kernel_rfl) (fun _ _ _ h => h) rfl ?_ hS ?_
        rotate_left
        · intro w' hS; have z0_ := z1 _ hS; have z1_ := z2 _ hS; have z2_ := z3 _ hS; go_simp; (try go_bits); (first | rfl | rw [if_pos (by omega)])
        simp only [Act.put, List.getElem_toArray, List.getElem_cons_zero, List.getElem_cons_succ, List.setIfInBounds_toArray, List.set_cons_zero, List.set_cons_succ]
        refine Hold.take (i := 12) (v := ?_) rfl (by kernel_rfl) (fun _ _ _ h => h) rfl ?_ hS ?_
        rotate_left
        · intro w' hS; have z0_ := z1 _ hS; have z1_ := z2 _ hS; have z2_ := z3 _ hS; go_simp; (try go_bits); (first | rfl | rw [if_pos (by omega)])
        simp only [Act.put, List.getElem_toArray, List.getElem_cons_zero, List.getElem_cons_succ, List.setIfInBounds_toArray, List.set_cons_zero, List.set_cons_succ]
        refine Hold.take (i := 13) (v := ?_) rfl (by kernel_rfl) (fun _ _ _ h => h) rfl ?_ hS ?_
        rotate_left
        · intro w' hS; have z0_ := z1 _ hS; have z1_ := z2 _ hS; have z2_ := z3 _ hS; go_simp; (try go_bits); (first | rfl | rw [if_pos (by omega)])
        simp only [Act.put, List.getElem_toArray, List.getElem_cons_zero, List.getElem_cons_succ, List.setIfInBounds_toArray, List.set_cons_zero, List.set_cons_succ]
        refine Hold.take (i := 14) (v := ?_) rfl (by kernel_rfl) (fun _ _ _ h => h) rfl ?_ hS ?_
        rotate_left
        · intro w' hS; have z0_ := z1 _ hS; have z1_ := z2 _ hS; have z2_ := z3 _ hS; go_simp; (try go_bits); (first | rfl | rw [if_pos (by omega)])
        simp only [Act.put, List.getElem_toArray, List.getElem_cons_zero, List.getElem_cons_succ, List.setIfInBounds_toArray, List.set_cons_zero, List.set_cons_succ]
        refine Hold.take (i := 15) (v := ?_) rfl (by kernel_rfl) (fun _ _ _ h => h) rfl ?_ hS ?_
        rotate_left
        · intro w' hS; have z0_ := z1 _ hS; have z1_ := z2 _ hS; have z2_ := z3 _ hS; go_simp; (try go_bits); (first | rfl | rw [if_pos (by omega)])
        simp only [Act.put, List.getElem_toArray, List.getElem_cons_zero, List.getElem_cons_succ, List.setIfInBounds_toArray, List.set_cons_zero, List.set_cons_succ]
        refine Hold.take (i := 16) (v := ?_) rfl (by kernel_rfl) (fun _ _ _ h => h) rfl ?_ hS ?_
        rotate_left
        · intro w' hS; have z0_ := z1 _ hS; have z1_ := z2 _ hS; have z2_ := z3 _ hS; go_simp; (try go_bits); (first | rfl | rw [if_pos (by omega)])
        simp only [Act.put, List.getElem_toArray, List.getElem_cons_zero, List.getElem_cons_succ, List.setIfInBounds_toArray, List.set_cons_zero, List.set_cons_succ]
        refine Hold.take (i := 17) (v := ?_) rfl (by kernel_rfl) (fun _ _ _ h => h) rfl ?_ hS ?_
        rotate_left
        · intro w' hS; have z0_ := z1 _ hS; have z1_ := z2 _ hS; have z2_ := z3 _ hS; go_simp; (try go_bits); (first | rfl | rw [if_pos (by omega)])
        simp only [Act.put, List.getElem_toArray, List.getElem_cons_zero, List.getElem_cons_succ, List.setIfInBounds_toArray, List.set_cons_zero, List.set_cons_succ]
        refine Hold.take (i := 18) (v := ?_) rfl (by kernel_rfl) (fun _ _ _ h => h) rfl ?_ hS ?_
        rotate_left
        · intro w' hS; have z0_ := z1 _ hS; have z1_ := z2 _ hS; have z2_ := z3 _ hS; go_simp; (try go_bits); (first | rfl | rw [if_pos (by omega)])
        simp only [Act.put, List.getElem_toArray, List.getElem_cons_zero, List.getElem_cons_succ, List.setIfInBounds_toArray, List.set_cons_zero, List.set_cons_succ]
        refine Hold.take (i := 19) (v := ?_) rfl (by kernel_rfl) (fun _ _ _ h => h) rfl ?_ hS ?_
        rotate_left
        · intro w' hS; have z0_ := z1 _ hS; have z1_ := z2 _ hS; have z2_ := z3 _ hS; go_simp; (try go_bits); (first | rfl | rw [if_pos (by omega)])
        simp only [Act.put, List.getElem_toArray, List.getElem_cons_zero, List.getElem_cons_succ, List.setIfInBounds_toArray, List.set_cons_zero, List.set_cons_succ]
        refine Hold.take (i := 20) (v := ?_) rfl (by kernel_rfl) (fun _ _ _ h => h) rfl ?_ hS ?_
        rotate_left
        · intro w' hS; have z0_ := z1 _ hS; have z1_ := z2 _ hS; have z2_ := z3 _ hS; go_simp; (try go_bits); (first | rfl | rw [if_pos (by omega)])
        simp only [Act.put, List.getElem_toArray, List.getElem_cons_zero, List.getElem_cons_succ, List.setIfInBounds_toArray, List.set_cons_zero, List.set_cons_succ]
        refine Hold.take (i := 21) (v := ?_) rfl (by kernel_rfl) (fun _ _ _ h => h) rfl ?_ hS ?_
        rotate_left
        · intro w' hS; have z0_ := z1 _ hS; have z1_ := z2 _ hS; have z2_ := z3 _ hS; go_simp; (try go_bits); (first | rfl | rw [if_pos (by omega)])
        simp only [Act.put, List.getElem_toArray, List.getElem_cons_zero, List.getElem_cons_succ, List.setIfInBounds_toArray, List.set_cons_zero, List.set_cons_succ]
        refine Hold.take (i := 22) (v := ?_) rfl (by kernel_rfl) (fun _ _ _ h => h) rfl ?_ hS ?_
        rotate_left
        · intro w' hS; have z0_ := z1 _ hS; have z1_ := z2 _ hS; have z2_ := z3 _ hS; go_simp; (try go_bits); (first | rfl | rw [if_pos (by omega)])
        simp only [Act.put, List.getElem_toArray, List.getElem_cons_zero, List.getElem_cons_succ, List.setIfInBounds_toArray, List.set_cons_zero, List.set_cons_succ]
        refine Hold.take (i := 23) (v := ?_) rfl (by kernel_rfl) (fun _ _ _ h => h) rfl ?_ hS ?_
        rotate_left
        · intro w' hS; have z0_ := z1 _ hS; have z1_ := z2 _ hS; have z2_ := z3 _ hS; go_simp; (try go_bits); (first | rfl | rw [if_pos (by omega)])
        simp only [Act.put, List.getElem_toArray, List.getElem_cons_zero, List.getElem_cons_succ, List.setIfInBounds_toArray, List.set_cons_zero, List.set_cons_succ]
        refine Hold.take (i := 24) (v := ?_) rfl (by kernel_rfl) (fun _ _ _ h => h) rfl ?_ hS ?_
        rotate_left
        · intro w' hS; have z0_ := z1 _ hS; have z1_ := z2 _ hS; have z2_ := z3 _ hS; go_simp; (try go_bits); (first | rfl | rw [if_pos (by omega)])
        simp only [Act.put, List.getElem_toArray, List.getElem_cons_zero, List.getElem_cons_succ, List.setIfInBounds_toArray, List.set_cons_zero, List.set_cons_succ]
        refine Hold.take (i := 25) (v := ?_) rfl (by kernel_rfl) (fun _ _ _ h => h) rfl ?_ hS ?_
        rotate_left
        · intro w' hS; have z0_ := z1 _ hS; have z1_ := z2 _ hS; have z2_ := z3 _ hS; go_simp; (try go_bits); (first | rfl | rw [if_pos (by omega)])
        simp only [Act.put, List.getElem_toArray, List.getElem_cons_zero, List.getElem_cons_succ, List.setIfInBounds_toArray, List.set_cons_zero, List.set_cons_succ]
        refine Hold.take (i := 26) (v := ?_) rfl (by kernel_rfl) (fun _ _ _ h => h) rfl ?_ hS ?_
        rotate_left
        · intro w' hS; have z0_ := z1 _ hS; have z1_ := z2 _ hS; have z2_ := z3 _ hS; go_simp; (try go_bits); (first | rfl | rw [if_pos (by omega)])
        simp only [Act.put, List.getElem_toArray, List.getElem_cons_zero, List.getElem_cons_succ, List.setIfInBounds_toArray, List.set_cons_zero, List.set_cons_succ]
        refine Hold.one (i := 27) (by kernel_rfl) ?_
        refine Hold.call rfl rfl (by go_simp; exact ⟨rfl, rfl⟩) ?_
        refine (PL.out _ (Below.refl _ _).drew).mono ?_
        rintro r w3 ⟨rfl, k3⟩
        have hS3 := (Below.refl wr.heap.size wr).drew.trans k3
        refine ⟨_, rfl, below_call (w := w1) t.out hS3, ?_⟩
        simp only [Act.put, List.getElem_toArray, List.getElem_cons_zero, List.getElem_cons_succ, List.setIfInBounds_toArray, List.set_cons_zero, List.set_cons_succ]
        refine Hold.one (i := 28) (by kernel_rfl) ?_
        refine Hold.run rfl rfl (by go_simp; exact ⟨rfl, rfl⟩) ?_
        have hS4 := hS3.alloc k3.size (.cells #[.int .u8 f.s, .int .i64 f.x, .int .i64 f.y, .int .i64 f.w, .int .i64 f.h] 34)
        refine ⟨below_call (w := w1) t.out hS4, ?_⟩
        simp only [Act.put, List.getElem_toArray, List.getElem_cons_zero, List.getElem_cons_succ, List.setIfInBounds_toArray, List.set_cons_zero, List.set_cons_succ]
        refine Hold.one (i := 29) (by kernel_rfl) ?_
        have N6 := hide (Blk.new w3 34 #[.int .u8 f.s, .int .i64 f.x, .int .i64 f.y, .int .i64 f.w, .int .i64 f.h])
        have O6 := hide (own_below HO.out hS4)
        have t6 := hide (below_call (w := w1) t.out hS4)
        refine Hold.list1 rfl rfl ?_
        refine wpList_append_own _ rfl _ _ 22 rfl w1.heap.size 34 i0 (.agg #[.int .u8 0, .int .i64 0, .int .i64 0, .int .i64 0, .int .i64 0]) 5 40 Try.underlying22 hi hz0 hz1 hz2 rfl (by decide) _ _ _ rfl O6.out ⟨w3.heap.size, 0, none⟩ 1 1 [.int .u8 f.s, .int .i64 f.x, .int .i64 f.y, .int .i64 f.w, .int .i64 f.h] rfl rfl ?c1 ?c2 ?c3 ?c4 ?c5 ?_
        case c1 => exact N6.out.news
        case c2 => intro z hz; simp at hz; rcases hz with rfl | rfl | rfl | rfl | rfl <;> rfl
        case c3 => unfold maxLen; omega
        case c4 => omega
        case c5 => have := t6.out.size; simp at this ⊢; omega
        intro v' w8 hown' hgrow _
        have t8 : Hid (Below w1.heap.size w1 w8) := hide (below_grown (a := w1) t6.out hgrow (own_ge O6.out))
        have O8 : Hid (w8.ownsRow w1.heap.size 34 5 v' (k + 1) ((L ++ [f]).map fcell).flatten) := hide (by
          simpa [fcell] using hown')
        show _ ∧ _
        refine ⟨t8.out, ?_⟩
        simp only [Act.put, List.getElem_toArray, List.getElem_cons_zero, List.getElem_cons_succ, List.setIfInBounds_toArray, List.set_cons_zero, List.set_cons_succ]
        refine Hold.one (i := 30) (by kernel_rfl) ?_
        refine Hold.run rfl rfl (by go_simp; first | rfl | exact ⟨rfl, rfl⟩) ?_
        refine ⟨t8.out, ?_⟩
        simp only [Act.put, List.getElem_toArray, List.getElem_cons_zero, List.getElem_cons_succ, List.setIfInBounds_toArray, List.set_cons_zero, List.set_cons_succ]
        refine Hold.done (by kernel_rfl) ?_
        clear z1 z2 z3 k3 hS3 hS4 hS hown' hgrow
        go_wp2
        go_roundw
        case rel => exact ⟨k + 1, L ++ [f], by omega, by go_num, hide (by rw [List.length_append, hLk.out]; rfl), hide (fun g hg => by
          rcases List.mem_append.1 hg with hg | hg
          · exact (hLies.out g hg).more
          · obtain rfl : g = f := by simpa using hg
            exact HN.out), O8.out, t8.out⟩
        case measure => simp [intOf]; omega
    · obtain rfl : k = l.length := by omega
      obtain ⟨k, hkk⟩ : ∃ k, k = l.length := ⟨_, rfl⟩
      rw [← hkk] at hLk hLies HO ⊢
      have hk60 : k ≤ 60 := by omega
      have HKK := hide hkk
      clear hlt hk hkk
      have HFit : Hid (∀ f ∈ L, Fit f) := hide (fun f hf => (hLies.out f hf).fit (by omega))
      obtain ⟨V, hV⟩ : ∃ V, V = ZW % (R + 50) := ⟨_, rfl⟩
      obtain ⟨Y0, hY0⟩ : ∃ Y0, Y0 = ZY % 300 := ⟨_, rfl⟩
      have hVb : V ≤ 65535 := by rw [hV]; exact Nat.le_trans (Nat.mod_le _ _) (by omega)
      have hYb : Y0 ≤ 65535 := by omega
      have wY : IntKind.i64.wrap (ZY : Int) = (ZY : Int) := by rw [IntKind.wrap_i64]; omega
      have fV : (ZW : Int) % ((R : Int) + 50) = (V : Int) := by rw [hV]; rfl
      have fY : (ZY : Int) % 300 = (Y0 : Int) := by rw [hY0]; rfl
      have eY : (ZY : Int).tmod 300 = (Y0 : Int) := by rw [hY0]; rfl
      clear hV hY0
      have HN := hide (Lies.place (n := k) (s := 2) (w := (V : Int)) (h := 7) (b := (R : Int)) (y := (Y0 : Int)) hLies.out (.inr rfl) (by omega) (by omega) (by omega) (by omega))
      have HH := hide (fun y => high_at (L := L) (V := V) (R := R) (Y0 := Y0) (y := y) (by omega))
      have HG := hide (place_y (l := L) (s := 2) (w := V) (h := 7) (b := R) (y := Y0) trivial)
      have HTL := hide (top_le (l := L) (M := (place L 2 V 7 0 R Y0).y) HG.out.1 HG.out.2)
      have PL := hide (fun (W0 : World) (hb0 : Below wr.heap.size wr W0) => place_any aL L k cL 2 V 7 0 (R : Int) Y0 W0 (FRow.below GL.out hb0) hLk.out HFit.out (by omega) ⟨by omega, by omega⟩ ⟨by omega, by omega⟩ ⟨by omega, by omega⟩)
      obtain ⟨f, hf⟩ : ∃ f, f = place L 2 V 7 0 (R : Int) Y0 := ⟨_, rfl⟩
      rw [← hf] at HN PL HH HTL HG
      have hT0 := (top_ge L (Y0 : Int)).1
      obtain ⟨y0, hy0⟩ : ∃ y0, y0 = top L (Y0 : Int) := ⟨_, rfl⟩
      rw [← hy0] at HH HTL hT0
      have HY0 := hide hy0
      have hfy := HTL.out
      have hfb := HN.out.yh
      have hfb2 := HN.out.h0
      clear hf hy0 HG
      have BX := hide (B1.out.below t.out B1.out.lt)
      obtain ⟨wb, hwbe⟩ : ∃ wb, wb = wr := ⟨_, rfl⟩
      subst hwbe
      have z1 : wb.cell? ⟨w.heap.size, 1, none⟩ = some (.int .u16 ZW) := BX.out.cell 1
      have z3 : wb.cell? ⟨w.heap.size, 3, none⟩ = some (.int .u16 ZY) := BX.out.cell 3
      go_wp2_with fail
      refine (PL.out _ (Below.refl _ _)).mono ?_
      rintro r w3 ⟨rfl, k3⟩
      have X4 := hide (Blk.new w3 34 #[.int .u8 f.s, .int .i64 f.x, .int .i64 f.y, .int .i64 f.w, .int .i64 f.h])
      have hb4 := hide (k3.alloc k3.size (.cells #[.int .u8 f.s, .int .i64 f.x, .int .i64 f.y, .int .i64 f.w, .int .i64 f.h] 34))
      have z4 : (w3.alloc (.cells #[.int .u8 f.s, .int .i64 f.x, .int .i64 f.y, .int .i64 f.w, .int .i64 f.h] 34)).cell? ⟨w.heap.size, 3, none⟩ = some (.int .u16 ZY) := (BX.out.below hb4.out BX.out.lt).cell 3
      have z5 : w3.cell? ⟨w.heap.size, 3, none⟩ = some (.int .u16 ZY) := (BX.out.below k3 BX.out.lt).cell 3
      have z6 : w.heap.size < w3.heap.size := Nat.lt_of_lt_of_le BX.out.lt k3.size
      clear z1 z3 k3
      go_wp2_with fail
      clear z4 z5 z6
      obtain ⟨wc, hwc⟩ : ∃ wc, wc = w3.alloc (.cells #[.int .u8 f.s, .int .i64 f.x, .int .i64 f.y, .int .i64 f.w, .int .i64 f.h] 34) := ⟨_, rfl⟩
      rw [← hwc] at X4 hb4 ⊢
      clear hwc
      generalize w3.heap.size = gx at X4 ⊢
      have G4 := hide (FRow.below GL.out hb4.out)
      go_loop [13, 14] (fun s13 s14 => ∃ j : Nat, j ≤ k ∧ s14 = .int .i64 j ∧ s13 = .int .i64 (top (L.take j) Y0)) (fun _ s14 => k - (intOf s14).toNat)
      case atStart => exact ⟨0, by omega, rfl, rfl⟩
      case round =>
        obtain ⟨j, hj, rfl, rfl⟩ := hrel
        by_cases hjk : j < k
        · have hjL : j < L.length := by have := hLk.out; omega
          obtain ⟨bL, oL, hL1, hL2, hL3⟩ := f_at G4.out (by omega)
          obtain ⟨_, _, v2, _, _⟩ := hL3 j hjL
          have HT := hide (top_take L Y0 hjL)
          clear hL3
          generalize L[j] = gg at v2 HT
          subst hL1
          generalize top (L.take j) (Y0 : Int) = tj at HT ⊢
          go_wp2
          go_round
          case rel => exact ⟨j + 1, by omega, by go_num, by rw [HT.out]⟩
          case measure => simp [intOf]; omega
        · obtain rfl : j = k := by omega
          have HTK : Hid (top (L.take j) (Y0 : Int) = y0) := hide (by rw [List.take_of_length_le (by have := hLk.out; omega), HY0.out])
          rw [HTK.out]
          have p2 : wc.cell? ⟨gx, 2, none⟩ = some (.int .i64 f.y) := X4.out.cell 2
          have b1 : decide (f.y < y0) = false := by simp; omega
          go_wp2
          clear p2 b1
          go_loopw [15] (fun s15 w5 => ∃ y : Int, y0 ≤ y ∧ y ≤ f.y ∧ s15 = .int .i64 y ∧ Blk w5 gx 34 #[.int .u8 f.s, .int .i64 f.x, .int .i64 f.y, .int .i64 f.w, .int .i64 f.h] ∧ Below wb.heap.size wb w5) (fun s15 _ => (f.y - intOf s15).toNat)
          case atStart => exact ⟨y0, by omega, hfy, rfl, X4.out, hb4.out⟩
          case round =>
            clear X4 hb4 G4
            obtain ⟨y, hy1, hy2, rfl, X5, hb5⟩ := hrel
            have X5 := hide X5
            have hb5 := hide hb5
            have t5 := hide (below_call (w := w) t1.out (below_call (w := w1) t.out hb5.out))
            have G5 := hide (FRow.below GL.out hb5.out)
            have p2 : wr.cell? ⟨gx, 2, none⟩ = some (.int .i64 f.y) := X5.out.cell 2
            by_cases hyf : y < f.y
            · by_cases hy3 : y < y0 + 2000
              · obtain ⟨hs1, hs2⟩ := HH.out y hy1 hyf
                have HS1 := hide hs1
                obtain ⟨hT1, hT2⟩ := tall_far (y := y) (h := max 1 1) HFit.out (a := 0) (b := R) ⟨by omega, by omega⟩ ⟨by omega, by omega⟩
                obtain ⟨r2, hr2⟩ : ∃ r2, r2 = tall L y 1 0 R := ⟨_, rfl⟩
                rw [← hr2] at hs2
                have hT1 : Far r2.1 := by rw [hr2]; exact hT1
                have hT2 : Far r2.2 := by rw [hr2]; exact hT2
                unfold Far at hT1 hT2
                have b2 : decide ((V : Int) ≤ r2.2 - r2.1) = false := by simpa using hs2
                have HBC : Hid (Calls Try.prog 10 #[.slice aL j cL, .int .i64 y, .int .i64 0, .int .i64 (R : Int)] wr fun r w' => r = .returned (.tuple #[.int .i64 r2.1, .int .i64 r2.2]) ∧ Below wr.heap.size wr w') := hide (by
                  rw [hr2]; exact band_any aL L j cL y 0 R wr G5.out hLk.out HFit.out ⟨by omega, by omega⟩ ⟨by omega, by omega⟩ ⟨by omega, by omega⟩)
                clear hs1 hs2 hr2
                go_wp2_with fail
                refine HBC.out.mono ?_
                rintro r w6 ⟨rfl, k6⟩
                have X6 := hide (X5.out.below k6 X5.out.lt)
                have hb6 := hide (hb5.out.trans (k6.mono hb5.out.size))
                clear k6 X5 hb5 G5 p2 HBC
                go_wp2_with fail
                obtain ⟨S, S0, SN, SA⟩ : ∃ S : Nat → Bool, Hid (S 0 = false) ∧ Hid (∀ j (h : j < L.length), S (j + 1) = (S j || (decide (L[j].y ≤ y) && decide (y < L[j].y + L[j].h)))) ∧ Hid (S j = true) :=
                  ⟨sb L y, hide (sb_zero L y), hide (fun j h => sb_next h), hide (by rw [sb_all hLk.out]; exact HS1.out)⟩
                go_loopw [18, 19] (fun e i w7 => ∃ q : Nat, q ≤ j ∧ i = .int .i64 q ∧ e = .bool (S q) ∧ Blk w7 gx 34 #[.int .u8 f.s, .int .i64 f.x, .int .i64 f.y, .int .i64 f.w, .int .i64 f.h] ∧ Below wb.heap.size wb w7) (fun _ i _ => j - (intOf i).toNat)
                case atStart => exact ⟨0, by omega, rfl, by rw [S0.out], X6.out, hb6.out⟩
                case round =>
                  clear X6 hb6
                  obtain ⟨q, hq, rfl, rfl, X6, hb6⟩ := hrel
                  have X6 := hide X6
                  have hb6 := hide hb6
                  by_cases hqj : q < j
                  · have hqL : q < L.length := by have := hLk.out; omega
                    obtain ⟨bL, oL, hL1, hL2, hL3⟩ := f_at (FRow.below GL.out hb6.out) (by omega)
                    obtain ⟨_, _, v2, _, v4⟩ := hL3 q hqL
                    have HE := hide (SN.out q hqL)
                    have HFT := hide (HFit.out _ (List.getElem_mem hqL))
                    clear hL3
                    generalize L[q] = gg at v2 v4 HE HFT
                    subst hL1
                    have p2 := keepd2 v2
                    have p4 := keepd2 v4
                    obtain ⟨h1a, h1b⟩ := HFT.out.yb
                    obtain ⟨h2a, h2b⟩ := HFT.out.hb
                    clear v2 v4
                    go_wp2_with fail
                    cases hE : S q with
                    | true =>
                      rw [hE] at HE
                      refine Reg.region (by kernel_rfl) 26 [] (fun _ w' => w' = wr.drew) (by kernel_rfl) (by kernel_rfl) rfl ?_
                      iterate 26
                        first
                          | refine Reg.WT.idle rfl rfl ?_
                          | (refine Reg.WT.yield (v := ?_) rfl rfl ?_ ?_
                             rotate_left
                             · intro w' _ hS; go_simp; (try go_bits); (first | rfl | rw [if_pos (by omega)]))
                        simp only [Act.put, List.setIfInBounds_toArray, List.set_cons_zero, List.set_cons_succ]
                      intro w9 hS
                      subst hS
                      have X9 := hide X6.out.drew
                      have hb9 := hide hb6.out.drew
                      clear p2 p4 X6 hb6
                      go_wp2
                      go_roundw
                      case rel => exact ⟨q + 1, by omega, by go_num, by rw [HE.out]; rfl, X9.out, hb9.out⟩
                      case measure => simp [intOf]; omega
                    | false =>
                      rw [hE] at HE
                      by_cases hc1 : gg.y ≤ y
                      · have b1 : decide (gg.y ≤ y) = true := by simpa using hc1
                        by_cases hc2 : y < gg.y + gg.h
                        · have b3 : decide (y < gg.y + gg.h) = true := by simpa using hc2
                          rw [b1, b3] at HE
                          refine Reg.region (by kernel_rfl) 26 [] (fun _ w' => w' = wr.drew) (by kernel_rfl) (by kernel_rfl) rfl ?_
                          iterate 26
                            first
                              | refine Reg.WT.idle rfl rfl ?_
                              | (refine Reg.WT.yield (v := ?_) rfl rfl ?_ ?_
                                 rotate_left
                                 · intro w' _ hS; go_simp; (try go_bits); (first | rfl | rw [if_pos (by omega)]))
                            simp only [Act.put, List.setIfInBounds_toArray, List.set_cons_zero, List.set_cons_succ]
                          intro w9 hS
                          subst hS
                          have X9 := hide X6.out.drew
                          have hb9 := hide hb6.out.drew
                          clear p2 p4 X6 hb6
                          go_wp2
                          go_roundw
                          case rel => exact ⟨q + 1, by omega, by go_num, by rw [HE.out]; rfl, X9.out, hb9.out⟩
                          case measure => simp [intOf]; omega
                        · have b3 : decide (y < gg.y + gg.h) = false := by simpa using hc2
                          rw [b1, b3] at HE
                          refine Reg.region (by kernel_rfl) 26 [] (fun _ w' => w' = wr.drew) (by kernel_rfl) (by kernel_rfl) rfl ?_
                          iterate 26
                            first
                              | refine Reg.WT.idle rfl rfl ?_
                              | (refine Reg.WT.yield (v := ?_) rfl rfl ?_ ?_
                                 rotate_left
                                 · intro w' _ hS; go_simp; (try go_bits); (first | rfl | rw [if_pos (by omega)]))
                            simp only [Act.put, List.setIfInBounds_toArray, List.set_cons_zero, List.set_cons_succ]
                          intro w9 hS
                          subst hS
                          have X9 := hide X6.out.drew
                          have hb9 := hide hb6.out.drew
                          clear p2 p4 X6 hb6
                          go_wp2
                          go_roundw
                          case rel => exact ⟨q + 1, by omega, by go_num, by rw [HE.out]; rfl, X9.out, hb9.out⟩
                          case measure => simp [intOf]; omega
                      · have b1 : decide (gg.y ≤ y) = false := by simpa using hc1
                        rw [b1] at HE
                        refine Reg.region (by kernel_rfl) 26 [] (fun _ w' => w' = wr.drew) (by kernel_rfl) (by kernel_rfl) rfl ?_
                        iterate 26
                          first
                            | refine Reg.WT.idle rfl rfl ?_
                            | (refine Reg.WT.yield (v := ?_) rfl rfl ?_ ?_
                               rotate_left
                               · intro w' _ hS; go_simp; (try go_bits); (first | rfl | rw [if_pos (by omega)]))
                          simp only [Act.put, List.setIfInBounds_toArray, List.set_cons_zero, List.set_cons_succ]
                        intro w9 hS
                        subst hS
                        have X9 := hide X6.out.drew
                        have hb9 := hide hb6.out.drew
                        clear p2 p4 X6 hb6
                        go_wp2
                        go_roundw
                        case rel => exact ⟨q + 1, by omega, by go_num, by rw [HE.out]; rfl, X9.out, hb9.out⟩
                        case measure => simp [intOf]; omega
                  · obtain rfl : q = j := by omega
                    rw [SA.out]
                    go_wp2
                    go_roundw
                    case rel => exact ⟨y + 1, by omega, by omega, rfl, X6, hb6⟩
                    case measure => simp [intOf]; omega
              · have b1 : decide (y < y0 + 2000) = false := by simp; omega
                go_wp2_with fail
                refine (works_any _).mono ?_
                rintro r w9 ⟨rfl, k9⟩
                have t9 := hide (below_call (w := w) t5.out k9)
                clear k9
                go_wp2
                go_returns
                exact ⟨rfl, t9.out⟩
            · have b1 : decide (y < f.y) = false := by simp; omega
              go_wp2_with fail
              refine (works_any _).mono ?_
              rintro r w9 ⟨rfl, k9⟩
              have t9 := hide (below_call (w := w) t5.out k9)
              clear k9
              go_wp2
              go_returns
              exact ⟨rfl, t9.out⟩
end Go.Proofs.Ytdckhheinpfbjaa
