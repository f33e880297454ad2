/- The walk of FloatsApart. -/
import Derived.Test.YtdckhheinpfbjaaFlLaw
import Derived.Test.YtdckhheinpfbjaaOpens
import Derived.Test.YtdckhheinpfbjaaHold
import Derived.Deep.CutRange
namespace Go.Proofs.Ytdckhheinpfbjaa
open Go.RowKit

theorem s_at {w : World} {a : Option Addr} {l : List Siz} (h : RowS w a 4 (l.map scell)) (hp : 0 < l.length) : ∃ b off, a = some ⟨b, off, none⟩ ∧ b < w.heap.size ∧
    ∀ i (hi : i < l.length), w.cell? ⟨b, off + i * 4, none⟩ = some (.bool l[i].right) ∧ w.cell? ⟨b, off + i * 4 + 1, none⟩ = some (.int .u16 l[i].w) ∧ w.cell? ⟨b, off + i * 4 + 2, none⟩ = some (.int .u16 l[i].h) ∧ w.cell? ⟨b, off + i * 4 + 3, none⟩ = some (.int .u16 l[i].y) := by
  obtain ⟨b, off, ha, hb, hc⟩ := RowS.at_ h (by simpa using hp)
  refine ⟨b, off, ha, hb, fun i hi => ⟨?_, ?_, ?_, ?_⟩⟩
  · have := hc i (by simpa using hi) 0 (by simp [scell]); simpa [scell] using this
  · have := hc i (by simpa using hi) 1 (by simp [scell]); simpa [scell] using this
  · have := hc i (by simpa using hi) 2 (by simp [scell]); simpa [scell] using this
  · have := hc i (by simpa using hi) 3 (by simp [scell]); simpa [scell] using this
theorem keepd' {W : World} {p : Addr} {v : Value} (h : W.cell? p = some v) : ∀ w', w' = W.drew → w'.cell? p = some v := fun _ e => e ▸ h
theorem cell_off {w : World} {p : Addr} {v : Value} {o : Obj} (h : w.cell? p = some v) (hp : p.block < w.heap.size) : (w.alloc o).cell? p = some v := by rw [World.cell?_alloc_lt w o p hp]; exact h
theorem cell_off5 {w : World} {p : Addr} {v : Value} {o : Obj} {a b c d e : Value} {g i0 i1 i2 i3 i4 : Nat} (h : w.cell? p = some v) (hp : p.block < w.heap.size ∧ w.heap.size ≤ g) :
    ((((((w.alloc o).setCell ⟨g, i0, none⟩ a).setCell ⟨g, i1, none⟩ b).setCell ⟨g, i2, none⟩ c).setCell ⟨g, i3, none⟩ d).setCell ⟨g, i4, none⟩ e).cell? p = some v := by
  have hne : ∀ i, (⟨g, i, none⟩ : Addr) ≠ p := fun i hh => by subst hh; simp at hp; omega
  rw [World.cell?_setCell_other _ _ _ _ (by first | exact hne _ | exact (hne _).symm), World.cell?_setCell_other _ _ _ _ (by first | exact hne _ | exact (hne _).symm), World.cell?_setCell_other _ _ _ _ (by first | exact hne _ | exact (hne _).symm),
    World.cell?_setCell_other _ _ _ _ (by first | exact hne _ | exact (hne _).symm), World.cell?_setCell_other _ _ _ _ (by first | exact hne _ | exact (hne _).symm), World.cell?_alloc_lt w o p hp.1]
  exact h
theorem s_row {w : World} {a : Option Addr} {l : List Siz} (h : RowS w a 4 (l.map scell)) : l.length ≤ 9223372036854775807 := by have := RowS.mono_len h; rwa [List.length_map] at this
def sideOf (b : Bool) : Int := if b then 2 else 1
def E1 (L : List Flt) (f : Flt) (j : Nat) : Bool := (f.x == 0) || (L.take j).any fun g => g.x + g.w == f.x
def E2 (L : List Flt) (f : Flt) (r : Int) (j : Nat) : Bool := (f.x + f.w == r) || (L.take j).any fun g => g.x == f.x + f.w
theorem any_take {α : Type} (p : α → Bool) (l : List α) {j : Nat} (h : j < l.length) : (l.take (j + 1)).any p = ((l.take j).any p || p l[j]) := by
  rw [List.take_succ_eq_append_getElem h, List.any_append]; simp
theorem E1_next {L : List Flt} {f : Flt} {j : Nat} (h : j < L.length) : E1 L f (j + 1) = (E1 L f j || (L[j].x + L[j].w == f.x)) := by
  unfold E1; rw [any_take _ _ h, Bool.or_assoc]
theorem E2_next {L : List Flt} {f : Flt} {r : Int} {j : Nat} (h : j < L.length) : E2 L f r (j + 1) = (E2 L f r j || (L[j].x == f.x + f.w)) := by
  unfold E2; rw [any_take _ _ h, Bool.or_assoc]
theorem E1_all {L : List Flt} {f : Flt} {n : Nat} (hn : L.length = n) (h : f.x = 0 ∨ ∃ g ∈ L, g.x + g.w = f.x) : E1 L f n = true := by
  unfold E1
  rw [List.take_of_length_le (by omega), Bool.or_eq_true, List.any_eq_true]
  rcases h with h | ⟨g, hg, h⟩
  · left; simpa using h
  · exact .inr ⟨g, hg, by simpa using h⟩
theorem E2_all {L : List Flt} {f : Flt} {r : Int} {n : Nat} (hn : L.length = n) (h : f.x + f.w = r ∨ ∃ g ∈ L, g.x = f.x + f.w) : E2 L f r n = true := by
  unfold E2
  rw [List.take_of_length_le (by omega), Bool.or_eq_true, List.any_eq_true]
  rcases h with h | ⟨g, hg, h⟩
  · left; simpa using h
  · exact .inr ⟨g, hg, by simpa using h⟩
/-- What the law asks of one that is placed. -/
structure Good (L : List Flt) (f : Flt) (s W H Y r : Int) : Prop where
  fs : f.s = s
  fw : f.w = W
  fh : f.h = H
  fy : Y ≤ f.y
  fl : ∀ g ∈ L, g.y ≤ f.y
  inn : W ≤ r → 0 ≤ f.x ∧ f.x + W ≤ r
  ap : ∀ g ∈ L, meetB f g = false
  e1 : s ≠ 2 → f.x = 0 ∨ ∃ g ∈ L, g.x + g.w = f.x
  e2 : s = 2 → f.x + f.w = r ∨ ∃ g ∈ L, g.x = f.x + f.w
theorem good_place {L : List Flt} {s W H Y r : Int} (hs : s = 1 ∨ s = 2) (hw : 0 ≤ W) (hh : 0 ≤ H) : Good L (place L s W H 0 r Y) s W H Y r := by
  have pw : (place L s W H 0 r Y).w = W := by unfold place; show max W 0 = W; omega
  refine ⟨?_, pw, ?_, (place_y trivial).1, (place_y trivial).2, fun h => by have := place_in (l := L) (s := s) (h := H) (y := Y) hw h; rw [pw] at this; exact this, fun g hg => ?_, (place_edge hw).1, (place_edge hw).2⟩
  · unfold place; show (if s = 2 then (2 : Int) else 1) = s; rcases hs with rfl | rfl <;> rfl
  · unfold place; show max H 0 = H; omega
  · have := place_apart (h := H) (b := r) (y := Y) hw hs hg
    unfold meetB
    simp only [decide_eq_false_iff_not]
    exact this

set_option maxHeartbeats 8000000 in
set_option maxRecDepth 100000 in
theorem apart_most (w : World) (a0 : Option Addr) (l : List Siz) (cap : Nat) (hr : RowS w a0 4 (l.map scell)) (hl : ∀ f ∈ l, SizOk f) (hn : l.length ≤ 100) (r0 : Nat) (hr0 : r0 ≤ 65535) :
    Calls Try.prog 4 #[.slice a0 l.length cap, .int .u16 r0] w fun e w' => e = .returned (.bool true) ∧ Below w.heap.size w w' := by
  obtain ⟨i0, hi, hz0, hz1, hz2⟩ := info_parts info34
  have HL := hide hl
  clear hl
  go_enter Try.func4, Try.ntmps4
  go_wp2
  go_loopw [5, 7] (fun v i wr => ∃ (k : Nat) (L : List Flt), k ≤ l.length ∧ i = .int .i64 k ∧ Hid (L.length = k) ∧ Hid (∀ f ∈ L, Lies k f) ∧ wr.ownsRow w.heap.size 34 5 v k (L.map fcell).flatten ∧ Below w.heap.size w wr) (fun _ i _ => l.length - (intOf i).toNat)
  case atStart => exact ⟨0, [], Nat.zero_le _, rfl, rfl, fun f hf => absurd hf (by simp), World.ownsRow_nil _ _ _ _, Below.refl _ _⟩
  case round =>
    obtain ⟨k, L, hk, rfl, hLk, hLies, hown, hbel⟩ := hrel
    obtain ⟨aL, cL, rfl, _, _, _, hG⟩ := own_rowG (fcell_len L) (by decide) hown
    have HO := hide hown
    have t := hide hbel
    have GL : Hid (FRow wr aL L) := hide hG.1
    clear hown hG
    by_cases hlt : k < l.length
    · obtain ⟨b, off, rfl, hbw, hcell⟩ := s_at (RowS.below hr hbel) (by omega)
      obtain ⟨x0, x1, x2, x3⟩ := hcell k hlt
      obtain ⟨⟨w0, w1⟩, ⟨h0, h1⟩, ⟨y0, y1⟩⟩ := HL.out _ (List.getElem_mem hlt)
      clear hcell hbel
      generalize l[k] = z at x0 x1 x2 x3 w0 w1 h0 h1 y0 y1
      obtain ⟨zr, zw, zh, zy⟩ := z
      simp only at x0 x1 x2 x3 w0 w1 h0 h1 y0 y1
      obtain ⟨W, rfl⟩ := Int.eq_ofNat_of_zero_le w0
      obtain ⟨H, rfl⟩ := Int.eq_ofNat_of_zero_le h0
      obtain ⟨Y, rfl⟩ := Int.eq_ofNat_of_zero_le y0
      have HFit : Hid (∀ f ∈ L, Fit f) := hide (fun f hf => (hLies.out f hf).fit (by omega))
      obtain ⟨sd, hsd, hzs⟩ : ∃ sd : Int, (sd = 1 ∨ sd = 2) ∧ (zr = true ∧ sd = 2 ∨ zr = false ∧ sd = 1) := by
        cases zr
        · exact ⟨1, .inl rfl, .inr ⟨rfl, rfl⟩⟩
        · exact ⟨2, .inr rfl, .inl ⟨rfl, rfl⟩⟩
      have hsd1 : 1 ≤ sd ∧ sd ≤ 2 := by omega
      go_upto_if 29 with fail
      go_cut [8] from 19 to 199 (fun s8 wx => s8 = .int .u8 sd ∧ wx = wr)
      case first =>
        rcases hzs with ⟨rfl, rfl⟩ | ⟨rfl, rfl⟩
        · go_wp2_with fail
          go_meet
          exact ⟨rfl, rfl⟩
        · go_wp2_with fail
          go_meet
          exact ⟨rfl, rfl⟩
      case rest =>
        obtain ⟨rfl, hwc⟩ := hcut
        have hwc := hwc.symm
        subst hwc
        clear hzs
        obtain ⟨wb, hwbe⟩ : ∃ wb, wb = wr := ⟨_, rfl⟩
        subst hwbe
        have HG := hide (good_place (L := L) (s := sd) (W := (W : Int)) (H := (H : Int)) (Y := (Y : Int)) (r := (r0 : Int) + 1) hsd (by omega) (by omega))
        have HN := hide (Lies.place (n := k) (s := sd) (w := (W : Int)) (h := (H : Int)) (b := (r0 : Int) + 1) (y := (Y : Int)) hLies.out hsd (by omega) (by omega) (by omega) (by omega))
        have PL := hide (fun (W0 : World) (hb0 : Below wb.heap.size wb W0) => place_any aL L k cL sd W H 0 ((r0 : Int) + 1) Y W0 (FRow.below GL.out hb0) hLk.out HFit.out (by omega) ⟨by omega, by omega⟩ ⟨by omega, by omega⟩ ⟨by omega, by omega⟩)
        obtain ⟨f, hf⟩ : ∃ f, f = place L sd W H 0 ((r0 : Int) + 1) Y := ⟨_, rfl⟩
        rw [← hf] at HG HN PL
        clear hf
        obtain ⟨g1, g2, g3, g4, g5, g6, g7, g8, g9⟩ := HG.out
        have HG5 := hide g5
        have HG7 := hide g7
        have HG8 := hide g8
        have HG9 := hide g9
        obtain ⟨fs, fx, fy, fw, fh⟩ := f
        simp only at g1 g2 g3 g4 g6
        have g1 := g1.symm
        subst g1 g2 g3
        obtain ⟨l1, l2, l3, l4, l5, l6, l7, l8, l9, l10⟩ := HN.out
        simp only at l1 l2 l3 l4 l5 l6 l7 l8 l9 l10
        clear g5 g7 g8 g9 HG
        have g6 := hide g6
        go_upto_region 11 with fail
        go_cut [9] from 19 to 199 (fun s9 wx => ∃ gx, s9 = .pointer (some ⟨gx, 0, none⟩) ∧ Blk wx gx 34 #[.int .u8 sd, .int .i64 fx, .int .i64 fy, .int .i64 W, .int .i64 H] ∧ Below wb.heap.size wb wx)
        case first =>
          as_aux_lemma =>
            have z1 := keepc (p := ⟨b, off + k * 4 + 1, none⟩) hbw x1
            have z2 := keepc (p := ⟨b, off + k * 4 + 2, none⟩) hbw x2
            have z3 := keepc (p := ⟨b, off + k * 4 + 3, none⟩) hbw x3
            refine Hold.begin_ 24 (by kernel_rfl) rfl (fun w' => Below wb.heap.size wb w') ?_ (Below.refl _ _).drew
            intro hS
            refine Hold.take (i := 0) (v := ?_) rfl (by kernel_rfl) (fun _ _ _ h => h) rfl ?_ hS ?_
            rotate_left
            · intro w' hS; have z0_ := z1 _ hS; have z1_ := z2 _ hS; have z2_ := z3 _ hS; go_simp; (try go_bits); (first | rfl | rw [if_pos (by omega)])
            simp only [Act.put, List.getElem_toArray, List.getElem_cons_zero, List.getElem_cons_succ, List.setIfInBounds_toArray, List.set_cons_zero, List.set_cons_succ]
            refine Hold.take (i := 1) (v := ?_) rfl (by kernel_rfl) (fun _ _ _ h => h) rfl ?_ hS ?_
            rotate_left
            · intro w' hS; have z0_ := z1 _ hS; have z1_ := z2 _ hS; have z2_ := z3 _ hS; go_simp; (try go_bits); (first | rfl | rw [if_pos (by omega)])
            simp only [Act.put, List.getElem_toArray, List.getElem_cons_zero, List.getElem_cons_succ, List.setIfInBounds_toArray, List.set_cons_zero, List.set_cons_succ]
            refine Hold.take (i := 2) (v := ?_) rfl (by kernel_rfl) (fun _ _ _ h => h) rfl ?_ hS ?_
            rotate_left
            · intro w' hS; have z0_ := z1 _ hS; have z1_ := z2 _ hS; have z2_ := z3 _ hS; go_simp; (try go_bits); (first | rfl | rw [if_pos (by omega)])
            simp only [Act.put, List.getElem_toArray, List.getElem_cons_zero, List.getElem_cons_succ, List.setIfInBounds_toArray, List.set_cons_zero, List.set_cons_succ]
            refine Hold.take (i := 3) (v := ?_) rfl (by kernel_rfl) (fun _ _ _ h => h) rfl ?_ hS ?_
            rotate_left
            · intro w' hS; have z0_ := z1 _ hS; have z1_ := z2 _ hS; have z2_ := z3 _ hS; go_simp; (try go_bits); (first | rfl | rw [if_pos (by omega)])
            simp only [Act.put, List.getElem_toArray, List.getElem_cons_zero, List.getElem_cons_succ, List.setIfInBounds_toArray, List.set_cons_zero, List.set_cons_succ]
            refine Hold.take (i := 4) (v := ?_) rfl (by kernel_rfl) (fun _ _ _ h => h) rfl ?_ hS ?_
            rotate_left
            · intro w' hS; have z0_ := z1 _ hS; have z1_ := z2 _ hS; have z2_ := z3 _ hS; go_simp; (try go_bits); (first | rfl | rw [if_pos (by omega)])
            simp only [Act.put, List.getElem_toArray, List.getElem_cons_zero, List.getElem_cons_succ, List.setIfInBounds_toArray, List.set_cons_zero, List.set_cons_succ]
            refine Hold.take (i := 5) (v := ?_) rfl (by kernel_rfl) (fun _ _ _ h => h) rfl ?_ hS ?_
            rotate_left
            · intro w' hS; have z0_ := z1 _ hS; have z1_ := z2 _ hS; have z2_ := z3 _ hS; go_simp; (try go_bits); (first | rfl | rw [if_pos (by omega)])
            simp only [Act.put, List.getElem_toArray, List.getElem_cons_zero, List.getElem_cons_succ, List.setIfInBounds_toArray, List.set_cons_zero, List.set_cons_succ]
            refine Hold.take (i := 6) (v := ?_) rfl (by kernel_rfl) (fun _ _ _ h => h) rfl ?_ hS ?_
            rotate_left
            · intro w' hS; have z0_ := z1 _ hS; have z1_ := z2 _ hS; have z2_ := z3 _ hS; go_simp; (try go_bits); (first | rfl | rw [if_pos (by omega)])
            simp only [Act.put, List.getElem_toArray, List.getElem_cons_zero, List.getElem_cons_succ, List.setIfInBounds_toArray, List.set_cons_zero, List.set_cons_succ]
            refine Hold.take (i := 7) (v := ?_) rfl (by kernel_rfl) (fun _ _ _ h => h) rfl ?_ hS ?_
            rotate_left
            · intro w' hS; have z0_ := z1 _ hS; have z1_ := z2 _ hS; have z2_ := z3 _ hS; go_simp; (try go_bits); (first | rfl | rw [if_pos (by omega)])
            simp only [Act.put, List.getElem_toArray, List.getElem_cons_zero, List.getElem_cons_succ, List.setIfInBounds_toArray, List.set_cons_zero, List.set_cons_succ]
            refine Hold.take (i := 8) (v := ?_) rfl (by kernel_rfl) (fun _ _ _ h => h) rfl ?_ hS ?_
            rotate_left
            · intro w' hS; have z0_ := z1 _ hS; have z1_ := z2 _ hS; have z2_ := z3 _ hS; go_simp; (try go_bits); (first | rfl | rw [if_pos (by omega)])
            simp only [Act.put, List.getElem_toArray, List.getElem_cons_zero, List.getElem_cons_succ, List.setIfInBounds_toArray, List.set_cons_zero, List.set_cons_succ]
            refine Hold.take (i := 9) (v := ?_) rfl (by kernel_rfl) (fun _ _ _ h => h) rfl ?_ hS ?_
            rotate_left
            · intro w' hS; have z0_ := z1 _ hS; have z1_ := z2 _ hS; have z2_ := z3 _ hS; go_simp; (try go_bits); (first | rfl | rw [if_pos (by omega)])
            simp only [Act.put, List.getElem_toArray, List.getElem_cons_zero, List.getElem_cons_succ, List.setIfInBounds_toArray, List.set_cons_zero, List.set_cons_succ]
            refine Hold.take (i := 10) (v := ?_) rfl (by kernel_rfl) (fun _ _ _ h => h) rfl ?_ hS ?_
            rotate_left
            · intro w' hS; have z0_ := z1 _ hS; have z1_ := z2 _ hS; have z2_ := z3 _ hS; go_simp; (try go_bits); (first | rfl | rw [if_pos (by omega)])
            simp only [Act.put, List.getElem_toArray, List.getElem_cons_zero, List.getElem_cons_succ, List.setIfInBounds_toArray, List.set_cons_zero, List.set_cons_succ]
            refine Hold.take (i := 11) (v := ?_) rfl (by kernel_rfl) (fun _ _ _ h => h) rfl ?_ hS ?_
            rotate_left
            · intro w' hS; have z0_ := z1 _ hS; have z1_ := z2 _ hS; have z2_ := z3 _ hS; go_simp; (try go_bits); (first | rfl | rw [if_pos (by omega)])
            simp only [Act.put, List.getElem_toArray, List.getElem_cons_zero, List.getElem_cons_succ, List.setIfInBounds_toArray, List.set_cons_zero, List.set_cons_succ]
            refine Hold.take (i := 12) (v := ?_) rfl (by kernel_rfl) (fun _ _ _ h => h) rfl ?_ hS ?_
            rotate_left
            · intro w' hS; have z0_ := z1 _ hS; have z1_ := z2 _ hS; have z2_ := z3 _ hS; go_simp; (try go_bits); (first | rfl | rw [if_pos (by omega)])
            simp only [Act.put, List.getElem_toArray, List.getElem_cons_zero, List.getElem_cons_succ, List.setIfInBounds_toArray, List.set_cons_zero, List.set_cons_succ]
            refine Hold.take (i := 13) (v := ?_) rfl (by kernel_rfl) (fun _ _ _ h => h) rfl ?_ hS ?_
            rotate_left
            · intro w' hS; have z0_ := z1 _ hS; have z1_ := z2 _ hS; have z2_ := z3 _ hS; go_simp; (try go_bits); (first | rfl | rw [if_pos (by omega)])
            simp only [Act.put, List.getElem_toArray, List.getElem_cons_zero, List.getElem_cons_succ, List.setIfInBounds_toArray, List.set_cons_zero, List.set_cons_succ]
            refine Hold.take (i := 14) (v := ?_) rfl (by kernel_rfl) (fun _ _ _ h => h) rfl ?_ hS ?_
            rotate_left
            · intro w' hS; have z0_ := z1 _ hS; have z1_ := z2 _ hS; have z2_ := z3 _ hS; go_simp; (try go_bits); (first | rfl | rw [if_pos (by omega)])
            simp only [Act.put, List.getElem_toArray, List.getElem_cons_zero, List.getElem_cons_succ, List.setIfInBounds_toArray, List.set_cons_zero, List.set_cons_succ]
            refine Hold.take (i := 15) (v := ?_) rfl (by kernel_rfl) (fun _ _ _ h => h) rfl ?_ hS ?_
            rotate_left
            · intro w' hS; have z0_ := z1 _ hS; have z1_ := z2 _ hS; have z2_ := z3 _ hS; go_simp; (try go_bits); (first | rfl | rw [if_pos (by omega)])
            simp only [Act.put, List.getElem_toArray, List.getElem_cons_zero, List.getElem_cons_succ, List.setIfInBounds_toArray, List.set_cons_zero, List.set_cons_succ]
            refine Hold.take (i := 16) (v := ?_) rfl (by kernel_rfl) (fun _ _ _ h => h) rfl ?_ hS ?_
            rotate_left
            · intro w' hS; have z0_ := z1 _ hS; have z1_ := z2 _ hS; have z2_ := z3 _ hS; go_simp; (try go_bits); (first | rfl | rw [if_pos (by omega)])
            simp only [Act.put, List.getElem_toArray, List.getElem_cons_zero, List.getElem_cons_succ, List.setIfInBounds_toArray, List.set_cons_zero, List.set_cons_succ]
            refine Hold.take (i := 17) (v := ?_) rfl (by kernel_rfl) (fun _ _ _ h => h) rfl ?_ hS ?_
            rotate_left
            · intro w' hS; have z0_ := z1 _ hS; have z1_ := z2 _ hS; have z2_ := z3 _ hS; go_simp; (try go_bits); (first | rfl | rw [if_pos (by omega)])
            simp only [Act.put, List.getElem_toArray, List.getElem_cons_zero, List.getElem_cons_succ, List.setIfInBounds_toArray, List.set_cons_zero, List.set_cons_succ]
            refine Hold.take (i := 18) (v := ?_) rfl (by kernel_rfl) (fun _ _ _ h => h) rfl ?_ hS ?_
            rotate_left
            · intro w' hS; have z0_ := z1 _ hS; have z1_ := z2 _ hS; have z2_ := z3 _ hS; go_simp; (try go_bits); (first | rfl | rw [if_pos (by omega)])
            simp only [Act.put, List.getElem_toArray, List.getElem_cons_zero, List.getElem_cons_succ, List.setIfInBounds_toArray, List.set_cons_zero, List.set_cons_succ]
            refine Hold.take (i := 19) (v := ?_) rfl (by kernel_rfl) (fun _ _ _ h => h) rfl ?_ hS ?_
            rotate_left
            · intro w' hS; have z0_ := z1 _ hS; have z1_ := z2 _ hS; have z2_ := z3 _ hS; go_simp; (try go_bits); (first | rfl | rw [if_pos (by omega)])
            simp only [Act.put, List.getElem_toArray, List.getElem_cons_zero, List.getElem_cons_succ, List.setIfInBounds_toArray, List.set_cons_zero, List.set_cons_succ]
            refine Hold.take (i := 20) (v := ?_) rfl (by kernel_rfl) (fun _ _ _ h => h) rfl ?_ hS ?_
            rotate_left
            · intro w' hS; have z0_ := z1 _ hS; have z1_ := z2 _ hS; have z2_ := z3 _ hS; go_simp; (try go_bits); (first | rfl | rw [if_pos (by omega)])
            simp only [Act.put, List.getElem_toArray, List.getElem_cons_zero, List.getElem_cons_succ, List.setIfInBounds_toArray, List.set_cons_zero, List.set_cons_succ]
            refine Hold.two (i := 21) (j := 22) (by kernel_rfl) ?_ ?_
            · refine Hold.call rfl rfl (by go_simp; exact ⟨rfl, rfl⟩) ?_
              refine (PL.out _ (Below.refl _ _).drew).mono ?_
              rintro r w3 ⟨rfl, k3⟩
              have hS3 := (Below.refl wb.heap.size wb).drew.trans k3
              refine ⟨_, rfl, hS3, ?_⟩
              simp only [Act.put, List.getElem_toArray, List.getElem_cons_zero, List.getElem_cons_succ, List.setIfInBounds_toArray, List.set_cons_zero, List.set_cons_succ]
              refine Hold.one (i := 22) (by kernel_rfl) ?_
              refine Hold.run rfl rfl (by go_simp; exact ⟨rfl, rfl⟩) ?_
              refine ⟨hS3.alloc k3.size _, ?_⟩
              simp only [Act.put, List.getElem_toArray, List.getElem_cons_zero, List.getElem_cons_succ, List.setIfInBounds_toArray, List.set_cons_zero, List.set_cons_succ]
              refine Hold.one (i := 23) (by kernel_rfl) ?_
              refine Hold.skip rfl rfl (by go_simp; first | rfl | exact ⟨rfl, rfl⟩) ?_
              refine ⟨hS3.alloc k3.size _, ?_⟩
              simp only [Act.put, List.getElem_toArray, List.getElem_cons_zero, List.getElem_cons_succ, List.setIfInBounds_toArray, List.set_cons_zero, List.set_cons_succ]
              refine Hold.done (by kernel_rfl) ?_
              have X4 := hide (Blk.new w3 34 #[.int .u8 sd, .int .i64 fx, .int .i64 fy, .int .i64 W, .int .i64 H])
              have hb4 := hide (hS3.alloc k3.size (.cells #[.int .u8 sd, .int .i64 fx, .int .i64 fy, .int .i64 W, .int .i64 H] 34))
              clear z1 z2 z3 k3 hS3 hS
              go_wp2_with fail
              go_meet
              exact ⟨_, rfl, X4.out, hb4.out⟩
            · refine Hold.run rfl rfl (by go_simp; exact ⟨rfl, rfl⟩) ?_
              have hb0 : Below wb.heap.size wb (wb.drew.alloc (.cells #[.int .u8 0, .int .i64 0, .int .i64 0, .int .i64 0, .int .i64 0] 34)) := (Below.refl _ _).drew.alloc (Nat.le_refl _) _
              refine ⟨hb0, ?_⟩
              simp only [Act.put, List.getElem_toArray, List.getElem_cons_zero, List.getElem_cons_succ, List.setIfInBounds_toArray, List.set_cons_zero, List.set_cons_succ]
              refine Hold.one (i := 21) (by kernel_rfl) ?_
              refine Hold.call rfl rfl (by go_simp; exact ⟨rfl, rfl⟩) ?_
              refine (PL.out _ hb0).mono ?_
              rintro r w3 ⟨rfl, k3⟩
              have hS3 := hb0.trans (k3.mono (by simp))
              refine ⟨_, rfl, hS3, ?_⟩
              simp only [Act.put, List.getElem_toArray, List.getElem_cons_zero, List.getElem_cons_succ, List.setIfInBounds_toArray, List.set_cons_zero, List.set_cons_succ]
              refine Hold.one (i := 23) (by kernel_rfl) ?_
              have B0 := (Blk.new wb.drew 34 #[.int .u8 0, .int .i64 0, .int .i64 0, .int .i64 0, .int .i64 0]).below k3 (by simp)
              have c0 : w3.cell? ⟨wb.heap.size, 0, none⟩ = some (.int .u8 0) := B0.cell 0
              have c1 : w3.cell? ⟨wb.heap.size, 1, none⟩ = some (.int .i64 0) := B0.cell 1
              have c2 : w3.cell? ⟨wb.heap.size, 2, none⟩ = some (.int .i64 0) := B0.cell 2
              have c3 : w3.cell? ⟨wb.heap.size, 3, none⟩ = some (.int .i64 0) := B0.cell 3
              have c4 : w3.cell? ⟨wb.heap.size, 4, none⟩ = some (.int .i64 0) := B0.cell 4
              have f0 : w3.frozen? ⟨wb.heap.size, 0, none⟩ = false := B0.frozen 0
              have f1 : w3.frozen? ⟨wb.heap.size, 1, none⟩ = false := B0.frozen 1
              have f2 : w3.frozen? ⟨wb.heap.size, 2, none⟩ = false := B0.frozen 2
              have f3 : w3.frozen? ⟨wb.heap.size, 3, none⟩ = false := B0.frozen 3
              have f4 : w3.frozen? ⟨wb.heap.size, 4, none⟩ = false := B0.frozen 4
              refine Hold.skip rfl rfl (by go_simp; first | rfl | exact ⟨rfl, rfl⟩) ?_
              refine ⟨below5 hS3 (Nat.le_refl _) _ _ _ _ _, ?_⟩
              simp only [Act.put, List.getElem_toArray, List.getElem_cons_zero, List.getElem_cons_succ, List.setIfInBounds_toArray, List.set_cons_zero, List.set_cons_succ]
              refine Hold.done (by kernel_rfl) ?_
              have X4 := hide (box5 B0 (.int .u8 sd) (.int .i64 fx) (.int .i64 fy) (.int .i64 W) (.int .i64 H))
              have hb4 := hide (below5 hS3 (Nat.le_refl _) (.int .u8 sd) (.int .i64 fx) (.int .i64 fy) (.int .i64 W) (.int .i64 H))
              clear z1 z2 z3 k3 hS3 hb0 hS B0 c0 c1 c2 c3 c4 f0 f1 f2 f3 f4
              go_wp2_with fail
              go_meet
              exact ⟨_, rfl, X4.out, hb4.out⟩
        case rest =>
          obtain ⟨gx, rfl, X4, hb4⟩ := hcut
          have t4 := hide (below_call (w := w) t.out hb4)
          have O4 := hide (own_below HO.out hb4)
          have G4 := hide (FRow.below GL.out hb4)
          have X4 := hide X4
          have bY : decide (fy < (Y : Int)) = false := by simp; omega
          have z0 := keepd' ((hb4.cell (p := ⟨b, off + k * 4, none⟩) hbw).trans x0)
          have z1 := keepd' ((hb4.cell (p := ⟨b, off + k * 4 + 1, none⟩) hbw).trans x1)
          have z2 := keepd' ((hb4.cell (p := ⟨b, off + k * 4 + 2, none⟩) hbw).trans x2)
          have z3 := keepd' ((hb4.cell (p := ⟨b, off + k * 4 + 3, none⟩) hbw).trans x3)
          have q0 := keepd' (X4.out.cell 0)
          have q1 := keepd' (X4.out.cell 1)
          have q2 := keepd' (X4.out.cell 2)
          have q3 := keepd' (X4.out.cell 3)
          have q4 := keepd' (X4.out.cell 4)
          have q5 := Nat.lt_of_lt_of_le hbw hb4.size
          go_upto_region 12 with fail
          go_cut [105] from 19 to 199 (fun s105 wx => s105 = .bool false ∧ Blk wx gx 34 #[.int .u8 sd, .int .i64 fx, .int .i64 fy, .int .i64 W, .int .i64 H] ∧ Below wb.heap.size wb wx)
          case first =>
            as_aux_lemma =>
              by_cases hk0 : k ≤ 0
              · have bk : decide (0 < (k : Int)) = false := by simp; omega
                have bk2 : decide (0 < k) = false := by simp; omega
                refine Reg.region (by kernel_rfl) 54 [] (fun _ w' => w' = wc.drew) (by kernel_rfl) (by kernel_rfl) rfl ?_
                iterate 54
                  first
                    | refine Reg.WT.idle rfl rfl ?_
                    | (refine Reg.WT.yield (v := ?_) rfl rfl ?_ ?_
                       rotate_left
                       · intro w' _ hS; go_simp; (try go_bits); (first | rfl | rw [if_pos (by omega)]))
                  simp only [Act.put, List.setIfInBounds_toArray, List.set_cons_zero, List.set_cons_succ]
                intro w5 hS
                subst hS
                go_wp2_with fail
                go_meet
                exact ⟨rfl, X4.out.drew, hb4.drew⟩
              · have bk : decide (0 < (k : Int)) = true := by simp; omega
                have bk2 : decide (0 < k) = true := by simp; omega
                obtain ⟨m, hm⟩ : ∃ m, k = m + 1 := ⟨k - 1, by omega⟩
                have hkm : (k : Int) - 1 = (m : Int) := by omega
                obtain ⟨bL, oL, hL1, hL2, hL3⟩ := f_at G4.out (by have := hLk.out; omega)
                have hmL : m < L.length := by have := hLk.out; omega
                obtain ⟨_, _, v2, _, _⟩ := hL3 m hmL
                have hgy := HG5.out _ (List.getElem_mem hmL)
                clear hL3
                generalize L[m] = gg at v2 hgy
                have bg : decide (fy < gg.y) = false := by simp; omega
                have v2 := keepd' v2
                subst hL1
                clear hm
                refine Reg.region (by kernel_rfl) 54 [] (fun _ w' => w' = wc.drew) (by kernel_rfl) (by kernel_rfl) rfl ?_
                iterate 54
                  first
                    | refine Reg.WT.idle rfl rfl ?_
                    | (refine Reg.WT.yield (v := ?_) rfl rfl ?_ ?_
                       rotate_left
                       · intro w' _ hS; go_simp; (try go_bits); (first | rfl | rw [if_pos (by omega)]))
                  simp only [Act.put, List.setIfInBounds_toArray, List.set_cons_zero, List.set_cons_succ]
                intro w5 hS
                subst hS
                go_wp2_with fail
                go_meet
                exact ⟨rfl, X4.out.drew, hb4.drew⟩
          case rest =>
            clear z0 z1 z2 z3 q0 q1 q2 q3 q4 q5 X4 hb4 t4 O4 G4
            obtain ⟨rfl, X5, hb5⟩ := hcut
            have X5 := hide X5
            have hb5 := hide hb5
            have q1 : wc.cell? ⟨gx, 1, none⟩ = some (.int .i64 fx) := X5.out.cell 1
            have q3 : wc.cell? ⟨gx, 3, none⟩ = some (.int .i64 W) := X5.out.cell 3
            go_upto_region 14 with fail
            go_cut [123] from 19 to 199 (fun s123 wx => s123 = .bool false ∧ wx = wc)
            case first =>
              as_aux_lemma =>
                by_cases hWr : (W : Int) ≤ (r0 : Int) + 1
                · obtain ⟨h1, h2⟩ := g6.out hWr
                  have b1 : decide (fx < 0) = false := by simp; omega
                  have b2 : decide ((r0 : Int) + 1 < fx + W) = false := by simp; omega
                  go_wp2_with fail
                  go_meet
                  exact ⟨rfl, rfl⟩
                · have b3 : decide ((W : Int) ≤ (r0 : Int) + 1) = false := by simp; omega
                  go_wp2_with fail
                  go_meet
                  exact ⟨rfl, rfl⟩
            case rest =>
              obtain ⟨rfl, rfl⟩ := hcut
              clear q1 q3
              obtain ⟨E, E0, EN, EA⟩ : ∃ E : Nat → Bool, Hid ((sd = 1 → (fx == 0) = E 0) ∧ (sd = 2 → (fx + (W : Int) == (r0 : Int) + 1) = E 0)) ∧
                  Hid (∀ j (h : j < L.length), (sd = 1 → E (j + 1) = (E j || (L[j].x + L[j].w == fx))) ∧ (sd = 2 → E (j + 1) = (E j || (L[j].x == fx + (W : Int))))) ∧ Hid (E k = true) := by
                rcases hsd with rfl | rfl
                · exact ⟨E1 L ⟨1, fx, fy, W, H⟩, hide ⟨fun _ => by simp [E1], fun h => by omega⟩, hide (fun j h => ⟨fun _ => E1_next h, fun h => by omega⟩), hide (E1_all hLk.out (HG8.out (by decide)))⟩
                · exact ⟨E2 L ⟨2, fx, fy, W, H⟩ ((r0 : Int) + 1), hide ⟨fun h => by omega, fun _ => by simp [E2]⟩, hide (fun j h => ⟨fun h => by omega, fun _ => E2_next h⟩), hide (E2_all hLk.out (HG9.out rfl))⟩
              have q0 : wc.cell? ⟨gx, 0, none⟩ = some (.int .u8 sd) := X5.out.cell 0
              have q1 : wc.cell? ⟨gx, 1, none⟩ = some (.int .i64 fx) := X5.out.cell 1
              have q3 : wc.cell? ⟨gx, 3, none⟩ = some (.int .i64 W) := X5.out.cell 3
              go_upto_region 16 with fail
              go_cut [10] from 19 to 199 (fun s10 wx => s10 = .bool (E 0) ∧ wx = wc)
              case first =>
                as_aux_lemma =>
                  rcases hsd with hs1 | hs2
                  · have E0' := E0.out.1 hs1
                    subst hs1
                    cases hb : (fx == 0) with
                    | true =>
                      rw [hb] at E0'
                      have HBB := hide E0'
                      clear E0'
                      go_wp2_with fail
                      go_meet
                      exact ⟨by rw [← HBB.out], rfl⟩
                    | false =>
                      rw [hb] at E0'
                      have HBB := hide E0'
                      clear E0'
                      go_wp2_with fail
                      go_meet
                      exact ⟨by rw [← HBB.out], rfl⟩
                  · have E0' := E0.out.2 hs2
                    subst hs2
                    have HBB := hide E0'
                    clear E0'
                    go_wp2_with fail
                    go_meet
                    exact ⟨congrArg Value.bool HBB.out, rfl⟩
              case rest =>
                obtain ⟨rfl, rfl⟩ := hcut
                clear q0 q1 q3
                go_wp2_with fail
                go_loopw [10, 11] (fun e i w6 => ∃ j : Nat, j ≤ k ∧ i = .int .i64 j ∧ e = .bool (E j) ∧ Blk w6 gx 34 #[.int .u8 sd, .int .i64 fx, .int .i64 fy, .int .i64 W, .int .i64 H] ∧ Below wb.heap.size wb w6) (fun _ i _ => k - (intOf i).toNat)
                case atStart => exact ⟨0, by omega, rfl, rfl, X5.out, hb5.out⟩
                case round =>
                  clear X5 hb5
                  obtain ⟨j, hj, rfl, rfl, X6, hb6⟩ := hrel
                  by_cases hjk : j < k
                  · have hjL : j < L.length := by have := hLk.out; omega
                    have GR := FRow.below GL.out hb6
                    obtain ⟨bL, oL, hL1, hL2, hL3⟩ := f_at GR (by omega)
                    obtain ⟨v0, v1, v2, v3, v4⟩ := hL3 j hjL
                    have HE1 := hide (EN.out j hjL).1
                    have HE2 := hide (EN.out j hjL).2
                    have HM := hide (HG7.out _ (List.getElem_mem hjL))
                    have HFT := hide (HFit.out _ (List.getElem_mem hjL))
                    have X6 := hide X6
                    have hb6 := hide hb6
                    clear hL3 GR
                    generalize L[j] = gg at v0 v1 v2 v3 v4 HE1 HE2 HM HFT
                    subst hL1
                    have p0 := keepd' (X6.out.cell 0)
                    have p1 := keepd' (X6.out.cell 1)
                    have p2 := keepd' (X6.out.cell 2)
                    have p3 := keepd' (X6.out.cell 3)
                    have p4 := keepd' (X6.out.cell 4)
                    have r0' := keepd' v0
                    have r1' := keepd' v1
                    have r2' := keepd' v2
                    have r3' := keepd' v3
                    have r4' := keepd' v4
                    go_wp2_with fail
                    refine Reg.region (by kernel_rfl) 5 [] (fun _ w' => w' = wr.drew) (by kernel_rfl) (by kernel_rfl) rfl ?_
                    iterate 5
                      refine Reg.WT.yield (v := ?_) rfl rfl ?_ ?_
                      rotate_left
                      · intro w' _ hS; go_simp; (try go_bits); (first | rfl | rw [if_pos (by omega)])
                      simp only [Act.put, List.setIfInBounds_toArray, List.set_cons_zero, List.set_cons_succ]
                    intro w7 hS
                    subst hS
                    clear p0 p1 p2 p3 p4 r0' r1' r2' r3' r4'
                    go_wp2_with fail
                    refine (meet_any ⟨sd, fx, fy, W, H⟩ gg _ ⟨by simp; omega, by simp; omega, by simp; omega, by simp; omega, by simp; omega⟩ HFT.out).mono ?_
                    rintro r w7 ⟨hr7, k7⟩
                    rw [HM.out] at hr7
                    subst hr7
                    have X7 := hide (X6.out.drew.below k7 X6.out.lt)
                    have hb7 := hide (hb6.out.drew.trans (k7.mono (show wb.heap.size ≤ wr.drew.heap.size from hb6.out.size)))
                    have u0 := keepd' ((k7.cell (p := ⟨bL, oL + j * 5 + 1, none⟩) hL2).trans v1)
                    have u1 := keepd' ((k7.cell (p := ⟨bL, oL + j * 5 + 3, none⟩) hL2).trans v3)
                    have p1 := keepd' (X7.out.cell 1)
                    have p3 := keepd' (X7.out.cell 3)
                    obtain ⟨h1a, h1b⟩ := HFT.out.xb
                    obtain ⟨h2a, h2b⟩ := HFT.out.wb
                    clear v0 v1 v2 v3 v4 k7 X6 hb6
                    as_aux_lemma =>
                      go_wp2_with fail
                      rcases hsd with hs1 | hs2
                      · have HE := hide (HE1.out hs1)
                        clear HE1 HE2 E0 EN EA
                        subst hs1
                        cases hE : E j with
                        | true =>
                          rw [hE] at HE
                          clear hE
                          refine Reg.region (by kernel_rfl) 39 [] (fun _ w' => w' = w7.drew) (by kernel_rfl) (by kernel_rfl) rfl ?_
                          iterate 39
                            first
                              | refine Reg.WT.idle rfl rfl ?_
                              | (refine Reg.WT.yield (v := ?_) rfl rfl ?_ ?_
                                 rotate_left
                                 · intro w' _ hS; go_simp; (try go_bits); (first | rfl | rw [if_pos (by omega)]))
                            simp only [Act.put, List.setIfInBounds_toArray, List.set_cons_zero, List.set_cons_succ]
                          intro w9 hS
                          subst hS
                          have X9 := hide X7.out.drew
                          have hb9 := hide hb7.out.drew
                          clear u0 u1 p1 p3 X7 hb7
                          go_wp2
                          go_roundw
                          case rel => exact ⟨j + 1, by omega, by go_num, by rw [HE.out]; rfl, X9.out, hb9.out⟩
                          case measure => simp [intOf]; omega
                        | false =>
                          rw [hE] at HE
                          clear hE
                          cases hb : (gg.x + gg.w == fx) with
                          | true =>
                            rw [hb] at HE
                            refine Reg.region (by kernel_rfl) 39 [] (fun _ w' => w' = w7.drew) (by kernel_rfl) (by kernel_rfl) rfl ?_
                            iterate 39
                              first
                                | refine Reg.WT.idle rfl rfl ?_
                                | (refine Reg.WT.yield (v := ?_) rfl rfl ?_ ?_
                                   rotate_left
                                   · intro w' _ hS; go_simp; (try go_bits); (first | rfl | rw [if_pos (by omega)]))
                              simp only [Act.put, List.setIfInBounds_toArray, List.set_cons_zero, List.set_cons_succ]
                            intro w9 hS
                            subst hS
                            have X9 := hide X7.out.drew
                            have hb9 := hide hb7.out.drew
                            clear u0 u1 p1 p3 X7 hb7
                            go_wp2
                            go_roundw
                            case rel => exact ⟨j + 1, by omega, by go_num, by rw [HE.out]; rfl, X9.out, hb9.out⟩
                            case measure => simp [intOf]; omega
                          | false =>
                            rw [hb] at HE
                            refine Reg.region (by kernel_rfl) 39 [] (fun _ w' => w' = w7.drew) (by kernel_rfl) (by kernel_rfl) rfl ?_
                            iterate 39
                              first
                                | refine Reg.WT.idle rfl rfl ?_
                                | (refine Reg.WT.yield (v := ?_) rfl rfl ?_ ?_
                                   rotate_left
                                   · intro w' _ hS; go_simp; (try go_bits); (first | rfl | rw [if_pos (by omega)]))
                              simp only [Act.put, List.setIfInBounds_toArray, List.set_cons_zero, List.set_cons_succ]
                            intro w9 hS
                            subst hS
                            have X9 := hide X7.out.drew
                            have hb9 := hide hb7.out.drew
                            clear u0 u1 p1 p3 X7 hb7
                            go_wp2
                            go_roundw
                            case rel => exact ⟨j + 1, by omega, by go_num, by rw [HE.out]; rfl, X9.out, hb9.out⟩
                            case measure => simp [intOf]; omega
                      · have HE := hide (HE2.out hs2)
                        clear HE1 HE2 E0 EN EA
                        subst hs2
                        cases hE : E j with
                        | true =>
                          rw [hE] at HE
                          clear hE
                          refine Reg.region (by kernel_rfl) 39 [] (fun _ w' => w' = w7.drew) (by kernel_rfl) (by kernel_rfl) rfl ?_
                          iterate 39
                            first
                              | refine Reg.WT.idle rfl rfl ?_
                              | (refine Reg.WT.yield (v := ?_) rfl rfl ?_ ?_
                                 rotate_left
                                 · intro w' _ hS; go_simp; (try go_bits); (first | rfl | rw [if_pos (by omega)]))
                            simp only [Act.put, List.setIfInBounds_toArray, List.set_cons_zero, List.set_cons_succ]
                          intro w9 hS
                          subst hS
                          have X9 := hide X7.out.drew
                          have hb9 := hide hb7.out.drew
                          clear u0 u1 p1 p3 X7 hb7
                          go_wp2
                          go_roundw
                          case rel => exact ⟨j + 1, by omega, by go_num, by rw [HE.out]; rfl, X9.out, hb9.out⟩
                          case measure => simp [intOf]; omega
                        | false =>
                          rw [hE] at HE
                          clear hE
                          cases hb : (gg.x == fx + (W : Int)) with
                          | true =>
                            rw [hb] at HE
                            refine Reg.region (by kernel_rfl) 39 [] (fun _ w' => w' = w7.drew) (by kernel_rfl) (by kernel_rfl) rfl ?_
                            iterate 39
                              first
                                | refine Reg.WT.idle rfl rfl ?_
                                | (refine Reg.WT.yield (v := ?_) rfl rfl ?_ ?_
                                   rotate_left
                                   · intro w' _ hS; go_simp; (try go_bits); (first | rfl | rw [if_pos (by omega)]))
                              simp only [Act.put, List.setIfInBounds_toArray, List.set_cons_zero, List.set_cons_succ]
                            intro w9 hS
                            subst hS
                            have X9 := hide X7.out.drew
                            have hb9 := hide hb7.out.drew
                            clear u0 u1 p1 p3 X7 hb7
                            go_wp2
                            go_roundw
                            case rel => exact ⟨j + 1, by omega, by go_num, by rw [HE.out]; rfl, X9.out, hb9.out⟩
                            case measure => simp [intOf]; omega
                          | false =>
                            rw [hb] at HE
                            refine Reg.region (by kernel_rfl) 39 [] (fun _ w' => w' = w7.drew) (by kernel_rfl) (by kernel_rfl) rfl ?_
                            iterate 39
                              first
                                | refine Reg.WT.idle rfl rfl ?_
                                | (refine Reg.WT.yield (v := ?_) rfl rfl ?_ ?_
                                   rotate_left
                                   · intro w' _ hS; go_simp; (try go_bits); (first | rfl | rw [if_pos (by omega)]))
                              simp only [Act.put, List.setIfInBounds_toArray, List.set_cons_zero, List.set_cons_succ]
                            intro w9 hS
                            subst hS
                            have X9 := hide X7.out.drew
                            have hb9 := hide hb7.out.drew
                            clear u0 u1 p1 p3 X7 hb7
                            go_wp2
                            go_roundw
                            case rel => exact ⟨j + 1, by omega, by go_num, by rw [HE.out]; rfl, X9.out, hb9.out⟩
                            case measure => simp [intOf]; omega
                  · obtain rfl : j = k := by omega
                    have HEA := EA.out
                    have X6 := hide X6
                    have hb6 := hide hb6
                    rw [HEA]
                    have O6 := hide (own_below HO.out (hb6.out.alloc hb6.out.size (.cells #[.int .u8 sd, .int .i64 fx, .int .i64 fy, .int .i64 W, .int .i64 H] 34)))
                    have t6 := hide (below_call (w := w) t.out (hb6.out.alloc hb6.out.size (.cells #[.int .u8 sd, .int .i64 fx, .int .i64 fy, .int .i64 W, .int .i64 H] 34)))
                    have N6 := hide (Blk.new wr 34 #[.int .u8 sd, .int .i64 fx, .int .i64 fy, .int .i64 W, .int .i64 H])
                    have p0 := X6.out.cell 0
                    have p1 := X6.out.cell 1
                    have p2 := X6.out.cell 2
                    have p3 := X6.out.cell 3
                    have p4 := X6.out.cell 4
                    clear HEA EA
                    go_wp2_with (at_builtin; refine wpList_append_own _ rfl _ _ 22 rfl w.heap.size 34 i0 (.agg #[.int .u8 0, .int .i64 0, .int .i64 0, .int .i64 0, .int .i64 0]) 5 40 Try.underlying22 hi hz0 hz1 hz2 rfl (by decide) _ _ _ rfl O6.out ⟨wr.heap.size, 0, none⟩ 1 1 [.int .u8 sd, .int .i64 fx, .int .i64 fy, .int .i64 W, .int .i64 H] rfl rfl ?c1 ?c2 ?c3 ?c4 ?c5 ?_)
                    case c1 => exact N6.out.news
                    case c2 => intro z hz; simp at hz; rcases hz with rfl | rfl | rfl | rfl | rfl <;> rfl
                    case c3 => unfold maxLen; omega
                    case c4 => omega
                    case c5 => have := t6.out.size; simp at this ⊢; omega
                    intro v' w8 hown' hgrow _
                    have t8 : Hid (Below w.heap.size w w8) := hide (below_grown (a := w) t6.out hgrow (own_ge O6.out))
                    have O8 : Hid (w8.ownsRow w.heap.size 34 5 v' (j + 1) ((L ++ [(⟨sd, fx, fy, W, H⟩ : Flt)]).map fcell).flatten) := hide (by
                      simpa [fcell] using hown')
                    clear hown' hgrow
                    go_wp2
                    go_roundw
                    case rel => exact ⟨j + 1, L ++ [(⟨sd, fx, fy, W, H⟩ : Flt)], by omega, by go_num, hide (by rw [List.length_append, hLk.out]; rfl), hide (fun f hf => by
                      rcases List.mem_append.1 hf with hf | hf
                      · exact (hLies.out f hf).more
                      · obtain rfl : f = (⟨sd, fx, fy, W, H⟩ : Flt) := by simpa using hf
                        exact HN.out), O8.out, t8.out⟩
                    case measure => simp [intOf]; omega
    · obtain rfl : k = l.length := by omega
      go_wp2_with fail
      refine (works_any _).mono ?_
      rintro e w9 ⟨rfl, k9⟩
      have t9 := hide (below_call (w := w) t.out k9)
      clear k9
      go_wp2
      go_returns
      exact ⟨rfl, t9.out⟩
end Go.Proofs.Ytdckhheinpfbjaa
