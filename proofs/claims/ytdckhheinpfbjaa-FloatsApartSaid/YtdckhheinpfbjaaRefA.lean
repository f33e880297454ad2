/- Walks of the reference: at, room, band, tall, next, free, clear. -/
import Derived.Test.YtdckhheinpfbjaaWalksC
namespace Go.Proofs.Ytdckhheinpfbjaa
open Go.RowKit

theorem keepd {W : World} {p : Addr} {v : Value} (h : W.cell? p = some v) : ∀ w', w' = W.drew → w'.cell? p = some v := fun _ e => e ▸ h
def flags (l : List Flt) (y h : Int) : List Value := l.map fun f => .bool (std f y h)
def some_flags (l : List Flt) (y h : Int) (n k : Nat) : List Value := (l.take k).map (fun f => .bool (std f y h)) ++ List.replicate (n - k) (.bool false)
theorem sf_set {l : List Flt} {y h : Int} {n k : Nat} (hn : l.length = n) (hk : k < n) (hk' : k < l.length) : (some_flags l y h n k).set k (.bool (std l[k] y h)) = some_flags l y h n (k + 1) := by
  unfold some_flags
  apply List.ext_getElem
  · simp; omega
  · intro i h1 h2
    simp only [List.length_set, List.length_append, List.length_replicate, List.length_map, List.length_take] at h1
    rw [List.getElem_set]
    simp only [List.getElem_append, List.length_replicate, List.getElem_replicate, List.length_map, List.length_take, List.getElem_map, List.getElem_take]
    rcases Nat.lt_trichotomy i k with h | h | h
    · rw [if_neg (by omega), dif_pos (by omega), dif_pos (by omega)]
    · subst h; rw [if_pos rfl, dif_pos (by omega)]
    · rw [if_neg (by omega), dif_neg (by omega), dif_neg (by omega)]
theorem sf_len {l : List Flt} {y h : Int} {n k : Nat} (hn : l.length = n) (hk : k ≤ n) : (some_flags l y h n k).length = n := by unfold some_flags; simp; omega
theorem info4 : (Try.prog.info? 4).map (fun i => (i.zero, i.size, i.bytes)) = some (some (.bool false), 1, 1) := by kernel_rfl

def APost (l : List Flt) (y h : Int) (n : Nat) (w : World) (r : Ending) (w' : World) : Prop :=
  ∃ g, r = .returned (.slice (some ⟨g, 0, none⟩) n n) ∧ Row w' (some ⟨g, 0, none⟩) (flags l y h) ∧ Below w.heap.size w w'
set_option maxHeartbeats 2000000 in
theorem at_any (a : Option Addr) (l : List Flt) (n c : Nat) (y h : Int) (w : World) (hr : FRow w a l) (hn : l.length = n) (hl : ∀ f ∈ l, Fit f) (hy : Far y) (hh : Far h) (hn2 : n ≤ 1000) :
    Calls Try.prog 22 #[.slice a n c, .int .i64 y, .int .i64 h] w (APost l y h n w) := by
  obtain ⟨i1, hi1, hz1, hs1, hb1⟩ := info_parts info4
  have hmk := fun W => run_make1 (P := Try.prog) 48 4 Try.underlying48 hi1 hz1 hs1 rfl hb1 n (by omega) (by omega) W
  have HN := hide hn
  have HL := hide hl
  unfold Far at hy hh
  clear hn hl
  go_enter Try.func22, Try.ntmps22
  go_wp2
  have B := Blk.new w 4 (List.replicate n (Value.bool false)).toArray
  have h0 : List.replicate n (Value.bool false) = some_flags l y h n 0 := by simp [some_flags]
  rw [h0] at B
  have tb : Below w.heap.size w (w.alloc (.cells (List.replicate n (Value.bool false)).toArray 4)) := by go_grown
  rw [h0] at tb
  rw [show Array.replicate n (Value.bool false) = (some_flags l y h n 0).toArray from by rw [← List.toArray_replicate, h0]]
  have B := hide B
  have tb := hide tb
  clear h0 hmk
  go_loopw [8] (fun i wr => ∃ k : Nat, k ≤ n ∧ i = .int .i64 k ∧ Blk wr w.heap.size 4 (some_flags l y h n k).toArray ∧ Below w.heap.size w wr) (fun i _ => n - (intOf i).toNat)
  case atStart => exact ⟨0, Nat.zero_le _, rfl, B.out, tb.out⟩
  case round =>
    clear B tb
    obtain ⟨k, hk, rfl, B, hbel⟩ := hrel
    have t := hide hbel
    have B := hide B
    by_cases hlt : k < n
    · obtain ⟨b, off, rfl, hbw, hcell⟩ := f_at (hr.below hbel) (by have := HN.out; omega)
      have hlt' : k < l.length := by have := HN.out; omega
      obtain ⟨x0, x1, x2, x3, x4⟩ := hcell k hlt'
      have HT := hide (sf_set (y := y) (h := h) HN.out hlt hlt')
      have hfit := HL.out _ (List.getElem_mem hlt')
      clear hbel hcell
      generalize l[k] = f at x0 x1 x2 x3 x4 HT hfit
      obtain ⟨_, hx, hyb, hw, hh2⟩ := hfit
      have B2 := hide (B.out.set_ k (.bool (std f y h)))
      simp only [List.setIfInBounds_toArray] at B2
      rw [HT.out] at B2
      have t2 := hide (t.out.setCell (p := ⟨w.heap.size, k, none⟩) (by simp) (.bool (std f y h)))
      have c0 := B.out.cell k
      have f0 := B.out.frozen k
      have hkl : k < (some_flags l y h n k).toArray.size := by simpa using (by rw [sf_len HN.out hk]; exact hlt : k < (some_flags l y h n k).length)
      rw [Array.getElem?_eq_getElem hkl] at c0
      generalize (some_flags l y h n k).toArray[k] = z at c0
      go_wp2
      have z0 := keepd x2
      have z1 := keepd x4
      by_cases c1 : 0 < f.h
      · by_cases c2 : f.y < y + h
        · by_cases c3 : y < f.y + f.h
          · rw [show std f y h = true from by unfold std; simp; omega] at B2 t2
            refine Reg.region (by kernel_rfl) 35 [] (fun _ w' => w' = wr.drew) (by kernel_rfl) (by kernel_rfl) rfl ?_
            iterate 35
              first
                | refine Reg.WT.idle rfl rfl ?_
                | (refine Reg.WT.yield (v := ?_) rfl rfl ?_ ?_
                   rotate_left
                   · intro w' _ hS; go_simp; (try go_bits); (first | rfl | rw [if_pos (by omega)]))
              simp only [Act.put, List.setIfInBounds_toArray, List.set_cons_zero, List.set_cons_succ]
            intro w2 hS
            subst hS
            clear z0 z1
            go_wp2
            go_roundw
            case rel => exact ⟨k + 1, hlt, by go_num, B2.out.drew, t2.out.drew⟩
            case measure => simp [intOf]; omega
          · rw [show std f y h = false from by unfold std; simp; intros; omega] at B2 t2
            have d3 : decide (y < f.y + f.h) = false := by simp; omega
            refine Reg.region (by kernel_rfl) 35 [] (fun _ w' => w' = wr.drew) (by kernel_rfl) (by kernel_rfl) rfl ?_
            iterate 35
              first
                | refine Reg.WT.idle rfl rfl ?_
                | (refine Reg.WT.yield (v := ?_) rfl rfl ?_ ?_
                   rotate_left
                   · intro w' _ hS; go_simp; (try go_bits); (first | rfl | rw [if_pos (by omega)]))
              simp only [Act.put, List.setIfInBounds_toArray, List.set_cons_zero, List.set_cons_succ]
            intro w2 hS
            subst hS
            clear z0 z1
            go_wp2
            go_roundw
            case rel => exact ⟨k + 1, hlt, by go_num, B2.out.drew, t2.out.drew⟩
            case measure => simp [intOf]; omega
        · rw [show std f y h = false from by unfold std; simp; intros; omega] at B2 t2
          have d3 : decide (f.y < y + h) = false := by simp; omega
          refine Reg.region (by kernel_rfl) 35 [] (fun _ w' => w' = wr.drew) (by kernel_rfl) (by kernel_rfl) rfl ?_
          iterate 35
            first
              | refine Reg.WT.idle rfl rfl ?_
              | (refine Reg.WT.yield (v := ?_) rfl rfl ?_ ?_
                 rotate_left
                 · intro w' _ hS; go_simp; (try go_bits); (first | rfl | rw [if_pos (by omega)]))
            simp only [Act.put, List.setIfInBounds_toArray, List.set_cons_zero, List.set_cons_succ]
          intro w2 hS
          subst hS
          clear z0 z1
          go_wp2
          go_roundw
          case rel => exact ⟨k + 1, hlt, by go_num, B2.out.drew, t2.out.drew⟩
          case measure => simp [intOf]; omega
      · rw [show std f y h = false from by unfold std; simp; intros; omega] at B2 t2
        have d3 : decide (0 < f.h) = false := by simp; omega
        refine Reg.region (by kernel_rfl) 35 [] (fun _ w' => w' = wr.drew) (by kernel_rfl) (by kernel_rfl) rfl ?_
        iterate 35
          first
            | refine Reg.WT.idle rfl rfl ?_
            | (refine Reg.WT.yield (v := ?_) rfl rfl ?_ ?_
               rotate_left
               · intro w' _ hS; go_simp; (try go_bits); (first | rfl | rw [if_pos (by omega)]))
          simp only [Act.put, List.setIfInBounds_toArray, List.set_cons_zero, List.set_cons_succ]
        intro w2 hS
        subst hS
        clear z0 z1
        go_wp2
        go_roundw
        case rel => exact ⟨k + 1, hlt, by go_num, B2.out.drew, t2.out.drew⟩
        case measure => simp [intOf]; omega
    · obtain rfl : k = n := by omega
      have hrow := B.out.row (by simp [sf_len HN.out hk]; omega)
      have e : some_flags l y h k k = flags l y h := by
        unfold some_flags flags; rw [List.take_of_length_le (by have := HN.out; omega)]; simp
      simp only [e] at hrow
      have hrow := hide hrow
      clear e
      go_wp2
      go_returns
      exact ⟨_, rfl, hrow.out, t.out⟩
end Go.Proofs.Ytdckhheinpfbjaa
