/- Walks: the reference: At, room, Tall, Next. (Written by conv16.py from s15.) -/
import Derived.Test.YtpdfeifnbeojcaaRegM
import Derived.Test.YtpdfeifnbeojcaaFA
namespace Go.Proofs.Ytpdfeifnbeojcaa
open Go.RowKit
theorem keepd {W : World} {p : Addr} {v : Value} (h : W.cell? p = some v) : ∀ w', w' = W.drew → w'.cell? p = some v := fun _ e => e ▸ h
def flags (l : List Flt) (y h : Int) : List Value := l.map fun f => .bool (std f y h)
def some_flags (l : List Flt) (y h : Int) (n k : Nat) : List Value := (l.take k).map (fun f => .bool (std f y h)) ++ List.replicate (n - k) (.bool false)
theorem sf_set {l : List Flt} {y h : Int} {n k : Nat} (hn : l.length = n) (hk : k < n) (hk' : k < l.length) : (some_flags l y h n k).set k (.bool (std l[k] y h)) = some_flags l y h n (k + 1) := by
  unfold some_flags
  apply List.ext_getElem
  · simp; omega
  · intro i h1 h2
    simp only [List.length_set, List.length_append, List.length_replicate, List.length_map, List.length_take] at h1
    rw [List.getElem_set]
    simp only [List.getElem_append, List.length_replicate, List.getElem_replicate, List.length_map, List.length_take, List.getElem_map, List.getElem_take]
    rcases Nat.lt_trichotomy i k with h | h | h
    · rw [if_neg (by omega), dif_pos (by omega), dif_pos (by omega)]
    · subst h; rw [if_pos rfl, dif_pos (by omega)]
    · rw [if_neg (by omega), dif_neg (by omega), dif_neg (by omega)]
theorem sf_len {l : List Flt} {y h : Int} {n k : Nat} (hn : l.length = n) (hk : k ≤ n) : (some_flags l y h n k).length = n := by unfold some_flags; simp; omega
theorem info4 : (Try.prog.info? 4).map (fun i => (i.zero, i.size, i.bytes)) = some (some (.bool false), 1, 1) := by kernel_rfl

def APost (l : List Flt) (y h : Int) (n : Nat) (w : World) (r : Ending) (w' : World) : Prop :=
  ∃ g, r = .returned (.slice (some ⟨g, 0, none⟩) n n) ∧ Row w' (some ⟨g, 0, none⟩) (flags l y h) ∧ Below w.heap.size w w'
set_option maxHeartbeats 2000000 in
theorem at_any (a : Option Addr) (l : List Flt) (n c : Nat) (y h : Int) (w : World) (hr : FRow w a l) (hn : l.length = n) (hl : ∀ f ∈ l, Fit f) (hy : Fay y) (hh : Far h) (hn2 : n ≤ 1000) :
    Calls Try.prog 17 #[.slice a n c, .int .i64 y, .int .i64 h] w (APost l y h n w) := by
  obtain ⟨i1, hi1, hz1, hs1, hb1⟩ := info_parts info4
  have hmk := fun W => run_make1 (P := Try.prog) 50 4 Try.underlying50 hi1 hz1 hs1 rfl hb1 n (by omega) (by omega) W
  have HN := hide hn
  have HL := hide hl
  unfold Fay at hy
  unfold Far at hh
  clear hn hl
  go_enter Try.func17, Try.ntmps17
  go_wp2
  have B := Blk.new w 4 (List.replicate n (Value.bool false)).toArray
  have h0 : List.replicate n (Value.bool false) = some_flags l y h n 0 := by simp [some_flags]
  rw [h0] at B
  have tb : Below w.heap.size w (w.alloc (.cells (List.replicate n (Value.bool false)).toArray 4)) := by go_grown
  rw [h0] at tb
  rw [show Array.replicate n (Value.bool false) = (some_flags l y h n 0).toArray from by rw [← List.toArray_replicate, h0]]
  have B := hide B
  have tb := hide tb
  clear h0 hmk
  go_loopw [8] (fun i wr => ∃ k : Nat, k ≤ n ∧ i = .int .i64 k ∧ Blk wr w.heap.size 4 (some_flags l y h n k).toArray ∧ Below w.heap.size w wr) (fun i _ => n - (intOf i).toNat)
  case atStart => exact ⟨0, Nat.zero_le _, rfl, B.out, tb.out⟩
  case round =>
    clear B tb
    obtain ⟨k, hk, rfl, B, hbel⟩ := hrel
    have t := hide hbel
    have B := hide B
    by_cases hlt : k < n
    · obtain ⟨b, off, rfl, hbw, hcell⟩ := f_at (hr.below hbel) (by have := HN.out; omega)
      have hlt' : k < l.length := by have := HN.out; omega
      obtain ⟨x0, x1, x2, x3, x4⟩ := hcell k hlt'
      have HT := hide (sf_set (y := y) (h := h) HN.out hlt hlt')
      have hfit := HL.out _ (List.getElem_mem hlt')
      clear hbel hcell
      generalize l[k] = f at x0 x1 x2 x3 x4 HT hfit
      obtain ⟨_, hx, hyb, hw, hh2⟩ := hfit
      have B2 := hide (B.out.set_ k (.bool (std f y h)))
      simp only [List.setIfInBounds_toArray] at B2
      rw [HT.out] at B2
      have t2 := hide (t.out.setCell (p := ⟨w.heap.size, k, none⟩) (by simp) (.bool (std f y h)))
      have c0 := B.out.cell k
      have f0 := B.out.frozen k
      have hkl : k < (some_flags l y h n k).toArray.size := by simpa using (by rw [sf_len HN.out hk]; exact hlt : k < (some_flags l y h n k).length)
      rw [Array.getElem?_eq_getElem hkl] at c0
      generalize (some_flags l y h n k).toArray[k] = z at c0
      go_wp2
      have z0 := keepd x2
      have z1 := keepd x4
      by_cases c1 : 0 < f.h
      · by_cases c2 : f.y < y + h
        · by_cases c3 : y < f.y + f.h
          · rw [show std f y h = true from by unfold std; simp; omega] at B2 t2
            refine Reg.region (by kernel_rfl) 35 [] (fun _ w' => w' = wr.drew) (by kernel_rfl) (by kernel_rfl) rfl ?_
            iterate 35
              first
                | refine Reg.WT.idle rfl rfl ?_
                | (refine Reg.WT.yield (v := ?_) rfl rfl ?_ ?_
                   rotate_left
                   · intro w' _ hS; go_simp; (try go_bits); (first | rfl | rw [if_pos (by omega)]))
              simp only [Act.put, List.setIfInBounds_toArray, List.set_cons_zero, List.set_cons_succ]
            intro w2 hS
            subst hS
            clear z0 z1
            go_wp2
            go_roundw
            case rel => exact ⟨k + 1, hlt, by go_num, B2.out.drew, t2.out.drew⟩
            case measure => simp [intOf]; omega
          · rw [show std f y h = false from by unfold std; simp; intros; omega] at B2 t2
            have d3 : decide (y < f.y + f.h) = false := by simp; omega
            refine Reg.region (by kernel_rfl) 35 [] (fun _ w' => w' = wr.drew) (by kernel_rfl) (by kernel_rfl) rfl ?_
            iterate 35
              first
                | refine Reg.WT.idle rfl rfl ?_
                | (refine Reg.WT.yield (v := ?_) rfl rfl ?_ ?_
                   rotate_left
                   · intro w' _ hS; go_simp; (try go_bits); (first | rfl | rw [if_pos (by omega)]))
              simp only [Act.put, List.setIfInBounds_toArray, List.set_cons_zero, List.set_cons_succ]
            intro w2 hS
            subst hS
            clear z0 z1
            go_wp2
            go_roundw
            case rel => exact ⟨k + 1, hlt, by go_num, B2.out.drew, t2.out.drew⟩
            case measure => simp [intOf]; omega
        · rw [show std f y h = false from by unfold std; simp; intros; omega] at B2 t2
          have d3 : decide (f.y < y + h) = false := by simp; omega
          refine Reg.region (by kernel_rfl) 35 [] (fun _ w' => w' = wr.drew) (by kernel_rfl) (by kernel_rfl) rfl ?_
          iterate 35
            first
              | refine Reg.WT.idle rfl rfl ?_
              | (refine Reg.WT.yield (v := ?_) rfl rfl ?_ ?_
                 rotate_left
                 · intro w' _ hS; go_simp; (try go_bits); (first | rfl | rw [if_pos (by omega)]))
            simp only [Act.put, List.setIfInBounds_toArray, List.set_cons_zero, List.set_cons_succ]
          intro w2 hS
          subst hS
          clear z0 z1
          go_wp2
          go_roundw
          case rel => exact ⟨k + 1, hlt, by go_num, B2.out.drew, t2.out.drew⟩
          case measure => simp [intOf]; omega
      · rw [show std f y h = false from by unfold std; simp; intros; omega] at B2 t2
        have d3 : decide (0 < f.h) = false := by simp; omega
        refine Reg.region (by kernel_rfl) 35 [] (fun _ w' => w' = wr.drew) (by kernel_rfl) (by kernel_rfl) rfl ?_
        iterate 35
          first
            | refine Reg.WT.idle rfl rfl ?_
            | (refine Reg.WT.yield (v := ?_) rfl rfl ?_ ?_
               rotate_left
               · intro w' _ hS; go_simp; (try go_bits); (first | rfl | rw [if_pos (by omega)]))
          simp only [Act.put, List.setIfInBounds_toArray, List.set_cons_zero, List.set_cons_succ]
        intro w2 hS
        subst hS
        clear z0 z1
        go_wp2
        go_roundw
        case rel => exact ⟨k + 1, hlt, by go_num, B2.out.drew, t2.out.drew⟩
        case measure => simp [intOf]; omega
    · obtain rfl : k = n := by omega
      have hrow := B.out.row (by simp [sf_len HN.out hk]; omega)
      have e : some_flags l y h k k = flags l y h := by
        unfold some_flags flags; rw [List.take_of_length_le (by have := HN.out; omega)]; simp
      simp only [e] at hrow
      have hrow := hide hrow
      clear e
      go_wp2
      go_returns
      exact ⟨_, rfl, hrow.out, t.out⟩
theorem flags_len (l : List Flt) (y h : Int) : (flags l y h).length = l.length := by simp [flags]
theorem flag_at {w : World} {a : Option Addr} {l : List Flt} {y h : Int} (hr : Row w a (flags l y h)) (hp : 0 < l.length) : ∃ b off, a = some ⟨b, off, none⟩ ∧ b < w.heap.size ∧ ∀ i (hi : i < l.length), w.cell? ⟨b, off + i, none⟩ = some (.bool (std l[i] y h)) := by
  obtain ⟨b, off, ha, hb, hc⟩ := hr.2 (by rw [flags_len]; exact hp)
  exact ⟨b, off, ha, hb, fun i hi => (hc i (by rw [flags_len]; exact hi)).trans (by simp [flags])⟩

def TPost (l : List Flt) (y h p q : Int) (w : World) (r : Ending) (w' : World) : Prop :=
  r = .returned (.tuple #[.int .i64 (l.foldl (tstep y h) (p, q)).1, .int .i64 (l.foldl (tstep y h) (p, q)).2]) ∧ Below w.heap.size w w'
set_option maxHeartbeats 2000000 in
theorem room_any (a : Option Addr) (l : List Flt) (n c : Nat) (a2 : Option Addr) (c2 : Nat) (y h p q : Int) (w : World) (hr : FRow w a l) (hn : l.length = n) (hl : ∀ f ∈ l, Fit f) (hr2 : Row w a2 (flags l y h)) (hp : Far p) (hq : Far q) :
    Calls Try.prog 16 #[.slice a n c, .slice a2 n c2, .int .i64 p, .int .i64 q] w (TPost l y h p q w) := by
  have hlen := hr.len
  rw [hn] at hlen
  have HN := hide hn
  have HL := hide hl
  have HF := hide (fun (k : Nat) => tall_far (l := l.take k) (y := y) (h := h) (fun f hf => hl f (List.mem_of_mem_take hf)) hp hq)
  clear hn hp hq hl
  go_enter Try.func16, Try.ntmps16
  go_wp2
  go_loopw [2, 3, 10] (fun u v i wr => ∃ k : Nat, k ≤ n ∧ i = .int .i64 k ∧ u = .int .i64 ((l.take k).foldl (tstep y h) (p, q)).1 ∧ v = .int .i64 ((l.take k).foldl (tstep y h) (p, q)).2 ∧ Below w.heap.size w wr) (fun _ _ i _ => n - (intOf i).toNat)
  case atStart => exact ⟨0, Nat.zero_le _, rfl, rfl, rfl, Below.refl _ _⟩
  case round =>
    obtain ⟨k, hk, rfl, rfl, rfl, hbel⟩ := hrel
    have t := hide hbel
    by_cases hlt : k < n
    · obtain ⟨b, off, rfl, hbw, hcell⟩ := f_at (hr.below hbel) (by have := HN.out; omega)
      obtain ⟨b2, off2, rfl, hbw2, hcell2⟩ := flag_at (hr2.below hbel) (by have := HN.out; omega)
      have hlt' : k < l.length := by have := HN.out; omega
      obtain ⟨x0, x1, x2, x3, x4⟩ := hcell k hlt'
      have x5 := hcell2 k hlt'
      have HT := hide (fold_take (tstep y h) (p, q) l hlt')
      have hfit := HL.out _ (List.getElem_mem hlt')
      obtain ⟨hf1, hf2⟩ := HF.out k
      unfold Far at hf1 hf2
      obtain ⟨s, hs⟩ : ∃ s, s = (l.take k).foldl (tstep y h) (p, q) := ⟨_, rfl⟩
      rw [← hs] at HT hf1 hf2 ⊢
      clear hs hbel hcell hcell2
      generalize l[k] = f at x0 x1 x2 x3 x4 x5 HT hfit
      obtain ⟨hside, hx, hyb, hw, hh⟩ := hfit
      cases hb : std f y h with
      | false =>
        rw [show tstep y h s f = s from by unfold tstep; rw [hb]; rfl] at HT
        rw [hb] at x5
        clear hb
        go_wp2
        go_roundw
        case rel => exact ⟨k + 1, hlt, by go_num, by rw [HT.out], by rw [HT.out], t.out⟩
        case measure => simp [intOf]; omega
      | true =>
        rw [show tstep y h s f = room1 s f from by unfold tstep; rw [hb]; rfl] at HT
        rw [hb] at x5
        clear hb
        rcases hside with hs | hs
        · have HT2 : Hid (room1 s f = (max s.1 (f.x + f.w), s.2)) := hide (by unfold room1; rw [if_neg (by omega)])
          rw [HT2.out] at HT
          rw [hs] at x0
          clear hs HT2
          go_wp2
          have z0 := keepd x1
          have z1 := keepd x3
          refine Reg.region (by kernel_rfl) 14 [] (fun _ w' => w' = wr.drew) (by kernel_rfl) (by kernel_rfl) rfl ?_
          iterate 13
            refine Reg.WT.yield (v := ?_) rfl rfl ?_ ?_
            rotate_left
            · intro w' _ hS; go_simp; (try go_bits); (first | rfl | rw [if_pos (by omega)])
            simp only [Act.put, List.setIfInBounds_toArray, List.set_cons_zero, List.set_cons_succ]
          iterate 1
            refine Reg.WT.yield (v := ?_) rfl rfl ?_ ?_
            rotate_left
            · intro w' _ hS; go_simp; (try go_bits); (first | rfl | rw [if_pos (by omega)])
            simp only [Act.put, List.setIfInBounds_toArray, List.set_cons_zero, List.set_cons_succ]
          intro w2 hS
          subst hS
          clear z0 z1
          go_wp2
          go_roundw
          case rel => exact ⟨k + 1, hlt, by go_num, by rw [HT.out], by rw [HT.out], t.out.drew⟩
          case measure => simp [intOf]; omega
        · have HT2 : Hid (room1 s f = (s.1, min s.2 f.x)) := hide (by unfold room1; rw [if_pos hs])
          rw [HT2.out] at HT
          rw [hs] at x0
          clear hs HT2
          go_wp2
          go_roundw
          case rel => exact ⟨k + 1, hlt, by go_num, by rw [HT.out], by rw [HT.out], t.out⟩
          case measure => simp [intOf]; omega
    · obtain rfl : k = n := by omega
      have htk := hide (show l.take k = l from List.take_of_length_le (by have := HN.out; omega))
      go_wp2
      go_returns
      exact ⟨by rw [htk.out]; rfl, t.out⟩

theorem rtall_any (a : Option Addr) (l : List Flt) (n c : Nat) (y h p q : Int) (w : World) (hr : FRow w a l) (hn : l.length = n) (hl : ∀ f ∈ l, Fit f) (hy : Fay y) (hh : Far h) (hp : Far p) (hq : Far q) (hn2 : n ≤ 1000) :
    Calls Try.prog 12 #[.slice a n c, .int .i64 y, .int .i64 h, .int .i64 p, .int .i64 q] w fun r w' => r = .returned (.tuple #[.int .i64 (tall l y h p q).1, .int .i64 (tall l y h p q).2]) ∧ Below w.heap.size w w' := by
  have HA := hide (fun W hW => at_any a l n c y (max h 1) W hW hn hl hy (by unfold Far at *; omega) hn2)
  have HR := hide (fun W a2 c2 hW h2 => room_any a l n c a2 c2 y (max h 1) p q W hW hn hl h2 hp hq)
  clear hn hl hy hp hq hh
  go_enter Try.func12, Try.ntmps12
  go_wp2_with fail
  refine (HA.out _ hr).mono ?_
  rintro r w2 ⟨g, rfl, hrow, k2⟩
  go_wp2_with fail
  refine (HR.out w2 _ _ (hr.below k2) hrow).mono ?_
  rintro r w3 ⟨rfl, k3⟩
  have t := hide (below_call k2 k3)
  clear k2 k3
  go_wp2
  go_returns
  exact ⟨rfl, t.out⟩

set_option maxHeartbeats 2000000 in
theorem rnext_any (a : Option Addr) (l : List Flt) (n c : Nat) (y : Int) (w : World) (hr : FRow w a l) (hn : l.length = n) (hl : ∀ f ∈ l, Fit f) (hy : Fay y) :
    Calls Try.prog 22 #[.slice a n c, .int .i64 y] w (NPost l y w) := by
  have hlen := hr.len
  rw [hn] at hlen
  have HN := hide hn
  have HL := hide hl
  unfold Fay at hy
  clear hn hl
  go_enter Try.func22, Try.ntmps22
  go_wp2
  go_loopw [6, 7, 8] (fun u v i wr => ∃ (k : Nat) (s : Int × Bool), k ≤ n ∧ i = .int .i64 k ∧ Hid (s = (l.take k).foldl (nstep y) (0, false)) ∧ u = .int .i64 s.1 ∧ v = .bool s.2 ∧ Below w.heap.size w wr) (fun _ _ i _ => n - (intOf i).toNat)
  case atStart => exact ⟨0, (0, false), Nat.zero_le _, rfl, rfl, rfl, rfl, Below.refl _ _⟩
  case round =>
    obtain ⟨k, s, hk, rfl, hs, rfl, rfl, hbel⟩ := hrel
    have t := hide hbel
    by_cases hlt : k < n
    · obtain ⟨b, off, rfl, hbw, hcell⟩ := f_at (hr.below hbel) (by have := HN.out; omega)
      have hlt' : k < l.length := by have := HN.out; omega
      obtain ⟨x0, x1, x2, x3, x4⟩ := hcell k hlt'
      have HT := hide (fold_take (nstep y) (0, false) l hlt')
      rw [← hs.out] at HT
      have hfit := HL.out _ (List.getElem_mem hlt')
      clear hbel hcell
      generalize l[k] = f at x0 x1 x2 x3 x4 HT hfit
      obtain ⟨_, hx, hyb, hw, hh⟩ := hfit
      obtain ⟨m, is⟩ := s
      go_wp2
      by_cases c1 : y < f.y + f.h
      · cases is with
        | false =>
          have HE : Hid (nstep y (m, false) f = (f.y + f.h, true)) := hide (if_pos ⟨c1, .inl rfl⟩)
          rw [HE.out] at HT
          clear HE
          have z0 := keepd x2
          have z1 := keepd x4
          refine Reg.region (by kernel_rfl) 12 [] (fun _ w' => w' = wr.drew) (by kernel_rfl) (by kernel_rfl) rfl ?_
          iterate 12
            refine Reg.WT.yield (v := ?_) rfl rfl ?_ ?_
            rotate_left
            · intro w' _ hS; go_simp; (try go_bits); (first | rfl | rw [if_pos (by omega)])
            simp only [Act.put, List.setIfInBounds_toArray, List.set_cons_zero, List.set_cons_succ]
          intro w2 hS
          subst hS
          clear z0 z1
          go_wp2
          go_roundw
          case rel => exact ⟨k + 1, (f.y + f.h, true), hlt, by go_num, hide HT.out.symm, rfl, rfl, t.out.drew⟩
          case measure => simp [intOf]; omega
        | true =>
          by_cases c3 : f.y + f.h < m
          · have HE : Hid (nstep y (m, true) f = (f.y + f.h, true)) := hide (if_pos ⟨c1, .inr c3⟩)
            rw [HE.out] at HT
            clear HE
            have z0 := keepd x2
            have z1 := keepd x4
            refine Reg.region (by kernel_rfl) 12 [] (fun _ w' => w' = wr.drew) (by kernel_rfl) (by kernel_rfl) rfl ?_
            iterate 12
              refine Reg.WT.yield (v := ?_) rfl rfl ?_ ?_
              rotate_left
              · intro w' _ hS; go_simp; (try go_bits); (first | rfl | rw [if_pos (by omega)])
              simp only [Act.put, List.setIfInBounds_toArray, List.set_cons_zero, List.set_cons_succ]
            intro w2 hS
            subst hS
            clear z0 z1
            go_wp2
            go_roundw
            case rel => exact ⟨k + 1, (f.y + f.h, true), hlt, by go_num, hide HT.out.symm, rfl, rfl, t.out.drew⟩
            case measure => simp [intOf]; omega
          · have HE : Hid (nstep y (m, true) f = (m, true)) := hide (if_neg (by simp; intros; omega))
            rw [HE.out] at HT
            clear HE
            have b3 : decide (f.y + f.h < m) = false := by simp; omega
            have z0 := keepd x2
            have z1 := keepd x4
            refine Reg.region (by kernel_rfl) 12 [] (fun _ w' => w' = wr.drew) (by kernel_rfl) (by kernel_rfl) rfl ?_
            iterate 12
              refine Reg.WT.yield (v := ?_) rfl rfl ?_ ?_
              rotate_left
              · intro w' _ hS; go_simp; (try go_bits); (first | rfl | rw [if_pos (by omega)])
              simp only [Act.put, List.setIfInBounds_toArray, List.set_cons_zero, List.set_cons_succ]
            intro w2 hS
            subst hS
            clear z0 z1
            go_wp2
            go_roundw
            case rel => exact ⟨k + 1, (m, true), hlt, by go_num, hide HT.out.symm, rfl, rfl, t.out.drew⟩
            case measure => simp [intOf]; omega
      · have HE : Hid (nstep y (m, is) f = (m, is)) := hide (if_neg (fun h => c1 h.1))
        rw [HE.out] at HT
        clear HE
        have b3 : decide (y < f.y + f.h) = false := by simp; omega
        have z0 := keepd x2
        have z1 := keepd x4
        refine Reg.region (by kernel_rfl) 12 [] (fun _ w' => w' = wr.drew) (by kernel_rfl) (by kernel_rfl) rfl ?_
        iterate 12
          refine Reg.WT.yield (v := ?_) rfl rfl ?_ ?_
          rotate_left
          · intro w' _ hS; go_simp; (try go_bits); (first | rfl | rw [if_pos (by omega)])
          simp only [Act.put, List.setIfInBounds_toArray, List.set_cons_zero, List.set_cons_succ]
        intro w2 hS
        subst hS
        clear z0 z1
        go_wp2
        go_roundw
        case rel => exact ⟨k + 1, (m, is), hlt, by go_num, hide HT.out.symm, rfl, rfl, t.out.drew⟩
        case measure => simp [intOf]; omega
    · obtain rfl : k = n := by omega
      have htk := hide (show l.take k = l from List.take_of_length_le (by have := HN.out; omega))
      rw [htk.out] at hs
      go_wp2
      go_returns
      exact ⟨by unfold nxt; rw [← hs.out]; rfl, t.out⟩
end Go.Proofs.Ytpdfeifnbeojcaa
