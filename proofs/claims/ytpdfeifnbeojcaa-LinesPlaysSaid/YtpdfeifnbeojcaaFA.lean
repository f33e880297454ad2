/- Walks: who stands, the room, the next bottom. (Written by conv16.py from s15.) -/
import Derived.Test.YtpdfeifnbeojcaaRows
import Derived.Test.YtpdfeifnbeojcaaFl
import Derived.WalkMore
namespace Go.Proofs.Ytpdfeifnbeojcaa
open Go.RowKit
def Fay (x : Int) : Prop := -6000000000000000000 ≤ x ∧ x ≤ 6000000000000000000
@[go_sem high] theorem run_max2 {P : Program} {w : World} (ts : Array TypeId) (t : TypeId) (k k' : IntKind) (x y : Int) : (Builtin.max_ ts t #[.int k x, .int k' y]).run P w = .ok (.int k (max x y)) w := by
  rw [run_max_int2]
  congr 2
  simp only [Int.max_def]
  split <;> split <;> omega
@[go_sem high] theorem run_min2 {P : Program} {w : World} (ts : Array TypeId) (t : TypeId) (k k' : IntKind) (x y : Int) : (Builtin.min_ ts t #[.int k x, .int k' y]).run P w = .ok (.int k (min x y)) w := by
  rw [run_min_int2]
  congr 2
  simp only [Int.min_def]
  split <;> split <;> omega
def fagg (f : Flt) : Value := .agg #[.int .u8 f.s, .int .i64 f.x, .int .i64 f.y, .int .i64 f.w, .int .i64 f.h]
def FRow (w : World) (a : Option Addr) (l : List Flt) : Prop := RowS w a 5 (l.map fcell)
theorem FRow.below {w w' : World} {a : Option Addr} {l : List Flt} (h : FRow w a l) (hb : Below w.heap.size w w') : FRow w' a l := RowS.below h hb
theorem FRow.len {w : World} {a : Option Addr} {l : List Flt} (h : FRow w a l) : l.length ≤ 9223372036854775807 := by have := RowS.mono_len h; rwa [List.length_map] at this
theorem f_at {w : World} {a : Option Addr} {l : List Flt} (h : FRow w a l) (hp : 0 < l.length) : ∃ b off, a = some ⟨b, off, none⟩ ∧ b < w.heap.size ∧
    ∀ i (hi : i < l.length), w.cell? ⟨b, off + i * 5, none⟩ = some (.int .u8 l[i].s) ∧ w.cell? ⟨b, off + i * 5 + 1, none⟩ = some (.int .i64 l[i].x) ∧ w.cell? ⟨b, off + i * 5 + 2, none⟩ = some (.int .i64 l[i].y) ∧
      w.cell? ⟨b, off + i * 5 + 3, none⟩ = some (.int .i64 l[i].w) ∧ w.cell? ⟨b, off + i * 5 + 4, none⟩ = some (.int .i64 l[i].h) := by
  obtain ⟨b, off, ha, hb, hc⟩ := RowS.at_ h (by simpa using hp)
  refine ⟨b, off, ha, hb, fun i hi => ⟨?_, ?_, ?_, ?_, ?_⟩⟩
  · have := hc i (by simpa using hi) 0 (by simp [fcell]); simpa [fcell] using this
  · have := hc i (by simpa using hi) 1 (by simp [fcell]); simpa [fcell] using this
  · have := hc i (by simpa using hi) 2 (by simp [fcell]); simpa [fcell] using this
  · have := hc i (by simpa using hi) 3 (by simp [fcell]); simpa [fcell] using this
  · have := hc i (by simpa using hi) 4 (by simp [fcell]); simpa [fcell] using this
theorem fold_take {α β : Type} (f : β → α → β) (z : β) (l : List α) {k : Nat} (h : k < l.length) : (l.take (k + 1)).foldl f z = f ((l.take k).foldl f z) l[k] := by
  rw [List.take_succ_eq_append_getElem h, List.foldl_append]; rfl

theorem stands_any (f : Flt) (y h : Int) (w : World) (hf : Fit f) (hy : Fay y) :
    Calls Try.prog 26 #[.agg #[.int .u8 f.s, .int .i64 f.x, .int .i64 f.y, .int .i64 f.w, .int .i64 f.h], .int .i64 y, .int .i64 h] w fun r w' => r = .returned (.bool (std f y h)) ∧ Below w.heap.size w w' := by
  obtain ⟨_, hx, hyb, hw, hh⟩ := hf
  unfold Fay at hy
  obtain ⟨s, x, fy, fw, fh⟩ := f
  simp only at hx hyb hw hh ⊢
  by_cases h1 : 0 < fh
  · by_cases h2 : y < fy + fh
    · by_cases h3 : fy - y < h
      · rw [show std ⟨s, x, fy, fw, fh⟩ y h = true from by unfold std; simp; exact ⟨h1, h2, h3⟩]
        go_enter Try.func26, Try.ntmps26
        go_wp2
        go_returns
        exact ⟨rfl, by go_grown⟩
      · rw [show std ⟨s, x, fy, fw, fh⟩ y h = false from by unfold std; simp; intros; omega]
        have b3 : decide (fy - y < h) = false := by simp; omega
        go_enter Try.func26, Try.ntmps26
        go_wp2
        go_returns
        exact ⟨by first | rfl | (simp; omega), by go_grown⟩
    · rw [show std ⟨s, x, fy, fw, fh⟩ y h = false from by unfold std; simp; intros; omega]
      have b3 : decide (y < fy + fh) = false := by simp; omega
      go_enter Try.func26, Try.ntmps26
      go_wp2
      go_returns
      exact ⟨rfl, by go_grown⟩
  · rw [show std ⟨s, x, fy, fw, fh⟩ y h = false from by unfold std; simp; intros; omega]
    have b3 : decide (0 < fh) = false := by simp; omega
    go_enter Try.func26, Try.ntmps26
    go_wp2
    go_returns
    exact ⟨rfl, by go_grown⟩
theorem stands_eq {f : Flt} {y h : Int} {b : Bool} (hb : std f y h = b) (hf : Fit f) (hy : Fay y) (w : World) :
    Calls Try.prog 26 #[.agg #[.int .u8 f.s, .int .i64 f.x, .int .i64 f.y, .int .i64 f.w, .int .i64 f.h], .int .i64 y, .int .i64 h] w fun r w' => r = .returned (.bool b) ∧ Below w.heap.size w w' := by
  subst hb; exact stands_any f y h w hf hy

set_option maxHeartbeats 1000000 in
theorem tall_any (a : Option Addr) (l : List Flt) (n c : Nat) (y h p q : Int) (w : World) (hr : FRow w a l) (hn : l.length = n) (hl : ∀ f ∈ l, Fit f) (hy : Fay y) (hp : Far p) (hq : Far q) (hh1 : -9223372036854775808 ≤ h) (hh2 : h ≤ 9223372036854775807) :
    Calls Try.prog 23 #[.slice a n c, .int .i64 y, .int .i64 h, .int .i64 p, .int .i64 q] w fun r w' => r = .returned (.tuple #[.int .i64 (tall l y h p q).1, .int .i64 (tall l y h p q).2]) ∧ Below w.heap.size w w' := by
  have hlen := hr.len
  rw [hn] at hlen
  have HN := hide hn
  have HY := hide hy
  have HL := hide hl
  have HF := hide (fun (k : Nat) => tall_far (l := l.take k) (y := y) (h := max h 1) (fun f hf => hl f (List.mem_of_mem_take hf)) hp hq)
  clear hn hy hp hq hl
  go_enter Try.func23, Try.ntmps23
  go_wp2
  go_loopw [10, 11, 18] (fun u v i wr => ∃ k : Nat, k ≤ n ∧ i = .int .i64 k ∧ u = .int .i64 ((l.take k).foldl (tstep y (max h 1)) (p, q)).1 ∧ v = .int .i64 ((l.take k).foldl (tstep y (max h 1)) (p, q)).2 ∧ Below w.heap.size w wr) (fun _ _ i _ => n - (intOf i).toNat)
  case atStart => exact ⟨0, Nat.zero_le _, rfl, rfl, rfl, Below.refl _ _⟩
  case round =>
    obtain ⟨k, hk, rfl, rfl, rfl, hbel⟩ := hrel
    have t := hide hbel
    by_cases hlt : k < n
    · obtain ⟨b, off, rfl, hbw, hcell⟩ := f_at (hr.below hbel) (by have := HN.out; omega)
      have hlt' : k < l.length := by have := HN.out; omega
      obtain ⟨x0, x1, x2, x3, x4⟩ := hcell k hlt'
      have HT := hide (fold_take (tstep y (max h 1)) (p, q) l hlt')
      have hfit := hide (HL.out _ (List.getElem_mem hlt'))
      obtain ⟨hf1, hf2⟩ := HF.out k
      unfold Far at hf1 hf2
      obtain ⟨s, hs⟩ : ∃ s, s = (l.take k).foldl (tstep y (max h 1)) (p, q) := ⟨_, rfl⟩
      rw [← hs] at HT hf1 hf2 ⊢
      clear hs hbel hcell
      generalize l[k] = f at x0 x1 x2 x3 x4 HT hfit
      have hst := hfit.out
      obtain ⟨hside, hx, hyb, hw, hh⟩ := hst
      cases hb : std f y (max h 1) with
      | false =>
        have HB := hide (stands_eq hb hfit.out HY.out)
        rw [show tstep y (max h 1) s f = s from by unfold tstep; rw [hb]; rfl] at HT
        clear hb
        go_wp2_with fail
        refine (HB.out _).mono ?_
        rintro r w2 ⟨rfl, k2⟩
        have t2 := hide (below_call (w := w) (t.out.alloc t.out.size _) k2)
        clear k2
        go_wp2
        go_roundw
        case rel => exact ⟨k + 1, hlt, by go_num, by rw [HT.out], by rw [HT.out], t2.out⟩
        case measure => simp [intOf]; omega
      | true =>
        have HB := hide (stands_eq hb hfit.out HY.out)
        rw [show tstep y (max h 1) s f = room1 s f from by unfold tstep; rw [hb]; rfl] at HT
        clear hb
        rcases hside with hs | hs
        · have HT2 : Hid (room1 s f = (max s.1 (f.x + f.w), s.2)) := hide (by unfold room1; rw [if_neg (by omega)])
          rw [HT2.out] at HT
          have HS := hide hs
          clear hs HT2
          go_wp2_with fail
          refine (HB.out _).mono ?_
          rintro r w2 ⟨rfl, k2⟩
          have t2 := hide (below_call (w := w) (t.out.alloc t.out.size _) k2)
          have y0 := k2.cell (p := ⟨wr.heap.size, 0, none⟩) (by simp)
          have y1 := k2.cell (p := ⟨wr.heap.size, 1, none⟩) (by simp)
          have y3 := k2.cell (p := ⟨wr.heap.size, 3, none⟩) (by simp)
          rw [HS.out] at y0
          simp at y0 y1 y3
          clear k2
          go_wp2
          go_roundw
          case rel => exact ⟨k + 1, hlt, by go_num, by rw [HT.out], by rw [HT.out], t2.out⟩
          case measure => simp [intOf]; omega
        · have HT2 : Hid (room1 s f = (s.1, min s.2 f.x)) := hide (by unfold room1; rw [if_pos hs])
          rw [HT2.out] at HT
          have HS := hide hs
          clear hs HT2
          go_wp2_with fail
          refine (HB.out _).mono ?_
          rintro r w2 ⟨rfl, k2⟩
          have t2 := hide (below_call (w := w) (t.out.alloc t.out.size _) k2)
          have y0 := k2.cell (p := ⟨wr.heap.size, 0, none⟩) (by simp)
          have y1 := k2.cell (p := ⟨wr.heap.size, 1, none⟩) (by simp)
          rw [HS.out] at y0
          simp at y0 y1
          clear k2
          go_wp2
          go_roundw
          case rel => exact ⟨k + 1, hlt, by go_num, by rw [HT.out], by rw [HT.out], t2.out⟩
          case measure => simp [intOf]; omega
    · obtain rfl : k = n := by omega
      have htk := hide (show l.take k = l from List.take_of_length_le (by have := HN.out; omega))
      go_wp2
      go_returns
      exact ⟨by rw [htk.out]; rfl, t.out⟩
def NPost (l : List Flt) (y : Int) (w : World) (r : Ending) (w' : World) : Prop := r = .returned (.tuple #[.int .i64 (nxt l y).1, .bool (nxt l y).2]) ∧ Below w.heap.size w w'
set_option maxHeartbeats 1000000 in
theorem next_any (a : Option Addr) (l : List Flt) (n c : Nat) (y : Int) (w : World) (hr : FRow w a l) (hn : l.length = n) (hl : ∀ f ∈ l, Fit f) (hy : Fay y) :
    Calls Try.prog 24 #[.slice a n c, .int .i64 y] w (NPost l y w) := by
  have hlen := hr.len
  rw [hn] at hlen
  have HN := hide hn
  have HL := hide hl
  unfold Fay at hy
  clear hn hl
  go_enter Try.func24, Try.ntmps24
  go_wp2
  go_loopw [4, 5, 11] (fun u v i wr => ∃ (k : Nat) (s : Int × Bool), k ≤ n ∧ i = .int .i64 k ∧ Hid (s = (l.take k).foldl (nstep y) (0, false)) ∧ u = .int .i64 s.1 ∧ v = .bool s.2 ∧ Below w.heap.size w wr) (fun _ _ i _ => n - (intOf i).toNat)
  case atStart => exact ⟨0, (0, false), Nat.zero_le _, rfl, rfl, rfl, rfl, Below.refl _ _⟩
  case round =>
    obtain ⟨k, s, hk, rfl, hs, rfl, rfl, hbel⟩ := hrel
    have t := hide hbel
    by_cases hlt : k < n
    · obtain ⟨b, off, rfl, hbw, hcell⟩ := f_at (hr.below hbel) (by have := HN.out; omega)
      have hlt' : k < l.length := by have := HN.out; omega
      obtain ⟨x0, x1, x2, x3, x4⟩ := hcell k hlt'
      have HT := hide (fold_take (nstep y) (0, false) l hlt')
      rw [← hs.out] at HT
      have hfit := HL.out _ (List.getElem_mem hlt')
      clear hbel hcell
      generalize l[k] = f at x0 x1 x2 x3 x4 HT hfit
      obtain ⟨_, hx, hyb, hw, hh⟩ := hfit
      have st : Hid (∀ o, Below w.heap.size w (wr.alloc o)) := hide (fun o => t.out.alloc t.out.size o)
      obtain ⟨m, is⟩ := s
      by_cases c1 : y < f.y + f.h
      · cases is with
        | false =>
          have HE : Hid (nstep y (m, false) f = (f.y + f.h, true)) := hide (if_pos ⟨c1, .inl rfl⟩)
          rw [HE.out] at HT
          clear HE
          go_wp2
          go_roundw
          case rel => exact ⟨k + 1, (f.y + f.h, true), hlt, by go_num, hide HT.out.symm, rfl, rfl, st.out _⟩
          case measure => simp [intOf]; omega
        | true =>
          by_cases c3 : f.y + f.h < m
          · have HE : Hid (nstep y (m, true) f = (f.y + f.h, true)) := hide (if_pos ⟨c1, .inr c3⟩)
            rw [HE.out] at HT
            clear HE
            go_wp2
            go_roundw
            case rel => exact ⟨k + 1, (f.y + f.h, true), hlt, by go_num, hide HT.out.symm, rfl, rfl, st.out _⟩
            case measure => simp [intOf]; omega
          · have HE : Hid (nstep y (m, true) f = (m, true)) := hide (if_neg (by simp; intros; omega))
            rw [HE.out] at HT
            clear HE
            have b3 : decide (f.y + f.h < m) = false := by simp; omega
            go_wp2
            go_roundw
            case rel => exact ⟨k + 1, (m, true), hlt, by go_num, hide HT.out.symm, rfl, rfl, st.out _⟩
            case measure => simp [intOf]; omega
      · have HE : Hid (nstep y (m, is) f = (m, is)) := hide (if_neg (fun h => c1 h.1))
        rw [HE.out] at HT
        clear HE
        have b3 : decide (y < f.y + f.h) = false := by simp; omega
        go_wp2
        go_roundw
        case rel => exact ⟨k + 1, (m, is), hlt, by go_num, hide HT.out.symm, rfl, rfl, st.out _⟩
        case measure => simp [intOf]; omega
    · obtain rfl : k = n := by omega
      have htk := hide (show l.take k = l from List.take_of_length_le (by have := HN.out; omega))
      rw [htk.out] at hs
      go_wp2
      go_returns
      exact ⟨by unfold nxt; rw [← hs.out]; rfl, t.out⟩

end Go.Proofs.Ytpdfeifnbeojcaa
