/- Walks: the room, the next bottom, the clearance. -/
import Derived.Test.YtdckhheinpfbjaaWalksA
namespace Go.Proofs.Ytdckhheinpfbjaa
open Go.RowKit

theorem stands_eq {f : Flt} {y h : Int} {b : Bool} (hb : std f y h = b) (hf : Fit f) (hy : Far y) (w : World) :
    Calls Try.prog 23 #[.agg #[.int .u8 f.s, .int .i64 f.x, .int .i64 f.y, .int .i64 f.w, .int .i64 f.h], .int .i64 y, .int .i64 h] w fun r w' => r = .returned (.bool b) ∧ Below w.heap.size w w' := by
  subst hb; exact stands_any f y h w hf hy

set_option maxHeartbeats 1000000 in
theorem tall_any (a : Option Addr) (l : List Flt) (n c : Nat) (y h p q : Int) (w : World) (hr : FRow w a l) (hn : l.length = n) (hl : ∀ f ∈ l, Fit f) (hy : Far y) (hp : Far p) (hq : Far q) (hh1 : -9223372036854775808 ≤ h) (hh2 : h ≤ 9223372036854775807) :
    Calls Try.prog 12 #[.slice a n c, .int .i64 y, .int .i64 h, .int .i64 p, .int .i64 q] w fun r w' => r = .returned (.tuple #[.int .i64 (tall l y h p q).1, .int .i64 (tall l y h p q).2]) ∧ Below w.heap.size w w' := by
  have hlen := hr.len
  rw [hn] at hlen
  have HN := hide hn
  have HY := hide hy
  have HL := hide hl
  have HF := hide (fun (k : Nat) => tall_far (l := l.take k) (y := y) (h := max h 1) (fun f hf => hl f (List.mem_of_mem_take hf)) hp hq)
  clear hn hy hp hq hl
  go_enter Try.func12, Try.ntmps12
  go_wp2
  go_loopw [10, 11, 18] (fun u v i wr => ∃ k : Nat, k ≤ n ∧ i = .int .i64 k ∧ u = .int .i64 ((l.take k).foldl (tstep y (max h 1)) (p, q)).1 ∧ v = .int .i64 ((l.take k).foldl (tstep y (max h 1)) (p, q)).2 ∧ Below w.heap.size w wr) (fun _ _ i _ => n - (intOf i).toNat)
  case atStart => exact ⟨0, Nat.zero_le _, rfl, rfl, rfl, Below.refl _ _⟩
  case round =>
    obtain ⟨k, hk, rfl, rfl, rfl, hbel⟩ := hrel
    have t := hide hbel
    by_cases hlt : k < n
    · obtain ⟨b, off, rfl, hbw, hcell⟩ := f_at (hr.below hbel) (by have := HN.out; omega)
      have hlt' : k < l.length := by have := HN.out; omega
      obtain ⟨x0, x1, x2, x3, x4⟩ := hcell k hlt'
      have HT := hide (fold_take (tstep y (max h 1)) (p, q) l hlt')
      have hfit := hide (HL.out _ (List.getElem_mem hlt'))
      obtain ⟨hf1, hf2⟩ := HF.out k
      unfold Far at hf1 hf2
      obtain ⟨s, hs⟩ : ∃ s, s = (l.take k).foldl (tstep y (max h 1)) (p, q) := ⟨_, rfl⟩
      rw [← hs] at HT hf1 hf2 ⊢
      clear hs hbel hcell
      generalize l[k] = f at x0 x1 x2 x3 x4 HT hfit
      have hst := hfit.out
      obtain ⟨hside, hx, hyb, hw, hh⟩ := hst
      cases hb : std f y (max h 1) with
      | false =>
        have HB := hide (stands_eq hb hfit.out HY.out)
        rw [show tstep y (max h 1) s f = s from by unfold tstep; rw [hb]; rfl] at HT
        clear hb
        go_wp2_with fail
        refine (HB.out _).mono ?_
        rintro r w2 ⟨rfl, k2⟩
        have t2 := hide (below_call (w := w) (t.out.alloc t.out.size _) k2)
        clear k2
        go_wp2
        go_roundw
        case rel => exact ⟨k + 1, hlt, by go_num, by rw [HT.out], by rw [HT.out], t2.out⟩
        case measure => simp [intOf]; omega
      | true =>
        have HB := hide (stands_eq hb hfit.out HY.out)
        rw [show tstep y (max h 1) s f = room1 s f from by unfold tstep; rw [hb]; rfl] at HT
        clear hb
        rcases hside with hs | hs
        · have HT2 : Hid (room1 s f = (max s.1 (f.x + f.w), s.2)) := hide (by unfold room1; rw [if_neg (by omega)])
          rw [HT2.out] at HT
          have HS := hide hs
          clear hs HT2
          go_wp2_with fail
          refine (HB.out _).mono ?_
          rintro r w2 ⟨rfl, k2⟩
          have t2 := hide (below_call (w := w) (t.out.alloc t.out.size _) k2)
          have y0 := k2.cell (p := ⟨wr.heap.size, 0, none⟩) (by simp)
          have y1 := k2.cell (p := ⟨wr.heap.size, 1, none⟩) (by simp)
          have y3 := k2.cell (p := ⟨wr.heap.size, 3, none⟩) (by simp)
          rw [HS.out] at y0
          simp at y0 y1 y3
          clear k2
          go_wp2
          go_roundw
          case rel => exact ⟨k + 1, hlt, by go_num, by rw [HT.out], by rw [HT.out], t2.out⟩
          case measure => simp [intOf]; omega
        · have HT2 : Hid (room1 s f = (s.1, min s.2 f.x)) := hide (by unfold room1; rw [if_pos hs])
          rw [HT2.out] at HT
          have HS := hide hs
          clear hs HT2
          go_wp2_with fail
          refine (HB.out _).mono ?_
          rintro r w2 ⟨rfl, k2⟩
          have t2 := hide (below_call (w := w) (t.out.alloc t.out.size _) k2)
          have y0 := k2.cell (p := ⟨wr.heap.size, 0, none⟩) (by simp)
          have y1 := k2.cell (p := ⟨wr.heap.size, 1, none⟩) (by simp)
          rw [HS.out] at y0
          simp at y0 y1
          clear k2
          go_wp2
          go_roundw
          case rel => exact ⟨k + 1, hlt, by go_num, by rw [HT.out], by rw [HT.out], t2.out⟩
          case measure => simp [intOf]; omega
    · obtain rfl : k = n := by omega
      have htk := hide (show l.take k = l from List.take_of_length_le (by have := HN.out; omega))
      go_wp2
      go_returns
      exact ⟨by rw [htk.out]; rfl, t.out⟩
end Go.Proofs.Ytdckhheinpfbjaa
