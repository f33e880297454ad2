/- Walks: band, next, some, clear. -/
import Derived.Test.YtdckhheinpfbjaaWalksB
namespace Go.Proofs.Ytdckhheinpfbjaa
open Go.RowKit

theorem band_any (a : Option Addr) (l : List Flt) (n c : Nat) (y p q : Int) (w : World) (hr : FRow w a l) (hn : l.length = n) (hl : ∀ f ∈ l, Fit f) (hy : Far y) (hp : Far p) (hq : Far q) :
    Calls Try.prog 10 #[.slice a n c, .int .i64 y, .int .i64 p, .int .i64 q] w fun r w' => r = .returned (.tuple #[.int .i64 (tall l y 1 p q).1, .int .i64 (tall l y 1 p q).2]) ∧ Below w.heap.size w w' := by
  have HT := hide (tall_any a l n c y 1 p q w hr hn hl hy hp hq (by omega) (by omega))
  clear hn hl hy hp hq
  go_enter Try.func10, Try.ntmps10
  go_wp2_with fail
  refine HT.out.mono ?_
  rintro r w2 ⟨rfl, k2⟩
  go_wp2
  go_returns
  exact ⟨rfl, k2⟩

theorem someS_take {l : List Flt} {y : Int} {k : Nat} (h : k < l.length) : someS (l.take (k + 1)) y = (someS (l.take k) y || std l[k] y 1) := by
  unfold someS; rw [List.take_succ_eq_append_getElem h, List.any_append]; simp
theorem someS_of {l : List Flt} {y : Int} {k : Nat} (h : k < l.length) (hs : std l[k] y 1 = true) : someS l y = true := by
  unfold someS; exact List.any_eq_true.2 ⟨_, List.getElem_mem h, hs⟩
set_option maxHeartbeats 1000000 in
theorem some_any (a : Option Addr) (l : List Flt) (n c : Nat) (y : Int) (w : World) (hr : FRow w a l) (hn : l.length = n) (hl : ∀ f ∈ l, Fit f) (hy : Far y) :
    Calls Try.prog 25 #[.slice a n c, .int .i64 y] w fun r w' => r = .returned (.bool (someS l y)) ∧ Below w.heap.size w w' := by
  have hlen := hr.len
  rw [hn] at hlen
  have HN := hide hn
  have HY := hide hy
  have HL := hide hl
  clear hn hy hl
  go_enter Try.func25, Try.ntmps25
  go_wp2
  go_loopw [9] (fun i wr => ∃ k : Nat, k ≤ n ∧ i = .int .i64 k ∧ Hid (someS (l.take k) y = false) ∧ Below w.heap.size w wr) (fun i _ => n - (intOf i).toNat)
  case atStart => exact ⟨0, Nat.zero_le _, rfl, rfl, Below.refl _ _⟩
  case round =>
    obtain ⟨k, hk, rfl, hs, hbel⟩ := hrel
    have t := hide hbel
    by_cases hlt : k < n
    · obtain ⟨b, off, rfl, hbw, hcell⟩ := f_at (hr.below hbel) (by have := HN.out; omega)
      have hlt' : k < l.length := by have := HN.out; omega
      obtain ⟨x0, x1, x2, x3, x4⟩ := hcell k hlt'
      have HT := hide (someS_take (y := y) hlt')
      have HO := hide (someS_of (y := y) hlt')
      have hfit := hide (HL.out _ (List.getElem_mem hlt'))
      rw [hs.out] at HT
      clear hbel hcell
      generalize l[k] = f at x0 x1 x2 x3 x4 HT hfit HO
      cases hb : std f y 1 with
      | false =>
        have HB := hide (stands_eq hb hfit.out HY.out)
        rw [hb] at HT
        clear hb
        go_wp2_with fail
        refine (HB.out _).mono ?_
        rintro r w2 ⟨rfl, k2⟩
        have t2 := hide (below_call (w := w) (t.out.alloc t.out.size _) k2)
        clear k2
        go_wp2
        go_roundw
        case rel => exact ⟨k + 1, hlt, by go_num, HT, t2.out⟩
        case measure => simp [intOf]; omega
      | true =>
        have HB := hide (stands_eq hb hfit.out HY.out)
        have HO' := hide (HO.out hb)
        clear hb HO HT
        go_wp2_with fail
        refine (HB.out _).mono ?_
        rintro r w2 ⟨rfl, k2⟩
        have t2 := hide (below_call (w := w) (t.out.alloc t.out.size _) k2)
        clear k2
        go_wp2
        go_returns
        exact ⟨by rw [HO'.out]; rfl, t2.out⟩
    · obtain rfl : k = n := by omega
      have htk := hide (show l.take k = l from List.take_of_length_le (by have := HN.out; omega))
      go_wp2
      go_returns
      exact ⟨by rw [← htk.out, hs.out]; rfl, t.out⟩

def NPost (l : List Flt) (y : Int) (w : World) (r : Ending) (w' : World) : Prop := r = .returned (.tuple #[.int .i64 (nxt l y).1, .bool (nxt l y).2]) ∧ Below w.heap.size w w'
set_option maxHeartbeats 1000000 in
theorem next_any (a : Option Addr) (l : List Flt) (n c : Nat) (y : Int) (w : World) (hr : FRow w a l) (hn : l.length = n) (hl : ∀ f ∈ l, Fit f) (hy : Far y) :
    Calls Try.prog 14 #[.slice a n c, .int .i64 y] w (NPost l y w) := by
  have hlen := hr.len
  rw [hn] at hlen
  have HN := hide hn
  have HL := hide hl
  unfold Far at hy
  clear hn hl
  go_enter Try.func14, Try.ntmps14
  go_wp2
  go_loopw [4, 5, 11] (fun u v i wr => ∃ (k : Nat) (s : Int × Bool), k ≤ n ∧ i = .int .i64 k ∧ Hid (s = (l.take k).foldl (nstep y) (0, false)) ∧ u = .int .i64 s.1 ∧ v = .bool s.2 ∧ Below w.heap.size w wr) (fun _ _ i _ => n - (intOf i).toNat)
  case atStart => exact ⟨0, (0, false), Nat.zero_le _, rfl, rfl, rfl, rfl, Below.refl _ _⟩
  case round =>
    obtain ⟨k, s, hk, rfl, hs, rfl, rfl, hbel⟩ := hrel
    have t := hide hbel
    by_cases hlt : k < n
    · obtain ⟨b, off, rfl, hbw, hcell⟩ := f_at (hr.below hbel) (by have := HN.out; omega)
      have hlt' : k < l.length := by have := HN.out; omega
      obtain ⟨x0, x1, x2, x3, x4⟩ := hcell k hlt'
      have HT := hide (fold_take (nstep y) (0, false) l hlt')
      rw [← hs.out] at HT
      have hfit := HL.out _ (List.getElem_mem hlt')
      clear hbel hcell
      generalize l[k] = f at x0 x1 x2 x3 x4 HT hfit
      obtain ⟨_, hx, hyb, hw, hh⟩ := hfit
      have st : Hid (∀ o, Below w.heap.size w (wr.alloc o)) := hide (fun o => t.out.alloc t.out.size o)
      obtain ⟨m, is⟩ := s
      by_cases c1 : y < f.y + f.h
      · cases is with
        | false =>
          have HE : Hid (nstep y (m, false) f = (f.y + f.h, true)) := hide (if_pos ⟨c1, .inl rfl⟩)
          rw [HE.out] at HT
          clear HE
          go_wp2
          go_roundw
          case rel => exact ⟨k + 1, (f.y + f.h, true), hlt, by go_num, hide HT.out.symm, rfl, rfl, st.out _⟩
          case measure => simp [intOf]; omega
        | true =>
          by_cases c3 : f.y + f.h < m
          · have HE : Hid (nstep y (m, true) f = (f.y + f.h, true)) := hide (if_pos ⟨c1, .inr c3⟩)
            rw [HE.out] at HT
            clear HE
            go_wp2
            go_roundw
            case rel => exact ⟨k + 1, (f.y + f.h, true), hlt, by go_num, hide HT.out.symm, rfl, rfl, st.out _⟩
            case measure => simp [intOf]; omega
          · have HE : Hid (nstep y (m, true) f = (m, true)) := hide (if_neg (by simp; intros; omega))
            rw [HE.out] at HT
            clear HE
            have b3 : decide (f.y + f.h < m) = false := by simp; omega
            go_wp2
            go_roundw
            case rel => exact ⟨k + 1, (m, true), hlt, by go_num, hide HT.out.symm, rfl, rfl, st.out _⟩
            case measure => simp [intOf]; omega
      · have HE : Hid (nstep y (m, is) f = (m, is)) := hide (if_neg (fun h => c1 h.1))
        rw [HE.out] at HT
        clear HE
        have b3 : decide (y < f.y + f.h) = false := by simp; omega
        go_wp2
        go_roundw
        case rel => exact ⟨k + 1, (m, is), hlt, by go_num, hide HT.out.symm, rfl, rfl, st.out _⟩
        case measure => simp [intOf]; omega
    · obtain rfl : k = n := by omega
      have htk := hide (show l.take k = l from List.take_of_length_le (by have := HN.out; omega))
      rw [htk.out] at hs
      go_wp2
      go_returns
      exact ⟨by unfold nxt; rw [← hs.out]; rfl, t.out⟩

def CPost (l : List Flt) (s y : Int) (w : World) (r : Ending) (w' : World) : Prop := r = .returned (.int .i64 (clr l s y)) ∧ Below w.heap.size w w'
set_option maxHeartbeats 2000000 in
theorem clear_any (a : Option Addr) (l : List Flt) (n c : Nat) (s y : Int) (w : World) (hr : FRow w a l) (hn : l.length = n) (hl : ∀ f ∈ l, Fit f) :
    Calls Try.prog 18 #[.slice a n c, .int .u8 s, .int .i64 y] w (CPost l s y w) := by
  have hlen := hr.len
  rw [hn] at hlen
  have HN := hide hn
  have HL := hide hl
  clear hn hl
  by_cases s3 : s = 3
  · subst s3
    go_enter Try.func18, Try.ntmps18
    go_wp2
    go_loopw [2, 18] (fun u i wr => ∃ k : Nat, k ≤ n ∧ i = .int .i64 k ∧ u = .int .i64 ((l.take k).foldl (cstep 3) y) ∧ Below w.heap.size w wr) (fun _ i _ => n - (intOf i).toNat)
    case atStart => exact ⟨0, Nat.zero_le _, rfl, rfl, Below.refl _ _⟩
    case round =>
      obtain ⟨k, hk, rfl, rfl, hbel⟩ := hrel
      have t := hide hbel
      by_cases hlt : k < n
      · obtain ⟨b, off, rfl, hbw, hcell⟩ := f_at (hr.below hbel) (by have := HN.out; omega)
        have hlt' : k < l.length := by have := HN.out; omega
        obtain ⟨x0, x1, x2, x3, x4⟩ := hcell k hlt'
        have HT := hide (fold_take (cstep 3) y l hlt')
        have hfit := HL.out _ (List.getElem_mem hlt')
        clear hbel hcell
        generalize (l.take k).foldl (cstep 3) y = z at HT ⊢
        generalize l[k] = f at x0 x1 x2 x3 x4 HT hfit
        obtain ⟨hsd, hx, hyb, hw, hh⟩ := hfit
        have st : Hid (∀ o, Below w.heap.size w (wr.alloc o)) := hide (fun o => t.out.alloc t.out.size o)
        rcases hsd with hsd | hsd
        · rw [hsd] at x0
          rw [show cstep 3 z f = max z (f.y + f.h) from by unfold cstep; rw [hsd]; simp <;> (intros; simp_all)] at HT
          clear hsd
          go_wp2
          go_roundw
          case rel => exact ⟨k + 1, hlt, by go_num, by rw [HT.out], st.out _⟩
          case measure => simp [intOf]; omega
        · rw [hsd] at x0
          rw [show cstep 3 z f = max z (f.y + f.h) from by unfold cstep; rw [hsd]; simp <;> (intros; simp_all)] at HT
          clear hsd
          go_wp2
          go_roundw
          case rel => exact ⟨k + 1, hlt, by go_num, by rw [HT.out], st.out _⟩
          case measure => simp [intOf]; omega
      · obtain rfl : k = n := by omega
        have htk := hide (show l.take k = l from List.take_of_length_le (by have := HN.out; omega))
        go_wp2
        go_returns
        exact ⟨by unfold clr; rw [htk.out]; rfl, t.out⟩
  by_cases s1 : s = 1
  · subst s1
    go_enter Try.func18, Try.ntmps18
    go_wp2
    go_loopw [2, 18] (fun u i wr => ∃ k : Nat, k ≤ n ∧ i = .int .i64 k ∧ u = .int .i64 ((l.take k).foldl (cstep 1) y) ∧ Below w.heap.size w wr) (fun _ i _ => n - (intOf i).toNat)
    case atStart => exact ⟨0, Nat.zero_le _, rfl, rfl, Below.refl _ _⟩
    case round =>
      obtain ⟨k, hk, rfl, rfl, hbel⟩ := hrel
      have t := hide hbel
      by_cases hlt : k < n
      · obtain ⟨b, off, rfl, hbw, hcell⟩ := f_at (hr.below hbel) (by have := HN.out; omega)
        have hlt' : k < l.length := by have := HN.out; omega
        obtain ⟨x0, x1, x2, x3, x4⟩ := hcell k hlt'
        have HT := hide (fold_take (cstep 1) y l hlt')
        have hfit := HL.out _ (List.getElem_mem hlt')
        clear hbel hcell
        generalize (l.take k).foldl (cstep 1) y = z at HT ⊢
        generalize l[k] = f at x0 x1 x2 x3 x4 HT hfit
        obtain ⟨hsd, hx, hyb, hw, hh⟩ := hfit
        have st : Hid (∀ o, Below w.heap.size w (wr.alloc o)) := hide (fun o => t.out.alloc t.out.size o)
        rcases hsd with hsd | hsd
        · rw [hsd] at x0
          rw [show cstep 1 z f = max z (f.y + f.h) from by unfold cstep; rw [hsd]; simp <;> (intros; simp_all)] at HT
          clear hsd
          go_wp2
          go_roundw
          case rel => exact ⟨k + 1, hlt, by go_num, by rw [HT.out], st.out _⟩
          case measure => simp [intOf]; omega
        · rw [hsd] at x0
          rw [show cstep 1 z f = z from by unfold cstep; rw [hsd]; simp <;> (intros; simp_all)] at HT
          clear hsd
          go_wp2
          go_roundw
          case rel => exact ⟨k + 1, hlt, by go_num, by rw [HT.out], st.out _⟩
          case measure => simp [intOf]; omega
      · obtain rfl : k = n := by omega
        have htk := hide (show l.take k = l from List.take_of_length_le (by have := HN.out; omega))
        go_wp2
        go_returns
        exact ⟨by unfold clr; rw [htk.out]; rfl, t.out⟩
  by_cases s2 : s = 2
  · subst s2
    go_enter Try.func18, Try.ntmps18
    go_wp2
    go_loopw [2, 18] (fun u i wr => ∃ k : Nat, k ≤ n ∧ i = .int .i64 k ∧ u = .int .i64 ((l.take k).foldl (cstep 2) y) ∧ Below w.heap.size w wr) (fun _ i _ => n - (intOf i).toNat)
    case atStart => exact ⟨0, Nat.zero_le _, rfl, rfl, Below.refl _ _⟩
    case round =>
      obtain ⟨k, hk, rfl, rfl, hbel⟩ := hrel
      have t := hide hbel
      by_cases hlt : k < n
      · obtain ⟨b, off, rfl, hbw, hcell⟩ := f_at (hr.below hbel) (by have := HN.out; omega)
        have hlt' : k < l.length := by have := HN.out; omega
        obtain ⟨x0, x1, x2, x3, x4⟩ := hcell k hlt'
        have HT := hide (fold_take (cstep 2) y l hlt')
        have hfit := HL.out _ (List.getElem_mem hlt')
        clear hbel hcell
        generalize (l.take k).foldl (cstep 2) y = z at HT ⊢
        generalize l[k] = f at x0 x1 x2 x3 x4 HT hfit
        obtain ⟨hsd, hx, hyb, hw, hh⟩ := hfit
        have st : Hid (∀ o, Below w.heap.size w (wr.alloc o)) := hide (fun o => t.out.alloc t.out.size o)
        rcases hsd with hsd | hsd
        · rw [hsd] at x0
          rw [show cstep 2 z f = z from by unfold cstep; rw [hsd]; simp <;> (intros; simp_all)] at HT
          clear hsd
          go_wp2
          go_roundw
          case rel => exact ⟨k + 1, hlt, by go_num, by rw [HT.out], st.out _⟩
          case measure => simp [intOf]; omega
        · rw [hsd] at x0
          rw [show cstep 2 z f = max z (f.y + f.h) from by unfold cstep; rw [hsd]; simp <;> (intros; simp_all)] at HT
          clear hsd
          go_wp2
          go_roundw
          case rel => exact ⟨k + 1, hlt, by go_num, by rw [HT.out], st.out _⟩
          case measure => simp [intOf]; omega
      · obtain rfl : k = n := by omega
        have htk := hide (show l.take k = l from List.take_of_length_le (by have := HN.out; omega))
        go_wp2
        go_returns
        exact ⟨by unfold clr; rw [htk.out]; rfl, t.out⟩
  have b1 : (s == 1) = false := by simpa using s1
  have b2 : (s == 2) = false := by simpa using s2
  have b3 : (s == 3) = false := by simpa using s3
  go_enter Try.func18, Try.ntmps18
  go_wp2
  clear s1 s2 s3
  go_loopw [2, 18] (fun u i wr => ∃ k : Nat, k ≤ n ∧ i = .int .i64 k ∧ u = .int .i64 ((l.take k).foldl (cstep s) y) ∧ Below w.heap.size w wr) (fun _ i _ => n - (intOf i).toNat)
  case atStart => exact ⟨0, Nat.zero_le _, rfl, rfl, Below.refl _ _⟩
  case round =>
    obtain ⟨k, hk, rfl, rfl, hbel⟩ := hrel
    have t := hide hbel
    by_cases hlt : k < n
    · obtain ⟨b, off, rfl, hbw, hcell⟩ := f_at (hr.below hbel) (by have := HN.out; omega)
      have hlt' : k < l.length := by have := HN.out; omega
      obtain ⟨x0, x1, x2, x3, x4⟩ := hcell k hlt'
      have HT := hide (fold_take (cstep s) y l hlt')
      have hfit := HL.out _ (List.getElem_mem hlt')
      clear hbel hcell
      generalize (l.take k).foldl (cstep s) y = z at HT ⊢
      generalize l[k] = f at x0 x1 x2 x3 x4 HT hfit
      obtain ⟨hsd, hx, hyb, hw, hh⟩ := hfit
      have st : Hid (∀ o, Below w.heap.size w (wr.alloc o)) := hide (fun o => t.out.alloc t.out.size o)
      rcases hsd with hsd | hsd
      · rw [hsd] at x0
        rw [show cstep s z f = z from by unfold cstep; rw [hsd]; simp <;> (intros; simp_all)] at HT
        clear hsd
        go_wp2
        go_roundw
        case rel => exact ⟨k + 1, hlt, by go_num, by rw [HT.out], st.out _⟩
        case measure => simp [intOf]; omega
      · rw [hsd] at x0
        rw [show cstep s z f = z from by unfold cstep; rw [hsd]; simp <;> (intros; simp_all)] at HT
        clear hsd
        go_wp2
        go_roundw
        case rel => exact ⟨k + 1, hlt, by go_num, by rw [HT.out], st.out _⟩
        case measure => simp [intOf]; omega
    · obtain rfl : k = n := by omega
      have htk := hide (show l.take k = l from List.take_of_length_le (by have := HN.out; omega))
      go_wp2
      go_returns
      exact ⟨by unfold clr; rw [htk.out]; rfl, t.out⟩
end Go.Proofs.Ytdckhheinpfbjaa
