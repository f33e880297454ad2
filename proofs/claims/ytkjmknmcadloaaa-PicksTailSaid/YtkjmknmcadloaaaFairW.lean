/- Walk: Fair. -/
import Derived.Test.YtkjmknmcadloaaaFairSt
import Derived.Test.YtkjmknmcadloaaaRegIn
namespace Go.Proofs.Ytkjmknmcadloaaa
open Go.RowKit Go.Shelf
attribute [local go_sem] Oper.semAt_some

theorem windows_any (a : Option Addr) (n c : Nat) (k : Int) (w : World) :
    Calls Try.prog 22 #[.slice a n c, .int .i64 k] w fun r w' => r = .returned (.func (.func 26) #[] #[.pointer (some ⟨w.heap.size, 0, none⟩), .pointer (some ⟨w.heap.size + 1, 0, none⟩)]) ∧ (w.alloc (.cells #[.slice a n c] 22)).alloc (.cells #[.int .i64 k] 3) = w' := by
  go_enter Try.func22, Try.ntmps22
  go_wp2
  go_returns
  exact ⟨rfl, rfl⟩
theorem windows_stops (n : Nat) (hn : 1 ≤ n) (Bs Bm n0 : Nat) (fs : List Nat) (a : Option Addr) (b off len c k : Nat) (ha : 0 < len → a = some ⟨b, off, none⟩) (hk : 1 ≤ k) (hk2 : k ≤ 9223372036854775807) (hlc : len ≤ c) (hl2 : len ≤ 1000000) (hc2 : c ≤ 9223372036854775807)
    (w : World) (hn0 : n0 ≤ w.heap.size) (hBn : Bs < n0) (hBm : Bm < n0) (hfs : Bs ∉ fs) (hfm : Bm ∉ fs) (h1 : Blk w Bs 22 #[.slice a len c]) (h2 : Blk w Bm 3 #[.int .i64 k]) :
    SeqStopsK Fence.wide n Try.prog 26 #[.pointer (some ⟨Bs, 0, none⟩), .pointer (some ⟨Bm, 0, none⟩)] (fun x : Wn len k => wenc b off c k x) (Fb fs n0) (fun ys => ys.map (fun x => x.1) = List.range (len + 1 - k))
      (fun pre => ∃ m, m + k ≤ len ∧ pre.map (fun x => x.1) = List.range (m + 1)) (len + 1 - k) w := fun l J Jx W hW _ _ hY h0 => by
  exact windows1_in n hn l Bs Bm n0 fs a b off len c k ha hk hk2 hlc hl2 hc2 J Jx W hBn hBm hfs hfm hY ((h1.below hW h1.lt).cell 0) ((h2.below hW h2.lt).cell 0) h0

theorem fair_bad (a : Option Addr) (len c : Nat) (workers most : Int) (w : World) (h : ¬ (1 ≤ workers ∧ workers ≤ 64 ∧ 1 ≤ most)) :
    Calls Try.prog 13 #[.slice a len c, .int .i64 workers, .int .i64 most] w fun r w' => r = .returned (.bool false) ∧ Below w.heap.size w w' := by
  by_cases h1 : 1 ≤ workers ∧ workers ≤ 64
  · have h3 : most < 1 := by omega
    have HR := hide (fun W => right_yes workers W h1.1 h1.2)
    clear h h1
    go_enter Try.func13, Try.ntmps13
    go_wp2_with fail
    refine (HR.out _).mono ?_
    rintro r w2 ⟨rfl, rfl⟩
    go_wp2
    exact bodyPost_ret (v := .bool false) (by simp [results, Try.results13, go_sem]) rfl ⟨rfl, by go_grown⟩
  · have HR := hide (fun W => right_no workers W h1)
    clear h h1
    go_enter Try.func13, Try.ntmps13
    go_wp2_with fail
    refine (HR.out _).mono ?_
    rintro r w2 ⟨rfl, rfl⟩
    go_wp2
    exact bodyPost_ret (v := .bool false) (by simp [results, Try.results13, go_sem]) rfl ⟨rfl, by go_grown⟩
theorem info3 : (Try.prog.info? 3).map (fun i => (i.zero, i.size, i.bytes)) = some (some (.int .i64 0), 1, 8) := by kernel_rfl
theorem results_cell1 {P : Program} {fn : Func} {p : Tmp} {ty : TypeId} (h : fn.results = #[.cell p ty]) (tmps : Array Value) {w : World} (ad : Addr) (v : Value)
    (hp : tmps.getD p undef = .pointer (some ad)) (hc : w.cell? ad = some v) {d : TypeDesc} (hu : P.underlying ty = some d) (hd : (match d with | .struct _ | .array _ _ => false | _ => true) = true) (hi : (P.info? ty).map (·.size) = some 1) :
    (results fn tmps).run P w = .ok v w := by
  have hp' : tmps[p]?.getD undef = .pointer (some ad) := by simpa using hp
  have ha : (isAgg ty).run P w = .ok false w := by
    unfold isAgg
    cases d <;> simp_all [run_underlying hu]
  simp [results, h, hp', asAddr, go_sem, hc, ha]
def LSc (W : World) (g n : Nat) (s s' : Ts) (c : Nat) (w' : World) : Prop := Foot [g + 4, g + 3] W w' ∧ Tal w' (g + 4) (g + 3) n (if c = 0 then s else s')
theorem ls_cell {W : World} {g n : Nat} {s s' : Ts} {p : Addr} {v : Value} (h : W.cell? p = some v) (hp : p.block < W.heap.size) (h4 : p.block ≠ g + 4) (h3 : p.block ≠ g + 3) : ∀ w' c, LSc W g n s s' c w' → w'.cell? p = some v :=
  fun w' c hS => (hS.1.cell hp (by simp; omega)).trans h
def vals {len k : Nat} (pre : List (Wn len k)) : List Nat := pre.map fun x => x.1
theorem vals_snoc {len k : Nat} (pre : List (Wn len k)) (y : Nat) (hy : y + k ≤ len) : vals (pre ++ [⟨y, hy⟩]) = vals pre ++ [y] := by unfold vals; rw [List.map_append]; rfl
structure Fx (W : World) (g : Nat) (a : Option Addr) (len c k n : Nat) : Prop where
  b0 : Blk W g 22 #[.slice a len c]
  b1 : Blk W (g + 1) 3 #[.int .i64 k]
  b2 : Blk W (g + 2) 4 #[.bool false]
  b5 : Blk W (g + 5) 49 #[.pointer (some ⟨g + 4, 0, none⟩)]
  b6 : Blk W (g + 6) 22 #[.slice a len c]
  b7 : Blk W (g + 7) 3 #[.int .i64 k]
theorem Fx.fb {W W' : World} {g : Nat} {a : Option Addr} {len c k n : Nat} (h : Fx W g a len c k n) (hb : Fb [g + 4, g + 3] (g + 8) W W') : Fx W' g a len c k n :=
  ⟨hb.blk h.b0 (by omega) (by simp), hb.blk h.b1 (by omega) (by simp), hb.blk h.b2 (by omega) (by simp), hb.blk h.b5 (by omega) (by simp), hb.blk h.b6 (by omega) (by simp), hb.blk h.b7 (by omega) (by simp)⟩
theorem fx_new (w : World) (a : Option Addr) (len c k n : Nat) : Fx ((((((((w.alloc (.cells #[.slice a len c] 22)).alloc (.cells #[.int .i64 k] 3)).alloc (.cells #[.bool false] 4)).alloc (.cells (Array.replicate n (.int .i64 0)) 3)).alloc
      (.cells #[.func (.func 18) #[.int .i64 n] #[], .slice (some ⟨w.heap.size + 1 + 1 + 1, 0, none⟩) n n, .int .i64 n] 51)).alloc (.cells #[.pointer (some ⟨w.heap.size + 1 + 1 + 1 + 1, 0, none⟩)] 49)).alloc (.cells #[.slice a len c] 22)).alloc (.cells #[.int .i64 k] 3)) w.heap.size a len c k n ∧
    Tal ((((((((w.alloc (.cells #[.slice a len c] 22)).alloc (.cells #[.int .i64 k] 3)).alloc (.cells #[.bool false] 4)).alloc (.cells (Array.replicate n (.int .i64 0)) 3)).alloc
      (.cells #[.func (.func 18) #[.int .i64 n] #[], .slice (some ⟨w.heap.size + 1 + 1 + 1, 0, none⟩) n n, .int .i64 n] 51)).alloc (.cells #[.pointer (some ⟨w.heap.size + 1 + 1 + 1 + 1, 0, none⟩)] 49)).alloc (.cells #[.slice a len c] 22)).alloc (.cells #[.int .i64 k] 3)) (w.heap.size + 4) (w.heap.size + 3) n (st0 n) := by
  obtain ⟨w1, h1⟩ : ∃ w1, w1 = w.alloc (.cells #[.slice a len c] 22) := ⟨_, rfl⟩
  obtain ⟨w2, h2⟩ : ∃ w2, w2 = w1.alloc (.cells #[.int .i64 k] 3) := ⟨_, rfl⟩
  obtain ⟨w3, h3⟩ : ∃ w3, w3 = w2.alloc (.cells #[.bool false] 4) := ⟨_, rfl⟩
  obtain ⟨w4, h4⟩ : ∃ w4, w4 = w3.alloc (.cells (Array.replicate n (.int .i64 0)) 3) := ⟨_, rfl⟩
  obtain ⟨w5, h5⟩ : ∃ w5, w5 = w4.alloc (.cells #[.func (.func 18) #[.int .i64 n] #[], .slice (some ⟨w.heap.size + 1 + 1 + 1, 0, none⟩) n n, .int .i64 n] 51) := ⟨_, rfl⟩
  obtain ⟨w6, h6⟩ : ∃ w6, w6 = w5.alloc (.cells #[.pointer (some ⟨w.heap.size + 1 + 1 + 1 + 1, 0, none⟩)] 49) := ⟨_, rfl⟩
  obtain ⟨w7, h7⟩ : ∃ w7, w7 = w6.alloc (.cells #[.slice a len c] 22) := ⟨_, rfl⟩
  rw [← h1, ← h2, ← h3, ← h4, ← h5, ← h6, ← h7]
  have s1 : w1.heap.size = w.heap.size + 1 := by rw [h1]; simp
  have s2 : w2.heap.size = w.heap.size + 2 := by rw [h2]; simp; omega
  have s3 : w3.heap.size = w.heap.size + 3 := by rw [h3]; simp; omega
  have s4 : w4.heap.size = w.heap.size + 4 := by rw [h4]; simp; omega
  have s5 : w5.heap.size = w.heap.size + 5 := by rw [h5]; simp; omega
  have s6 : w6.heap.size = w.heap.size + 6 := by rw [h6]; simp; omega
  have s7 : w7.heap.size = w.heap.size + 7 := by rw [h7]; simp; omega
  have b1 := Blk.new w 22 #[.slice a len c]
  have b2 := Blk.new w1 3 #[.int .i64 k]
  have b3 := Blk.new w2 4 #[.bool false]
  have b4 := Blk.new w3 3 (Array.replicate n (.int .i64 0))
  have b5 := Blk.new w4 51 #[.func (.func 18) #[.int .i64 n] #[], .slice (some ⟨w.heap.size + 1 + 1 + 1, 0, none⟩) n n, .int .i64 n]
  have b6 := Blk.new w5 49 #[.pointer (some ⟨w.heap.size + 1 + 1 + 1 + 1, 0, none⟩)]
  have b7 := Blk.new w6 22 #[.slice a len c]
  have b8 := Blk.new w7 3 #[.int .i64 k]
  rw [← h1] at b1; rw [← h2, s1] at b2; rw [← h3, s2] at b3; rw [← h4, s3] at b4; rw [← h5, s4] at b5; rw [← h6, s5] at b6; rw [← h7, s6] at b7; rw [s7] at b8
  have q2 : ∀ {x : Nat} {t : TypeId} {cs : Array Value}, Blk w1 x t cs → Blk w2 x t cs := fun h => h2 ▸ h.alloc _
  have q3 : ∀ {x : Nat} {t : TypeId} {cs : Array Value}, Blk w2 x t cs → Blk w3 x t cs := fun h => h3 ▸ h.alloc _
  have q4 : ∀ {x : Nat} {t : TypeId} {cs : Array Value}, Blk w3 x t cs → Blk w4 x t cs := fun h => h4 ▸ h.alloc _
  have q5 : ∀ {x : Nat} {t : TypeId} {cs : Array Value}, Blk w4 x t cs → Blk w5 x t cs := fun h => h5 ▸ h.alloc _
  have q6 : ∀ {x : Nat} {t : TypeId} {cs : Array Value}, Blk w5 x t cs → Blk w6 x t cs := fun h => h6 ▸ h.alloc _
  have q7 : ∀ {x : Nat} {t : TypeId} {cs : Array Value}, Blk w6 x t cs → Blk w7 x t cs := fun h => h7 ▸ h.alloc _
  refine ⟨⟨(q7 (q6 (q5 (q4 (q3 (q2 b1)))))).alloc _, (q7 (q6 (q5 (q4 (q3 b2))))).alloc _, (q7 (q6 (q5 (q4 b3)))).alloc _, (q7 b6).alloc _, b7.alloc _, b8⟩, ⟨(q7 (q6 b5)).alloc _, ?_, by omega⟩⟩
  have e : (ints (vints n (st0 n).f)).toArray = Array.replicate n (Value.int .i64 0) := by
    apply Array.toList_inj.1
    apply List.ext_getElem
    · simp [ints, vints]
    · intro i h1 h2
      simp [ints, vints, st0]
  rw [e]
  exact (q7 (q6 (q5 b4))).alloc _
def FPost (x : Bool) (w : World) (r : Ending) (w' : World) : Prop := r = .returned (.bool x) ∧ Below w.heap.size w w'

set_option maxHeartbeats 4000000 in
set_option maxRecDepth 100000 in
theorem fair_ok (a : Option Addr) (len c : Nat) (l : List Pk) (n k : Nat) (w : World) (hr : PRow w a l) (hlen : l.length = len) (hl : ∀ p ∈ l, PkOk p) (hl2 : len ≤ 1000000) (hlc : len ≤ c) (hc2 : c ≤ 9223372036854775807) (hn : 1 ≤ n) (hn2 : n ≤ 64) (hk : 1 ≤ k) (hk2 : k ≤ 9223372036854775807) :
    Calls Try.prog 13 #[.slice a len c, .int .i64 n, .int .i64 k] w (FPost (fair n l k) w) := by
  refine (callsIn_wide (n := 20)).1 ?_
  refine callsIn_of_wp_marks Try.func13 rfl trivial ?_ rfl
  simp only [Try.ntmps13, List.size_toArray, List.length_cons, List.length_nil, Nat.reduceAdd, Nat.reduceSub, Array.replicate_succ, Array.replicate_zero, List.push_toArray, List.append_toArray, List.nil_append, List.cons_append]
  refine wpIn_wide.2 ?_
  have HN := hide hlen
  have HL := hide hl
  clear hlen hl
  have b3 : decide ((k : Int) < 1) = false := by simp; omega
  obtain ⟨i0, hi, hz0, hz1, hz2⟩ := info_parts info3
  have hmk := fun W => run_make1 (P := Try.prog) 35 3 Try.underlying35 hi hz0 hz1 rfl hz2 n (by omega) (by omega) W
  have HR := hide (fun W => right_yes n W (by omega) (by omega))
  go_wp2_with fail
  refine (HR.out _).mono ?_
  rintro r w2 ⟨rfl, rfl⟩
  go_wp2_with fail
  clear b3 hmk
  refine (windows_any a len c k _).mono ?_
  rintro r wl ⟨rfl, hwl⟩
  have FX := hide (fx_new w a len c k n)
  have t0 : Hid (Below w.heap.size w wl) := hide (by rw [← hwl]; go_grown)
  have HG : Hid (wl.heap.size = w.heap.size + 8) := hide (by rw [← hwl]; simp)
  rw [hwl] at FX
  clear hwl
  go_wp2_with fail
  obtain ⟨g, hg⟩ : ∃ g, g = w.heap.size := ⟨_, rfl⟩
  rw [← hg] at FX HG t0 ⊢
  have hrlow : Hid (0 < len → ∃ b off, a = some ⟨b, off, none⟩ ∧ b < g) := hide (fun hp => by
    obtain ⟨b, off, ha, hb, _⟩ := p_at hr (by have := HN.out; omega)
    exact ⟨b, off, ha, by omega⟩)
  have hab : ∃ b off, Hid (0 < len → a = some ⟨b, off, none⟩) := by
    rcases Nat.eq_zero_or_pos len with h0 | h0
    · exact ⟨0, 0, hide (fun h => by omega)⟩
    · obtain ⟨b, off, ha, _⟩ := hrlow.out h0
      exact ⟨b, off, hide (fun _ => ha)⟩
  obtain ⟨b, off, hab⟩ := hab
  have hs8 := HG.out
  have hrW : Hid (∀ W, Fb [g + 4, g + 3] (g + 8) wl W → PRow W a l) := hide (fun W hW => by
    have h1 : Below g wl W := hW.to_below (by omega) (by simp)
    exact hr.below (t0.out.trans h1 |>.mono (by omega)))
  have HGW := hide hg
  clear hg
  refine (wpIn_wide (n := 20)).1 ?_
  generalize hA : ({ tmps := _, defers := _ } : Act) = A
  refine wpIn_rangeFunc_ownF rfl (by omega) (gf := 26) (lb := #[.pointer (some ⟨g + 6, 0, none⟩), .pointer (some ⟨g + 7, 0, none⟩)]) (by rw [← hA]; rfl) trivial (enters_of Try.func26 (by kernel_rfl) rfl)
    (windows_stops 19 (by omega) (g + 6) (g + 7) (g + 8) [g + 4, g + 3] a b off len c k hab.out hk hk2 hlc hl2 hc2 wl (by omega) (by omega) (by omega) (by simp) (by simp) FX.out.1.b6 FX.out.1.b7) (fun h k => Fb.trans h k) (fun W l o o' h1 h2 h3 h4 => fbK_b (by omega) W l o o' h1 h2 h3 h4) (Below.refl _ _) (fun _ => rfl)
    (fun pre W => (Tal W (g + 4) (g + 3) n (st n l k (vals pre)) ∧ Fgood n l k (vals pre)) ∧ Fb [g + 4, g + 3] (g + 8) wl W)
    (fun cc pre W => (cc = .ret ∧ 0 < (st n l k (vals pre)).z ∧ Blk W (g + 2) 4 #[.bool false]) ∧ Below g wl W)
    (OwnFrom.and (Own.from (fun s A B row hs hg hr => ⟨⟨blk_kept hs.1.box hg hr, blk_kept hs.1.cnt hg hr, hs.1.ne⟩, hs.2⟩) _) (ownFrom_fb (by omega) (by omega)))
    (fun cc => OwnFrom.and (Own.from (fun s A B row hs hg hr => ⟨hs.1, hs.2.1, blk_kept hs.2.2 hg hr⟩) _) (ownFrom_below (by omega) (by omega)))
    ⟨⟨FX.out.2, good_nil n l k⟩, Fb.refl _ _ _⟩
    (fun x => { tmps := (((A.tmps.setIfInBounds 29 (.int .i64 (x.1 : Int))).setIfInBounds 30 (.slice (some ⟨b, off + x.1 * 2, none⟩) k (c - x.1))).setIfInBounds 8 (.int .i64 (x.1 : Int))).setIfInBounds 9 (.slice (some ⟨b, off + x.1 * 2, none⟩) k (c - x.1)), defers := [] }) ?assign ?body ?done ?stop
  case assign =>
    intro rl x W K hK
    subst hA
    unfold wenc
    gi_wp2
    exact hK
  case body =>
    rintro rl pre x W ⟨⟨hT, hgood⟩, hB⟩ hlen
    rw [← hA]
    clear hA
    simp only [List.setIfInBounds_toArray, List.set_cons_zero, List.set_cons_succ]
    obtain ⟨y, hy⟩ := x
    have F := hide (FX.out.1.fb hB)
    obtain rfl := hab.out (by omega)
    obtain ⟨s, hs⟩ : ∃ s, s = st n l k (vals pre) := ⟨_, rfl⟩
    rw [← hs] at hT
    have HS := hide hs
    clear hs
    have HT0 := hide hT
    have HB0 := hide hB
    have HG0 := hide hgood
    clear hT hB hgood
    dsimp only
    have hWs : g + 8 ≤ W.heap.size := by have := HB0.out.size; omega
    rcases Nat.eq_zero_or_pos y with h0 | h0
    · subst h0
      gi_wp2
      gi_loopw [35] (fun i wr => ∃ m : Nat, m ≤ k ∧ i = .int .i64 m ∧ Tal wr (g + 4) (g + 3) n (addN n l m s) ∧ Fb [g + 4, g + 3] (g + 8) W wr ∧ KeepsOthers W wr) (fun i _ => k - (intOf i).toNat)
      case atStart => exact ⟨0, by omega, rfl, HT0.out, Fb.refl _ _ _, KeepsOthers.refl _⟩
      case round =>
        obtain ⟨m, hm, rfl, hTm, hFm, hKm⟩ := hrel
        have hTm := hide hTm
        have hFm := hide hFm
        have hKm := hide hKm
        by_cases hmk : m < k
        · have hml : m < l.length := by have := HN.out; omega
          obtain ⟨b', off', hab', hbw, hcell⟩ := p_at (hrW.out wr (HB0.out.trans hFm.out)) (by omega)
          obtain ⟨rfl, rfl⟩ : b = b' ∧ off = off' := by simpa using hab'
          obtain ⟨x0, x1⟩ := hcell m hml
          have HJ := hide (jx_eq (n := n) hml)
          have HP := hide (HL.out _ (List.getElem_mem hml))
          clear hcell hab'
          generalize l[m] = p at x0 x1 HJ HP
          have f5 := F.out.fb hFm.out
          have hwr : g + 1 + 1 + 1 + 1 + 1 < wr.heap.size := by have := hFm.out.size; omega
          have c5 : wr.cell? ⟨g + 1 + 1 + 1 + 1 + 1, 0, none⟩ = some (.pointer (some ⟨g + 4, 0, none⟩)) := f5.b5.cell 0
          gi_wp2_with fail
          have a0 : Below wr.heap.size wr (wr.alloc (.cells #[.int .i64 p.w, .int .i64 p.v] 29)) := (Below.refl _ _).alloc (Nat.le_refl _) _
          refine ⟨trivial, (CallsIn.inRound rl (callsIn_wide.2 (more_any (g + 4) (g + 3) n (addN n l m s) p (jx n l m) _ (hTm.out.below a0) HP.out hn hn2 (by rw [HJ.out]; exact jw_eq hn p) (by rw [HJ.out]; exact jw_lt hn p)))).mono ?_⟩
          rintro r W2 ⟨rfl, T2, F2⟩
          have T2 := hide T2
          have a1 : Foot [g + 4, g + 3] wr W2 := (Foot.of_below _ a0).trans F2
          have fb2 := hide (hFm.out.trans (Fb.of_foot a1 (by have := hFm.out.size; omega)))
          have ko2 := hide (hKm.out.trans (keeps_foot a1 (fun k hk o ho => by
            simp at hk
            rcases hk with rfl | rfl
            · exact hTm.out.box.isCells o ho
            · exact hTm.out.cnt.isCells o ho)))
          clear F2 a1 a0 c5 x0 x1 f5
          gi_wp2
          go_roundw
          case rel => exact ⟨m + 1, by omega, by go_num, T2.out, fb2.out, ko2.out⟩
          case measure => simp [intOf]; omega
        · obtain rfl : m = k := by omega
          obtain ⟨s2, hs2⟩ : ∃ s2, s2 = addN n l m s := ⟨_, rfl⟩
          have HS2 : Hid (s2 = stp n l m s 0) := hide (by unfold stp; rw [if_pos rfl, hs2])
          rw [← hs2] at hTm
          clear hs2
          have f5 := F.out.fb hFm.out
          have c5 : wr.cell? ⟨g + 1 + 1 + 1 + 1 + 1, 0, none⟩ = some (.pointer (some ⟨g + 4, 0, none⟩)) := f5.b5.cell 0
          have d2 : wr.cell? ⟨g + 4, 2, none⟩ = some (.int .i64 s2.z) := hTm.out.box.cell 2
          have hc2' : wr.cell? ⟨g + 1 + 1, 0, none⟩ = some (.bool false) := f5.b2.cell 0
          have hf2 : wr.frozen? ⟨g + 1 + 1, 0, none⟩ = false := f5.b2.frozen 0
          have B2 := hide (f5.b2.set_ 0 (.bool false))
          have KO := hide (hKm.out.trans (KeepsOthers.setCell wr ⟨g + 1 + 1, 0, none⟩ (.bool false)))
          have BL := hide (((HB0.out.trans hFm.out).to_below (B := g) (by omega) (by simp)).setCell (p := ⟨g + 1 + 1, 0, none⟩) (by simp; omega) (.bool false))
          by_cases hz : 0 < s2.z
          · gi_wp2
            exact ⟨KO.out, ⟨rfl, by rw [vals_snoc, st_snoc, ← HS.out, ← HS2.out]; exact hz, by simpa using B2.out⟩, BL.out⟩
          · gi_wp2
            exact ⟨hKm.out, hFm.out, ⟨by rw [vals_snoc, st_snoc, ← HS.out, ← HS2.out]; exact hTm.out, by rw [vals_snoc]; exact good_snoc HG0.out (by rw [← HS.out, ← HS2.out]; omega)⟩, HB0.out.trans hFm.out⟩
    · obtain ⟨z, rfl⟩ : ∃ z, y = z + 1 := ⟨y - 1, by omega⟩
      obtain ⟨q, rfl⟩ : ∃ q, k = q + 1 := ⟨k - 1, by omega⟩
      have hml : z < l.length := by have := HN.out; omega
      have hml2 : z + 1 + q < l.length := by have := HN.out; omega
      obtain ⟨b', off', hab', hbw, hcell⟩ := p_at (hrW.out W HB0.out) (by omega)
      obtain ⟨rfl, rfl⟩ : b = b' ∧ off = off' := by simpa using hab'
      obtain ⟨x0, x1⟩ := hcell z hml
      obtain ⟨y0, y1⟩ := hcell (z + 1 + q) hml2
      rw [show off + (z + 1 + q) * 2 = off + (z + 1) * 2 + q * 2 from by omega] at y0 y1
      have HJ := hide (jx_eq (n := n) hml)
      have HP := hide (HL.out _ (List.getElem_mem hml))
      have HJ2 := hide (jx_eq (n := n) hml2)
      have HP2 := hide (HL.out _ (List.getElem_mem hml2))
      clear hcell hab'
      generalize l[z] = p at x0 x1 HJ HP
      generalize l[z + 1 + q] = p2 at y0 y1 HJ2 HP2
      obtain ⟨bo, hbo⟩ : ∃ bo, bo = b := ⟨_, rfl⟩
      have hlow : b < g := by
        obtain ⟨b1, o1, e1, h1⟩ := hrlow.out (by omega)
        simp at e1; omega
      gi_wp2_with fail
      have z0 := ls_cell (n := n) (s := s) (s' := lessS s (jx n l z)) (p := ⟨g + 1 + 1 + 1 + 1 + 1, 0, none⟩) (g := g) (F.out.b5.cell 0) (by show g + 1 + 1 + 1 + 1 + 1 < _; omega) (by show g + 1 + 1 + 1 + 1 + 1 ≠ _; omega) (by show g + 1 + 1 + 1 + 1 + 1 ≠ _; omega)
      have z1 := ls_cell (n := n) (s := s) (s' := lessS s (jx n l z)) (p := ⟨g, 0, none⟩) (g := g) (F.out.b0.cell 0) (by show g < _; omega) (by show g ≠ _; omega) (by show g ≠ _; omega)
      have z2 := ls_cell (n := n) (s := s) (s' := lessS s (jx n l z)) (g := g) x0 hbw (by show b ≠ _; omega) (by show b ≠ _; omega)
      have z3 := ls_cell (n := n) (s := s) (s' := lessS s (jx n l z)) (g := g) x1 hbw (by show b ≠ _; omega) (by show b ≠ _; omega)
      refine Reg.region_in (by kernel_rfl) 7 [6] (fun c w' => LSc W g n s (lessS s (jx n l z)) c w') (by kernel_rfl) (by kernel_rfl) (by kernel_rfl) ⟨(Foot.refl _ _).drew, HT0.out.below (Below.refl _ _).drew⟩ ?_
      iterate 6
        refine Reg.WT.yield (v := ?_) rfl rfl ?_ ?_
        rotate_left
        · intro w' _ hS; have z0_ := z0 _ _ hS; have z1_ := z1 _ _ hS; have z2_ := z2 _ _ hS; have z3_ := z3 _ _ hS; go_simp; (try go_bits); (first | rfl | rw [if_pos (by omega)])
        simp only [Act.put, List.setIfInBounds_toArray, List.set_cons_zero, List.set_cons_succ]
      refine Reg.WT.call (v := ?_) (f := ?_) (args := ?_) rfl rfl ?_ ?_ ?_
      rotate_left 3
      · intro w2; go_simp; exact ⟨by rfl, by rfl⟩
      · intro w2 hS; refine (less_any (g + 4) (g + 3) n s p (jx n l z) w2 hS.2 HP.out hn hn2 (by rw [HJ.out]; exact jw_eq hn p) (by rw [HJ.out]; exact jw_lt hn p)).mono ?_; rintro r w3 ⟨rfl, T2, F2⟩; exact ⟨by rfl, hS.1.trans F2, T2⟩
      simp only [Act.put, List.setIfInBounds_toArray, List.set_cons_zero, List.set_cons_succ]
      refine Reg.WT.done ?_
      intro W2 hS
      clear z0 z1 z2 z3 x0 x1
      obtain ⟨hF2, hT2⟩ := hS
      have HT2 : Hid (Tal W2 (g + 4) (g + 3) n (lessS s (jx n l z))) := hide hT2
      obtain ⟨s1, hs1⟩ : ∃ s1, s1 = lessS s (jx n l z) := ⟨_, rfl⟩
      rw [← hs1] at HT2
      have HF2 := hide hF2
      have f2 := F.out.fb (Fb.of_foot (n0 := g + 8) hF2 (by omega))
      have hsz := hF2.size
      have y0' := (hF2.cell (p := ⟨b, off + (z + 1) * 2 + q * 2, none⟩) hbw (by simp; omega)).trans y0
      have y1' := (hF2.cell (p := ⟨b, off + (z + 1) * 2 + q * 2 + 1, none⟩) hbw (by simp; omega)).trans y1
      have HS1 := hide hs1
      clear hF2 hT2 y0 y1 hs1
      gi_wp2_with fail
      have z0 := ls_cell (n := n) (s := s1) (s' := moreS s1 (jx n l (z + 1 + q))) (p := ⟨g + 1 + 1 + 1 + 1 + 1, 0, none⟩) (g := g) (f2.b5.cell 0) (by show g + 1 + 1 + 1 + 1 + 1 < _; omega) (by show g + 1 + 1 + 1 + 1 + 1 ≠ _; omega) (by show g + 1 + 1 + 1 + 1 + 1 ≠ _; omega)
      have z1 := ls_cell (n := n) (s := s1) (s' := moreS s1 (jx n l (z + 1 + q))) (p := ⟨g + 1, 0, none⟩) (g := g) (f2.b1.cell 0) (by show g + 1 < _; omega) (by show g + 1 ≠ _; omega) (by show g + 1 ≠ _; omega)
      have z2 := ls_cell (n := n) (s := s1) (s' := moreS s1 (jx n l (z + 1 + q))) (g := g) y0' (by show b < _; omega) (by show b ≠ _; omega) (by show b ≠ _; omega)
      have z3 := ls_cell (n := n) (s := s1) (s' := moreS s1 (jx n l (z + 1 + q))) (g := g) y1' (by show b < _; omega) (by show b ≠ _; omega) (by show b ≠ _; omega)
      refine Reg.region_in (by kernel_rfl) 7 [6] (fun c w' => LSc W2 g n s1 (moreS s1 (jx n l (z + 1 + q))) c w') (by kernel_rfl) (by kernel_rfl) (by kernel_rfl) ⟨(Foot.refl _ _).drew, HT2.out.below (Below.refl _ _).drew⟩ ?_
      iterate 6
        refine Reg.WT.yield (v := ?_) rfl rfl ?_ ?_
        rotate_left
        · intro w' _ hS; have z0_ := z0 _ _ hS; have z1_ := z1 _ _ hS; have z2_ := z2 _ _ hS; have z3_ := z3 _ _ hS; go_simp; (try go_bits); (first | rfl | rw [if_pos (by omega)])
        simp only [Act.put, List.setIfInBounds_toArray, List.set_cons_zero, List.set_cons_succ]
      refine Reg.WT.call (v := ?_) (f := ?_) (args := ?_) rfl rfl ?_ ?_ ?_
      rotate_left 3
      · intro w2; go_simp; exact ⟨by rfl, by rfl⟩
      · intro w2 hS; refine (more_any (g + 4) (g + 3) n s1 p2 (jx n l (z + 1 + q)) w2 hS.2 HP2.out hn hn2 (by rw [HJ2.out]; exact jw_eq hn p2) (by rw [HJ2.out]; exact jw_lt hn p2)).mono ?_; rintro r w3 ⟨rfl, T2, F2⟩; exact ⟨by rfl, hS.1.trans F2, T2⟩
      simp only [Act.put, List.setIfInBounds_toArray, List.set_cons_zero, List.set_cons_succ]
      refine Reg.WT.done ?_
      intro wr hS
      clear z0 z1 z2 z3 y0' y1'
      obtain ⟨hF3, hT3⟩ := hS
      have hTm : Hid (Tal wr (g + 4) (g + 3) n (moreS s1 (jx n l (z + 1 + q)))) := hide hT3
      have hfoot := HF2.out.trans hF3
      have hFm := hide (Fb.of_foot (n0 := g + 8) hfoot (by omega))
      have hKm := hide (keeps_foot hfoot (fun k hk o ho => by
        simp at hk
        rcases hk with rfl | rfl
        · exact HT0.out.box.isCells o ho
        · exact HT0.out.cnt.isCells o ho))
      obtain ⟨s2, hs2⟩ : ∃ s2, s2 = moreS s1 (jx n l (z + 1 + q)) := ⟨_, rfl⟩
      have HS2 : Hid (s2 = stp n l (q + 1) s (z + 1)) := hide (by unfold stp; rw [if_neg (by omega), hs2, HS1.out]; rfl)
      rw [← hs2] at hTm
      clear hs2 hT3 hF3 hfoot f2 hsz
      have f5 := F.out.fb hFm.out
      have c5 : wr.cell? ⟨g + 1 + 1 + 1 + 1 + 1, 0, none⟩ = some (.pointer (some ⟨g + 4, 0, none⟩)) := f5.b5.cell 0
      have d2 : wr.cell? ⟨g + 4, 2, none⟩ = some (.int .i64 s2.z) := hTm.out.box.cell 2
      have hc2' : wr.cell? ⟨g + 1 + 1, 0, none⟩ = some (.bool false) := f5.b2.cell 0
      have hf2 : wr.frozen? ⟨g + 1 + 1, 0, none⟩ = false := f5.b2.frozen 0
      have B2 := hide (f5.b2.set_ 0 (.bool false))
      have KO := hide (hKm.out.trans (KeepsOthers.setCell wr ⟨g + 1 + 1, 0, none⟩ (.bool false)))
      have BL := hide (((HB0.out.trans hFm.out).to_below (B := g) (by omega) (by simp)).setCell (p := ⟨g + 1 + 1, 0, none⟩) (by simp; omega) (.bool false))
      by_cases hz : 0 < s2.z
      · gi_wp2
        exact ⟨KO.out, ⟨rfl, by rw [vals_snoc, st_snoc, ← HS.out, ← HS2.out]; exact hz, by simpa using B2.out⟩, BL.out⟩
      · gi_wp2
        exact ⟨hKm.out, hFm.out, ⟨by rw [vals_snoc, st_snoc, ← HS.out, ← HS2.out]; exact hTm.out, by rw [vals_snoc]; exact good_snoc HG0.out (by rw [← HS.out, ← HS2.out]; omega)⟩, HB0.out.trans hFm.out⟩
  case done =>
    rintro D xs W hD hxs ⟨⟨hT, hgood⟩, hB⟩ hK
    have HF : Hid (fair n l k = true) := hide (good_fair hn hn2 hk (by have := HN.out; omega) (by
      have : vals xs = List.range (l.length + 1 - k) := by rw [HN.out]; exact hxs
      rw [← this]; exact hgood))
    have F := FX.out.1.fb hB
    have B2 := hide (F.b2.set_ 0 (.bool true))
    have hc2' : W.cell? ⟨g + 1 + 1, 0, none⟩ = some (.bool false) := F.b2.cell 0
    have hf2 : W.frozen? ⟨g + 1 + 1, 0, none⟩ = false := F.b2.frozen 0
    have TF := hide (t0.out.trans ((hB.to_below (B := g) (by omega) (by simp)).setCell (p := ⟨g + 1 + 1, 0, none⟩) (by simp; omega) (.bool true)))
    have hK' := hide ((KeepsOthers.setCell W ⟨g + 1 + 1, 0, none⟩ (.bool true)).same D _ hK rfl)
    have BFk := hide (blk_kept B2.out (grownBy_putObj' _ D (.deferred none)) (fun r e => by cases e; exact ⟨_, hK'.out, rfl⟩))
    have TFk := hide (TF.out.trans (belowK_b (w := wl) (by omega) _ D _ (.deferred none) hD hK'.out rfl rfl))
    have hcell := hide (BFk.out.cell 0)
    have HB2 := hide hB
    rw [← hA]
    clear hA hK F TF hB hT hgood hxs
    gi_wp2_with fail
    go_wp2
    refine ⟨by simp, .inl ⟨_, _, rfl, run_takeDeferred hK'.out, ?_⟩⟩
    exact ⟨.bool true, results_cell1 Try.results13 _ ⟨g + 2, 0, none⟩ _ rfl hcell.out Try.underlying4 rfl (by kernel_rfl), by rw [HF.out]; exact ⟨rfl, by rw [← HGW.out]; exact TFk.out⟩⟩
  case stop =>
    rintro D cc pre W hD ⟨m, hm, hpre⟩ ⟨⟨rfl, hz, B2⟩, hB⟩ hK
    have HF : Hid (fair n l k = false) := hide (bad_fair hn hn2 hk (by have := HN.out; omega) (by have := HN.out; omega) (m := m) (by
      have : vals pre = List.range (m + 1) := hpre
      rw [← this]; exact hz))
    have TF := hide (t0.out.trans hB)
    have hK' := hide hK
    have BFk := hide (blk_kept B2 (grownBy_putObj' _ D (.deferred none)) (fun r e => by cases e; exact ⟨_, hK'.out, rfl⟩))
    have TFk := hide (TF.out.trans (belowK_b (w := wl) (by omega) _ D _ (.deferred none) hD hK'.out rfl rfl))
    have hcell := hide (BFk.out.cell 0)
    rw [← hA]
    clear hA hK TF hB hpre B2
    gi_wp2_with fail
    go_wp2
    refine ⟨by simp, .inl ⟨_, _, rfl, run_takeDeferred hK'.out, ?_⟩⟩
    exact ⟨.bool false, results_cell1 Try.results13 _ ⟨g + 2, 0, none⟩ _ rfl hcell.out Try.underlying4 rfl (by kernel_rfl), by rw [HF.out]; exact ⟨rfl, by rw [← HGW.out]; exact TFk.out⟩⟩
end Go.Proofs.Ytkjmknmcadloaaa
