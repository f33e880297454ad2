/- The walk of Place. -/
import Derived.Test.YtdckhheinpfbjaaIter
namespace Go.Proofs.Ytdckhheinpfbjaa
open Go.RowKit Go.Shelf
attribute [local go_sem] Oper.semAt_some

theorem heights_any (a : Option Addr) (n c : Nat) (y : Int) (w : World) :
    Calls Try.prog 24 #[.agg #[.slice a n c, .int .i64 y]] w fun r w' => r = .returned (.func (.func 27) #[] #[.pointer (some ⟨w.heap.size, 0, none⟩)]) ∧ w.alloc (.cells #[.slice a n c, .int .i64 y] 53) = w' := by
  go_enter Try.func24, Try.ntmps24
  go_wp2
  go_returns
  exact ⟨rfl, rfl⟩

theorem heights_stops (n : Nat) (hn : 1 ≤ n) (Bs n0 : Nat) (a : Option Addr) (fl : List Flt) (c : Nat) (hl : ∀ f ∈ fl, Fit f) (x0 : Ht) (w : World) (hn0 : n0 ≤ w.heap.size) (hBn : Bs < n0)
    (hB : Blk w Bs 53 #[.slice a fl.length c, .int .i64 x0.1]) (hr : FRow w a fl) (hrb : 0 < (fl.map fcell).length → ∀ b off, a = some ⟨b, off, none⟩ → b < n0) :
    SeqStopsK Fence.wide n Try.prog 27 #[.pointer (some ⟨Bs, 0, none⟩)] (fun x : Ht => #[Value.int .i64 x.1]) (Below n0) (fun ys => ∃ k, ys = upto (hts fl hl x0) (k + 1) ∧ (nxt fl (hts fl hl x0 k).1).2 = false)
      (fun pre => ∃ k, pre = upto (hts fl hl x0) (k + 1)) (cntB fl x0.1 + 1) w := fun l J Jx W hW hJ _ hY h0 => by
  have hs := hW.size
  have hB' := hB.below hW hB.lt
  exact heights1_in n hn l Bs n0 a fl c hl x0 J Jx W hJ (by omega) hBn hY (hB'.cell 0) (hB'.cell 1) (hr.below hW) hrb h0

theorem blk_kept {W W' : World} {g : Nat} {t : TypeId} {cs : Array Value} {row : Option Nat} (h : Blk W g t cs) (hg : W.grownBy W' row) (hr : ∀ r, row = some r → ∃ o : Obj, W.heap[r]? = some o ∧ o.isCells = false) : Blk W' g t cs :=
  (hg.block g h.lt (fun e => by
    obtain ⟨o, ho, hc⟩ := hr g e.symm
    have h' : W.heap[g]? = some (.cells cs t (0, 0)) := h
    rw [h'] at ho
    cases ho
    cases hc)).trans h

structure Six (W : World) (g : Nat) (a : Option Addr) (n c : Nat) (sd p q ww hh : Int) : Prop where
  bl : Blk W g 22 #[.slice a n c]
  bs : Blk W (g + 1) 5 #[.int .u8 sd]
  bp : Blk W (g + 2) 2 #[.int .i64 p]
  bq : Blk W (g + 3) 2 #[.int .i64 q]
  br : Blk W (g + 4) 34 #[.int .u8 0, .int .i64 0, .int .i64 0, .int .i64 0, .int .i64 0]
  bo : Blk W (g + 5) 34 #[.int .u8 sd, .int .i64 0, .int .i64 0, .int .i64 ww, .int .i64 hh]
theorem Six.below {W W' : World} {g : Nat} {a : Option Addr} {n c : Nat} {sd p q ww hh : Int} (h : Six W g a n c sd p q ww hh) (hb : Below W.heap.size W W') : Six W' g a n c sd p q ww hh :=
  ⟨h.bl.below hb h.bl.lt, h.bs.below hb h.bs.lt, h.bp.below hb h.bp.lt, h.bq.below hb h.bq.lt, h.br.below hb h.br.lt, h.bo.below hb h.bo.lt⟩
theorem six_new (w : World) (a : Option Addr) (n c : Nat) (sd p q ww hh : Int) :
    Six ((((((w.alloc (.cells #[.slice a n c] 22)).alloc (.cells #[.int .u8 sd] 5)).alloc (.cells #[.int .i64 p] 2)).alloc (.cells #[.int .i64 q] 2)).alloc (.cells #[.int .u8 0, .int .i64 0, .int .i64 0, .int .i64 0, .int .i64 0] 34)).alloc
      (.cells #[.int .u8 sd, .int .i64 0, .int .i64 0, .int .i64 ww, .int .i64 hh] 34)) w.heap.size a n c sd p q ww hh := by
  have n0 := Blk.new w 22 #[.slice a n c]
  have n1 := Blk.new (w.alloc (.cells #[.slice a n c] 22)) 5 #[.int .u8 sd]
  have n2 := Blk.new ((w.alloc (.cells #[.slice a n c] 22)).alloc (.cells #[.int .u8 sd] 5)) 2 #[.int .i64 p]
  have n3 := Blk.new (((w.alloc (.cells #[.slice a n c] 22)).alloc (.cells #[.int .u8 sd] 5)).alloc (.cells #[.int .i64 p] 2)) 2 #[.int .i64 q]
  have n4 := Blk.new ((((w.alloc (.cells #[.slice a n c] 22)).alloc (.cells #[.int .u8 sd] 5)).alloc (.cells #[.int .i64 p] 2)).alloc (.cells #[.int .i64 q] 2)) 34 #[.int .u8 0, .int .i64 0, .int .i64 0, .int .i64 0, .int .i64 0]
  have n5 := Blk.new (((((w.alloc (.cells #[.slice a n c] 22)).alloc (.cells #[.int .u8 sd] 5)).alloc (.cells #[.int .i64 p] 2)).alloc (.cells #[.int .i64 q] 2)).alloc (.cells #[.int .u8 0, .int .i64 0, .int .i64 0, .int .i64 0, .int .i64 0] 34)) 34 #[.int .u8 sd, .int .i64 0, .int .i64 0, .int .i64 ww, .int .i64 hh]
  simp only [World.size_alloc] at n1 n2 n3 n4 n5
  exact ⟨((((n0.alloc _).alloc _).alloc _).alloc _).alloc _, (((n1.alloc _).alloc _).alloc _).alloc _, ((n2.alloc _).alloc _).alloc _, (n3.alloc _).alloc _, n4.alloc _, n5⟩

theorem plc_iter {l : List Flt} {w a b : Int} (hl : ∀ f ∈ l, Fit f) (x0 : Ht) : ∀ k, (∀ i, i < k → okP l w a b (hts l hl x0 i).1 = false) → plc l w a b x0.1 = plc l w a b (hts l hl x0 k).1
  | 0, _ => rfl
  | k + 1, h => by
    have h1 := h k (by omega)
    rw [plc_iter hl x0 k (fun i hi => h i (by omega)), plc_no h1]
    show _ = plc l w a b (hstep l hl (hts l hl x0 k)).1
    unfold hstep
    rw [dif_pos (some_nxt (okP_nxt h1))]


set_option maxHeartbeats 4000000 in
set_option maxRecDepth 100000 in
theorem place_any (a : Option Addr) (l : List Flt) (n c : Nat) (s w0 h p q y : Int) (w : World) (hr : FRow w a l) (hn : l.length = n) (hl : ∀ f ∈ l, Fit f) (hw : -1125899906842624 ≤ w0 ∧ w0 ≤ 1125899906842624) (hp : Hin p) (hq : Hin q) (hy : Hin y) :
    Calls Try.prog 16 #[.slice a n c, .int .u8 s, .int .i64 w0, .int .i64 h, .int .i64 p, .int .i64 q, .int .i64 y] w (PPost (place l s w0 h p q y) w) := by
  refine (callsIn_wide (n := 20)).1 ?_
  refine callsIn_of_wp_marks Try.func16 rfl trivial ?_ rfl
  simp only [Try.ntmps16, List.size_toArray, List.length_cons, List.length_nil, Nat.reduceAdd, Nat.reduceSub, Array.replicate_succ, Array.replicate_zero, List.push_toArray, List.append_toArray, List.nil_append, List.cons_append]
  refine wpIn_wide.2 ?_
  have hlen := hr.len
  rw [hn] at hlen
  have HN := hide hn
  have HL := hide hl
  have HT := hide (fun (k : Nat) => top_far (l := l.take k) (fun f hf => hl f (List.mem_of_mem_take hf)) (y := y) ⟨hy.lo, hy.hi⟩)
  have HP : Hid (Far p) := hide ⟨by have := hp.lo; omega, by have := hp.hi; omega⟩
  have HQ : Hid (Far q) := hide ⟨by have := hq.lo; omega, by have := hq.hi; omega⟩
  obtain ⟨ww, hww⟩ : ∃ ww, ww = max w0 0 := ⟨_, rfl⟩
  obtain ⟨hw1, hw2⟩ := hw
  have hw3 : 0 ≤ ww := by omega
  have hw4 : ww ≤ 1125899906842624 := by omega
  have HW := hide hww
  clear hn hl hww hy hp hq
  by_cases s2 : s = 2
  · subst s2
    go_wp2
    rw [← HW.out]
    have SX := hide (six_new w a n c 2 p q ww (max h 0))
    have tb : Hid (Below w.heap.size w ((((((w.alloc (.cells #[.slice a n c] 22)).alloc (.cells #[.int .u8 2] 5)).alloc (.cells #[.int .i64 p] 2)).alloc (.cells #[.int .i64 q] 2)).alloc (.cells #[.int .u8 0, .int .i64 0, .int .i64 0, .int .i64 0, .int .i64 0] 34)).alloc
          (.cells #[.int .u8 2, .int .i64 0, .int .i64 0, .int .i64 ww, .int .i64 (max h 0)] 34))) := hide (by go_grown)
    obtain ⟨hh, hhh⟩ : ∃ hh, hh = max h 0 := ⟨_, rfl⟩
    rw [← hhh] at SX tb ⊢
    have HH := hide hhh
    clear hhh
    go_loopw [6, 31] (fun u i wr => ∃ k : Nat, k ≤ n ∧ i = .int .i64 k ∧ u = .int .i64 (top (l.take k) y) ∧ Six wr w.heap.size a n c 2 p q ww hh ∧ Below w.heap.size w wr) (fun _ i _ => n - (intOf i).toNat)
    case atStart => exact ⟨0, Nat.zero_le _, rfl, rfl, SX.out, tb.out⟩
    case round =>
      clear SX tb
      obtain ⟨k, hk, rfl, rfl, SX, hbel⟩ := hrel
      have t := hide hbel
      have SX := hide SX
      by_cases hlt : k < n
      · obtain ⟨b, off, rfl, hbw, hcell⟩ := f_at (hr.below hbel) (by have := HN.out; omega)
        have hlt' : k < l.length := by have := HN.out; omega
        obtain ⟨x0, x1, x2, x3, x4⟩ := hcell k hlt'
        have HK := hide (top_take l y hlt')
        clear hbel hcell
        generalize top (l.take k) y = z at HK ⊢
        generalize l[k] = f at x0 x1 x2 x3 x4 HK
        have S2 : Hid (∀ o, Six (wr.alloc o) w.heap.size (some ⟨b, off, none⟩) n c 2 p q ww hh) := hide (fun o => SX.out.below ((Below.refl _ _).alloc (Nat.le_refl _) o))
        have t2 : Hid (∀ o, Below w.heap.size w (wr.alloc o)) := hide (fun o => t.out.alloc t.out.size o)
        go_wp2
        go_roundw
        case rel => exact ⟨k + 1, hlt, by go_num, by rw [HK.out], S2.out _, t2.out _⟩
        case measure => simp [intOf]; omega
      · obtain rfl : k = n := by omega
        have htk := hide (show l.take k = l from List.take_of_length_le (by have := HN.out; omega))
        rw [htk.out]
        obtain ⟨ht1, ht2⟩ := HT.out k
        rw [htk.out] at ht1 ht2
        obtain ⟨y0, hy0⟩ : ∃ y0, y0 = top l y := ⟨_, rfl⟩
        rw [← hy0] at ht1 ht2 ⊢
        have HY0 := hide hy0
        have c0 := SX.out.bl.cell 0
        clear hy0 htk hbel
        go_wp2_with fail
        refine (heights_any a k c y0 wr).mono ?_
        rintro r wl ⟨rfl, hwl⟩
        have HWL := hide hwl
        clear hwl c0
        go_wp2_with fail
        have wlsz : wl.heap.size = wr.heap.size + 1 := by rw [← HWL.out]; simp
        have S3 : Hid (Six wl w.heap.size a k c 2 p q ww hh) := hide (HWL.out ▸ SX.out.below ((Below.refl _ _).alloc (Nat.le_refl _) _))
        have t3 : Hid (Below w.heap.size w wl) := hide (HWL.out ▸ t.out.alloc t.out.size _)
        have BS : Hid (Blk wl wr.heap.size 53 #[.slice a l.length c, .int .i64 y0]) := hide (by rw [HN.out, ← HWL.out]; exact Blk.new wr 53 _)
        have szr := t.out.size
        have hrb : Hid (0 < (l.map fcell).length → ∀ b off, a = some ⟨b, off, none⟩ → b < wl.heap.size) := hide (fun hp b off e => by
          obtain ⟨b', off', ha, hlt, _⟩ := hr.2 hp
          rw [e] at ha
          obtain ⟨rfl, rfl⟩ : b = b' ∧ off = off' := by simpa using ha
          omega)
        clear HWL SX t
        refine (wpIn_wide (n := 20)).1 ?_
        generalize hA : ({ tmps := _, defers := _ } : Act) = A
        refine wpIn_rangeFunc_ownF rfl (by omega) (gf := 27) (lb := #[.pointer (some ⟨wr.heap.size, 0, none⟩)]) (by rw [← hA]; rfl) trivial (enters_of Try.func27 (by kernel_rfl) rfl)
          (heights_stops 19 (by omega) wr.heap.size wl.heap.size a l c HL.out ⟨y0, ht1, ht2⟩ wl (Nat.le_refl _) (by omega) BS.out (hr.below t3.out) hrb.out) belowK_t (belowK_b (Nat.le_refl _)) (Below.refl _ _) (fun _ => rfl)
          (fun pre W => (∀ x ∈ pre, okP l ww p q x.1 = false) ∧ Below wl.heap.size wl W)
          (fun cc pre W => (cc = .exit 2 ∧ ∃ pre' x, pre = pre' ++ [x] ∧ (∀ z ∈ pre', okP l ww p q z.1 = false) ∧ okP l ww p q x.1 = true ∧ Blk W (w.heap.size + 5) 34 #[.int .u8 2, .int .i64 ((tall l x.1 1 p q).2 - ww), .int .i64 x.1, .int .i64 ww, .int .i64 hh] ∧
            Blk W (w.heap.size + 4) 34 #[.int .u8 0, .int .i64 0, .int .i64 0, .int .i64 0, .int .i64 0]) ∧ Below w.heap.size w W)
          (OwnFrom.and (Own.from (fun _ _ _ _ hs _ _ => hs) _) (ownFrom_below (Nat.le_refl _) (Nat.le_refl _)))
          (fun cc => OwnFrom.and (Own.from (fun s A B row hs hg hr => by
            obtain ⟨h1, pre', x, h2, h3, h4, h5, h6⟩ := hs
            exact ⟨h1, pre', x, h2, h3, h4, blk_kept h5 hg hr, blk_kept h6 hg hr⟩) _) (ownFrom_below (Nat.le_refl _) t3.out.size))
          ⟨by simp, Below.refl _ _⟩
          (fun x => { tmps := (A.tmps.setIfInBounds 44 (.int .i64 x.1)).setIfInBounds 18 (.int .i64 x.1), defers := [] }) ?assign ?body ?done ?stop
        case assign =>
          intro rl x W K hK
          subst hA
          gi_wp2
          exact hK
        case body =>
          rintro rl pre x W ⟨hpre, hB⟩ hlen
          rw [← hA]
          clear hA
          simp only [List.setIfInBounds_toArray, List.set_cons_zero, List.set_cons_succ]
          have S := hide (S3.out.below hB)
          have hB := hide hB
          have tw := hide (t3.out.trans (hB.out.mono (by have := t3.out.size; omega)))
          have HX := hide x.2
          obtain ⟨xv, hxv⟩ : ∃ xv, xv = x.1 := ⟨_, rfl⟩
          have HPRE := hide hpre
          have HXV := hide hxv
          rw [← hxv]
          have hfar : Hid (Far xv) := hide (by rw [hxv]; have := x.2; unfold Far; omega)
          obtain ⟨hT1, hT2⟩ := tall_far (y := xv) (h := max 1 1) HL.out HP.out HQ.out
          obtain ⟨r2, hr2⟩ : ∃ r2, r2 = tall l xv 1 p q := ⟨_, rfl⟩
          have hT1 : Far r2.1 := by rw [hr2]; exact hT1
          have hT2 : Far r2.2 := by rw [hr2]; exact hT2
          unfold Far at hT1 hT2
          have HR2 := hide hr2
          clear hr2 hxv hpre
          have c0 : W.cell? ⟨w.heap.size, 0, none⟩ = some (.slice a k c) := S.out.bl.cell 0
          have c2 : W.cell? ⟨w.heap.size + 1 + 1, 0, none⟩ = some (.int .i64 p) := S.out.bp.cell 0
          have c3 : W.cell? ⟨w.heap.size + 1 + 1 + 1, 0, none⟩ = some (.int .i64 q) := S.out.bq.cell 0
          gi_wp2_with fail
          refine ⟨trivial, (CallsIn.inRound rl (callsIn_wide.2 (band_any a l k c xv p q W (hr.below tw.out) HN.out HL.out hfar.out HP.out HQ.out))).mono ?_⟩
          rintro r W2 ⟨rfl, k2⟩
          rw [← HR2.out]
          have S2 := hide (S.out.below k2)
          have kp2 := hide (k2.mono hB.out.size)
          have b2 := hide (hB.out.trans (k2.mono hB.out.size))
          have tw2 := hide (t3.out.trans (b2.out.mono (by have := t3.out.size; omega)))
          have ko2 := hide (KeepsOthers.of_grownBy (grown_of_below k2) (fun j o e => by cases e))
          clear k2 c0 c2 c3
          have c0 : W2.cell? ⟨w.heap.size, 0, none⟩ = some (.slice a k c) := S2.out.bl.cell 0
          gi_wp2_with fail
          refine ⟨trivial, (CallsIn.inRound rl (callsIn_wide.2 (some_any a l k c xv W2 (hr.below tw2.out) HN.out HL.out hfar.out))).mono ?_⟩
          rintro r W3 ⟨rfl, k3⟩
          have S4 := hide (S2.out.below k3)
          have kp3 := hide (kp2.out.trans (k3.mono b2.out.size))
          have b3 := hide (b2.out.trans (k3.mono b2.out.size))
          have tw3 := hide (t3.out.trans (b3.out.mono (by have := t3.out.size; omega)))
          have ko3 := hide (ko2.out.trans (KeepsOthers.of_grownBy (grown_of_below k3) (fun j o e => by cases e)))
          clear k3 c0 S2 ko2
          have hok : Hid (okP l ww p q xv = (!someS l xv || decide (ww ≤ r2.2 - r2.1))) := hide (by unfold okP; rw [HR2.out])
          have c1 : W3.cell? ⟨w.heap.size + 1, 0, none⟩ = some (.int .u8 2) := S4.out.bs.cell 0
          have o0 : W3.cell? ⟨w.heap.size + 1 + 1 + 1 + 1 + 1, 0, none⟩ = some (.int .u8 2) := S4.out.bo.cell 0
          have o1 : W3.cell? ⟨w.heap.size + 1 + 1 + 1 + 1 + 1, 1, none⟩ = some (.int .i64 0) := S4.out.bo.cell 1
          have o2 : W3.cell? ⟨w.heap.size + 1 + 1 + 1 + 1 + 1, 2, none⟩ = some (.int .i64 0) := S4.out.bo.cell 2
          have o3 : W3.cell? ⟨w.heap.size + 1 + 1 + 1 + 1 + 1, 3, none⟩ = some (.int .i64 ww) := S4.out.bo.cell 3
          have f1 : W3.frozen? ⟨w.heap.size + 1 + 1 + 1 + 1 + 1, 1, none⟩ = false := S4.out.bo.frozen 1
          have f2 : W3.frozen? ⟨w.heap.size + 1 + 1 + 1 + 1 + 1, 2, none⟩ = false := S4.out.bo.frozen 2
          cases hsm : someS l xv with
          | false =>
            rw [hsm] at hok
            clear hsm
            have HOK : Hid (okP l ww p q xv = true) := hide (by rw [hok.out]; rfl)
            have BB : Hid (Blk (((W3.setCell ⟨w.heap.size + 1 + 1 + 1 + 1 + 1, 1, none⟩ (.int .i64 r2.1)).setCell ⟨w.heap.size + 1 + 1 + 1 + 1 + 1, 2, none⟩ (.int .i64 xv)).setCell ⟨w.heap.size + 1 + 1 + 1 + 1 + 1, 1, none⟩ (.int .i64 (r2.2 - ww))) (w.heap.size + 5) 34
              #[.int .u8 2, .int .i64 (r2.2 - ww), .int .i64 xv, .int .i64 ww, .int .i64 hh]) := hide (by
                have := ((S4.out.bo.set_ 1 (.int .i64 r2.1)).set_ 2 (.int .i64 xv)).set_ 1 (.int .i64 (r2.2 - ww))
                simpa using this)
            have BR := hide (((S4.out.br.far (p := ⟨w.heap.size + 1 + 1 + 1 + 1 + 1, 1, none⟩) (by simp) (.int .i64 r2.1)).far (p := ⟨w.heap.size + 1 + 1 + 1 + 1 + 1, 2, none⟩) (by simp) (.int .i64 xv)).far (p := ⟨w.heap.size + 1 + 1 + 1 + 1 + 1, 1, none⟩) (by simp) (.int .i64 (r2.2 - ww)))
            have BT := hide (((tw3.out.setCell (p := ⟨w.heap.size + 1 + 1 + 1 + 1 + 1, 1, none⟩) (by simp; omega) (.int .i64 r2.1)).setCell (p := ⟨w.heap.size + 1 + 1 + 1 + 1 + 1, 2, none⟩) (by simp; omega) (.int .i64 xv)).setCell (p := ⟨w.heap.size + 1 + 1 + 1 + 1 + 1, 1, none⟩) (by simp; omega) (.int .i64 (r2.2 - ww)))
            have BK := hide (((ko3.out.trans (KeepsOthers.setCell W3 ⟨w.heap.size + 1 + 1 + 1 + 1 + 1, 1, none⟩ (.int .i64 r2.1))).trans (KeepsOthers.setCell _ ⟨w.heap.size + 1 + 1 + 1 + 1 + 1, 2, none⟩ (.int .i64 xv))).trans (KeepsOthers.setCell _ ⟨w.heap.size + 1 + 1 + 1 + 1 + 1, 1, none⟩ (.int .i64 (r2.2 - ww))))
            rw [HR2.out] at BB BR BT BK
            rw [HXV.out] at BB BR BT BK HOK
            gi_wp2_with fail
            rw [HR2.out, HXV.out]
            exact ⟨BK.out, ⟨rfl, pre, x, rfl, HPRE.out, HOK.out, BB.out, BR.out⟩, BT.out⟩
          | true =>
            rw [hsm] at hok
            by_cases hge : ww ≤ r2.2 - r2.1
            · have HOK : Hid (okP l ww p q xv = true) := hide (by rw [hok.out]; simpa using hge)
              clear hsm
              have BB : Hid (Blk (((W3.setCell ⟨w.heap.size + 1 + 1 + 1 + 1 + 1, 1, none⟩ (.int .i64 r2.1)).setCell ⟨w.heap.size + 1 + 1 + 1 + 1 + 1, 2, none⟩ (.int .i64 xv)).setCell ⟨w.heap.size + 1 + 1 + 1 + 1 + 1, 1, none⟩ (.int .i64 (r2.2 - ww))) (w.heap.size + 5) 34
                #[.int .u8 2, .int .i64 (r2.2 - ww), .int .i64 xv, .int .i64 ww, .int .i64 hh]) := hide (by
                  have := ((S4.out.bo.set_ 1 (.int .i64 r2.1)).set_ 2 (.int .i64 xv)).set_ 1 (.int .i64 (r2.2 - ww))
                  simpa using this)
              have BR := hide (((S4.out.br.far (p := ⟨w.heap.size + 1 + 1 + 1 + 1 + 1, 1, none⟩) (by simp) (.int .i64 r2.1)).far (p := ⟨w.heap.size + 1 + 1 + 1 + 1 + 1, 2, none⟩) (by simp) (.int .i64 xv)).far (p := ⟨w.heap.size + 1 + 1 + 1 + 1 + 1, 1, none⟩) (by simp) (.int .i64 (r2.2 - ww)))
              have BT := hide (((tw3.out.setCell (p := ⟨w.heap.size + 1 + 1 + 1 + 1 + 1, 1, none⟩) (by simp; omega) (.int .i64 r2.1)).setCell (p := ⟨w.heap.size + 1 + 1 + 1 + 1 + 1, 2, none⟩) (by simp; omega) (.int .i64 xv)).setCell (p := ⟨w.heap.size + 1 + 1 + 1 + 1 + 1, 1, none⟩) (by simp; omega) (.int .i64 (r2.2 - ww)))
              have BK := hide (((ko3.out.trans (KeepsOthers.setCell W3 ⟨w.heap.size + 1 + 1 + 1 + 1 + 1, 1, none⟩ (.int .i64 r2.1))).trans (KeepsOthers.setCell _ ⟨w.heap.size + 1 + 1 + 1 + 1 + 1, 2, none⟩ (.int .i64 xv))).trans (KeepsOthers.setCell _ ⟨w.heap.size + 1 + 1 + 1 + 1 + 1, 1, none⟩ (.int .i64 (r2.2 - ww))))
              rw [HR2.out] at BB BR BT BK
              rw [HXV.out] at BB BR BT BK HOK
              gi_wp2_with fail
              rw [HR2.out, HXV.out]
              exact ⟨BK.out, ⟨rfl, pre, x, rfl, HPRE.out, HOK.out, BB.out, BR.out⟩, BT.out⟩
            · have HOK : Hid (okP l ww p q xv = false) := hide (by rw [hok.out]; simp; omega)
              clear hsm
              rw [HXV.out] at HOK
              gi_wp2_with fail
              exact ⟨ko3.out, kp3.out, fun z hz => by
                rcases List.mem_append.1 hz with hz | hz
                · exact HPRE.out z hz
                · have : z = x := by simpa using hz
                  rw [this]; exact HOK.out, b3.out⟩
        case done =>
          rintro D xs W hD ⟨kk, rfl, hnx⟩ ⟨hall, hB⟩ hK
          have := hall (hts l HL.out ⟨y0, ht1, ht2⟩ kk) (by rw [upto_succ]; simp)
          rw [some_nxt (okP_nxt this)] at hnx
          cases hnx
        case stop =>
          rintro D cc pre W hD ⟨kk, hpre⟩ ⟨⟨rfl, pre', x, hpx, hno, hyes, B5, B4⟩, hB⟩ hK
          rw [hpre, upto_succ] at hpx
          obtain ⟨hp1, hp2⟩ := List.append_inj' hpx rfl
          obtain rfl : hts l HL.out ⟨y0, ht1, ht2⟩ kk = x := by simpa using hp2
          have hpl := plc_iter (w := ww) (a := p) (b := q) HL.out ⟨y0, ht1, ht2⟩ kk (fun i hi => hno _ (by rw [← hp1]; exact List.mem_map.2 ⟨i, List.mem_range.2 hi, rfl⟩))
          rw [plc_ok hyes] at hpl
          generalize (hts l HL.out ⟨y0, ht1, ht2⟩ kk).1 = xv at hpl B5
          have HPL := hide hpl
          have B5 := hide B5
          have B4 := hide B4
          have hB := hide hB
          clear hpx hp1 hp2 hpl hno hyes hpre
          have c0 : W.cell? ⟨w.heap.size + 1 + 1 + 1 + 1 + 1, 0, none⟩ = some (.int .u8 2) := B5.out.cell 0
          have c1 : W.cell? ⟨w.heap.size + 1 + 1 + 1 + 1 + 1, 1, none⟩ = some (.int .i64 ((tall l xv 1 p q).2 - ww)) := B5.out.cell 1
          have c2 : W.cell? ⟨w.heap.size + 1 + 1 + 1 + 1 + 1, 2, none⟩ = some (.int .i64 xv) := B5.out.cell 2
          have c3 : W.cell? ⟨w.heap.size + 1 + 1 + 1 + 1 + 1, 3, none⟩ = some (.int .i64 ww) := B5.out.cell 3
          have c4 : W.cell? ⟨w.heap.size + 1 + 1 + 1 + 1 + 1, 4, none⟩ = some (.int .i64 hh) := B5.out.cell 4
          have d0 : W.cell? ⟨w.heap.size + 1 + 1 + 1 + 1, 0, none⟩ = some (.int .u8 0) := B4.out.cell 0
          have d1 : W.cell? ⟨w.heap.size + 1 + 1 + 1 + 1, 1, none⟩ = some (.int .i64 0) := B4.out.cell 1
          have d2 : W.cell? ⟨w.heap.size + 1 + 1 + 1 + 1, 2, none⟩ = some (.int .i64 0) := B4.out.cell 2
          have d3 : W.cell? ⟨w.heap.size + 1 + 1 + 1 + 1, 3, none⟩ = some (.int .i64 0) := B4.out.cell 3
          have d4 : W.cell? ⟨w.heap.size + 1 + 1 + 1 + 1, 4, none⟩ = some (.int .i64 0) := B4.out.cell 4
          have f0 : W.frozen? ⟨w.heap.size + 1 + 1 + 1 + 1, 0, none⟩ = false := B4.out.frozen 0
          have f1 : W.frozen? ⟨w.heap.size + 1 + 1 + 1 + 1, 1, none⟩ = false := B4.out.frozen 1
          have f2 : W.frozen? ⟨w.heap.size + 1 + 1 + 1 + 1, 2, none⟩ = false := B4.out.frozen 2
          have f3 : W.frozen? ⟨w.heap.size + 1 + 1 + 1 + 1, 3, none⟩ = false := B4.out.frozen 3
          have f4 : W.frozen? ⟨w.heap.size + 1 + 1 + 1 + 1, 4, none⟩ = false := B4.out.frozen 4
          have BF := hide (box5 B4.out (.int .u8 2) (.int .i64 ((tall l xv 1 p q).2 - ww)) (.int .i64 xv) (.int .i64 ww) (.int .i64 hh))
          have TF := hide (below5 hB.out (show w.heap.size ≤ w.heap.size + 1 + 1 + 1 + 1 by omega) (.int .u8 2) (.int .i64 ((tall l xv 1 p q).2 - ww)) (.int .i64 xv) (.int .i64 ww) (.int .i64 hh))
          have KF := hide (((((KeepsOthers.setCell W ⟨w.heap.size + 1 + 1 + 1 + 1, 0, none⟩ (.int .u8 2)).trans (KeepsOthers.setCell _ ⟨w.heap.size + 1 + 1 + 1 + 1, 1, none⟩ (.int .i64 ((tall l xv 1 p q).2 - ww)))).trans (KeepsOthers.setCell _ ⟨w.heap.size + 1 + 1 + 1 + 1, 2, none⟩ (.int .i64 xv))).trans
            (KeepsOthers.setCell _ ⟨w.heap.size + 1 + 1 + 1 + 1, 3, none⟩ (.int .i64 ww))).trans (KeepsOthers.setCell _ ⟨w.heap.size + 1 + 1 + 1 + 1, 4, none⟩ (.int .i64 hh)))
          have hK' := hide (KF.out.same D _ hK rfl)
          have BFk := hide (blk_kept BF.out (grownBy_putObj' _ D (.deferred none)) (fun r e => by cases e; exact ⟨_, hK'.out, rfl⟩))
          have TFk := hide (TF.out.trans (belowK_b (w := w) (Nat.le_refl _) _ D _ (.deferred none) (by have := t3.out.size; omega) hK'.out rfl rfl))
          have FIN := hide ((ppost_of (s := 2) (h := h) (y := y) (p := tall l xv 1 p q) HW.out (by rw [← HY0.out]; exact HPL.out.symm) rfl TFk.out).1 rfl)
          rw [← HH.out] at FIN
          rw [← hA]
          clear hA hK
          gi_wp2_with fail
          go_wp2
          refine ⟨by simp, .inl ⟨_, _, rfl, run_takeDeferred hK'.out, ?_⟩⟩
          exact ⟨_, results_cell_row Try.results16 _ _ (w.heap.size + 1 + 1 + 1 + 1) 34 _ (0, 0) _ rfl BFk.out Try.underlying34 rfl (by kernel_rfl), FIN.out⟩
  · have bs : (s == 2) = false := by simpa using s2
    have bn : (s != 2) = true := by simpa using s2
    have S2 := hide s2
    clear s2
    go_wp2
    clear bs bn
    rw [← HW.out]
    have SX := hide (six_new w a n c 1 p q ww (max h 0))
    have tb : Hid (Below w.heap.size w ((((((w.alloc (.cells #[.slice a n c] 22)).alloc (.cells #[.int .u8 1] 5)).alloc (.cells #[.int .i64 p] 2)).alloc (.cells #[.int .i64 q] 2)).alloc (.cells #[.int .u8 0, .int .i64 0, .int .i64 0, .int .i64 0, .int .i64 0] 34)).alloc
          (.cells #[.int .u8 1, .int .i64 0, .int .i64 0, .int .i64 ww, .int .i64 (max h 0)] 34))) := hide (by go_grown)
    obtain ⟨hh, hhh⟩ : ∃ hh, hh = max h 0 := ⟨_, rfl⟩
    rw [← hhh] at SX tb ⊢
    have HH := hide hhh
    clear hhh
    go_loopw [6, 31] (fun u i wr => ∃ k : Nat, k ≤ n ∧ i = .int .i64 k ∧ u = .int .i64 (top (l.take k) y) ∧ Six wr w.heap.size a n c 1 p q ww hh ∧ Below w.heap.size w wr) (fun _ i _ => n - (intOf i).toNat)
    case atStart => exact ⟨0, Nat.zero_le _, rfl, rfl, SX.out, tb.out⟩
    case round =>
      clear SX tb
      obtain ⟨k, hk, rfl, rfl, SX, hbel⟩ := hrel
      have t := hide hbel
      have SX := hide SX
      by_cases hlt : k < n
      · obtain ⟨b, off, rfl, hbw, hcell⟩ := f_at (hr.below hbel) (by have := HN.out; omega)
        have hlt' : k < l.length := by have := HN.out; omega
        obtain ⟨x0, x1, x2, x3, x4⟩ := hcell k hlt'
        have HK := hide (top_take l y hlt')
        clear hbel hcell
        generalize top (l.take k) y = z at HK ⊢
        generalize l[k] = f at x0 x1 x2 x3 x4 HK
        have S2 : Hid (∀ o, Six (wr.alloc o) w.heap.size (some ⟨b, off, none⟩) n c 1 p q ww hh) := hide (fun o => SX.out.below ((Below.refl _ _).alloc (Nat.le_refl _) o))
        have t2 : Hid (∀ o, Below w.heap.size w (wr.alloc o)) := hide (fun o => t.out.alloc t.out.size o)
        go_wp2
        go_roundw
        case rel => exact ⟨k + 1, hlt, by go_num, by rw [HK.out], S2.out _, t2.out _⟩
        case measure => simp [intOf]; omega
      · obtain rfl : k = n := by omega
        have htk := hide (show l.take k = l from List.take_of_length_le (by have := HN.out; omega))
        rw [htk.out]
        obtain ⟨ht1, ht2⟩ := HT.out k
        rw [htk.out] at ht1 ht2
        obtain ⟨y0, hy0⟩ : ∃ y0, y0 = top l y := ⟨_, rfl⟩
        rw [← hy0] at ht1 ht2 ⊢
        have HY0 := hide hy0
        have c0 := SX.out.bl.cell 0
        clear hy0 htk hbel
        go_wp2_with fail
        refine (heights_any a k c y0 wr).mono ?_
        rintro r wl ⟨rfl, hwl⟩
        have HWL := hide hwl
        clear hwl c0
        go_wp2_with fail
        have wlsz : wl.heap.size = wr.heap.size + 1 := by rw [← HWL.out]; simp
        have S3 : Hid (Six wl w.heap.size a k c 1 p q ww hh) := hide (HWL.out ▸ SX.out.below ((Below.refl _ _).alloc (Nat.le_refl _) _))
        have t3 : Hid (Below w.heap.size w wl) := hide (HWL.out ▸ t.out.alloc t.out.size _)
        have BS : Hid (Blk wl wr.heap.size 53 #[.slice a l.length c, .int .i64 y0]) := hide (by rw [HN.out, ← HWL.out]; exact Blk.new wr 53 _)
        have szr := t.out.size
        have hrb : Hid (0 < (l.map fcell).length → ∀ b off, a = some ⟨b, off, none⟩ → b < wl.heap.size) := hide (fun hp b off e => by
          obtain ⟨b', off', ha, hlt, _⟩ := hr.2 hp
          rw [e] at ha
          obtain ⟨rfl, rfl⟩ : b = b' ∧ off = off' := by simpa using ha
          omega)
        clear HWL SX t
        refine (wpIn_wide (n := 20)).1 ?_
        generalize hA : ({ tmps := _, defers := _ } : Act) = A
        refine wpIn_rangeFunc_ownF rfl (by omega) (gf := 27) (lb := #[.pointer (some ⟨wr.heap.size, 0, none⟩)]) (by rw [← hA]; rfl) trivial (enters_of Try.func27 (by kernel_rfl) rfl)
          (heights_stops 19 (by omega) wr.heap.size wl.heap.size a l c HL.out ⟨y0, ht1, ht2⟩ wl (Nat.le_refl _) (by omega) BS.out (hr.below t3.out) hrb.out) belowK_t (belowK_b (Nat.le_refl _)) (Below.refl _ _) (fun _ => rfl)
          (fun pre W => (∀ x ∈ pre, okP l ww p q x.1 = false) ∧ Below wl.heap.size wl W)
          (fun cc pre W => (cc = .exit 2 ∧ ∃ pre' x, pre = pre' ++ [x] ∧ (∀ z ∈ pre', okP l ww p q z.1 = false) ∧ okP l ww p q x.1 = true ∧ Blk W (w.heap.size + 5) 34 #[.int .u8 1, .int .i64 (tall l x.1 1 p q).1, .int .i64 x.1, .int .i64 ww, .int .i64 hh] ∧
            Blk W (w.heap.size + 4) 34 #[.int .u8 0, .int .i64 0, .int .i64 0, .int .i64 0, .int .i64 0]) ∧ Below w.heap.size w W)
          (OwnFrom.and (Own.from (fun _ _ _ _ hs _ _ => hs) _) (ownFrom_below (Nat.le_refl _) (Nat.le_refl _)))
          (fun cc => OwnFrom.and (Own.from (fun s A B row hs hg hr => by
            obtain ⟨h1, pre', x, h2, h3, h4, h5, h6⟩ := hs
            exact ⟨h1, pre', x, h2, h3, h4, blk_kept h5 hg hr, blk_kept h6 hg hr⟩) _) (ownFrom_below (Nat.le_refl _) t3.out.size))
          ⟨by simp, Below.refl _ _⟩
          (fun x => { tmps := (A.tmps.setIfInBounds 44 (.int .i64 x.1)).setIfInBounds 18 (.int .i64 x.1), defers := [] }) ?assign ?body ?done ?stop
        case assign =>
          intro rl x W K hK
          subst hA
          gi_wp2
          exact hK
        case body =>
          rintro rl pre x W ⟨hpre, hB⟩ hlen
          rw [← hA]
          clear hA
          simp only [List.setIfInBounds_toArray, List.set_cons_zero, List.set_cons_succ]
          have S := hide (S3.out.below hB)
          have hB := hide hB
          have tw := hide (t3.out.trans (hB.out.mono (by have := t3.out.size; omega)))
          have HX := hide x.2
          obtain ⟨xv, hxv⟩ : ∃ xv, xv = x.1 := ⟨_, rfl⟩
          have HPRE := hide hpre
          have HXV := hide hxv
          rw [← hxv]
          have hfar : Hid (Far xv) := hide (by rw [hxv]; have := x.2; unfold Far; omega)
          obtain ⟨hT1, hT2⟩ := tall_far (y := xv) (h := max 1 1) HL.out HP.out HQ.out
          obtain ⟨r2, hr2⟩ : ∃ r2, r2 = tall l xv 1 p q := ⟨_, rfl⟩
          have hT1 : Far r2.1 := by rw [hr2]; exact hT1
          have hT2 : Far r2.2 := by rw [hr2]; exact hT2
          unfold Far at hT1 hT2
          have HR2 := hide hr2
          clear hr2 hxv hpre
          have c0 : W.cell? ⟨w.heap.size, 0, none⟩ = some (.slice a k c) := S.out.bl.cell 0
          have c2 : W.cell? ⟨w.heap.size + 1 + 1, 0, none⟩ = some (.int .i64 p) := S.out.bp.cell 0
          have c3 : W.cell? ⟨w.heap.size + 1 + 1 + 1, 0, none⟩ = some (.int .i64 q) := S.out.bq.cell 0
          gi_wp2_with fail
          refine ⟨trivial, (CallsIn.inRound rl (callsIn_wide.2 (band_any a l k c xv p q W (hr.below tw.out) HN.out HL.out hfar.out HP.out HQ.out))).mono ?_⟩
          rintro r W2 ⟨rfl, k2⟩
          rw [← HR2.out]
          have S2 := hide (S.out.below k2)
          have kp2 := hide (k2.mono hB.out.size)
          have b2 := hide (hB.out.trans (k2.mono hB.out.size))
          have tw2 := hide (t3.out.trans (b2.out.mono (by have := t3.out.size; omega)))
          have ko2 := hide (KeepsOthers.of_grownBy (grown_of_below k2) (fun j o e => by cases e))
          clear k2 c0 c2 c3
          have c0 : W2.cell? ⟨w.heap.size, 0, none⟩ = some (.slice a k c) := S2.out.bl.cell 0
          gi_wp2_with fail
          refine ⟨trivial, (CallsIn.inRound rl (callsIn_wide.2 (some_any a l k c xv W2 (hr.below tw2.out) HN.out HL.out hfar.out))).mono ?_⟩
          rintro r W3 ⟨rfl, k3⟩
          have S4 := hide (S2.out.below k3)
          have kp3 := hide (kp2.out.trans (k3.mono b2.out.size))
          have b3 := hide (b2.out.trans (k3.mono b2.out.size))
          have tw3 := hide (t3.out.trans (b3.out.mono (by have := t3.out.size; omega)))
          have ko3 := hide (ko2.out.trans (KeepsOthers.of_grownBy (grown_of_below k3) (fun j o e => by cases e)))
          clear k3 c0 S2 ko2
          have hok : Hid (okP l ww p q xv = (!someS l xv || decide (ww ≤ r2.2 - r2.1))) := hide (by unfold okP; rw [HR2.out])
          have c1 : W3.cell? ⟨w.heap.size + 1, 0, none⟩ = some (.int .u8 1) := S4.out.bs.cell 0
          have o0 : W3.cell? ⟨w.heap.size + 1 + 1 + 1 + 1 + 1, 0, none⟩ = some (.int .u8 1) := S4.out.bo.cell 0
          have o1 : W3.cell? ⟨w.heap.size + 1 + 1 + 1 + 1 + 1, 1, none⟩ = some (.int .i64 0) := S4.out.bo.cell 1
          have o2 : W3.cell? ⟨w.heap.size + 1 + 1 + 1 + 1 + 1, 2, none⟩ = some (.int .i64 0) := S4.out.bo.cell 2
          have o3 : W3.cell? ⟨w.heap.size + 1 + 1 + 1 + 1 + 1, 3, none⟩ = some (.int .i64 ww) := S4.out.bo.cell 3
          have f1 : W3.frozen? ⟨w.heap.size + 1 + 1 + 1 + 1 + 1, 1, none⟩ = false := S4.out.bo.frozen 1
          have f2 : W3.frozen? ⟨w.heap.size + 1 + 1 + 1 + 1 + 1, 2, none⟩ = false := S4.out.bo.frozen 2
          cases hsm : someS l xv with
          | false =>
            rw [hsm] at hok
            clear hsm
            have HOK : Hid (okP l ww p q xv = true) := hide (by rw [hok.out]; rfl)
            have BB : Hid (Blk ((W3.setCell ⟨w.heap.size + 1 + 1 + 1 + 1 + 1, 1, none⟩ (.int .i64 r2.1)).setCell ⟨w.heap.size + 1 + 1 + 1 + 1 + 1, 2, none⟩ (.int .i64 xv)) (w.heap.size + 5) 34
              #[.int .u8 1, .int .i64 r2.1, .int .i64 xv, .int .i64 ww, .int .i64 hh]) := hide (by
                have := (S4.out.bo.set_ 1 (.int .i64 r2.1)).set_ 2 (.int .i64 xv)
                simpa using this)
            have BR := hide ((S4.out.br.far (p := ⟨w.heap.size + 1 + 1 + 1 + 1 + 1, 1, none⟩) (by simp) (.int .i64 r2.1)).far (p := ⟨w.heap.size + 1 + 1 + 1 + 1 + 1, 2, none⟩) (by simp) (.int .i64 xv))
            have BT := hide ((tw3.out.setCell (p := ⟨w.heap.size + 1 + 1 + 1 + 1 + 1, 1, none⟩) (by simp; omega) (.int .i64 r2.1)).setCell (p := ⟨w.heap.size + 1 + 1 + 1 + 1 + 1, 2, none⟩) (by simp; omega) (.int .i64 xv))
            have BK := hide ((ko3.out.trans (KeepsOthers.setCell W3 ⟨w.heap.size + 1 + 1 + 1 + 1 + 1, 1, none⟩ (.int .i64 r2.1))).trans (KeepsOthers.setCell _ ⟨w.heap.size + 1 + 1 + 1 + 1 + 1, 2, none⟩ (.int .i64 xv)))
            rw [HR2.out] at BB BR BT BK
            rw [HXV.out] at BB BR BT BK HOK
            gi_wp2_with fail
            rw [HR2.out, HXV.out]
            exact ⟨BK.out, ⟨rfl, pre, x, rfl, HPRE.out, HOK.out, BB.out, BR.out⟩, BT.out⟩
          | true =>
            rw [hsm] at hok
            by_cases hge : ww ≤ r2.2 - r2.1
            · have HOK : Hid (okP l ww p q xv = true) := hide (by rw [hok.out]; simpa using hge)
              clear hsm
              have BB : Hid (Blk ((W3.setCell ⟨w.heap.size + 1 + 1 + 1 + 1 + 1, 1, none⟩ (.int .i64 r2.1)).setCell ⟨w.heap.size + 1 + 1 + 1 + 1 + 1, 2, none⟩ (.int .i64 xv)) (w.heap.size + 5) 34
                #[.int .u8 1, .int .i64 r2.1, .int .i64 xv, .int .i64 ww, .int .i64 hh]) := hide (by
                  have := (S4.out.bo.set_ 1 (.int .i64 r2.1)).set_ 2 (.int .i64 xv)
                  simpa using this)
              have BR := hide ((S4.out.br.far (p := ⟨w.heap.size + 1 + 1 + 1 + 1 + 1, 1, none⟩) (by simp) (.int .i64 r2.1)).far (p := ⟨w.heap.size + 1 + 1 + 1 + 1 + 1, 2, none⟩) (by simp) (.int .i64 xv))
              have BT := hide ((tw3.out.setCell (p := ⟨w.heap.size + 1 + 1 + 1 + 1 + 1, 1, none⟩) (by simp; omega) (.int .i64 r2.1)).setCell (p := ⟨w.heap.size + 1 + 1 + 1 + 1 + 1, 2, none⟩) (by simp; omega) (.int .i64 xv))
              have BK := hide ((ko3.out.trans (KeepsOthers.setCell W3 ⟨w.heap.size + 1 + 1 + 1 + 1 + 1, 1, none⟩ (.int .i64 r2.1))).trans (KeepsOthers.setCell _ ⟨w.heap.size + 1 + 1 + 1 + 1 + 1, 2, none⟩ (.int .i64 xv)))
              rw [HR2.out] at BB BR BT BK
              rw [HXV.out] at BB BR BT BK HOK
              gi_wp2_with fail
              rw [HR2.out, HXV.out]
              exact ⟨BK.out, ⟨rfl, pre, x, rfl, HPRE.out, HOK.out, BB.out, BR.out⟩, BT.out⟩
            · have HOK : Hid (okP l ww p q xv = false) := hide (by rw [hok.out]; simp; omega)
              clear hsm
              rw [HXV.out] at HOK
              gi_wp2_with fail
              exact ⟨ko3.out, kp3.out, fun z hz => by
                rcases List.mem_append.1 hz with hz | hz
                · exact HPRE.out z hz
                · have : z = x := by simpa using hz
                  rw [this]; exact HOK.out, b3.out⟩
        case done =>
          rintro D xs W hD ⟨kk, rfl, hnx⟩ ⟨hall, hB⟩ hK
          have := hall (hts l HL.out ⟨y0, ht1, ht2⟩ kk) (by rw [upto_succ]; simp)
          rw [some_nxt (okP_nxt this)] at hnx
          cases hnx
        case stop =>
          rintro D cc pre W hD ⟨kk, hpre⟩ ⟨⟨rfl, pre', x, hpx, hno, hyes, B5, B4⟩, hB⟩ hK
          rw [hpre, upto_succ] at hpx
          obtain ⟨hp1, hp2⟩ := List.append_inj' hpx rfl
          obtain rfl : hts l HL.out ⟨y0, ht1, ht2⟩ kk = x := by simpa using hp2
          have hpl := plc_iter (w := ww) (a := p) (b := q) HL.out ⟨y0, ht1, ht2⟩ kk (fun i hi => hno _ (by rw [← hp1]; exact List.mem_map.2 ⟨i, List.mem_range.2 hi, rfl⟩))
          rw [plc_ok hyes] at hpl
          generalize (hts l HL.out ⟨y0, ht1, ht2⟩ kk).1 = xv at hpl B5
          have HPL := hide hpl
          have B5 := hide B5
          have B4 := hide B4
          have hB := hide hB
          clear hpx hp1 hp2 hpl hno hyes hpre
          have c0 : W.cell? ⟨w.heap.size + 1 + 1 + 1 + 1 + 1, 0, none⟩ = some (.int .u8 1) := B5.out.cell 0
          have c1 : W.cell? ⟨w.heap.size + 1 + 1 + 1 + 1 + 1, 1, none⟩ = some (.int .i64 (tall l xv 1 p q).1) := B5.out.cell 1
          have c2 : W.cell? ⟨w.heap.size + 1 + 1 + 1 + 1 + 1, 2, none⟩ = some (.int .i64 xv) := B5.out.cell 2
          have c3 : W.cell? ⟨w.heap.size + 1 + 1 + 1 + 1 + 1, 3, none⟩ = some (.int .i64 ww) := B5.out.cell 3
          have c4 : W.cell? ⟨w.heap.size + 1 + 1 + 1 + 1 + 1, 4, none⟩ = some (.int .i64 hh) := B5.out.cell 4
          have d0 : W.cell? ⟨w.heap.size + 1 + 1 + 1 + 1, 0, none⟩ = some (.int .u8 0) := B4.out.cell 0
          have d1 : W.cell? ⟨w.heap.size + 1 + 1 + 1 + 1, 1, none⟩ = some (.int .i64 0) := B4.out.cell 1
          have d2 : W.cell? ⟨w.heap.size + 1 + 1 + 1 + 1, 2, none⟩ = some (.int .i64 0) := B4.out.cell 2
          have d3 : W.cell? ⟨w.heap.size + 1 + 1 + 1 + 1, 3, none⟩ = some (.int .i64 0) := B4.out.cell 3
          have d4 : W.cell? ⟨w.heap.size + 1 + 1 + 1 + 1, 4, none⟩ = some (.int .i64 0) := B4.out.cell 4
          have f0 : W.frozen? ⟨w.heap.size + 1 + 1 + 1 + 1, 0, none⟩ = false := B4.out.frozen 0
          have f1 : W.frozen? ⟨w.heap.size + 1 + 1 + 1 + 1, 1, none⟩ = false := B4.out.frozen 1
          have f2 : W.frozen? ⟨w.heap.size + 1 + 1 + 1 + 1, 2, none⟩ = false := B4.out.frozen 2
          have f3 : W.frozen? ⟨w.heap.size + 1 + 1 + 1 + 1, 3, none⟩ = false := B4.out.frozen 3
          have f4 : W.frozen? ⟨w.heap.size + 1 + 1 + 1 + 1, 4, none⟩ = false := B4.out.frozen 4
          have BF := hide (box5 B4.out (.int .u8 1) (.int .i64 (tall l xv 1 p q).1) (.int .i64 xv) (.int .i64 ww) (.int .i64 hh))
          have TF := hide (below5 hB.out (show w.heap.size ≤ w.heap.size + 1 + 1 + 1 + 1 by omega) (.int .u8 1) (.int .i64 (tall l xv 1 p q).1) (.int .i64 xv) (.int .i64 ww) (.int .i64 hh))
          have KF := hide (((((KeepsOthers.setCell W ⟨w.heap.size + 1 + 1 + 1 + 1, 0, none⟩ (.int .u8 1)).trans (KeepsOthers.setCell _ ⟨w.heap.size + 1 + 1 + 1 + 1, 1, none⟩ (.int .i64 (tall l xv 1 p q).1))).trans (KeepsOthers.setCell _ ⟨w.heap.size + 1 + 1 + 1 + 1, 2, none⟩ (.int .i64 xv))).trans
            (KeepsOthers.setCell _ ⟨w.heap.size + 1 + 1 + 1 + 1, 3, none⟩ (.int .i64 ww))).trans (KeepsOthers.setCell _ ⟨w.heap.size + 1 + 1 + 1 + 1, 4, none⟩ (.int .i64 hh)))
          have hK' := hide (KF.out.same D _ hK rfl)
          have BFk := hide (blk_kept BF.out (grownBy_putObj' _ D (.deferred none)) (fun r e => by cases e; exact ⟨_, hK'.out, rfl⟩))
          have TFk := hide (TF.out.trans (belowK_b (w := w) (Nat.le_refl _) _ D _ (.deferred none) (by have := t3.out.size; omega) hK'.out rfl rfl))
          have FIN := hide ((ppost_of (s := s) (h := h) (y := y) (p := tall l xv 1 p q) HW.out (by rw [← HY0.out]; exact HPL.out.symm) rfl TFk.out).2 S2.out)
          rw [← HH.out] at FIN
          rw [← hA]
          clear hA hK
          gi_wp2_with fail
          go_wp2
          refine ⟨by simp, .inl ⟨_, _, rfl, run_takeDeferred hK'.out, ?_⟩⟩
          exact ⟨_, results_cell_row Try.results16 _ _ (w.heap.size + 1 + 1 + 1 + 1) 34 _ (0, 0) _ rfl BFk.out Try.underlying34 rfl (by kernel_rfl), FIN.out⟩
end Go.Proofs.Ytdckhheinpfbjaa
