/- Walk: Fill. -/
import Derived.Test.YtpdfeifnbeojcaaWC
namespace Go.Proofs.Ytpdfeifnbeojcaa
open Go.RowKit Go.Shelf
attribute [local go_sem] Oper.semAt_some

theorem results_cell2 {P : Program} {fn : Func} {p q : Tmp} {ty uy : TypeId} (h : fn.results = #[.cell p ty, .cell q uy]) (tmps : Array Value) {w : World} (ad ad' : Addr) (v v' : Value)
    (hp : tmps.getD p undef = .pointer (some ad)) (hq : tmps.getD q undef = .pointer (some ad')) (hc : w.cell? ad = some v) (hc' : w.cell? ad' = some v') {d e : TypeDesc} (hu : P.underlying ty = some d) (hv : P.underlying uy = some e)
    (hd : (match d with | .struct _ | .array _ _ => false | _ => true) = true) (he : (match e with | .struct _ | .array _ _ => false | _ => true) = true) :
    (results fn tmps).run P w = .ok (.tuple #[v, v']) w := by
  have hp' : tmps[p]?.getD undef = .pointer (some ad) := by simpa using hp
  have hq' : tmps[q]?.getD undef = .pointer (some ad') := by simpa using hq
  have ha : (isAgg ty).run P w = .ok false w := by
    unfold isAgg
    cases d <;> simp_all [run_underlying hu]
  have hb : (isAgg uy).run P w = .ok false w := by
    unfold isAgg
    cases e <;> simp_all [run_underlying hv]
  simp [results, h, hp', hq', asAddr, go_sem, hc, hc', ha, hb]

theorem rows_any (bf : Nat) (y : Int) (w : World) :
    Calls Try.prog 14 #[.pointer (some ⟨bf, 0, none⟩), .int .i64 y] w fun r w' => r = .returned (.func (.func 19) #[] #[.pointer (some ⟨w.heap.size + 1, 0, none⟩), .pointer (some ⟨w.heap.size, 0, none⟩)]) ∧
      (w.alloc (.cells #[.pointer (some ⟨bf, 0, none⟩)] 53)).alloc (.cells #[.int .i64 y] 2) = w' := by
  go_enter Try.func14, Try.ntmps14
  go_wp2
  go_returns
  exact ⟨rfl, rfl⟩

def rcell (x : RV) : List Value := [.int .i64 x.r.y, .int .i64 x.r.f, .int .i64 x.r.t, .slice x.a x.r.xs.length x.c]
theorem rcell_len (l : List RV) : ∀ x ∈ l.map rcell, x.length = 4 := by
  intro x hx; rw [List.mem_map] at hx; obtain ⟨y, _, rfl⟩ := hx; rfl
theorem XB.keep {W W' : World} {x : RV} (h : XB W x) (hk : ∀ k cs, Blk W k 2 cs → Blk W' k 2 cs) : XB W' x := by
  rcases h with h | ⟨g, cs, h1, h2, h3⟩
  · exact .inl h
  · exact .inr ⟨g, cs, h1, hk g cs h2, h3⟩
theorem XB.keepGe {W W' : World} {x : RV} {N : Nat} (h : XB W x) (ha : aGe N x) (hk : ∀ k cs, N ≤ k → Blk W k 2 cs → Blk W' k 2 cs) : XB W' x := by
  rcases h with h | ⟨g, cs, h1, h2, h3⟩
  · exact .inl h
  · exact .inr ⟨g, cs, h1, hk g cs (ha g 0 h1) h2, h3⟩
theorem keeps_own {W W' : World} {base : Nat} {e : TypeId} {size n : Nat} {v : Value} {xs : List Value} (h : W.ownsRow base e size v n xs) (hg : W.grownBy W' v.ownBlock) : KeepsOthers W W' :=
  ⟨hg.size, fun k o hk ho => by
    have hlt : k < W.heap.size := (Array.getElem?_eq_some_iff.1 hk).1
    rw [hg.block k hlt (fun e' => by
      rcases h.2 with ⟨rfl, _⟩ | ⟨g, cap, cur, rfl, _, hgb, _⟩
      · cases e'
      · obtain rfl : k = g := by simpa [Value.ownBlock] using e'
        rw [hgb] at hk; cases hk; cases ho)]
    exact hk⟩
theorem XB.below {W W' : World} {x : RV} (h : XB W x) (hb : Below W.heap.size W W') : XB W' x := h.keep fun _ _ hB => hB.below hb hB.lt
/-- Rows in memory. -/
def LRow (W : World) (a : Option Addr) (l : List Rw) : Prop := ∃ xs : List RV, xs.map RV.r = l ∧ RowS W a 4 (xs.map rcell) ∧ ∀ x ∈ xs, XB W x
theorem LRow.below {W W' : World} {a : Option Addr} {l : List Rw} (h : LRow W a l) (hb : Below W.heap.size W W') : LRow W' a l := by
  obtain ⟨xs, h1, h2, h3⟩ := h
  exact ⟨xs, h1, h2.below hb, fun x hx => (h3 x hx).below hb⟩
def endOf (h y : Int) (pre : List RV) : Int := pre.foldl (fun _ x => x.r.y + h) y
theorem endOf_snoc (h y : Int) (pre : List RV) (x : RV) : endOf h y (pre ++ [x]) = x.r.y + h := by unfold endOf; rw [List.foldl_append]; rfl
theorem fill_last {c : Rm} : ∀ (n k : Nat) (l : List Wd) (y : Int), l.length ≤ n → (fill c k l y).2 = (fill c k l y).1.foldl (fun _ r => r.y + c.h) y := by
  intro n
  induction n with
  | zero =>
    intro k l y h
    obtain rfl : l = [] := List.eq_nil_of_length_eq_zero (by omega)
    rw [fill_nil]; rfl
  | succ n ih =>
    intro k l y h
    cases l with
    | nil => rw [fill_nil]; rfl
    | cons w l =>
      rw [fill_cons]
      dsimp only
      have ht := row_t c k w l (y + ends k w * c.h)
      rw [List.foldl_append, List.foldl_cons]
      exact ih _ _ _ (by simp at h ⊢; omega)
theorem endOf_map (h y : Int) (xs : List RV) : endOf h y xs = (xs.map RV.r).foldl (fun _ r => r.y + h) y := by unfold endOf; rw [List.foldl_map]

/-- What the rounds keep. -/
structure FI (g : Nat) (wl : World) (h y : Int) (pre : List RV) (W : World) : Prop where
  b0 : ∃ v, Blk W g 28 #[v] ∧ W.ownsRow (g + 5) 38 4 v pre.length (pre.map rcell).flatten ∧ (pre = [] → v = .slice none 0 0)
  b1 : Blk W (g + 1) 2 #[.int .i64 (endOf h y pre)]
  xb : ∀ x ∈ pre, XB W x ∧ aGe (g + 5) x
  fb : Fb [g, g + 1] (g + 5) wl W
theorem fi_own {g : Nat} {wl : World} {h y : Int} (hn : g + 5 ≤ wl.heap.size) {B : Nat} (hB : g + 5 ≤ B) : OwnFrom B (FI g wl h y) := fun s A C row hs hg hr => by
  have hr' : ∀ r, row = some r → ∃ o : Obj, A.heap[r]? = some o ∧ o.isCells = false := fun r e => (hr r e).2
  obtain ⟨⟨v, h1, h2, h0⟩, h3, h4, h5⟩ := hs
  refine ⟨⟨v, blk_kept h1 hg hr', h2.kept hg ?_, h0⟩, blk_kept h3 hg hr', fun x hx => ⟨(h4 x hx).1.keep fun k cs hb => blk_kept hb hg hr', (h4 x hx).2⟩, ownFrom_fb hn hB (β := List RV) s A C row h5 hg hr⟩
  rcases h2.2 with ⟨rfl, _⟩ | ⟨q, cap, cur, rfl, _, hgb, _⟩
  · exact .inl rfl
  · refine .inr fun e' => ?_
    obtain ⟨o, ho, hc⟩ := hr' q (by simpa [Value.ownBlock] using e'.symm)
    rw [hgb] at ho; cases ho; cases hc

theorem fill_new (w : World) (y : Int) (fc : Array Value) : 
    let wl := ((((w.alloc (.cells #[.slice none 0 0] 28)).alloc (.cells #[.int .i64 y] 2)).alloc (.cells fc 43)).alloc (.cells #[.pointer (some ⟨w.heap.size + 2, 0, none⟩)] 53)).alloc (.cells #[.int .i64 y] 2)
    Blk wl w.heap.size 28 #[.slice none 0 0] ∧ Blk wl (w.heap.size + 1) 2 #[.int .i64 y] ∧ Blk wl (w.heap.size + 2) 43 fc ∧ Blk wl (w.heap.size + 3) 53 #[.pointer (some ⟨w.heap.size + 2, 0, none⟩)] ∧ Blk wl (w.heap.size + 4) 2 #[.int .i64 y] := by
  intro wl
  obtain ⟨w1, h1⟩ : ∃ w1, w1 = w.alloc (.cells #[.slice none 0 0] 28) := ⟨_, rfl⟩
  obtain ⟨w2, h2⟩ : ∃ w2, w2 = w1.alloc (.cells #[.int .i64 y] 2) := ⟨_, rfl⟩
  obtain ⟨w3, h3⟩ : ∃ w3, w3 = w2.alloc (.cells fc 43) := ⟨_, rfl⟩
  obtain ⟨w4, h4⟩ : ∃ w4, w4 = w3.alloc (.cells #[.pointer (some ⟨w.heap.size + 2, 0, none⟩)] 53) := ⟨_, rfl⟩
  have e : wl = w4.alloc (.cells #[.int .i64 y] 2) := by rw [h4, h3, h2, h1]
  have s1 : w1.heap.size = w.heap.size + 1 := by rw [h1]; simp
  have s2 : w2.heap.size = w.heap.size + 2 := by rw [h2]; simp; omega
  have s3 : w3.heap.size = w.heap.size + 3 := by rw [h3]; simp; omega
  have s4 : w4.heap.size = w.heap.size + 4 := by rw [h4]; simp; omega
  have b1 := Blk.new w 28 #[.slice none 0 0]
  have b2 := Blk.new w1 2 #[.int .i64 y]
  have b3 := Blk.new w2 43 fc
  have b4 := Blk.new w3 53 #[.pointer (some ⟨w.heap.size + 2, 0, none⟩)]
  have b5 := Blk.new w4 2 #[.int .i64 y]
  rw [← h1] at b1; rw [← h2, s1] at b2; rw [← h3, s2] at b3; rw [← h4, s3] at b4; rw [s4] at b5
  rw [e]
  have q2 : ∀ {x : Nat} {t : TypeId} {cs : Array Value}, Blk w1 x t cs → Blk w2 x t cs := fun h => h2 ▸ h.alloc _
  have q3 : ∀ {x : Nat} {t : TypeId} {cs : Array Value}, Blk w2 x t cs → Blk w3 x t cs := fun h => h3 ▸ h.alloc _
  have q4 : ∀ {x : Nat} {t : TypeId} {cs : Array Value}, Blk w3 x t cs → Blk w4 x t cs := fun h => h4 ▸ h.alloc _
  exact ⟨(q4 (q3 (q2 b1))).alloc _, (q4 (q3 b2)).alloc _, (q4 b3).alloc _, b4.alloc _, b5⟩
theorem rows_feeds (n : Nat) (hn : 1 ≤ n) (rv ev n0 Bf By bf : Nat) (wa : Option Addr) (ws : List Wd) (wq : Nat) (fa : Option Addr) (fc : Nat) (c : Rm) (hc : RmOk c) (hok : ∀ x ∈ ws, WdOk x) (hws : ws.length ≤ 200) (y0 : Int) (hy0 : Yb 0 y0)
    (w : World) (hW0 : n0 ≤ w.heap.size) (hE : ∀ W', Fb [rv, ev] n0 w W' → FE W' bf wa ws wq fa fc c) (hf : Blk w Bf 53 #[.pointer (some ⟨bf, 0, none⟩)]) (hy : Blk w By 2 #[.int .i64 y0])
    (hBf : Bf < n0 ∧ Bf ∉ [rv, ev]) (hBy : By < n0 ∧ By ∉ [rv, ev]) (hr : rv < n0 ∧ ev < n0) :
    Feeds n Try.prog 19 #[.pointer (some ⟨By, 0, none⟩), .pointer (some ⟨Bf, 0, none⟩)] renc (fun pre x W1 => XB W1 x ∧ aGe n0 x ∧ Fay x.r.y ∧ pre.length ≤ 4200) (fun xs _ => xs.map RV.r = (fill c 0 ws y0).1) (KR rv ev n0) w :=
  fun l J W hW hJ hY h0 => rows1_in n hn l rv ev n0 Bf By bf wa ws wq fa fc c hc hok hws y0 hy0 J W (Nat.le_trans hW0 hW.size) (fun W' h => hE W' ((Fb.of_below (hW.mono hW0)).trans h)) (hf.below hW hf.lt) (hy.below hW hy.lt) hBf hBy hr hJ hY h0
def FillPost (n : Nat) (c : Rm) (ws : List Wd) (y : Int) (w : World) (r : Ending) (w' : World) : Prop :=
  ∃ A cap, r = .returned (.tuple #[.slice A (fill c 0 ws y).1.length cap, .int .i64 (fill c 0 ws y).2]) ∧ LRow w' A (fill c 0 ws y).1 ∧ (fill c 0 ws y).1.length ≤ cap ∧ cap ≤ maxLen ∧ Below w.heap.size w w'
theorem infoR : (Try.prog.info? 38).map (fun i => (i.zero, i.size, i.bytes)) = some (some (.agg #[.int .i64 0, .int .i64 0, .int .i64 0, .slice none 0 0]), 4, 48) := by kernel_rfl

set_option maxHeartbeats 4000000 in
set_option maxRecDepth 100000 in
theorem fill_any (wa : Option Addr) (ws : List Wd) (wq : Nat) (fa : Option Addr) (fl : List Flt) (fc : Nat) (h al a b y : Int) (w : World) (hr : WRow w wa ws) (hok : ∀ x ∈ ws, WdOk x) (hws : ws.length ≤ 200) (hf : FRow w fa fl)
    (hc : RmOk ⟨max h 0, al, a, b, fl⟩) (hy : Yb 0 y) (hh : -9223372036854775808 ≤ h ∧ h ≤ 9223372036854775807) :
    Calls Try.prog 9 #[.slice wa ws.length wq, .int .i64 h, .int .u8 al, .int .i64 a, .int .i64 b, .int .i64 y, .slice fa fl.length fc] w (FillPost 0 ⟨max h 0, al, a, b, fl⟩ ws y w) := by
  refine (callsIn_wide (n := 20)).1 ?_
  refine callsIn_of_wp_marks Try.func9 rfl trivial ?_ rfl
  simp only [Try.ntmps9, List.size_toArray, List.length_cons, List.length_nil, Nat.reduceAdd, Nat.reduceSub, Array.replicate_succ, Array.replicate_zero, List.push_toArray, List.append_toArray, List.nil_append, List.cons_append]
  refine wpIn_wide.2 ?_
  obtain ⟨i0, hi, hz0, hz1, hz2⟩ := info_parts infoR
  have HC := hide hc
  have HOK := hide hok
  have HY := hide hy
  clear hc hok hy
  go_wp2_with fail
  refine (rows_any _ _ _).mono ?_
  rintro r wl ⟨rfl, hwl⟩
  obtain ⟨c, hcd⟩ : ∃ c : Rm, c = ⟨max h 0, al, a, b, fl⟩ := ⟨_, rfl⟩
  obtain ⟨g, hg⟩ : ∃ g, g = w.heap.size := ⟨_, rfl⟩
  have hsz : wl.heap.size = g + 5 := by rw [← hwl, hg]; simp
  have nx := fill_new w y (filc wa ws.length wq (max h 0) al a b fa fl.length fc)
  rw [← hg] at nx
  have hwl' : ((((w.alloc (.cells #[.slice none 0 0] 28)).alloc (.cells #[.int .i64 y] 2)).alloc (.cells (filc wa ws.length wq (max h 0) al a b fa fl.length fc) 43)).alloc (.cells #[.pointer (some ⟨g + 2, 0, none⟩)] 53)).alloc (.cells #[.int .i64 y] 2) = wl := by rw [← hwl, hg]; rfl
  rw [hwl'] at nx
  have t0 : Hid (Below g w wl) := hide (by rw [← hwl', hg]; go_grown)
  have NX := hide nx
  have HSZ := hide hsz
  have HCD := hide hcd
  have HGW := hide hg
  clear hwl hwl' nx
  rw [← HCD.out] at HC ⊢
  have hFE : Hid (∀ W, Fb [g, g + 1] (g + 5) wl W → FE W (g + 2) wa ws wq fa fc c) := hide (fun W hW => by
    have h1 : Below g wl W := hW.to_below (by omega) (by simp)
    have h2 := t0.out.trans h1
    rw [hg] at h2
    exact ⟨by rw [HCD.out]; exact hW.blk NX.out.2.2.1 (by omega) (by simp), hr.below h2, by rw [HCD.out]; exact hf.below h2⟩)
  have hch : c.h = max h 0 := by rw [HCD.out]
  have HCH := hide hch
  clear hch hg hcd hsz
  go_wp2_with fail
  rw [← HGW.out]
  have hs5 := HSZ.out
  refine (wpIn_wide (n := 20)).1 ?_
  generalize hA : ({ tmps := _, defers := _ } : Act) = A
  refine range_feeds_box (gf := 19) (lb := #[.pointer (some ⟨g + 4, 0, none⟩), .pointer (some ⟨g + 3, 0, none⟩)]) (encs := renc) (G := fun pre x W1 => XB W1 x ∧ aGe (g + 5) x ∧ Fay x.r.y ∧ pre.length ≤ 4200) (E := fun xs _ => xs.map RV.r = (fill c 0 ws y).1) (Kp := KR g (g + 1) (g + 5))
    (by rw [← hA]; rfl) (enters_of Try.func19 (by kernel_rfl) rfl)
    (rows_feeds 19 (by omega) g (g + 1) (g + 5) (g + 3) (g + 4) (g + 2) wa ws wq fa fc c HC.out HOK.out hws y HY.out wl (by omega) hFE.out NX.out.2.2.2.1 NX.out.2.2.2.2 ⟨by omega, by simp⟩ ⟨by omega, by simp⟩ ⟨by omega, by omega⟩)
    (fun x => rfl) (fun h k => KR.trans h k) (fun pre W l o o' h1 h2 h3 => KR.putObj o' (by omega) h2 h3) (fun _ _ _ _ _ _ _ _ h => h)
    (fun pre W => FI g wl c.h y pre W) (fi_own (by omega) (by omega)) ⟨⟨_, NX.out.1, World.ownsRow_nil _ _ _ _, fun _ => rfl⟩, NX.out.2.1, fun x hx => absurd hx (by simp), Fb.refl _ _ _⟩
    (fun x b => { tmps := (A.tmps.setIfInBounds 29 (.agg #[.int .i64 x.r.y, .int .i64 x.r.f, .int .i64 x.r.t, .slice x.a x.r.xs.length x.c])).setIfInBounds 17 (.pointer (some ⟨b, 0, none⟩)), defers := [] })
    (fun x => .cells #[.int .i64 x.r.y, .int .i64 x.r.f, .int .i64 x.r.t, .slice x.a x.r.xs.length x.c] 38)
    (fun pre x W hW => KR.alloc W _ (by omega)) ?assign ?body ?done
  case assign =>
    intro rl x W K hK
    subst hA
    unfold renc
    gi_wp2
    exact hK
  case body =>
    rintro rl pre x W q o o' hI ⟨hxb, hxa, hxf, hpl⟩ hq ho hoc
    rw [← hA]
    clear hA
    simp only [List.setIfInBounds_toArray, List.set_cons_zero, List.set_cons_succ]
    have hqlt : q < W.heap.size := (Array.getElem?_eq_some_iff.1 ho).1
    obtain ⟨⟨v, hv, hov, hv0⟩, he, hxs, hfb⟩ := hI
    obtain ⟨V, hVe⟩ : ∃ V, V = (W.alloc (.cells #[.int .i64 x.r.y, .int .i64 x.r.f, .int .i64 x.r.t, .slice x.a x.r.xs.length x.c] 38)).putObj q o' := ⟨_, rfl⟩
    have hoa : (W.alloc (.cells #[.int .i64 x.r.y, .int .i64 x.r.f, .int .i64 x.r.t, .slice x.a x.r.xs.length x.c] 38)).heap[q]? = some o := (Below.heap_alloc _ _ _ hqlt).trans ho
    have kb : ∀ {k : Nat} {cs : Array Value} {t : TypeId}, Blk W k t cs → Blk V k t cs := fun hb => hVe ▸ blk_putObj o' hoa hoc (hb.alloc _)
    have HV := hide (kb hv)
    have HB1 := hide (kb he)
    have HX : Hid (∀ z ∈ pre ++ [x], XB V z ∧ aGe (g + 5) z) := hide (fun z hz => by
      rcases List.mem_append.1 hz with hz | hz
      · exact ⟨(hxs z hz).1.keep fun k cs hb => kb hb, (hxs z hz).2⟩
      · simp at hz; subst hz; exact ⟨hxb.keep fun k cs hb => kb hb, hxa⟩)
    have HOV : Hid (V.ownsRow (g + 5) 38 4 v pre.length (pre.map rcell).flatten) := hide (hVe ▸ ownsRow_putObj (hov.alloc _) o' hoa hoc)
    have hvlt := fun k hk => (hov.lt k hk).2
    have HBX : Hid (Blk V W.heap.size 38 #[.int .i64 x.r.y, .int .i64 x.r.f, .int .i64 x.r.t, .slice x.a x.r.xs.length x.c]) := hide (hVe ▸ blk_putObj o' hoa hoc (Blk.new W _ _))
    have HFB : Hid (Fb [g, g + 1] (g + 5) wl V) := hide (hVe ▸ ((hfb.alloc (by have := hfb.size; omega) _).trans (Fb.putObj _ o' (by omega))))
    have hsW := hfb.size
    have HBF := hide (HFB.out.blk NX.out.2.2.1 (by omega) (by simp))
    rw [← HCH.out] at HBF
    rw [← hVe]
    obtain ⟨b, hb⟩ : ∃ b, b = W.heap.size := ⟨_, rfl⟩
    rw [← hb] at HBX hvlt hsW ⊢
    clear hVe kb hv he hxs hov hxb hxa hoa hb ho hoc hfb
    obtain ⟨xr, xa, xc⟩ := x
    obtain ⟨ry, rf, rt, rxs⟩ := xr
    dsimp only at HBX hxf ⊢
    unfold Fay at hxf
    have hgv : ∀ k, v.ownBlock = some k → g + 5 ≤ k := fun k hk => (HOV.out.lt k hk).1
    have HV0 := hide hv0
    have x0 : V.cell? ⟨g, 0, none⟩ = some v := HV.out.cell 0
    have x1 : V.cell? ⟨b, 0, none⟩ = some (.int .i64 ry) := HBX.out.cell 0
    have x2 : V.cell? ⟨b, 1, none⟩ = some (.int .i64 rf) := HBX.out.cell 1
    have x3 : V.cell? ⟨b, 2, none⟩ = some (.int .i64 rt) := HBX.out.cell 2
    have x4 : V.cell? ⟨b, 3, none⟩ = some (.slice xa rxs.length xc) := HBX.out.cell 3
    have HGV := hide hgv
    have HVL := hide hvlt
    clear hv0 hgv hvlt
    have hbV := HBX.out.lt
    have HA6 := hide (HOV.out.alloc (.cells #[.int .i64 ry, .int .i64 rf, .int .i64 rt, .slice xa rxs.length xc] 38))
    have HN6 := hide (Blk.new V 38 #[.int .i64 ry, .int .i64 rf, .int .i64 rt, .slice xa rxs.length xc])
    gi_wp2_with (gi_at_builtin; refine wpListIn_append_own _ rfl _ _ 28 rfl (g + 5) 38 i0 (.agg #[.int .i64 0, .int .i64 0, .int .i64 0, .slice none 0 0]) 4 48 Try.underlying28 hi hz0 hz1 hz2 rfl (by decide) _ _ _ rfl HA6.out ⟨V.heap.size, 0, none⟩ 1 1 [.int .i64 ry, .int .i64 rf, .int .i64 rt, .slice xa rxs.length xc] rfl rfl ?c1 ?c2 ?c3 ?c4 ?c5 ?_)
    case c1 => exact HN6.out.news
    case c2 => intro z hz; simp at hz; rcases hz with rfl | rfl | rfl | rfl <;> rfl
    case c3 => unfold maxLen; omega
    case c4 => omega
    case c5 => have := HSZ.out; simp; omega
    intro v' w6 hown' hgrow _
    have hgr2 := hgrow
    obtain ⟨g', cap', rfl⟩ := ownsRow_succ hown'
    have hne1 := HV.out.not_row (by decide) HOV.out
    have hne2 := HB1.out.not_row (by decide) HOV.out
    have hne3 := HBF.out.not_row (by decide) HOV.out
    have hne4 : some b ≠ v.ownBlock := fun e => by have := HVL.out b e.symm; omega
    have G0 := hide ((HV.out.alloc (.cells #[.int .i64 ry, .int .i64 rf, .int .i64 rt, .slice xa rxs.length xc] 38)).grown hgrow hne1)
    have G1 := hide ((HB1.out.alloc (.cells #[.int .i64 ry, .int .i64 rf, .int .i64 rt, .slice xa rxs.length xc] 38)).grown hgrow hne2)
    have G2 := hide ((HBF.out.alloc (.cells #[.int .i64 ry, .int .i64 rf, .int .i64 rt, .slice xa rxs.length xc] 38)).grown hgrow hne3)
    have G3 := hide ((HBX.out.alloc (.cells #[.int .i64 ry, .int .i64 rf, .int .i64 rt, .slice xa rxs.length xc] 38)).grown hgrow hne4)
    have O6 : Hid (w6.ownsRow (g + 5) 38 4 (.slice (some ⟨g', 0, none⟩) (pre.length + 1) cap') (pre.length + 1) ((pre ++ [(⟨⟨ry, rf, rt, rxs⟩, xa, xc⟩ : RV)]).map rcell).flatten) := hide (by simpa [rcell] using hown')
    have hgg0 : g' ≠ g := fun e => G0.out.not_row (by decide) O6.out (by rw [e]; rfl)
    have hgg1 : g' ≠ g + 1 := fun e => G1.out.not_row (by decide) O6.out (by rw [e]; rfl)
    have OF : Hid (((w6.setCell ⟨g, 0, none⟩ (.slice (some ⟨g', 0, none⟩) (pre.length + 1) cap')).setCell ⟨g + 1, 0, none⟩ (.int .i64 (ry + c.h))).ownsRow (g + 5) 38 4 (.slice (some ⟨g', 0, none⟩) (pre.length + 1) cap') (pre.length + 1) ((pre ++ [(⟨⟨ry, rf, rt, rxs⟩, xa, xc⟩ : RV)]).map rcell).flatten) := hide
      (ownsRow_setCell_other (ownsRow_setCell_other O6.out (fun h => hgg0 (by simpa [Value.ownBlock] using h)) _) (fun h => hgg1 (by simpa [Value.ownBlock] using h)) _)
    have BF0 : Hid (Blk ((w6.setCell ⟨g, 0, none⟩ (.slice (some ⟨g', 0, none⟩) (pre.length + 1) cap')).setCell ⟨g + 1, 0, none⟩ (.int .i64 (ry + c.h))) g 28 #[.slice (some ⟨g', 0, none⟩) (pre.length + 1) cap']) := hide
      ((G0.out.set_ 0 _).far (by show g ≠ g + 1; omega) _)
    have BF1 : Hid (Blk ((w6.setCell ⟨g, 0, none⟩ (.slice (some ⟨g', 0, none⟩) (pre.length + 1) cap')).setCell ⟨g + 1, 0, none⟩ (.int .i64 (ry + c.h))) (g + 1) 2 #[.int .i64 (ry + c.h)]) := hide
      ((G1.out.far (by show g + 1 ≠ g; omega) _).set_ 0 _)
    have KF : Hid (∀ k t cs, Blk V k t cs → k ≠ g → k ≠ g + 1 → some k ≠ v.ownBlock → Blk ((w6.setCell ⟨g, 0, none⟩ (.slice (some ⟨g', 0, none⟩) (pre.length + 1) cap')).setCell ⟨g + 1, 0, none⟩ (.int .i64 (ry + c.h))) k t cs) := hide
      (fun k t cs hb h0 h1 h2 => ((((hb.alloc _).grown hgrow h2).far (by exact h0) _).far (by exact h1) _))
    have XF : Hid (∀ z ∈ pre ++ [(⟨⟨ry, rf, rt, rxs⟩, xa, xc⟩ : RV)], XB ((w6.setCell ⟨g, 0, none⟩ (.slice (some ⟨g', 0, none⟩) (pre.length + 1) cap')).setCell ⟨g + 1, 0, none⟩ (.int .i64 (ry + c.h))) z ∧ aGe (g + 5) z) := hide (fun z hz =>
      ⟨(HX.out z hz).1.keepGe (HX.out z hz).2 (fun k cs hk hb => KF.out k _ cs hb (by omega) (by omega) (hb.not_row (by decide) HOV.out)), (HX.out z hz).2⟩)
    have FF : Hid (Fb [g, g + 1] (g + 5) V ((w6.setCell ⟨g, 0, none⟩ (.slice (some ⟨g', 0, none⟩) (pre.length + 1) cap')).setCell ⟨g + 1, 0, none⟩ (.int .i64 (ry + c.h)))) := hide
      ((((((Fb.refl [g, g + 1] (g + 5) V).alloc (by have := HSZ.out; omega) (.cells #[.int .i64 ry, .int .i64 rf, .int .i64 rt, .slice xa rxs.length xc] 38)).grown hgrow (by have := HSZ.out; simp; omega) (fun k hk => .inr (HGV.out k hk))).setCell (p := ⟨g, 0, none⟩) (.inl (by simp)) _).setCell (p := ⟨g + 1, 0, none⟩) (.inl (by simp)) _))
    have KO : Hid (KeepsOthers V ((w6.setCell ⟨g, 0, none⟩ (.slice (some ⟨g', 0, none⟩) (pre.length + 1) cap')).setCell ⟨g + 1, 0, none⟩ (.int .i64 (ry + c.h)))) := hide
      ((((keeps_below ((Below.refl V.heap.size V).alloc (Nat.le_refl _) (.cells #[.int .i64 ry, .int .i64 rf, .int .i64 rt, .slice xa rxs.length xc] 38))).trans (keeps_own HA6.out hgrow)).trans (KeepsOthers.setCell w6 ⟨g, 0, none⟩ _)).trans (KeepsOthers.setCell _ ⟨g + 1, 0, none⟩ _))
    have KRF : Hid (KR g (g + 1) (g + 5) pre V ((w6.setCell ⟨g, 0, none⟩ (.slice (some ⟨g', 0, none⟩) (pre.length + 1) cap')).setCell ⟨g + 1, 0, none⟩ (.int .i64 (ry + c.h)))) := hide
      ⟨FF.out, fun k t cs hb h0 h1 => by
        by_cases hk : some k = v.ownBlock
        · right
          refine ⟨HGV.out k hk.symm, ?_⟩
          cases pre with
          | nil => rw [HV0.out rfl] at hk; cases hk
          | cons p0 tl =>
            refine ⟨p0, p0.r.xs.length, p0.c, rfl, ?_⟩
            have := HOV.out.cells hk.symm 3 (.slice p0.a p0.r.xs.length p0.c) (by simp [rcell])
            simpa [Addr.add] using this
        · exact .inl (KF.out k t cs hb h0 h1 hk)⟩
    have hbg : g + 5 ≤ b := by have := HSZ.out; omega
    have u4 : w6.cell? ⟨g, 0, none⟩ = some v := G0.out.cell 0
    have u5 : w6.cell? ⟨g + 1, 0, none⟩ = some (.int .i64 (endOf c.h y pre)) := G1.out.cell 0
    have u0 := G0.out.frozen 0
    have u1 := G1.out.frozen 0
    have u2 : w6.cell? ⟨b, 0, none⟩ = some (.int .i64 ry) := G3.out.cell 0
    have u3 : w6.cell? ⟨g + 1 + 1, 1, none⟩ = some (.int .i64 c.h) := G2.out.cell 1
    have hcb := HC.out.h
    have FVF := hide (HFB.out.trans FF.out)
    clear hown' hgrow hgr2 hne1 hne2 hne3 hne4 x0 x1 x2 x3 x4 hgg0 hgg1 G0 G1 G2 G3 HA6 HN6
    gi_wp2
    exact ⟨rfl, KO.out, KRF.out, ⟨_, BF0.out, by rw [List.length_append]; exact OF.out, fun h => by simp at h⟩, by rw [endOf_snoc]; exact BF1.out, XF.out, FVF.out⟩
  case done =>
    rintro D xs W hD hI hxs hK
    obtain ⟨⟨v, hv, hov, _⟩, he, hxb, hfb⟩ := hI
    have HXB := hide hxb
    have HXS := hide hxs
    have hend : Hid (endOf c.h y xs = (fill c 0 ws y).2) := hide (by rw [endOf_map, hxs, fill_last _ _ _ _ (Nat.le_refl _)])
    have hlen : Hid ((fill c 0 ws y).1.length = xs.length) := hide (by rw [← hxs, List.length_map])
    rw [hend.out] at he
    generalize hee : (fill c 0 ws y).2 = e at he
    have HEE := hide hee
    have HV := hide hv
    have HE := hide he
    have TF : Hid (Below g w W) := hide (t0.out.trans (hfb.to_below (by omega) (by simp)))
    have hK' := hide hK
    obtain ⟨A', cap, rfl, hcl, hcm, hll, hrow⟩ := own_rowG (rcell_len xs) (by decide) hov
    have HROW := hide hrow
    have hgne := fun k (hk : (Value.slice A' xs.length cap).ownBlock = some k) => (hov.lt k hk).1
    have HOV := hide hov
    have x0 : W.cell? ⟨g, 0, none⟩ = some (.slice A' xs.length cap) := hv.cell 0
    have x1 : W.cell? ⟨g + 1, 0, none⟩ = some (.int .i64 e) := he.cell 0
    have f0 : W.frozen? ⟨g, 0, none⟩ = false := hv.frozen 0
    have f1 : W.frozen? ⟨g + 1, 0, none⟩ = false := he.frozen 0
    rw [← hA]
    clear hA hK hxb hxs hee hv he hfb hov hrow
    gi_wp2_with fail
    go_wp2_with fail
    have z0 := ss_same (i := 0) (v := .slice A' xs.length cap) HV.out rfl
    have z1 := ss_far (p := ⟨g, 0, none⟩) (v := .slice A' xs.length cap) (q := ⟨g + 1, 0, none⟩) (by show g + 1 ≠ g; omega) x1
    refine Reg.region (by kernel_rfl) 3 [2] (SS W ⟨g, 0, none⟩ (.slice A' xs.length cap)) (by kernel_rfl) (by kernel_rfl) (rfl) ?_
    iterate 2
      refine Reg.WT.yield (v := ?_) rfl rfl ?_ ?_
      rotate_left
      · intro w' _ hS; have z0_ := z0 _ _ hS; have z1_ := z1 _ _ hS; go_simp; (try go_bits); (first | rfl | rw [if_pos (by omega)])
      simp only [Act.put, List.setIfInBounds_toArray, List.set_cons_zero, List.set_cons_succ]
    refine Reg.WT.store rfl rfl ?_ ?_
    · intro w2 hS
      obtain rfl := ss_make hS
      exact ⟨_, by go_simp, rfl⟩
    simp only [Act.put, List.setIfInBounds_toArray, List.set_cons_zero, List.set_cons_succ]
    intro w2 hS
    obtain rfl := ss_end hS
    clear z0 z1 hS
    go_wp2
    obtain ⟨WF, hWF⟩ : ∃ WF, WF = ((W.setCell ⟨g, 0, none⟩ (.slice A' xs.length cap)).setCell ⟨g + 1, 0, none⟩ (.int .i64 e)).drew := ⟨_, rfl⟩
    have hKF : Hid (WF.heap[D]? = some (.deferred (some []))) := hide (by
      rw [hWF]
      exact (KeepsOthers.setCell _ ⟨g + 1, 0, none⟩ (.int .i64 e)).same D _ ((KeepsOthers.setCell W ⟨g, 0, none⟩ (.slice A' xs.length cap)).same D _ hK'.out rfl) rfl)
    have kF : ∀ {k : Nat} {t : TypeId} {cs : Array Value}, g + 5 ≤ k → Blk W k t cs → Blk (WF.putObj D (.deferred none)) k t cs := fun hk hb =>
      blk_putObj _ hKF.out rfl (by rw [hWF]; exact ((hb.far (p := ⟨g, 0, none⟩) (by show _ ≠ g; omega) _).far (p := ⟨g + 1, 0, none⟩) (by show _ ≠ g + 1; omega) _).drew)
    have OF : (WF.putObj D (.deferred none)).ownsRow (g + 5) 38 4 (.slice A' xs.length cap) xs.length (xs.map rcell).flatten := by
      refine ownsRow_putObj ?_ _ hKF.out rfl
      rw [hWF]
      exact (ownsRow_setCell_other (ownsRow_setCell_other HOV.out (a := ⟨g, 0, none⟩) (fun h => by have h' : g + 5 ≤ g := hgne _ h; omega) _) (a := ⟨g + 1, 0, none⟩) (fun h => by have h' : g + 5 ≤ g + 1 := hgne _ h; omega) _).drew
    obtain ⟨A2, cap2, e2, _, _, _, hr2⟩ := own_rowG (rcell_len xs) (by decide) OF
    simp only [Value.slice.injEq] at e2
    obtain ⟨rfl, _, rfl⟩ := e2
    have B0 : Blk (WF.putObj D (.deferred none)) g 28 #[.slice A' xs.length cap] := blk_putObj _ hKF.out rfl (by rw [hWF]; exact ((HV.out.set_ 0 _).far (p := ⟨g + 1, 0, none⟩) (by show g ≠ g + 1; omega) _).drew)
    have B1 : Blk (WF.putObj D (.deferred none)) (g + 1) 2 #[.int .i64 e] := blk_putObj _ hKF.out rfl (by rw [hWF]; exact ((HE.out.far (p := ⟨g, 0, none⟩) (by show g + 1 ≠ g; omega) _).set_ 0 _).drew)
    have TF2 : Below g w (WF.putObj D (.deferred none)) := by
      rw [hWF]
      exact (((TF.out.setCell (p := ⟨g, 0, none⟩) (Nat.le_refl _) _).setCell (p := ⟨g + 1, 0, none⟩) (by show g ≤ g + 1; omega) _).drew).trans (((Fb.putObj (fs := []) _ (.deferred none) (by omega : g ≤ D))).to_below (Nat.le_refl _) (by simp))
    rw [← hWF]
    refine ⟨by simp, .inl ⟨_, _, rfl, run_takeDeferred hKF.out, ?_⟩⟩
    refine ⟨.tuple #[.slice A' xs.length cap, .int .i64 e], results_cell2 Try.results9 _ ⟨g, 0, none⟩ ⟨g + 1, 0, none⟩ _ _ rfl rfl (B0.cell 0) (B1.cell 0) Try.underlying28 Try.underlying2 rfl rfl, ?_⟩
    rw [← HCD.out]
    refine ⟨A', cap, by rw [hlen.out, HEE.out], ⟨xs, HXS.out, hr2.1, fun x hx => (HXB.out x hx).1.keepGe (HXB.out x hx).2 fun k cs hk hb => kF hk hb⟩, by rw [hlen.out]; exact hcl, hcm, by rw [← HGW.out]; exact TF2⟩
end Go.Proofs.Ytpdfeifnbeojcaa
