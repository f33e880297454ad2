/- The rows, one by one: the iterator's contract. -/
import Derived.Test.YtpdfeifnbeojcaaWB
import Derived.Test.YtpdfeifnbeojcaaRangeG
import Derived.RangeFuncNested
import Derived.RangeFuncCalls
import Derived.RangeFuncLeaves
import Derived.RangeFuncFrom
import Derived.RangeFuncBox
import Derived.Shelf.Abstract
import Derived.Shelf.RegionOpen
import Derived.WalkKit
import Derived.OwnWalkIn
import Derived.TacticsInMore
import Derived.LoopNIn
import Derived.LoopIn
import Derived.WalkMore
namespace Go.Proofs.Ytpdfeifnbeojcaa
open Go.RowKit Go.Shelf
attribute [local go_sem] Oper.semAt_some

structure RV where
  r : Rw
  a : Option Addr
  c : Nat
def renc (x : RV) : Array Value := #[.agg #[.int .i64 x.r.y, .int .i64 x.r.f, .int .i64 x.r.t, .slice x.a x.r.xs.length x.c]]
/-- Where its places lie. -/
def XB (W : World) (x : RV) : Prop := (x.r.xs = [] ∧ x.a = none ∧ x.c = 0) ∨ ∃ g cs, x.a = some ⟨g, 0, none⟩ ∧ Blk W g 2 cs ∧ x.r.xs.length ≤ x.c ∧ x.c ≤ maxLen ∧ cs.toList.take x.r.xs.length = ints x.r.xs
def aLt (N : Nat) (x : RV) : Prop := ∀ g o, x.a = some ⟨g, o, none⟩ → g < N
def aGe (N : Nat) (x : RV) : Prop := ∀ g o, x.a = some ⟨g, o, none⟩ → N ≤ g
theorem aLt.mono {N N' : Nat} {x : RV} (h : aLt N x) (hN : N ≤ N') : aLt N' x := fun g o e => Nat.lt_of_lt_of_le (h g o e) hN
theorem grown_of_below {w w' : World} (hb : Below w.heap.size w w') : w.grownBy w' none := ⟨hb.os, hb.tape, hb.output, hb.size, fun k hk _ => hb.block k hk⟩
/-- What a round leaves: two variables' blocks and the slice that it makes aside (whose first row is the first of all). -/
structure KR (rv ev n0 : Nat) (pre : List RV) (A B : World) : Prop where
  fb : Fb [rv, ev] n0 A B
  block : ∀ k t cs, Blk A k t cs → k ≠ rv → k ≠ ev → Blk B k t cs ∨ (n0 ≤ k ∧ ∃ p0 n c, pre.head? = some p0 ∧ A.cell? ⟨k, 3, none⟩ = some (.slice p0.a n c))
theorem KR.trans {rv ev n0 : Nat} {pre : List RV} {A B C : World} (h : KR rv ev n0 pre A B) (k : KR rv ev n0 pre B C) : KR rv ev n0 pre A C :=
  ⟨h.fb.trans k.fb, fun i t cs hb h1 h2 => by
    rcases h.block i t cs hb h1 h2 with e | e
    · rcases k.block i t cs e h1 h2 with e' | ⟨e1, p0, n, c, e2, e3⟩
      · exact .inl e'
      · exact .inr ⟨e1, p0, n, c, e2, by rw [← e3, hb.cell, e.cell]⟩
    · exact .inr e⟩
theorem blk_putObj {W : World} {l : Nat} {o : Obj} (o' : Obj) (ho : W.heap[l]? = some o) (hc : o.isCells = false) {k : Nat} {cs : Array Value} {t : TypeId} (hb : Blk W k t cs) : Blk (W.putObj l o') k t cs := by
  have hb' : W.heap[k]? = some (.cells cs t (0, 0)) := hb
  have hne : k ≠ l := fun e => by rw [e, ho] at hb'; cases hb'; cases hc
  exact (World.putObj_heap_other hne).trans hb'
theorem KR.putObj {rv ev n0 : Nat} {pre : List RV} {W : World} {l : Nat} {o : Obj} (o' : Obj) (hl : n0 ≤ l) (ho : W.heap[l]? = some o) (hc : o.isCells = false) : KR rv ev n0 pre W (W.putObj l o') :=
  ⟨Fb.putObj W o' hl, fun _ _ _ hb _ _ => .inl (blk_putObj o' ho hc hb)⟩
theorem KR.alloc {rv ev n0 : Nat} {pre : List RV} (W : World) (o : Obj) (hn : n0 ≤ W.heap.size) : KR rv ev n0 pre W (W.alloc o) :=
  ⟨(Fb.refl _ _ _).alloc hn o, fun _ _ _ hb _ _ => .inl (hb.alloc o)⟩

/-- How high a row may stand. -/
def Yb (m : Nat) (y : Int) : Prop := -4503599627370496 ≤ y ∧ y ≤ 4503599627370496 + 1125899906842624 * m
theorem Yb.fay {m : Nat} {y : Int} (h : Yb m y) (hm : m ≤ 4200) : Fay y := by unfold Yb at h; unfold Fay; omega
theorem Yb.step {m : Nat} {y h : Int} (hy : Yb m y) (h0 : 0 ≤ h) (h1 : h ≤ 1125899906842624) : Yb (m + 1) (y + h) := by unfold Yb at *; omega
theorem Yb.mono {m m' : Nat} {y : Int} (hy : Yb m y) (h : m ≤ m') : Yb m' y := by unfold Yb at *; omega
theorem dwn_yb {c : Rm} (hc : RmOk c) {w : Int} {m : Nat} : ∀ (n : Nat) {y : Int}, cntB c.fl y ≤ n → Yb m y → Yb m (dwn c w y) := by
  intro n
  induction n with
  | zero =>
    intro y h hy
    cases ho : okD c w y
    · have := cnt_lt (okD_nxt ho); omega
    · rw [dwn_ok ho]; exact hy
  | succ n ih =>
    intro y h hy
    cases ho : okD c w y
    · have h1 := cnt_lt (okD_nxt ho)
      have h2 := nxt_far hc.fl (okD_nxt ho)
      rw [dwn_no ho]
      exact ih (by omega) (by unfold Yb; omega)
    · rw [dwn_ok ho]; exact hy
theorem ends_i (k : Nat) {w : Wd} (h : WdOk w) : (ends k w ≤ 20) ∧ ∀ i : Nat, ((i : Int) < (if k = 0 then w.n else w.n - 1) ↔ i < ends k w) := by
  obtain ⟨h1, h2⟩ := h.n
  unfold ends
  split <;> constructor <;> (try intro i) <;> omega
theorem empties_succ (h : Int) (k : Nat) (n : Nat) (y : Int) : empties h k (n + 1) y = empties h k n y ++ [⟨y + n * h, k, k, []⟩] := rfl

set_option maxRecDepth 100000 in
set_option maxHeartbeats 4000000 in
theorem rows1_in (n : Nat) (hn : 1 ≤ n) (l : Nat) (rv ev n0 Bf By bf : Nat) (wa : Option Addr) (ws : List Wd) (wq : Nat) (fa : Option Addr) (fc : Nat) (c : Rm) (hc : RmOk c) (hok : ∀ x ∈ ws, WdOk x) (hws : ws.length ≤ 200) (y0 : Int) (hy0 : Yb 0 y0)
    (J : List RV → World → Prop) (W : World) (hW0 : n0 ≤ W.heap.size) (hE : ∀ W', Fb [rv, ev] n0 W W' → FE W' bf wa ws wq fa fc c) (hf : Blk W Bf 53 #[.pointer (some ⟨bf, 0, none⟩)]) (hy : Blk W By 2 #[.int .i64 y0])
    (hBf : Bf < n0 ∧ Bf ∉ [rv, ev]) (hBy : By < n0 ∧ By ∉ [rv, ev]) (hr : rv < n0 ∧ ev < n0) (hJ : AbidesFrom W.heap.size J)
    (hY : ∀ pre x W1, J pre W1 → (XB W1 x ∧ aGe n0 x ∧ Fay x.r.y ∧ pre.length ≤ 4200) → YieldAt Fence.wide (n - 1) Try.prog l (renc x) W1 fun e W' => e = .returned (.bool true) ∧ J (pre ++ [x]) W' ∧ KR rv ev n0 pre W1 W') (h0 : J [] W) :
    CallsIn Fence.wide n Try.prog 19 #[.func (.yield l) #[] #[], .pointer (some ⟨By, 0, none⟩), .pointer (some ⟨Bf, 0, none⟩)] W fun e W' => (∃ v, e = .returned v) ∧ ∃ xs, J xs W' ∧ xs.map RV.r = (fill c 0 ws y0).1 := by
  refine callsIn_of_wp Try.func19 rfl trivial ?_ rfl
  simp only [Try.ntmps19, List.size_toArray, List.length_cons, List.length_nil, Nat.reduceAdd, Nat.reduceSub, Array.replicate_succ, Array.replicate_zero, List.push_toArray, List.append_toArray, List.nil_append, List.cons_append]
  have HC := hide hc
  have HOK := hide hok
  have HE := hide hE
  have HF := hide hf
  have c0 := hy.cell 0
  have HY0 := hide hy0
  have HYD := hide hY
  clear hc hok hE hf hy hy0 hY
  gi_wp2
  refine wpIn_wide.2 ?_
  refine wp_scope_straight ?_
  refine (wpIn_wide (n := n)).1 ?_
  gi_wp2
  refine wpIn_label ?_
  gi_wp2
  clear c0
  gi_loopw [4, 5] (fun av kv wr => ∃ (k : Nat) (y : Int) (pre : List RV), k ≤ ws.length ∧ kv = .int .i64 k ∧ av = .int .i64 y ∧ Hid (pre.map RV.r ++ (fill c k (ws.drop k) y).1 = (fill c 0 ws y0).1) ∧ Hid (pre.length ≤ 21 * k) ∧ Hid (Yb pre.length y) ∧
      Fb [rv, ev] n0 W wr ∧ J pre wr ∧ Hid (∀ p ∈ pre, aLt wr.heap.size p)) (fun _ kv _ => ws.length - (intOf kv).toNat)
  case atStart => exact ⟨0, y0, [], Nat.zero_le _, rfl, rfl, rfl, hide (Nat.le_refl _), HY0, Fb.refl _ _ _, h0, hide (fun p hp => absurd hp (by simp))⟩
  case round =>
    obtain ⟨k, y, pre, hk, rfl, rfl, hfill, hpl, hyb, hbw, hJs, hal⟩ := hrel
    have hbw := hide hbw
    have hJs := hide hJs
    have E := hide (HE.out wr hbw.out)
    have F1 := hide (hbw.out.blk HF.out hBf.1 hBf.2)
    have p0 : wr.cell? ⟨Bf, 0, none⟩ = some (.pointer (some ⟨bf, 0, none⟩)) := F1.out.cell 0
    have y0' : wr.cell? ⟨bf, 0, none⟩ = some (.slice wa ws.length wq) := E.out.bl.cell 0
    by_cases hlt : k < ws.length
    · obtain ⟨wd, hwd⟩ : ∃ wd, wd = ws[k] := ⟨_, rfl⟩
      have hd : ws.drop k = wd :: ws.drop (k + 1) := by rw [List.drop_eq_getElem_cons hlt, ← hwd]
      have hwo := HOK.out _ (List.getElem_mem hlt)
      rw [← hwd] at hwo
      obtain ⟨hen, hei⟩ := ends_i k hwo
      have hk? : ws[k]? = some wd := by rw [List.getElem?_eq_getElem hlt, hwd]
      have hfill := hfill.out
      rw [hd, fill_cons] at hfill
      dsimp only at hfill
      have HFI := hide hfill
      have HD := hide hd
      obtain ⟨N, hN⟩ : ∃ N : Int, N = (if k = 0 then wd.n else wd.n - 1) := ⟨_, rfl⟩
      have HEM := hide (empty_any bf wa ws ws.length wq c.h c.al c.a c.b fa c.fl.length fc k wr E.out.bl E.out.wr rfl hlt HOK.out wd hk?)
      rw [← hN] at HEM hei
      have HEI := hide hei
      have hpl := hpl.out
      clear hwd hd hwo hei hk? hfill hN
      gi_wp2_with fail
      refine ⟨trivial, (callsIn_wide.2 HEM.out).mono ?_⟩
      rintro r w2 ⟨rfl, hw2⟩
      subst hw2
      gi_wp2_with fail
      clear p0 y0'
      gi_loopw [4, 18] (fun av iv w3 => ∃ (i : Nat) (yi : Int) (pre' : List RV), i ≤ ends k wd ∧ iv = .int .i64 i ∧ av = .int .i64 yi ∧ Hid (yi = y + i * c.h) ∧ Hid (pre'.map RV.r = pre.map RV.r ++ empties c.h k i y) ∧ Hid (pre'.length = pre.length + i) ∧ Hid (Yb pre'.length yi) ∧
          Fb [rv, ev] n0 W w3 ∧ J pre' w3 ∧ Hid (∀ p ∈ pre', aLt w3.heap.size p)) (fun _ iv _ => ends k wd - (intOf iv).toNat)
      case atStart => exact ⟨0, y, pre, Nat.zero_le _, rfl, rfl, hide (by simp), hide (by simp [empties]), rfl, hyb, hbw.out, hJs.out, hal⟩
      case round =>
        clear hbw hJs hal hyb E F1
        obtain ⟨i, yi, pre', hi, rfl, rfl, hyi, hpm, hpl', hyb, hbw, hJs, hal⟩ := hrel
        have hbw := hide hbw
        have hJs := hide hJs
        have E := hide (HE.out wr hbw.out)
        have F1 := hide (hbw.out.blk HF.out hBf.1 hBf.2)
        have hpl2 : pre'.length ≤ 4200 := by have := hpl'.out; omega
        by_cases hlt2 : i < ends k wd
        · have bN : decide ((i : Int) < N) = true := by simpa using (HEI.out i).2 hlt2
          have hYk := HYD.out pre' ⟨⟨yi, k, k, []⟩, none, 0⟩ wr hJs.out ⟨.inl ⟨rfl, rfl, rfl⟩, (fun q o e => by cases e), hyb.out.fay hpl2, hpl2⟩
          obtain ⟨fn, tmps, assign, body, hyl, hR⟩ := hYk
          unfold renc at hyl
          dsimp only [List.length_nil] at hyl
          gi_wp2
          refine hR.mono ?_
          rintro e W3 ⟨rfl, hJ3, hk3⟩
          have b3 := hide (hbw.out.trans hk3.fb)
          have hJ3 := hide hJ3
          have E3 := hide (HE.out W3 b3.out)
          have F3 := hide (b3.out.blk HF.out hBf.1 hBf.2)
          have q0 : W3.cell? ⟨Bf, 0, none⟩ = some (.pointer (some ⟨bf, 0, none⟩)) := F3.out.cell 0
          have q1 : W3.cell? ⟨bf, 1, none⟩ = some (.int .i64 c.h) := E3.out.bl.cell 1
          obtain ⟨u1, u2⟩ := hyb.out
          obtain ⟨u3, u4⟩ := HC.out.h
          have hyb3 : Hid (Yb (pre' ++ [(⟨⟨yi, k, k, []⟩, none, 0⟩ : RV)]).length (yi + c.h)) := hide (by rw [List.length_append]; exact hyb.out.step u3 u4)
          have hal3 : Hid (∀ p ∈ pre' ++ [(⟨⟨yi, k, k, []⟩, none, 0⟩ : RV)], aLt W3.heap.size p) := hide (fun p hp => by
            rcases List.mem_append.1 hp with hp | hp
            · exact (hal.out p hp).mono hk3.fb.size
            · simp at hp; subst hp; intro g o h; cases h)
          clear hk3 hyl hR
          gi_wp2
          go_roundw
          case rel => exact ⟨i + 1, yi + c.h, _, hlt2, by go_num, rfl, hide (by rw [hyi.out, Int.natCast_add, Int.add_mul]; omega), hide (by rw [List.map_append, hpm.out, empties_succ, hyi.out, List.append_assoc]; rfl), hide (by rw [List.length_append, hpl'.out]; rfl), hyb3, b3.out, hJ3.out, hal3⟩
          case measure => simp [intOf]; omega
        · obtain rfl : i = ends k wd := by omega
          have bN : decide (((ends k wd : Nat) : Int) < N) = false := by
            have := HEI.out (ends k wd)
            simp; omega
          have p0 : wr.cell? ⟨Bf, 0, none⟩ = some (.pointer (some ⟨bf, 0, none⟩)) := F1.out.cell 0
          have HRC := hide (row_any bf wa ws wq fa fc c HC.out wr E.out HOK.out hws k wd (ws.drop (k + 1)) HD.out yi (hyb.out.fay hpl2))
          have hro := row_t c k wd (ws.drop (k + 1)) yi
          rw [List.length_drop] at hro
          have hry := dwn_yb HC.out (w := wd.w) (cntB c.fl yi) (Nat.le_refl _) hyb.out
          have hry2 : (rowOf c k wd (ws.drop (k + 1)) yi).y = dwn c wd.w yi := rfl
          have hrk : (rowOf c k wd (ws.drop (k + 1)) yi).f = k := rfl
          have HFI2 := HFI.out
          rw [← hyi.out] at HFI2
          have HFI2 := hide HFI2
          rw [← hry2] at hry
          obtain ⟨rw_, hrw⟩ : ∃ rw_, rw_ = rowOf c k wd (ws.drop (k + 1)) yi := ⟨_, rfl⟩
          rw [← hrw] at HRC hro hry hrk HFI2
          have HRY := hide hry
          have HRK := hide hrk
          clear hrw hry2 hrk hry
          have hwrn : n0 ≤ wr.heap.size := Nat.le_trans hW0 hbw.out.size
          gi_wp2_with fail
          refine ⟨trivial, (callsIn_wide.2 HRC.out).mono ?_⟩
          rintro r w4 ⟨g, cap, rfl, hown, hb4⟩
          have hJ4 := hide (hJ _ _ _ _ hJs.out (grown_of_below hb4) (fun r e => by cases e))
          have f4 := hide (hbw.out.trans (Fb.of_below (hb4.mono hwrn)) : Fb [rv, ev] n0 W w4)
          have hs4 := hb4.size
          obtain ⟨w5, hw5⟩ : ∃ w5, w5 = w4.alloc (.cells #[.int .i64 rw_.y, .int .i64 k, .int .i64 rw_.t, .slice (some ⟨g, 0, none⟩) rw_.xs.length cap] 38) := ⟨_, rfl⟩
          have f5 := hide (hw5 ▸ f4.out.alloc (by omega) _ : Fb [rv, ev] n0 W w5)
          have hJ5 := hide (hw5 ▸ hJ _ _ _ _ hJ4.out (World.grownBy_alloc w4 _ none) (fun r e => by cases e) : J pre' w5)
          have hs5 : w5.heap.size = w4.heap.size + 1 := by rw [hw5]; simp
          have B5 := hide (hw5 ▸ Blk.new w4 _ _ : Blk w5 w4.heap.size 38 #[.int .i64 rw_.y, .int .i64 k, .int .i64 rw_.t, .slice (some ⟨g, 0, none⟩) rw_.xs.length cap])
          have hown5 := hw5 ▸ hown.alloc (.cells #[.int .i64 rw_.y, .int .i64 k, .int .i64 rw_.t, .slice (some ⟨g, 0, none⟩) rw_.xs.length cap] 38)
          have hgw := (hown.lt g rfl).1
          have hglt := (hown5.lt g rfl).2
          have XB5 : XB w5 ⟨rw_, some ⟨g, 0, none⟩, cap⟩ := .inr (by
            rcases hown5.2 with ⟨h', _⟩ | ⟨g', cap', cur, h', _, hg, hnc, hcm, hcs, htake⟩
            · simp at h'
            · simp only [Value.slice.injEq, Option.some.injEq, Addr.mk.injEq, and_true, true_and] at h'
              obtain ⟨rfl, rfl⟩ := h'
              exact ⟨g, cur, rfl, hg, hnc, hcm, by simpa using htake⟩)
          have hYk := HYD.out pre' ⟨rw_, some ⟨g, 0, none⟩, cap⟩ w5 hJ5.out ⟨XB5, (fun q o e => by simp at e; omega), HRY.out.fay hpl2, hpl2⟩
          obtain ⟨fn, tmps, assign, body, hyl, hR⟩ := hYk
          unfold renc at hyl
          dsimp only at hyl
          rw [HRK.out] at hyl
          have HS5 := hide hs5
          have HS4 := hide hs4
          clear hown hb4 hown5 XB5 hs5 p0 bN E F1 HRC HEM
          gi_wp2_with fail
          rw [← hw5, hyl]
          clear hw5
          gi_wp2_with fail
          refine hR.mono ?_
          rintro e W3 ⟨rfl, hJ3, hk3⟩
          have b3 := hide (f5.out.trans hk3.fb)
          have hJ3 := hide hJ3
          have E3 := hide (HE.out W3 b3.out)
          have F3 := hide (b3.out.blk HF.out hBf.1 hBf.2)
          have B6 : Hid (Blk W3 w4.heap.size 38 #[.int .i64 rw_.y, .int .i64 k, .int .i64 rw_.t, .slice (some ⟨g, 0, none⟩) rw_.xs.length cap]) := hide (by
            have h1 := B5.out.lt
            have h2 := HS4.out
            rcases hk3.block _ _ _ B5.out (by omega) (by omega) with h | ⟨_, p0, n', c', hp0, hc0⟩
            · exact h
            · exfalso
              have h3 : w5.cell? ⟨w4.heap.size, 3, none⟩ = some (.slice (some ⟨g, 0, none⟩) rw_.xs.length cap) := B5.out.cell 3
              rw [h3] at hc0
              simp only [Option.some.injEq, Value.slice.injEq] at hc0
              have h4 := hal.out p0 (List.mem_of_mem_head? hp0) g 0 hc0.1.symm
              omega)
          have q0 : W3.cell? ⟨Bf, 0, none⟩ = some (.pointer (some ⟨bf, 0, none⟩)) := F3.out.cell 0
          have q1 : W3.cell? ⟨bf, 1, none⟩ = some (.int .i64 c.h) := E3.out.bl.cell 1
          have q2 : W3.cell? ⟨w4.heap.size, 0, none⟩ = some (.int .i64 rw_.y) := B6.out.cell 0
          have q3 : W3.cell? ⟨w4.heap.size, 2, none⟩ = some (.int .i64 rw_.t) := B6.out.cell 2
          obtain ⟨u1, u2⟩ := HRY.out
          obtain ⟨u3, u4⟩ := HC.out.h
          have hyb3 : Hid (Yb (pre' ++ [(⟨rw_, some ⟨g, 0, none⟩, cap⟩ : RV)]).length (rw_.y + c.h)) := hide (by rw [List.length_append]; exact HRY.out.step u3 u4)
          have hal3 : Hid (∀ p ∈ pre' ++ [(⟨rw_, some ⟨g, 0, none⟩, cap⟩ : RV)], aLt W3.heap.size p) := hide (fun p hp => by
            have h1 := hk3.fb.size
            have h2 := HS4.out
            have h3 := HS5.out
            rcases List.mem_append.1 hp with hp | hp
            · exact (hal.out p hp).mono (by omega)
            · simp at hp; subst hp; intro g' o h; simp at h; omega)
          clear hk3 hyl hR B5 f5 hJ5 hJ4 f4
          gi_wp2_with fail
          have z0 := keepd q0
          have z1 := keepd q1
          have z2 := keepd q2
          clear q0 q1 q2 q3
          refine wpIn_wide.2 ?_
          refine Reg.region (by kernel_rfl) 8 [] (fun _ w' => w' = W3.drew) (by kernel_rfl) (by kernel_rfl) rfl ?_
          iterate 8
            refine Reg.WT.yield (v := ?_) rfl rfl ?_ ?_
            rotate_left
            · intro w' _ hS; go_simp; (try go_bits); (first | rfl | rw [if_pos (by omega)])
            simp only [Act.put, List.setIfInBounds_toArray, List.set_cons_zero, List.set_cons_succ]
          intro w7 hS
          subst hS
          clear z0 z1 z2
          have q3 : W3.drew.cell? ⟨w4.heap.size, 2, none⟩ = some (.int .i64 rw_.t) := B6.out.cell 2
          have hJ7 := hide (hJ _ _ _ none hJ3.out (⟨rfl, rfl, rfl, Nat.le_refl _, fun _ _ _ => rfl⟩ : W3.grownBy W3.drew none) (fun r e => by cases e))
          obtain ⟨hro1, hro2⟩ := hro
          have hdd : Hid ((ws.drop (k + 1)).drop (rw_.t - (k + 1)) = ws.drop rw_.t) := hide (by rw [List.drop_drop]; congr 1; omega)
          go_wp2_with fail
          gi_wp2
          go_roundw
          case rel =>
            refine ⟨rw_.t, rw_.y + c.h, _, by omega, rfl, rfl, hide ?_, hide ?_, hyb3, b3.out.drew, hJ7.out, hal3⟩
            · rw [← HFI2.out, hdd.out, List.map_append, hpm.out]
              simp
            · rw [List.length_append, hpl'.out]
              simp; omega
          case measure => simp [intOf]; omega
    · obtain rfl : k = ws.length := by omega
      gi_wp2
      rw [Exit.noGoto_normal]
      gi_wp2
      go_end0
      refine ⟨⟨_, rfl⟩, pre, hJs.out, ?_⟩
      rw [← hfill.out, List.drop_length, fill_nil, List.append_nil]
end Go.Proofs.Ytpdfeifnbeojcaa
