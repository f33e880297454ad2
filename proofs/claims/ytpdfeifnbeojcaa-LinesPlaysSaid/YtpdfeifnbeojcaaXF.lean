/- Walk: the reference's Fill. -/
import Derived.Test.YtpdfeifnbeojcaaXA
import Derived.Test.YtpdfeifnbeojcaaWD
import Derived.BigRegion
import Derived.Deep.CutRange
import Derived.Deep.CutBlock
import Derived.Deep.LoopGhost
namespace Go.Proofs.Ytpdfeifnbeojcaa
open Go.RowKit

/-- The rows so far, as the call holds them. -/
structure FR (W : World) (B0 : Nat) (v : Value) (pre : List RV) : Prop where
  ow : W.ownsRow B0 38 4 v pre.length (pre.map rcell).flatten
  xb : ∀ x ∈ pre, XB W x
theorem FR.below {W W' : World} {B0 : Nat} {v : Value} {pre : List RV} (h : FR W B0 v pre) (hb : Below W.heap.size W W') : FR W' B0 v pre := ⟨own_below h.ow hb, fun x hx => (h.xb x hx).below hb⟩
theorem FR.nil (W : World) (B0 : Nat) : FR W B0 (.slice none 0 0) [] := ⟨World.ownsRow_nil _ _ _ _, fun x hx => absurd hx (by simp)⟩
/-- Behind an append of one row. -/
theorem FR.app {W W' : World} {B0 : Nat} {v v' : Value} {pre : List RV} {x : RV} (h : FR W B0 v pre) (ho : W'.ownsRow B0 38 4 v' (pre.length + 1) ((pre.map rcell).flatten ++ rcell x)) (hg : W.grownBy W' v.ownBlock) (hx : XB W x) : FR W' B0 v' (pre ++ [x]) := by
  refine ⟨by rw [List.length_append, List.map_append, List.flatten_append]; simpa using ho, fun z hz => ?_⟩
  have k : ∀ k cs, Blk W k 2 cs → Blk W' k 2 cs := fun k cs hb => hb.grown hg (hb.not_row (by decide) h.ow)
  rcases List.mem_append.1 hz with hz | hz
  · exact (h.xb z hz).keep k
  · simp at hz; subst hz; exact hx.keep k
/-- The row under way: its cells, its words' places. -/
structure GX (W : World) (B0 R : Nat) (yd : Int) (k tt : Nat) (j g cap : Nat) (xs : List Int) : Prop where
  bl : Blk W R 38 #[.int .i64 yd, .int .i64 k,   .int .i64 tt, .slice (some ⟨g, 0, none⟩) (j + 1) cap]
  own : W.ownsRow B0 2 1 (.slice (some ⟨g, 0, none⟩) (j + 1) cap) (j + 1) (ints xs)
theorem GX.below {W W' : World} {B0 R : Nat} {yd : Int} {k tt j g cap : Nat} {xs : List Int} (h : GX W B0 R yd k tt j g cap xs) (hb : Below W.heap.size W W') : GX W' B0 R yd k tt j g cap xs :=
  ⟨h.bl.below hb h.bl.lt, own_below h.own hb⟩
theorem GX.drew {W : World} {B0 R : Nat} {yd : Int} {k tt j g cap : Nat} {xs : List Int} (h : GX W B0 R yd k tt j g cap xs) : GX W.drew B0 R yd k tt j g cap xs := ⟨h.bl.drew, h.own.drew⟩
theorem w_keep {w : World} {b0 off : Nat} {ws : List Wd} (h : WRow w (some ⟨b0, off, none⟩) ws) (hp : 0 < ws.length) : ∀ W, Below w.heap.size w W → ∀ i (hi : i < ws.length),
    W.cell? ⟨b0, off + i * 5 + 2, none⟩ = some (.int .i64 ws[i].w) ∧ W.cell? ⟨b0, off + i * 5 + 3, none⟩ = some (.int .i64 ws[i].g) ∧ W.cell? ⟨b0, off + i * 5 + 4, none⟩ = some (.int .i64 ws[i].n) := fun W hb i hi => by
  obtain ⟨b1, off1, rb, _, hc⟩ := w_at (WRow.below h hb) hp
  simp only [Option.some.injEq, Addr.mk.injEq, and_true] at rb
  obtain ⟨rb1, rb2⟩ := rb
  subst rb1 rb2
  exact ⟨(hc i hi).2.2.1, (hc i hi).2.2.2.1, (hc i hi).2.2.2.2⟩
/-- A region that makes a block and appends it. -/
def AP (W4 WA W7 : World) (c : Nat) (w' : World) : Prop := if c = 0 then w' = W4.drew else if c = 1 then w' = WA else w' = W7
theorem ap_cell {W4 WA W7 : World} {p : Addr} {v : Value} (h0 : W4.cell? p = some v) (h1 : WA.cell? p = some v) (h7 : W7.cell? p = some v) : ∀ w' c, AP W4 WA W7 c w' → w'.cell? p = some v := fun w' c hS => by
  unfold AP at hS
  split at hS
  · subst hS; exact h0
  · split at hS
    · subst hS; exact h1
    · subst hS; exact h7
theorem exec_append {P : Program} {a : Act} {o : Oper} {w w' : World} {s x : Operand} {t : TypeId} {v r : Value} {ad : Addr} {m c : Nat} (ho : o.op = .call { callee := .builtin .append, args := #[s, x], argTypes := #[t, t] }) (hs : a.eval s = v) (hx : a.eval x = .slice (some ad) m c)
    (hr : (Builtin.append_ #[t, t] o.type #[v, .slice (some ad) m c]).run P w = .ok r w') : (execOp a.eval o).run P w = .ok (.value r) w' := by
  unfold execOp
  simp only [ho, resolve, invoke, builtin, Sem.run_bind, Sem.run_pure, Result.andThen_ok, List.map_toArray, List.map_cons, List.map_nil, hs, hx, hr]
def RFPost (c : Rm) (ws : List Wd) (y : Int) (w : World) (r : Ending) (w' : World) : Prop :=
  ∃ A cap, r = .returned (.tuple #[.slice A (fill c 0 ws y).1.length cap, .int .i64 (fill c 0 ws y).2]) ∧ LRow w' A (fill c 0 ws y).1 ∧ Below w.heap.size w w'
set_option maxHeartbeats 4000000 in
set_option maxRecDepth 100000 in
theorem rfill_any (wa : Option Addr) (ws : List Wd) (wq : Nat) (fa : Option Addr) (fl : List Flt) (fc : Nat) (h al a b y : Int) (w : World) (hr : WRow w wa ws) (hok : ∀ x ∈ ws, WdOk x) (hws : ws.length ≤ 200) (hf : FRow w fa fl) (hfn : fl.length ≤ 1000)
    (hc : RmOk ⟨max h 0, al, a, b, fl⟩) (hy : Yb 0 y) (hh : -9223372036854775808 ≤ h ∧ h ≤ 9223372036854775807) :
    Calls Try.prog 10 #[.slice wa ws.length wq, .int .i64 h, .int .u8 al, .int .i64 a, .int .i64 b, .int .i64 y, .slice fa fl.length fc] w (RFPost ⟨max h 0, al, a, b, fl⟩ ws y w) := by
  obtain ⟨i0, hi, hz0, hz1, hz2⟩ := info_parts infoR
  obtain ⟨j0, ji, jz0, jz1, jz2⟩ := info_parts info2
  have HC := hide hc
  have HOK := hide hok
  have HY := hide hy
  have HR := hide hr
  have HF := hide hf
  clear hc hok hy hr hf
  obtain ⟨c, hcd⟩ : ∃ c : Rm, c = ⟨max h 0, al, a, b, fl⟩ := ⟨_, rfl⟩
  rw [← hcd] at HC ⊢
  have hch : max h 0 = c.h := by rw [hcd]
  have e1 : al = c.al := by rw [hcd]
  have e2 : a = c.a := by rw [hcd]
  have e3 : b = c.b := by rw [hcd]
  have e4 : fl = c.fl := by rw [hcd]
  clear hcd
  subst e1 e2 e3 e4
  have HCH := hide hch
  clear hch
  obtain ⟨hh1, hh2⟩ := HC.out.h
  go_enter Try.func10, Try.ntmps10
  go_upto_block 0 with fail
  rw [HCH.out]
  clear HCH hh
  go_wp2_with fail
  go_loopw [5, 16, 17] (fun s5 s16 s17 wr => ∃ (k : Nat) (y' : Int) (pre : List RV) (A : Option Addr) (cap : Nat), k ≤ ws.length ∧ s17 = .int .i64 k ∧ s5 = .int .i64 y' ∧ s16 = .slice A pre.length cap ∧ FR wr w.heap.size s16 pre ∧ Hid (fill c 0 ws y = (pre.map RV.r ++ (fill c k (ws.drop k) y').1, (fill c k (ws.drop k) y').2)) ∧ Yb pre.length y' ∧ pre.length ≤ 21 * k ∧ Below w.heap.size w wr) (fun _ _ s17 _ => ws.length - (intOf s17).toNat)
  case atStart => exact ⟨0, y, [], none, 0, Nat.zero_le _, rfl, rfl, rfl, FR.nil _ _, hide (by simp), HY.out, Nat.zero_le _, Below.refl _ _⟩
  case round =>
    obtain ⟨k, y', pre, A, cap, hk, rfl, rfl, rfl, hFR, HFI, hyb, hpl, hbel⟩ := hrel
    have F := hide hFR
    have t := hide hbel
    have HYB := hide hyb
    clear hFR hbel hyb
    by_cases hlt : k < ws.length
    · obtain ⟨wd, l, hd⟩ : ∃ wd l, ws.drop k = wd :: l := ⟨_, _, List.drop_eq_getElem_cons hlt⟩
      obtain ⟨_, hwk, hll, _, hl2⟩ := drop_at (j := 0) hd
      have hwk := hwk hlt
      have hwo := HOK.out _ (List.getElem_mem hlt)
      rw [hwk] at hwo
      obtain ⟨hw1, hw2⟩ := hwo.w
      obtain ⟨hwn1, hwn2⟩ := hwo.n
      obtain ⟨hE, HEi⟩ := ends_i k hwo
      have HEI := hide HEi
      have HLL := hide hll
      have HL := hide hl2
      have HWK := hide hwk
      have HFC : Hid (fill c 0 ws y = (pre.map RV.r ++ (fill c k (wd :: l) y').1, (fill c k (wd :: l) y').2)) := hide (by rw [← hd]; exact HFI.out)
      rw [fill_cons] at HFC
      obtain ⟨E, hEe⟩ : ∃ E, E = ends k wd := ⟨_, rfl⟩
      rw [← hEe] at hE HEI HFC
      clear HEi hll hl2 hwk hwo hd HFI hEe
      obtain ⟨b0, off, rfl, hb0, hcw⟩ := w_at (HR.out.below t.out) (by omega)
      obtain ⟨_, _, _, _, x4⟩ := hcw k hlt
      rw [HWK.out] at x4
      clear hcw
      go_upto_if 39 with fail
      clear x4
      go_cut [18] from 29 to 189 (fun s18 wx => s18 = .int .i64 (if k = 0 then wd.n else wd.n - 1) ∧ wr = wx)
      case first =>
        by_cases hk0 : k = 0
        · have bk : decide (0 < (k : Int)) = false := by simp; omega
          have bk2 : decide (0 < k) = false := by simp; omega
          have HK0 := hide hk0
          clear hk0
          first | rw [bk] | rw [bk2]
          go_wp2_with fail
          go_meet
          exact ⟨by rw [if_pos HK0.out], rfl⟩
        · have bk : decide (0 < (k : Int)) = true := by simp; omega
          have bk2 : decide (0 < k) = true := by simp; omega
          first | rw [bk] | rw [bk2]
          go_wp2_with fail
          go_meet
          exact ⟨by rw [if_neg hk0], rfl⟩
      case rest =>
        obtain ⟨rfl, rfl⟩ := hcut
        generalize (if k = 0 then wd.n else wd.n - 1) = en at HEI
        go_wp2_with fail
        go_loopw [5, 16, 19] (fun s5 s16 s19 wx => ∃ (i : Nat) (yi : Int) (pre' : List RV) (A' : Option Addr) (cap' : Nat), i ≤ E ∧ s19 = .int .i64 i ∧ s5 = .int .i64 yi ∧ s16 = .slice A' pre'.length cap' ∧ FR wx w.heap.size s16 pre' ∧ Hid (yi = y' + i * c.h) ∧ Hid (pre'.map RV.r = pre.map RV.r ++ empties c.h k i y') ∧ Yb (pre.length + i) yi ∧ pre'.length = pre.length + i ∧ Below w.heap.size w wx) (fun _ _ s19 _ => E - (intOf s19).toNat)
        case atStart => exact ⟨0, y', pre, A, cap, Nat.zero_le _, rfl, rfl, rfl, F.out, hide (by simp), hide (by simp [empties]), HYB.out, rfl, t.out⟩
        case round =>
          clear F t HYB
          obtain ⟨i, yi, pre', A', cap', hiE, rfl, rfl, rfl, hFR, HYI, HEM, hyb, hpl', hbel⟩ := hrel
          have F := hide hFR
          have t := hide hbel
          have HYB := hide hyb
          unfold Yb at hyb
          clear hFR hbel
          by_cases hit : i < E
          · have bi : decide ((i : Int) < en) = true := by rw [decide_eq_true_eq]; exact (HEI.out i).2 hit
            have O8 := hide (F.out.ow.alloc (.cells #[.int .i64 yi, .int .i64 k, .int .i64 k, .slice none 0 0] 38))
            have N8 := hide (Blk.new wr 38 #[.int .i64 yi, .int .i64 k, .int .i64 k, .slice none 0 0])
            have F8 := hide (F.out.below ((Below.refl _ _).alloc (Nat.le_refl _) (.cells #[.int .i64 yi, .int .i64 k, .int .i64 k, .slice none 0 0] 38)))
            have HPL := hide hpl'
            have hts := t.out.size
            clear hpl'
            go_wp2_with (at_builtin; refine wpList_append_own _ rfl _ _ 28 rfl w.heap.size 38 i0 (.agg #[.int .i64 0, .int .i64 0, .int .i64 0, .slice none 0 0]) 4 48 Try.underlying28 hi hz0 hz1 hz2 rfl (by decide) _ _ _ rfl O8.out ⟨wr.heap.size, 0, none⟩ 1 1 [.int .i64 yi, .int .i64 k, .int .i64 k, .slice none 0 0] rfl rfl ?c1 ?c2 ?c3 ?c4 ?c5 ?_)
            case c1 => exact N8.out.news
            case c2 => intro z hz; simp at hz; rcases hz with rfl | rfl | rfl | rfl <;> rfl
            case c3 => have := HPL.out; unfold maxLen; omega
            case c4 => have := HPL.out; omega
            case c5 => simp; omega
            intro v' w9 hown' hgrow _
            obtain ⟨g', cap'', rfl, _, _⟩ := hown'.form (by omega)
            have t9 := hide (below_grown (a := w) (t.out.alloc t.out.size (.cells #[.int .i64 yi, .int .i64 k, .int .i64 k, .slice none 0 0] 38)) hgrow (fun q hq => (O8.out.lt q hq).1))
            have F9 : Hid (FR w9 w.heap.size (.slice (some ⟨g', 0, none⟩) (pre'.length + 1) cap'') (pre' ++ [(⟨⟨yi, k, k, []⟩, none, 0⟩ : RV)])) := hide (F8.out.app (by simpa [rcell] using hown') hgrow (.inl ⟨rfl, rfl, rfl⟩))
            have HY2 := hide (HYB.out.step hh1 hh2)
            clear hown' hgrow O8 N8 F8
            go_wp2_with fail
            go_roundw
            case rel => exact ⟨i + 1, yi + c.h, pre' ++ [(⟨⟨yi, k, k, []⟩, none, 0⟩ : RV)], some ⟨g', 0, none⟩, cap'', hit, by go_num, rfl, by rw [List.length_append]; rfl, F9.out, hide (by rw [HYI.out]; push_cast; rw [Int.add_mul]; omega), hide (by rw [List.map_append, HEM.out, empties_succ, HYI.out, List.append_assoc]; rfl), by rw [show pre.length + (i + 1) = pre.length + i + 1 from by omega]; exact HY2.out, by rw [List.length_append, HPL.out]; simp; omega, t9.out⟩
            case measure => simp [intOf]; omega
          · obtain rfl : i = E := by omega
            have bi : decide ((i : Int) < en) = false := by rw [decide_eq_false_iff_not]; exact fun h => hit ((HEI.out i).1 h)
            have hm4 : pre.length + i ≤ 4199 := by omega
            obtain ⟨b1, off1, rb, hb1, hcw⟩ := w_at (HR.out.below t.out) (by omega)
            simp only [Option.some.injEq, Addr.mk.injEq, and_true] at rb
            obtain ⟨rb1, rb2⟩ := rb
            subst rb1 rb2
            obtain ⟨_, _, x2, _, _⟩ := hcw k hlt
            rw [HWK.out] at x2
            have HD := hide (fun (W : World) hW => rdown_any fa fc c HC.out wd.w yi W hW hfn (HYB.out.fay (by omega)) ⟨hw1, by omega⟩)
            have hyd := dwn_yb HC.out (w := wd.w) (cntB c.fl yi) (Nat.le_refl _) HYB.out
            obtain ⟨yd, hyde⟩ : ∃ yd, yd = dwn c wd.w yi := ⟨_, rfl⟩
            rw [← hyde] at HD hyd
            have HYD := hide hyde
            have HYF := hide hyd
            obtain ⟨⟨f1, f2⟩, f3, f4⟩ := HC.out.at_far yd
            have hP : Hid (c.at_ yd = ((c.at_ yd).1, (c.at_ yd).2)) := hide rfl
            generalize (c.at_ yd).1 = pf at hP f1 f2 HD
            generalize (c.at_ yd).2 = pt at hP f3 f4 HD
            clear hcw hyde hyd hyb hpl'
            go_wp2_with fail
            refine (HD.out _ (HF.out.below t.out)).mono ?_
            rintro r wB ⟨rfl, kB⟩
            have F := hide (F.out.below kB)
            have t := hide (below_call (w := w) t.out kB)
            clear kB HD x2 bi hb1
            obtain ⟨b1, off1, rb, hb1, hcw⟩ := w_at (HR.out.below t.out) (by omega)
            simp only [Option.some.injEq, Addr.mk.injEq, and_true] at rb
            obtain ⟨rb1, rb2⟩ := rb
            subst rb1 rb2
            obtain ⟨_, _, x2, _, _⟩ := hcw k hlt
            rw [HWK.out] at x2
            clear hcw
            obtain ⟨w3, hw3⟩ : ∃ w3, w3 = (wB.alloc (.cells #[.int .i64 pf] 2)).alloc (.cells #[.int .i64 yd, .int .i64 k, .int .i64 0, .slice (some ⟨wB.heap.size, 0, none⟩) 1 1] 38) := ⟨_, rfl⟩
            obtain ⟨R, hR⟩ : ∃ R, R = wB.heap.size + 1 := ⟨_, rfl⟩
            have T3 : Hid (Below wB.heap.size wB w3) := hide (by rw [hw3]; exact ((Below.refl _ _).alloc (Nat.le_refl _) _).alloc (by simp) _)
            have G3 : Hid (GX w3 wB.heap.size R yd k 0 0 wB.heap.size 1 [pf]) := hide (by
              have nb := Blk.new (wB.alloc (.cells #[.int .i64 pf] 2)) 38 #[.int .i64 yd, .int .i64 k, .int .i64 0, .slice (some ⟨wB.heap.size, 0, none⟩) 1 1]
              rw [World.size_alloc] at nb
              rw [hw3, hR]
              exact ⟨nb, (World.ownsRow_lit (base := wB.heap.size) (e := 2) (size := 1) wB #[.int .i64 pf] 1 (Nat.le_refl _) (by decide) rfl).alloc _⟩)
            have HRs : Hid (R < w3.heap.size ∧ wB.heap.size < R) := hide (by rw [hw3, hR]; simp)
            have HW3 := hide hw3
            have HRR := hide hR
            clear hw3 hR
            go_upto_block 4 with fail
            rw [← HW3.out, ← HRR.out]
            have HWC := hide (w_keep HR.out (by omega))
            obtain ⟨e0, he0⟩ : ∃ e0, e0 = pf + wd.w := ⟨_, rfl⟩
            have he1 : -4503599627370496 ≤ e0 := by omega
            have he2 : e0 ≤ 4503599627370496 + 2199023255552 := by omega
            rw [← he0]
            have HE0 := hide he0
            have hlen := HLL
            clear he0 HW3 HRR x2 hb1
            go_cut [17, 24] from 29 to 189 (fun s17 s24 wx => ∃ g cap, s17 = .int .i64 ((k + 1 + (grow pt l e0).1.length : Nat) : Int) ∧ s24 = .int .i64 (grow pt l e0).2 ∧ GX wx wB.heap.size R yd k 0 (grow pt l e0).1.length g cap (pf :: (grow pt l e0).1) ∧ Below wB.heap.size wB wx ∧ Hid (∀ x ∈ pf :: (grow pt l e0).1, Fur x) ∧ Fur (grow pt l e0).2)
            case first =>
              as_aux_lemma =>
                have ht0 := t.out.size
                go_wp2_with fail
                go_loopg [17, 24] (l.length + 1) (fun gk s17 s24 wr => ∃ (j : Nat) (e : Int) (px : List Int) (g cap : Nat), s17 = .int .i64 ((k + 1 + j : Nat) : Int) ∧ s24 = .int .i64 e ∧ Hid (grow pt l e0 = (px ++ (grow pt (l.drop j) e).1, (grow pt (l.drop j) e).2)) ∧ Hid (px.length = j) ∧ j ≤ l.length ∧
                  -4503599627370496 ≤ e ∧ e ≤ 4503599627370496 + 2199023255552 * ((j : Int) + 1) ∧ l.length - j < gk ∧ GX wr wB.heap.size R yd k 0 j g cap (pf :: px) ∧ Below wB.heap.size wB wr ∧ Hid (∀ x ∈ pf :: px, Fur x))
                case atStart => exact ⟨0, e0, [], _, _, by go_num, rfl, rfl, rfl, Nat.zero_le _, he1, by omega, by omega, G3.out, T3.out, hide (fun x hx => by simp at hx; subst hx; unfold Fur; omega)⟩
                case round =>
                  obtain ⟨j, e, px, g, cap, rfl, rfl, hgr, hpre, hj, h1, h2, hgk, hG, hbel, hfx⟩ := hrel
                  have hFe : Fur e := by unfold Fur; have := hlen.out; omega
                  have tb := hide hbel
                  have G := hide hG
                  obtain ⟨q, hq⟩ : ∃ q, q = k + 1 + j := ⟨_, rfl⟩
                  rw [← hq]
                  have HQ := hide hq
                  have tw := hide (below_call (w := w) t.out hbel)
                  clear hbel hG he1 he2 hq
                  have hlen' := hlen.out
                  by_cases hltq : q < ws.length
                  · have bq : decide ((q : Int) < (ws.length : Int)) = true := by rw [decide_eq_true_eq]; omega
                    obtain ⟨v2, v3, v4⟩ := HWC.out wr tw.out q hltq
                    have HWQ := hide (fun W hW => HWC.out W hW q hltq)
                    have hjl : j < l.length := by have := HQ.out; omega
                    have hnw : Hid (l[j] = ws[q]) := hide (by have := HQ.out; have hh := HL.out; simp only [hh, List.getElem_drop, this])
                    obtain ⟨⟨nw1, nw2⟩, ⟨ng1, ng2⟩, nn1, nn2⟩ := HOK.out _ (List.getElem_mem hltq)
                    generalize ws[q] = nw at v2 v3 v4 hnw HWQ nw1 nw2 ng1 ng2 nn1 nn2
                    have r2 := keepd v2
                    have r3 := keepd v3
                    have r4 := keepd v4
                    clear v2 v3 v4
                    by_cases c1 : nw.n = 0
                    · have bn : (nw.n == 0) = true := by simpa using c1
                      by_cases c2 : e + nw.g + nw.w ≤ pt
                      · have HON := hide (grow_on hgr.out hjl hnw.out ⟨c1, c2⟩)
                        have bc : decide (e + nw.g + nw.w ≤ pt) = true := by simpa using c2
                        have HFX : Hid (∀ x ∈ pf :: (px ++ [e + nw.g]), Fur x) := hide (fun x hx => by
                          rw [← List.cons_append, List.mem_append] at hx
                          rcases hx with hx | hx
                          · exact hfx.out x hx
                          · simp at hx; subst hx; unfold Fur; omega)
                        clear c1
                        go_upto_region 17 with fail
                        refine Reg.region (by kernel_rfl) 29 [] (fun _ w' => w' = wr.drew) (by kernel_rfl) (by kernel_rfl) rfl ?_
                        iterate 29
                          first
                            | refine Reg.WT.idle rfl rfl ?_
                            | (refine Reg.WT.yield (v := ?_) rfl rfl ?_ ?_
                               rotate_left
                               · intro w' _ hS; go_simp; (try go_bits); (first | rfl | rw [if_pos (by omega)]))
                          simp only [Act.put, List.setIfInBounds_toArray, List.set_cons_zero, List.set_cons_succ]
                        intro w4' hS
                        subst hS
                        clear r2 r3 r4 bn bc
                        obtain ⟨W4, hW4⟩ : ∃ W4, W4 = wr.drew := ⟨_, rfl⟩
                        have G4 : Hid (GX W4 wB.heap.size R yd k 0 j g cap (pf :: px)) := hide (hW4 ▸ G.out.drew)
                        have tb4 : Hid (Below wB.heap.size wB W4) := hide (hW4 ▸ tb.out.drew)
                        have tw4 : Hid (Below w.heap.size w W4) := hide (hW4 ▸ tw.out.drew)
                        have HW4 := hide hW4
                        clear hW4 G tb tw
                        go_upto_region 18 with fail
                        rw [← HW4.out]
                        clear HW4
                        obtain ⟨WA, hWA⟩ : ∃ WA, WA = W4.drew.alloc (.cells #[.int .i64 (e + nw.g)] 2) := ⟨_, rfl⟩
                        have aA : Below W4.heap.size W4 WA := hWA ▸ (Below.refl W4.heap.size W4).drew.alloc (Nat.le_refl _) _
                        have GA := hide (G4.out.below aA)
                        have NA : Hid (Blk WA W4.heap.size 2 #[.int .i64 (e + nw.g)]) := hide (hWA ▸ Blk.new W4.drew 2 #[.int .i64 (e + nw.g)])
                        have tbA := hide (tb4.out.trans (aA.mono tb4.out.size))
                        have twA := hide (tw4.out.trans (aA.mono tw4.out.size))
                        have hsA := tbA.out.size
                        obtain ⟨g', cap', w7, hrun, hown7, hgrow, _, _⟩ := run_append_lies (P := Try.prog) (w := WA) 36 36 wB.heap.size 2 j0 (.int .i64 0) 1 8 Try.underlying36 ji jz0 jz1 jz2 rfl (by decide) (.slice (some ⟨g, 0, none⟩) (j + 1) cap) (j + 1) (ints (pf :: px)) GA.out.own ⟨W4.heap.size, 0, none⟩ 1 1 [.int .i64 (e + nw.g)] rfl NA.out.news (by intro z hz; simp at hz; subst hz; rfl) (by decide) (by unfold maxLen; omega) (by omega) hsA _ rfl
                        have BR7 := hide (GA.out.bl.grown hgrow (GA.out.bl.not_row (by decide) GA.out.own))
                        have O7 : Hid (w7.ownsRow wB.heap.size 2 1 (.slice (some ⟨g', 0, none⟩) (j + 1 + 1) cap') (j + 1 + 1) (ints (pf :: (px ++ [e + nw.g])))) := hide (by simpa [ints] using hown7)
                        have tb7 := hide (below_grown (a := wB) tbA.out hgrow (fun q' hq' => (GA.out.own.lt q' hq').1))
                        have tw7 := hide (below_call (w := w) t.out tb7.out)
                        have z3 := ap_cell (G4.out.bl.cell 3) (GA.out.bl.cell 3) (BR7.out.cell 3)
                        have zg := ap_cell (HWQ.out W4 tw4.out).2.1 (HWQ.out WA twA.out).2.1 (HWQ.out w7 tw7.out).2.1
                        have HRUN := hide hrun
                        clear hown7 hgrow hrun aA
                        refine Reg.region (by kernel_rfl) 11 [9, 10] (AP W4 WA w7) (by kernel_rfl) (by kernel_rfl) rfl ?_
                        iterate 9
                          refine Reg.WT.yield (v := ?_) rfl rfl ?_ ?_
                          rotate_left
                          · intro w' _ hS; have z0_ := z3 _ _ hS; have z1_ := zg _ _ hS; go_simp; (try go_bits); (first | rfl | rw [if_pos (by omega)])
                          simp only [Act.put, List.setIfInBounds_toArray, List.set_cons_zero, List.set_cons_succ]
                        refine Reg.WT.make (v := .slice (some ⟨W4.heap.size, 0, none⟩) 1 1) rfl rfl ?_ ?_
                        · intro w2 hS
                          obtain rfl : w2 = W4.drew := hS
                          exact ⟨WA, by rw [hWA]; go_simp, rfl⟩
                        simp only [Act.put, List.setIfInBounds_toArray, List.set_cons_zero, List.set_cons_succ]
                        refine Reg.WT.make (v := .slice (some ⟨g', 0, none⟩) (j + 1 + 1) cap') rfl rfl ?_ ?_
                        · intro w2 hS
                          have hS2 : w2 = WA := hS
                          exact ⟨w7, by rw [hS2]; exact exec_append rfl rfl rfl HRUN.out, rfl⟩
                        simp only [Act.put, List.setIfInBounds_toArray, List.set_cons_zero, List.set_cons_succ]
                        intro w2 hS
                        have hS2 : w7 = w2 := (show w2 = w7 from hS).symm
                        subst hS2
                        have x3 : w7.cell? ⟨R, 3, none⟩ = some (.slice (some ⟨g, 0, none⟩) (j + 1) cap) := BR7.out.cell 3
                        have f3 := BR7.out.frozen 3
                        obtain ⟨w8, hw8⟩ : ∃ w8, w8 = w7.setCell ⟨R, 3, none⟩ (.slice (some ⟨g', 0, none⟩) (j + 1 + 1) cap') := ⟨_, rfl⟩
                        have G8 : Hid (GX w8 wB.heap.size R yd k 0 (j + 1) g' cap' (pf :: (px ++ [e + nw.g]))) := hide (by
                          rw [hw8]
                          refine ⟨?_, ownsRow_setCell_other O7.out (a := ⟨R, 3, none⟩) (fun hh => BR7.out.not_row (by decide) O7.out hh.symm) _⟩
                          have := BR7.out.set_ 3 (.slice (some ⟨g', 0, none⟩) (j + 1 + 1) cap')
                          simpa using this)
                        have tb8 : Hid (Below wB.heap.size wB w8) := hide (by rw [hw8]; exact tb7.out.setCell (p := ⟨R, 3, none⟩) (by have := HRs.out; show wB.heap.size ≤ R; omega) _)
                        have tw8 := hide (below_call (w := w) t.out tb8.out)
                        have HW8 := hide hw8
                        clear z3 zg hS hWA hw8 G4 GA NA tb4 tbA tw4 twA tb7 tw7 HRUN
                        go_upto_region 19 with fail
                        rw [← HW8.out]
                        clear HW8 x3 f3 BR7 O7
                        obtain ⟨v2, v3, _⟩ := HWQ.out w8 tw8.out
                        have r2 := keepd v2
                        have r3 := keepd v3
                        clear v2 v3
                        refine Reg.region (by kernel_rfl) 14 [] (fun _ w' => w' = w8.drew) (by kernel_rfl) (by kernel_rfl) rfl ?_
                        iterate 14
                          refine Reg.WT.yield (v := ?_) rfl rfl ?_ ?_
                          rotate_left
                          · intro w' _ hS; go_simp; (try go_bits); (first | rfl | rw [if_pos (by omega)])
                          simp only [Act.put, List.setIfInBounds_toArray, List.set_cons_zero, List.set_cons_succ]
                        intro w2 hS
                        subst hS
                        clear r2 r3
                        go_wp2_with fail
                        go_roundg (l.length - j)
                        case measure => omega
                        case rel => exact ⟨j + 1, e + nw.g + nw.w, px ++ [e + nw.g], g', cap', by rw [show ((k + 1 + (j + 1) : Nat) : Int) = (q : Int) + 1 from by have := HQ.out; omega], rfl, HON, hide (by rw [List.length_append, hpre.out]; rfl), hjl, by omega, by omega, by omega, G8.out.drew, tb8.out.drew, HFX⟩
                      · have HOFF := hide (grow_off hgr.out hjl hnw.out (fun h => c2 h.2))
                        have bc : decide (e + nw.g + nw.w ≤ pt) = false := by simpa using c2
                        clear c1
                        go_upto_region 17 with fail
                        refine Reg.region (by kernel_rfl) 29 [] (fun _ w' => w' = wr.drew) (by kernel_rfl) (by kernel_rfl) rfl ?_
                        iterate 29
                          first
                            | refine Reg.WT.idle rfl rfl ?_
                            | (refine Reg.WT.yield (v := ?_) rfl rfl ?_ ?_
                               rotate_left
                               · intro w' _ hS; go_simp; (try go_bits); (first | rfl | rw [if_pos (by omega)]))
                          simp only [Act.put, List.setIfInBounds_toArray, List.set_cons_zero, List.set_cons_succ]
                        intro w4' hS
                        subst hS
                        go_wp2_with fail
                        go_meet
                        rw [HOFF.out]
                        have hpj := hpre.out
                        exact ⟨g, cap, by rw [HQ.out, ← hpj], rfl, by subst hpj; exact G.out.drew, tb.out.drew, hfx, hFe⟩
                    · have HOFF := hide (grow_off hgr.out hjl hnw.out (fun h => c1 h.1))
                      have bn : (nw.n == 0) = false := by simpa using c1
                      clear c1
                      go_upto_region 17 with fail
                      refine Reg.region (by kernel_rfl) 29 [] (fun _ w' => w' = wr.drew) (by kernel_rfl) (by kernel_rfl) rfl ?_
                      iterate 29
                        first
                          | refine Reg.WT.idle rfl rfl ?_
                          | (refine Reg.WT.yield (v := ?_) rfl rfl ?_ ?_
                             rotate_left
                             · intro w' _ hS; go_simp; (try go_bits); (first | rfl | rw [if_pos (by omega)]))
                        simp only [Act.put, List.setIfInBounds_toArray, List.set_cons_zero, List.set_cons_succ]
                      intro w4' hS
                      subst hS
                      go_wp2_with fail
                      go_meet
                      rw [HOFF.out]
                      have hpj := hpre.out
                      exact ⟨g, cap, by rw [HQ.out, ← hpj], rfl, by subst hpj; exact G.out.drew, tb.out.drew, hfx, hFe⟩
                  · have HOFF := hide (grow_end hgr.out (by have := HQ.out; omega))
                    have bq : decide ((q : Int) < (ws.length : Int)) = false := by rw [decide_eq_false_iff_not]; omega
                    go_upto_region 17 with fail
                    refine Reg.region (by kernel_rfl) 29 [] (fun _ w' => w' = wr.drew) (by kernel_rfl) (by kernel_rfl) rfl ?_
                    iterate 29
                      first
                        | refine Reg.WT.idle rfl rfl ?_
                        | (refine Reg.WT.yield (v := ?_) rfl rfl ?_ ?_
                           rotate_left
                           · intro w' _ hS; go_simp; (try go_bits); (first | rfl | rw [if_pos (by omega)]))
                      simp only [Act.put, List.setIfInBounds_toArray, List.set_cons_zero, List.set_cons_succ]
                    intro w4' hS
                    subst hS
                    go_wp2_with fail
                    go_meet
                    rw [HOFF.out]
                    have hpj := hpre.out
                    exact ⟨g, cap, by rw [HQ.out, ← hpj], rfl, by subst hpj; exact G.out.drew, tb.out.drew, hfx, hFe⟩
            case rest =>
              obtain ⟨g, cap, rfl, rfl, hG, tb, hfx, hFe⟩ := hcut
              have HRO : Hid (rowOf c k wd l yi = ⟨yd, k, k + 1 + (grow pt l e0).1.length, (pf :: (grow pt l e0).1).map (· + moveOf c.al (max (pt - (grow pt l e0).2) 0))⟩) := hide (by
                unfold rowOf
                dsimp only
                rw [← HYD.out, hP.out, HE0.out])
              obtain ⟨q, hq⟩ : ∃ q, q = grow pt l e0 := ⟨_, rfl⟩
              have hql := grow_len pt l e0
              rw [← hq] at hG hfx hFe HRO hql ⊢
              obtain ⟨q1, q2⟩ := q
              dsimp only at hG hfx hFe HRO hql ⊢
              obtain ⟨TT, hTT⟩ : ∃ TT, TT = k + 1 + q1.length := ⟨_, rfl⟩
              have hTl : k < TT ∧ TT ≤ ws.length := by have := HLL.out; omega
              rw [← hTT] at HRO ⊢
              have HTT := hide hTT
              have tb := hide tb
              have G := hide hG
              unfold Fur at hFe
              obtain ⟨free, hfree⟩ : ∃ f, f = max (pt - q2) 0 := ⟨_, rfl⟩
              have hfr : 0 ≤ free ∧ free ≤ 18014398509481984 := by omega
              rw [← hfree] at HRO
              obtain ⟨m, hm⟩ : ∃ m, m = moveOf c.al free := ⟨_, rfl⟩
              rw [← hm] at HRO
              have HM := hide hm
              have x2 : wc.cell? ⟨R, 2, none⟩ = some (.int .i64 (0 : Nat)) := hG.bl.cell 2
              have f2 := hG.bl.frozen 2
              obtain ⟨w5, hw5⟩ : ∃ w5, w5 = wc.setCell ⟨R, 2, none⟩ (.int .i64 (TT : Int)) := ⟨_, rfl⟩
              have G5 : Hid (GX w5 wB.heap.size R yd k TT q1.length g cap (mid_ (pf :: q1) m 0)) := hide (by
                rw [hw5]
                refine ⟨?_, by simpa [mid_] using ownsRow_setCell_other hG.own (a := ⟨R, 2, none⟩) (fun hh => hG.bl.not_row (by decide) hG.own hh.symm) _⟩
                have := hG.bl.set_ 2 (.int .i64 (TT : Int))
                simpa using this)
              have tb5 : Hid (Below wB.heap.size wB w5) := hide (by rw [hw5]; exact tb.out.setCell (p := ⟨R, 2, none⟩) (by have := HRs.out; show wB.heap.size ≤ R; omega) _)
              have HW5 := hide hw5
              have HFX := hide hfx
              have HFREE := hide hfree
              clear hq hG hm hw5 hfree hTT hfx G3 T3
              go_upto_block 6 with fail
              rw [← HW5.out, ← HFREE.out]
              clear HW5 HFREE x2 f2 G tb
              go_cut [26] from 29 to 189 (fun _ wx => GX wx wB.heap.size R yd k TT q1.length g cap ((pf :: q1).map (· + m)) ∧ Below wB.heap.size wB wx)
              case first =>
                as_aux_lemma =>
                  have hq200 : q1.length ≤ 200 := by have := HLL.out; omega
                  by_cases a1 : c.al = 1
                  · have ba : (c.al == 1) = true := by simpa using a1
                    have HMV : Hid (m = free) := hide (by rw [HM.out, a1]; rfl)
                    clear a1
                    go_wp2_with fail
                    go_loopw [26] (fun s26 wx => ∃ i : Nat, i ≤ q1.length + 1 ∧ s26 = .int .i64 i ∧ GX wx wB.heap.size R yd k TT q1.length g cap (mid_ (pf :: q1) m i) ∧ Below wB.heap.size wB wx) (fun s26 _ => q1.length + 1 - (intOf s26).toNat)
                    case atStart => exact ⟨0, Nat.zero_le _, rfl, G5.out, tb5.out⟩
                    case round =>
                      clear G5 tb5
                      obtain ⟨i2, hi2, rfl, hG, hb⟩ := hrel
                      have G := hide hG
                      have tb := hide hb
                      clear hG hb
                      have x3 : wr.cell? ⟨R, 3, none⟩ = some (.slice (some ⟨g, 0, none⟩) (q1.length + 1) cap) := G.out.bl.cell 3
                      by_cases hit2 : i2 < q1.length + 1
                      · have hil : i2 < (pf :: q1).length := hit2
                        have x0 : wr.cell? ⟨g, i2, none⟩ = some (.int .i64 (pf :: q1)[i2]) := by rw [G.out.own.cellAt i2 (by omega)]; exact mid_at m hil
                        have f0 := G.out.own.frozenAt i2
                        have hfx := HFX.out _ (List.getElem_mem hil)
                        have HS := hide (mid_set m hil)
                        generalize (pf :: q1)[i2] = xx at x0 hfx HS
                        obtain ⟨u1, u2⟩ := hfx
                        have S1 := hide (G.out.own.stored i2 (.int .i64 (xx + m))).1
                        rw [HS.out] at S1
                        obtain ⟨w6, hw6⟩ : ∃ w6, w6 = (wr.setCell ⟨g, i2, none⟩ (.int .i64 (xx + free))).drew := ⟨_, rfl⟩
                        have hgR : g ≠ R := fun hh => G.out.bl.not_row (by decide) G.out.own (by rw [hh]; rfl)
                        have hgb : wB.heap.size ≤ g := (G.out.own.lt g rfl).1
                        have G6 : Hid (GX w6 wB.heap.size R yd k TT q1.length g cap (mid_ (pf :: q1) m (i2 + 1))) := hide (by
                          rw [hw6, ← HMV.out]
                          exact ⟨(G.out.bl.far (p := ⟨g, i2, none⟩) (fun hh => hgR hh.symm) _).drew, own_below S1.out (Below.refl _ _).drew⟩)
                        have tb6 : Hid (Below wB.heap.size wB w6) := hide (by rw [hw6]; exact (tb.out.setCell (p := ⟨g, i2, none⟩) hgb _).drew)
                        have HW6 := hide hw6
                        clear hw6 S1 HS hgR
                        go_upto_region 28 with fail
                        go_region
                        rw [← HW6.out]
                        clear HW6 x0 f0 x3 u1 u2
                        go_wp2_with fail
                        go_roundw
                        case rel => exact ⟨i2 + 1, hit2, by go_num, G6.out, tb6.out⟩
                        case measure => simp [intOf]; omega
                      · have hd2 : decide ((i2 : Int) < (q1.length : Int) + 1) = false := by rw [decide_eq_false_iff_not]; omega
                        have HE2 : Hid (mid_ (pf :: q1) m i2 = (pf :: q1).map (· + m)) := hide (mid_end m (by simp; omega))
                        rw [HE2.out] at G
                        go_wp2_with fail
                        go_meet
                        exact ⟨G.out, tb.out⟩
                  · have ba : (c.al == 1) = false := by simpa using a1
                    by_cases a2 : c.al = 2
                    · have ba2 : (c.al == 2) = true := by simpa using a2
                      have HMV : Hid (m = free / 2) := hide (by rw [HM.out, a2]; rfl)
                      clear a1 a2
                      go_wp2_with fail
                      go_loopw [26] (fun s26 wx => ∃ i : Nat, i ≤ q1.length + 1 ∧ s26 = .int .i64 i ∧ GX wx wB.heap.size R yd k TT q1.length g cap (mid_ (pf :: q1) m i) ∧ Below wB.heap.size wB wx) (fun s26 _ => q1.length + 1 - (intOf s26).toNat)
                      case atStart => exact ⟨0, Nat.zero_le _, rfl, G5.out, tb5.out⟩
                      case round =>
                        clear G5 tb5
                        obtain ⟨i2, hi2, rfl, hG, hb⟩ := hrel
                        have G := hide hG
                        have tb := hide hb
                        clear hG hb
                        have x3 : wr.cell? ⟨R, 3, none⟩ = some (.slice (some ⟨g, 0, none⟩) (q1.length + 1) cap) := G.out.bl.cell 3
                        by_cases hit2 : i2 < q1.length + 1
                        · have hil : i2 < (pf :: q1).length := hit2
                          have x0 : wr.cell? ⟨g, i2, none⟩ = some (.int .i64 (pf :: q1)[i2]) := by rw [G.out.own.cellAt i2 (by omega)]; exact mid_at m hil
                          have f0 := G.out.own.frozenAt i2
                          have hfx := HFX.out _ (List.getElem_mem hil)
                          have HS := hide (mid_set m hil)
                          generalize (pf :: q1)[i2] = xx at x0 hfx HS
                          obtain ⟨u1, u2⟩ := hfx
                          have S1 := hide (G.out.own.stored i2 (.int .i64 (xx + m))).1
                          rw [HS.out] at S1
                          obtain ⟨w6, hw6⟩ : ∃ w6, w6 = (wr.setCell ⟨g, i2, none⟩ (.int .i64 (xx + (free / 2)))).drew := ⟨_, rfl⟩
                          have hgR : g ≠ R := fun hh => G.out.bl.not_row (by decide) G.out.own (by rw [hh]; rfl)
                          have hgb : wB.heap.size ≤ g := (G.out.own.lt g rfl).1
                          have G6 : Hid (GX w6 wB.heap.size R yd k TT q1.length g cap (mid_ (pf :: q1) m (i2 + 1))) := hide (by
                            rw [hw6, ← HMV.out]
                            exact ⟨(G.out.bl.far (p := ⟨g, i2, none⟩) (fun hh => hgR hh.symm) _).drew, own_below S1.out (Below.refl _ _).drew⟩)
                          have tb6 : Hid (Below wB.heap.size wB w6) := hide (by rw [hw6]; exact (tb.out.setCell (p := ⟨g, i2, none⟩) hgb _).drew)
                          have HW6 := hide hw6
                          clear hw6 S1 HS hgR
                          go_upto_region 30 with fail
                          go_region
                          rw [← HW6.out]
                          clear HW6 x0 f0 x3 u1 u2
                          go_wp2_with fail
                          go_roundw
                          case rel => exact ⟨i2 + 1, hit2, by go_num, G6.out, tb6.out⟩
                          case measure => simp [intOf]; omega
                        · have hd2 : decide ((i2 : Int) < (q1.length : Int) + 1) = false := by rw [decide_eq_false_iff_not]; omega
                          have HE2 : Hid (mid_ (pf :: q1) m i2 = (pf :: q1).map (· + m)) := hide (mid_end m (by simp; omega))
                          rw [HE2.out] at G
                          go_wp2_with fail
                          go_meet
                          exact ⟨G.out, tb.out⟩
                    · have ba2 : (c.al == 2) = false := by simpa using a2
                      have HMV : Hid (m = 0) := hide (by rw [HM.out]; unfold moveOf; rw [if_neg a1, if_neg a2])
                      have HX0 : Hid ((pf :: q1).map (· + m) = pf :: q1) := hide (by rw [HMV.out]; simp)
                      have HX1 : Hid (mid_ (pf :: q1) m 0 = pf :: q1) := hide (by simp [mid_])
                      rw [HX1.out] at G5
                      clear a1 a2
                      go_wp2_with fail
                      go_loopw [26] (fun s26 wx => ∃ i : Nat, i ≤ q1.length + 1 ∧ s26 = .int .i64 i ∧ GX wx wB.heap.size R yd k TT q1.length g cap (pf :: q1) ∧ Below wB.heap.size wB wx) (fun s26 _ => q1.length + 1 - (intOf s26).toNat)
                      case atStart => exact ⟨0, Nat.zero_le _, rfl, G5.out, tb5.out⟩
                      case round =>
                        clear G5 tb5
                        obtain ⟨i2, hi2, rfl, hG, hb⟩ := hrel
                        have G := hide hG
                        have tb := hide hb
                        clear hG hb
                        have x3 : wr.cell? ⟨R, 3, none⟩ = some (.slice (some ⟨g, 0, none⟩) (q1.length + 1) cap) := G.out.bl.cell 3
                        by_cases hit2 : i2 < q1.length + 1
                        · go_wp2_with fail
                          go_roundw
                          case rel => exact ⟨i2 + 1, hit2, by go_num, G.out, tb.out⟩
                          case measure => simp [intOf]; omega
                        · have hd2 : decide ((i2 : Int) < (q1.length : Int) + 1) = false := by rw [decide_eq_false_iff_not]; omega
                          go_wp2_with fail
                          go_meet
                          rw [HX0.out]
                          exact ⟨G.out, tb.out⟩
              case rest =>
                obtain ⟨hG, htb⟩ := hcut
                have G := hide hG
                have tb := hide htb
                have hq200 : q1.length ≤ 200 := by have := HLL.out; omega
                have x0 : wc.cell? ⟨R, 0, none⟩ = some (.int .i64 yd) := hG.bl.cell 0
                have x1 : wc.cell? ⟨R, 1, none⟩ = some (.int .i64 k) := hG.bl.cell 1
                have x2 : wc.cell? ⟨R, 2, none⟩ = some (.int .i64 TT) := hG.bl.cell 2
                have x3 : wc.cell? ⟨R, 3, none⟩ = some (.slice (some ⟨g, 0, none⟩) (q1.length + 1) cap) := hG.bl.cell 3
                obtain ⟨rx, hrx⟩ : ∃ rx, rx = (pf :: q1).map (· + m) := ⟨_, rfl⟩
                have hrl : Hid (rx.length = q1.length + 1) := hide (by rw [hrx]; simp)
                rw [← hrx] at HRO
                have tw := hide (below_call (w := w) t.out htb)
                have F6 := hide (F.out.below htb)
                have a6 : Below wc.heap.size wc (wc.alloc (.cells #[.int .i64 yd, .int .i64 k, .int .i64 TT, .slice (some ⟨g, 0, none⟩) (q1.length + 1) cap] 38)) := (Below.refl _ _).alloc (Nat.le_refl _) _
                have F8 := hide (F6.out.below a6)
                have O8 := hide F8.out.ow
                have N8 := hide (Blk.new wc 38 #[.int .i64 yd, .int .i64 k, .int .i64 TT, .slice (some ⟨g, 0, none⟩) (q1.length + 1) cap])
                have X8 : Hid (XB (wc.alloc (.cells #[.int .i64 yd, .int .i64 k, .int .i64 TT, .slice (some ⟨g, 0, none⟩) (q1.length + 1) cap] 38)) (⟨⟨yd, k, TT, rx⟩, some ⟨g, 0, none⟩, cap⟩ : RV)) := hide (.inr (by
                  have hown5 := own_below hG.own a6
                  rcases hown5.2 with ⟨h', _⟩ | ⟨g', cap', cur, h', _, hg, hnc, hcm, hcs, htake⟩
                  · simp at h'
                  · simp only [Value.slice.injEq, Option.some.injEq, Addr.mk.injEq, and_true, true_and] at h'
                    obtain ⟨rfl, rfl⟩ := h'
                    exact ⟨g, cur, rfl, hg, by rw [hrl.out]; exact hnc, hcm, by rw [hrl.out, hrx]; simpa using htake⟩))
                have hws' := tw.out.size
                have hpl2 : pre'.length ≤ 4199 := by have := congrArg List.length HEM.out; rw [List.length_map, List.length_append, List.length_map, empties_len] at this; omega
                have HPL2 : Hid (pre'.length = pre.length + i) := hide (by have := congrArg List.length HEM.out; rw [List.length_map, List.length_append, List.length_map, empties_len] at this; exact this)
                clear hG htb hrx G5 tb5 HFX a6
                have HYFn := HYF.out
                unfold Yb at HYFn
                go_wp2_with (at_builtin; refine wpList_append_own _ rfl _ _ 28 rfl w.heap.size 38 i0 (.agg #[.int .i64 0, .int .i64 0, .int .i64 0, .slice none 0 0]) 4 48 Try.underlying28 hi hz0 hz1 hz2 rfl (by decide) _ _ _ rfl O8.out ⟨wc.heap.size, 0, none⟩ 1 1 [.int .i64 yd, .int .i64 k, .int .i64 TT, .slice (some ⟨g, 0, none⟩) (q1.length + 1) cap] rfl rfl ?c1 ?c2 ?c3 ?c4 ?c5 ?_)
                case c1 => exact N8.out.news
                case c2 => intro z hz; simp at hz; rcases hz with rfl | rfl | rfl | rfl <;> rfl
                case c3 => unfold maxLen; omega
                case c4 => omega
                case c5 => simp; omega
                intro v' w9 hown' hgrow _
                obtain ⟨g', cap'', rfl, _, _⟩ := hown'.form (by omega)
                have t9 := hide (below_grown (a := w) (tw.out.alloc tw.out.size (.cells #[.int .i64 yd, .int .i64 k, .int .i64 TT, .slice (some ⟨g, 0, none⟩) (q1.length + 1) cap] 38)) hgrow (fun q hq => (O8.out.lt q hq).1))
                have F9 : Hid (FR w9 w.heap.size (.slice (some ⟨g', 0, none⟩) (pre'.length + 1) cap'') (pre' ++ [(⟨⟨yd, k, TT, rx⟩, some ⟨g, 0, none⟩, cap⟩ : RV)])) := hide (F8.out.app (by
                  have hr : rcell (⟨⟨yd, k, TT, rx⟩, some ⟨g, 0, none⟩, cap⟩ : RV) = [.int .i64 yd, .int .i64 k, .int .i64 TT, .slice (some ⟨g, 0, none⟩) (q1.length + 1) cap] := by unfold rcell; dsimp only; rw [hrl.out]
                  rw [hr]; exact hown') hgrow X8.out)
                have HF2 : Hid (fill c 0 ws y = ((pre' ++ [(⟨⟨yd, k, TT, rx⟩, some ⟨g, 0, none⟩, cap⟩ : RV)]).map RV.r ++ (fill c TT (ws.drop TT) (yd + c.h)).1, (fill c TT (ws.drop TT) (yd + c.h)).2)) := hide (by
                  rw [HFC.out, ← HYI.out, HRO.out]
                  dsimp only
                  have hdd : l.drop (TT - (k + 1)) = ws.drop TT := by rw [HL.out, List.drop_drop]; congr 1; omega
                  rw [hdd, List.map_append, HEM.out]
                  simp)
                have HY2 := hide (HYF.out.step hh1 hh2)
                have hpre2 : pre.length + i + 1 ≤ 21 * TT := by omega
                clear hown' hgrow O8 N8 F8 X8 F6 x0 x1 x2 x3
                go_wp2_with fail
                go_roundw
                case rel => exact ⟨TT, yd + c.h, pre' ++ [(⟨⟨yd, k, TT, rx⟩, some ⟨g, 0, none⟩, cap⟩ : RV)], some ⟨g', 0, none⟩, cap'', hTl.2, rfl, rfl, by rw [List.length_append]; rfl, F9.out, HF2, by rw [List.length_append, HPL2.out]; exact HY2.out, by rw [List.length_append, HPL2.out]; exact hpre2, t9.out⟩
                case measure => simp [intOf]; omega
    · obtain rfl : k = ws.length := by omega
      have HFE : Hid (fill c 0 ws y = (pre.map RV.r, y')) := hide (by rw [HFI.out, List.drop_eq_nil_of_le (Nat.le_refl _), fill_nil]; simp)
      obtain ⟨A2, cap2, e5, _, _, _, hr2⟩ := own_rowG (rcell_len pre) (by decide) F.out.ow
      simp only [Value.slice.injEq] at e5
      obtain ⟨rfl, _, rfl⟩ := e5
      have LR : Hid (LRow wr A (pre.map RV.r)) := hide ⟨pre, rfl, hr2.1, F.out.xb⟩
      clear hr2
      go_wp2_with fail
      go_returns
      exact ⟨A, cap, by rw [HFE.out, List.length_map]; rfl, by rw [HFE.out]; exact LR.out, t.out⟩
end Go.Proofs.Ytpdfeifnbeojcaa
