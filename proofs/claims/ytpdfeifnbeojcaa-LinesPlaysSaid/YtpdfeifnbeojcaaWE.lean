/- The walk of LinesEnds. -/
import Derived.Test.YtpdfeifnbeojcaaWW
namespace Go.Proofs.Ytpdfeifnbeojcaa
open Go.RowKit

/-- A case as it came in. -/
structure CaseV where
  wa : Option Addr
  ws : List Wd
  wc : Nat
  k : CaseD
  fa : Option Addr
  fl : List Flt
  fc : Nat
def CaseV.val (x : CaseV) : Value := .agg (case_ x.wa x.ws.length x.wc x.k x.fa x.fl.length x.fc)
structure CaseOk (w : World) (x : CaseV) : Prop where
  wr : WRow w x.wa x.ws
  fr : FRow w x.fa x.fl
  hu : ∀ f ∈ x.fl, 0 ≤ f.s ∧ f.s ≤ 255
  hw : x.ws.length ≤ x.wc ∧ x.wc ≤ maxLen
  hf : x.fl.length ≤ x.fc ∧ x.fc ≤ maxLen

theorem near_far' {x : Int} (h : near x) : Far x := by unfold near at h; unfold Far; omega
theorem near_yb {x : Int} (h : near x) : Yb 0 x := by unfold near at h; unfold Yb; omega
theorem rmok_of {k : CaseD} {al : Int} {fl : List Flt} (hh : near k.h) (ha : near k.a) (hb : near k.b) (hf : ∀ f ∈ fl, Fit f) : RmOk ⟨max k.h 0, al, k.a, k.b, fl⟩ :=
  ⟨near_far' ha, near_far' hb, by unfold near at hh; show 0 ≤ max k.h 0 ∧ max k.h 0 ≤ _; omega, hf⟩
theorem sumE_snoc (x : Wd) : ∀ (l : List Wd) (k : Nat), sumE k (l ++ [x]) = sumE k l + ends (k + l.length) x
  | [], k => by simp [sumE]
  | y :: l, k => by
    simp only [List.cons_append, sumE, sumE_snoc x l (k + 1), List.length_cons]
    rw [show k + 1 + l.length = k + (l.length + 1) from by omega]; omega
theorem sumS_snoc (x : Wd) : ∀ (l : List Wd) (k : Nat), sumS k (l ++ [x]) = sumS k l + if k + l.length = 0 ∨ 0 < x.n then 1 else 0
  | [], k => by simp [sumS]
  | y :: l, k => by
    simp only [List.cons_append, sumS, sumS_snoc x l (k + 1), List.length_cons]
    rw [show k + 1 + l.length = k + (l.length + 1) from by omega]; omega
theorem sumE_le {l : List Wd} (h : ∀ x ∈ l, WdOk x) : ∀ k, sumE k l ≤ 20 * l.length := by
  induction l with
  | nil => intro k; simp [sumE]
  | cons x l ih =>
    intro k
    have h1 := (ends_i k (h x List.mem_cons_self)).1
    have h2 := ih (fun y hy => h y (List.mem_cons_of_mem _ hy)) (k + 1)
    simp only [sumE, List.length_cons]; omega
theorem sumS_le : ∀ (l : List Wd) (k : Nat), sumS k l ≤ l.length
  | [], k => by simp [sumS]
  | x :: l, k => by
    have := sumS_le l (k + 1)
    simp only [sumS, List.length_cons]; split <;> omega
theorem sumE_le_drop : ∀ (m k : Nat) (l : List Wd), m ≤ l.length → sumE (k + m) (l.drop m) ≤ sumE k l
  | 0, k, l, _ => by simp
  | m + 1, k, [], h => by simp at h
  | m + 1, k, x :: l, h => by
    have := sumE_le_drop m (k + 1) l (by simpa using h)
    simp only [List.drop_succ_cons, sumE]
    rw [show k + (m + 1) = k + 1 + m from by omega]; omega
theorem fill_len {c : Rm} : ∀ (n k : Nat) (l : List Wd) (y : Int), l.length ≤ n → (fill c k l y).1.length ≤ sumE k l + l.length := by
  intro n
  induction n with
  | zero =>
    intro k l y h
    obtain rfl : l = [] := List.eq_nil_of_length_eq_zero (by omega)
    rw [fill_nil]; simp
  | succ n ih =>
    intro k l y h
    cases l with
    | nil => rw [fill_nil]; simp
    | cons w l =>
      rw [fill_cons]
      dsimp only
      have ht := row_t c k w l (y + ends k w * c.h)
      generalize rowOf c k w l (y + ends k w * c.h) = r at ht
      have h1 := ih r.t (l.drop (r.t - (k + 1))) (r.y + c.h) (by simp at h ⊢; omega)
      have h2 := sumE_le_drop (r.t - (k + 1)) (k + 1) l (by omega)
      rw [show k + 1 + (r.t - (k + 1)) = r.t from by omega] at h2
      rw [List.length_append, empties_len, List.length_cons]
      rw [List.length_drop] at h1
      simp only [sumE, List.length_cons]
      omega
theorem gotN_take {l : List Rw} {k : Nat} (h : k < l.length) : gotN (l.take (k + 1)) = gotN (l.take k) + if l[k].xs.length = 0 then 1 else 0 := by
  rw [List.take_succ_eq_append_getElem h, gotN_append]
  congr 1
  unfold gotN
  cases hx : l[k].xs <;> simp [hx]
theorem gotN_le (l : List Rw) : gotN l ≤ l.length := by unfold gotN; exact List.length_filter_le _ _

/-- How many ends there are up to a word. -/
def eUp (ws : List Wd) (i : Nat) : Nat := sumE 0 (ws.take i)
def sUp (ws : List Wd) (i : Nat) : Nat := sumS 0 (ws.take i)
theorem eUp_succ {ws : List Wd} {i : Nat} (h : i < ws.length) : eUp ws (i + 1) = eUp ws i + ends i ws[i] := by
  unfold eUp; rw [List.take_succ_eq_append_getElem h, sumE_snoc, List.length_take, Nat.zero_add, Nat.min_eq_left (by omega)]
theorem sUp_succ {ws : List Wd} {i : Nat} (h : i < ws.length) : sUp ws (i + 1) = sUp ws i + if i = 0 ∨ 0 < ws[i].n then 1 else 0 := by
  unfold sUp; rw [List.take_succ_eq_append_getElem h, sumS_snoc, List.length_take, Nat.zero_add, Nat.min_eq_left (by omega)]

set_option maxRecDepth 100000 in
set_option maxHeartbeats 4000000 in
theorem walk_LinesEnds (w : World) (x : CaseV) (hx : CaseOk w x) : Calls Try.prog 5 #[x.val] w fun e w' => e = .returned (.bool true) ∧ Below w.heap.size w w' := by
  obtain ⟨wa, ws, wc, k, fa, fl, fc⟩ := x
  obtain ⟨hr, hf, hu, ⟨hwc1, hwc2⟩, hfc1, hfc2⟩ := hx
  dsimp only at hr hf hu hwc1 hwc2 hfc1 hfc2
  unfold maxLen at hwc2 hfc2
  unfold CaseV.val
  dsimp only
  obtain ⟨w1, hw1⟩ : ∃ w1, w1 = w.alloc (.cells (case_ wa ws.length wc k fa fl.length fc) 25) := ⟨_, rfl⟩
  have B1 := hide (hw1 ▸ Blk.new w 25 (case_ wa ws.length wc k fa fl.length fc))
  have t1 : Hid (Below w.heap.size w w1) := hide (hw1 ▸ (Below.refl _ _).alloc (Nat.le_refl _) _)
  have MY := hide (mayc_any wa ws wc k fa fl fc w1 (hr.below t1.out) (hf.below t1.out) hu)
  unfold case_ at hw1
  have HW1 := hide hw1
  clear hw1 hu
  by_cases hM : MayC ws k fl
  · have HM := hide hM
    have hn := hM.n
    clear hM
    unfold case_
    go_enter Try.func5, Try.ntmps5
    go_upto_region 1 with fail
    rw [← HW1.out]
    have y0 : w1.cell? ⟨w.heap.size, 0, none⟩ = some (.slice wa ws.length wc) := B1.out.cell 0
    have y1 : w1.cell? ⟨w.heap.size, 1, none⟩ = some (.int .i64 k.h) := B1.out.cell 1
    have y2 : w1.cell? ⟨w.heap.size, 2, none⟩ = some (.int .u8 k.al) := B1.out.cell 2
    have y3 : w1.cell? ⟨w.heap.size, 3, none⟩ = some (.int .i64 k.a) := B1.out.cell 3
    have y4 : w1.cell? ⟨w.heap.size, 4, none⟩ = some (.int .i64 k.b) := B1.out.cell 4
    have y5 : w1.cell? ⟨w.heap.size, 5, none⟩ = some (.int .i64 k.y) := B1.out.cell 5
    have y6 : w1.cell? ⟨w.heap.size, 6, none⟩ = some (.slice fa fl.length fc) := B1.out.cell 6
    go_wp2_with fail
    refine (MY.out.1 HM.out).mono ?_
    rintro r w2 ⟨rfl, k2⟩
    have t2 := hide (below_call (w := w) t1.out k2)
    have B2 := hide (B1.out.below k2 B1.out.lt)
    clear k2 y0 y1 y2 y3 y4 y5 y6
    have y0 : w2.cell? ⟨w.heap.size, 0, none⟩ = some (.slice wa ws.length wc) := B2.out.cell 0
    have y1 : w2.cell? ⟨w.heap.size, 1, none⟩ = some (.int .i64 k.h) := B2.out.cell 1
    have y2 : w2.cell? ⟨w.heap.size, 2, none⟩ = some (.int .u8 k.al) := B2.out.cell 2
    have y3 : w2.cell? ⟨w.heap.size, 3, none⟩ = some (.int .i64 k.a) := B2.out.cell 3
    have y4 : w2.cell? ⟨w.heap.size, 4, none⟩ = some (.int .i64 k.b) := B2.out.cell 4
    have y5 : w2.cell? ⟨w.heap.size, 5, none⟩ = some (.int .i64 k.y) := B2.out.cell 5
    have y6 : w2.cell? ⟨w.heap.size, 6, none⟩ = some (.slice fa fl.length fc) := B2.out.cell 6
    go_wp2_with fail
    refine (fill_any wa ws wc none [] 0 k.h k.al k.a k.b k.y w2 (hr.below t2.out) HM.out.w hn ⟨by simp, fun h => by simp at h⟩ (rmok_of HM.out.h HM.out.a HM.out.b (fun f hf => absurd hf (by simp))) (near_yb HM.out.y) (by have := HM.out.h; unfold near at this; omega)).mono ?_
    rintro r w3 ⟨A, cap, rfl, L, hcap, hcm, k3⟩
    obtain ⟨e1, e2, e3⟩ := fill_ends (c := ⟨max k.h 0, k.al, k.a, k.b, []⟩) rfl ws.length 0 ws k.y (Nat.le_refl _)
    have hL := fill_len (c := ⟨max k.h 0, k.al, k.a, k.b, []⟩) ws.length 0 ws k.y (Nat.le_refl _)
    have hSE := sumE_le HM.out.w 0
    have hSS := sumS_le ws 0
    generalize fill ⟨max k.h 0, k.al, k.a, k.b, []⟩ 0 ws k.y = q at L hcap e1 e2 e3 hL ⊢
    obtain ⟨rows, e⟩ := q
    dsimp only at L hcap e1 e2 e3 hL ⊢
    have t3 := hide (below_call (w := w) t2.out k3)
    have B3 := hide (B2.out.below k3 B2.out.lt)
    have W3 := hide (hr.below t3.out)
    have HLR := hide L
    have hlen4 : rows.length ≤ 4200 := by omega
    obtain ⟨P, hP⟩ : ∃ P : Int, P = (rows.length : Int) * max k.h 0 := ⟨_, rfl⟩
    have hP0 : 0 ≤ P ∧ P ≤ 4728779608739020800 := by
      have hh := HM.out.h
      unfold near at hh
      rw [hP]
      constructor
      · exact Int.mul_nonneg (by omega) (by omega)
      · have := Int.mul_le_mul_of_nonneg_right (c := max k.h 0) (show (rows.length : Int) ≤ 4200 by omega) (by omega)
        omega
    have HP := hide hP
    rw [← hP] at e3
    have HE3 := hide e3
    have HE1 := hide e1
    have HMY := HM.out.y
    unfold near at HMY
    clear k3 t2 B2 y0 y1 y2 y3 y4 y5 y6 L hP e3 e1
    have y0 : w3.cell? ⟨w.heap.size, 0, none⟩ = some (.slice wa ws.length wc) := B3.out.cell 0
    have y1 : w3.cell? ⟨w.heap.size, 1, none⟩ = some (.int .i64 k.h) := B3.out.cell 1
    have y2 : w3.cell? ⟨w.heap.size, 2, none⟩ = some (.int .u8 k.al) := B3.out.cell 2
    have y3 : w3.cell? ⟨w.heap.size, 3, none⟩ = some (.int .i64 k.a) := B3.out.cell 3
    have y4 : w3.cell? ⟨w.heap.size, 4, none⟩ = some (.int .i64 k.b) := B3.out.cell 4
    have y5 : w3.cell? ⟨w.heap.size, 5, none⟩ = some (.int .i64 k.y) := B3.out.cell 5
    have y6 : w3.cell? ⟨w.heap.size, 6, none⟩ = some (.slice fa fl.length fc) := B3.out.cell 6
    go_wp2_with fail
    clear y1 y2 y3 y4 y5 y6
    go_loop [5, 6, 7] (fun wv sv iv => ∃ i : Nat, i ≤ ws.length ∧ iv = .int .i64 i ∧ wv = .int .i64 (eUp ws i) ∧ sv = .int .i64 (sUp ws i)) (fun _ _ iv => ws.length - (intOf iv).toNat)
    case atStart => exact ⟨0, Nat.zero_le _, rfl, rfl, rfl⟩
    case round =>
      obtain ⟨i, hi, rfl, rfl, rfl⟩ := hrel
      by_cases hlt : i < ws.length
      · obtain ⟨b0, off, rfl, _, hcw⟩ := w_at W3.out (by omega)
        obtain ⟨_, _, _, _, x4⟩ := hcw i hlt
        have HEU := hide (eUp_succ hlt)
        have HSU := hide (sUp_succ hlt)
        obtain ⟨n1, n2⟩ := (HM.out.w _ (List.getElem_mem hlt)).n
        have hle : eUp ws i ≤ 4000 := by unfold eUp; have := sumE_le (l := ws.take i) (fun x hx => HM.out.w x (List.mem_of_mem_take hx)) 0; rw [List.length_take] at this; omega
        have hls : sUp ws i ≤ 200 := by unfold sUp; have := sumS_le (ws.take i) 0; rw [List.length_take] at this; omega
        clear hcw
        generalize ws[i] = z at x4 HEU HSU n1 n2
        by_cases h0 : i = 0
        · subst h0
          have ez : Hid ((eUp ws (0 + 1) : Int) = z.n) := hide (by rw [HEU.out]; unfold eUp ends; simp [sumE]; omega)
          have es : Hid (sUp ws (0 + 1) = sUp ws 0 + 1) := hide (by rw [HSU.out]; simp)
          simp only [Nat.zero_mul, Nat.add_zero] at x4
          clear HEU HSU
          go_wp2_with fail
          go_round
          case rel => exact ⟨0 + 1, hlt, by go_num, by rw [ez.out], by rw [es.out]; go_num⟩
          case measure => simp [intOf]; omega
        · have b0_ : ((i : Int) == 0) = false := by simp; omega
          have ez : Hid ((eUp ws (i + 1) : Int) = (eUp ws i : Int) + max (z.n - 1) 0) := hide (by rw [HEU.out]; unfold ends; rw [if_neg h0]; omega)
          by_cases hz : 0 < z.n
          · have es : Hid (sUp ws (i + 1) = sUp ws i + 1) := hide (by rw [HSU.out, if_pos (.inr hz)])
            clear HEU HSU
            go_wp2_with fail
            go_round
            case rel => exact ⟨i + 1, hlt, by go_num, by rw [ez.out], by rw [es.out]; go_num⟩
            case measure => simp [intOf]; omega
          · have es : Hid (sUp ws (i + 1) = sUp ws i) := hide (by rw [HSU.out, if_neg (by omega)]; rfl)
            have bz : decide (0 < z.n) = false := by simpa using hz
            clear HEU HSU
            go_wp2_with fail
            go_round
            case rel => exact ⟨i + 1, hlt, by go_num, by rw [ez.out], by rw [es.out]⟩
            case measure => simp [intOf]; omega
      · obtain rfl : i = ws.length := by omega
        have HEL : Hid (eUp ws ws.length = gotN rows) := hide (by unfold eUp; rw [List.take_length, HE1.out])
        have HSL : Hid (sUp ws ws.length = sumS 0 ws) := hide (by unfold sUp; rw [List.take_length])
        rw [HEL.out, HSL.out]
        have hgl := gotN_le rows
        have hGE : gotN rows ≤ 4000 := by have := HE1.out; omega
        go_wp2_with fail
        go_loop [8, 9] (fun gv iv => ∃ i : Nat, i ≤ rows.length ∧ iv = .int .i64 i ∧ gv = .int .i64 (gotN (rows.take i))) (fun _ iv => rows.length - (intOf iv).toNat)
        case atStart => exact ⟨0, Nat.zero_le _, rfl, rfl⟩
        case round =>
          obtain ⟨i, hi, rfl, rfl⟩ := hrel
          by_cases hlt : i < rows.length
          · obtain ⟨b1, o1, rfl, _, hc⟩ := lrow_at HLR.out (by omega)
            obtain ⟨ax, cx, _, _, _, x3, _, hx1, hx2⟩ := hc i hlt
            have HG := hide (gotN_take hlt)
            have hgt := gotN_le (rows.take i)
            rw [List.length_take] at hgt
            unfold maxLen at hx2
            clear hc
            generalize rows[i].xs.length = n at x3 HG hx1
            by_cases hn0 : n = 0
            · subst hn0
              have HG2 : Hid (gotN (rows.take (i + 1)) = gotN (rows.take i) + 1) := hide HG.out
              clear HG
              go_wp2_with fail
              go_round
              case rel => exact ⟨i + 1, hlt, by go_num, by rw [HG2.out]; go_num⟩
              case measure => simp [intOf]; omega
            · have HG2 : Hid (gotN (rows.take (i + 1)) = gotN (rows.take i)) := hide (by rw [HG.out, if_neg hn0]; rfl)
              have bn : ((n : Int) == 0) = false := by simp; omega
              clear HG
              go_wp2_with fail
              go_round
              case rel => exact ⟨i + 1, hlt, by go_num, by rw [HG2.out]⟩
              case measure => simp [intOf]; omega
          · obtain rfl : i = rows.length := by omega
            rw [List.take_length]
            have y0 : w3.cell? ⟨w.heap.size, 0, none⟩ = some (.slice wa ws.length wc) := B3.out.cell 0
            have y1 : w3.cell? ⟨w.heap.size, 1, none⟩ = some (.int .i64 k.h) := B3.out.cell 1
            have y5 : w3.cell? ⟨w.heap.size, 5, none⟩ = some (.int .i64 k.y) := B3.out.cell 5
            have em : (rows.length : Int) * max k.h 0 = P := HP.out.symm
            have bq : decide (min (sumS 0 ws : Int) (ws.length : Int) ≤ (rows.length : Int) - (gotN rows : Int)) = true := by simp; omega
            rw [HE3.out]
            generalize gotN rows = G at *
            generalize sumS 0 ws = S at *
            go_wp2_with fail
            refine (works_any _).mono ?_
            rintro r w9 ⟨rfl, k9⟩
            have t9 := hide (below_call (w := w) t3.out k9)
            clear k9
            go_wp2_with fail
            go_returns
            exact ⟨rfl, t9.out⟩
  · have HM := hide hM
    clear hM
    unfold case_
    go_enter Try.func5, Try.ntmps5
    go_upto_region 1 with fail
    rw [← HW1.out]
    have y0 : w1.cell? ⟨w.heap.size, 0, none⟩ = some (.slice wa ws.length wc) := B1.out.cell 0
    have y1 : w1.cell? ⟨w.heap.size, 1, none⟩ = some (.int .i64 k.h) := B1.out.cell 1
    have y2 : w1.cell? ⟨w.heap.size, 2, none⟩ = some (.int .u8 k.al) := B1.out.cell 2
    have y3 : w1.cell? ⟨w.heap.size, 3, none⟩ = some (.int .i64 k.a) := B1.out.cell 3
    have y4 : w1.cell? ⟨w.heap.size, 4, none⟩ = some (.int .i64 k.b) := B1.out.cell 4
    have y5 : w1.cell? ⟨w.heap.size, 5, none⟩ = some (.int .i64 k.y) := B1.out.cell 5
    have y6 : w1.cell? ⟨w.heap.size, 6, none⟩ = some (.slice fa fl.length fc) := B1.out.cell 6
    go_wp2_with fail
    refine (MY.out.2 HM.out).mono ?_
    rintro r w2 ⟨rfl, k2⟩
    have t2 := hide (below_call (w := w) t1.out k2)
    clear k2
    go_wp2_with fail
    refine (works_any _).mono ?_
    rintro r w9 ⟨rfl, k9⟩
    have t9 := hide (below_call (w := w) t2.out k9)
    clear k9
    go_wp2_with fail
    go_returns
    exact ⟨rfl, t9.out⟩
end Go.Proofs.Ytpdfeifnbeojcaa
