/- Walks: the reference's flag and numbers. Walk: the reference's values. Walk: the reference's Style. Walk: the reference's Style. Walk: the reference's Write. -/
import Derived.Test.YtmngndmcidbakaaSA
import Derived.Test.YtmngndmcidbakaaZC
import Derived.Test.YtmngndmcidbakaaZK
import Derived.Test.YtmngndmcidbakaaZH
namespace Go.Proofs.Ytmngndmcidbakaa
open Go.RowKit
theorem numbers_any (k : Nat) (hk : k ≤ 31) (w : World) : Calls Try.prog 62 #[.int .i64 k] w fun r w' => r = .returned (.int .i64 (if k ≤ 2 then 0 else if 13 ≤ k ∧ k ≤ 23 then 2 else 1)) ∧ w' = w := by
  by_cases h1 : k ≤ 2
  · have d1 : decide ((k : Int) ≤ 2) = true := by rw [decide_eq_true_eq]; omega
    have e : (if k ≤ 2 then (0 : Int) else if 13 ≤ k ∧ k ≤ 23 then 2 else 1) = 0 := if_pos h1
    rw [e]
    go_enter Try.func62, Try.ntmps62
    go_wp2_with fail
    go_returns
    exact ⟨rfl, rfl⟩
  · have d1 : decide ((k : Int) ≤ 2) = false := by rw [decide_eq_false_iff_not]; omega
    by_cases h2 : 13 ≤ k
    · have d2 : decide (13 ≤ (k : Int)) = true := by rw [decide_eq_true_eq]; omega
      by_cases h3 : k ≤ 23
      · have d3 : decide ((k : Int) ≤ 23) = true := by rw [decide_eq_true_eq]; omega
        have e : (if k ≤ 2 then (0 : Int) else if 13 ≤ k ∧ k ≤ 23 then 2 else 1) = 2 := by rw [if_neg h1, if_pos ⟨h2, h3⟩]
        rw [e]
        go_enter Try.func62, Try.ntmps62
        go_wp2_with fail
        go_returns
        exact ⟨rfl, rfl⟩
      · have d3 : decide ((k : Int) ≤ 23) = false := by rw [decide_eq_false_iff_not]; omega
        have d4 : ((k : Int) == 32) = false := by simp; omega
        have e : (if k ≤ 2 then (0 : Int) else if 13 ≤ k ∧ k ≤ 23 then 2 else 1) = 1 := by rw [if_neg h1, if_neg (fun h => h3 h.2)]
        rw [e]
        go_enter Try.func62, Try.ntmps62
        go_wp2_with fail
        go_returns
        exact ⟨rfl, rfl⟩
    · have d2 : decide (13 ≤ (k : Int)) = false := by rw [decide_eq_false_iff_not]; omega
      have d4 : ((k : Int) == 32) = false := by simp; omega
      have e : (if k ≤ 2 then (0 : Int) else if 13 ≤ k ∧ k ≤ 23 then 2 else 1) = 1 := by rw [if_neg h1, if_neg (fun h => h2 h.1)]
      rw [e]
      go_enter Try.func62, Try.ntmps62
      go_wp2_with fail
      go_returns
      exact ⟨rfl, rfl⟩
theorem flag_any (x : Int) (hx : x = 0 ∨ x = 1) (w : World) : Calls Try.prog 83 #[.bool (x != 0)] w fun r w' => r = .returned (.slice (some ⟨w.heap.size, 0, none⟩) 1 1) ∧ w' = w.alloc (.cells #[.int .i64 x] 2) := by
  rcases hx with rfl | rfl
  · have d : ((0 : Int) != 0) = false := rfl
    go_enter Try.func83, Try.ntmps83
    go_wp2_with fail
    go_returns
    exact ⟨rfl, rfl⟩
  · have d : ((1 : Int) != 0) = true := rfl
    go_enter Try.func83, Try.ntmps83
    go_wp2_with fail
    go_returns
    exact ⟨rfl, rfl⟩
theorem info33 : (Try.prog.info? 33).map (fun i => (i.zero, i.size, i.bytes)) = some (some (.slice none 0 0), 1, 24) := by kernel_rfl
/-- Slices of numbers, each in a row of its own. -/
def VL (W : World) (B : Nat) : List (List Int) → List Value → Prop
  | [], [] => True
  | x :: L, v :: vs => AO W B v x ∧ VL W B L vs
  | _, _ => False
theorem VL.keeps {W W' : World} {B : Nat} (hk : Keeps W W') : ∀ {L : List (List Int)} {vs : List Value}, VL W B L vs → VL W' B L vs
  | [], [], _ => trivial
  | _ :: _, _ :: _, h => ⟨h.1.keeps hk, VL.keeps hk h.2⟩
  | [], _ :: _, h => h.elim
  | _ :: _, [], h => h.elim
theorem VL.len {W : World} {B : Nat} : ∀ {L : List (List Int)} {vs : List Value}, VL W B L vs → vs.length = L.length
  | [], [], _ => rfl
  | _ :: _, _ :: _, h => by simp [VL.len h.2]
  | [], _ :: _, h => h.elim
  | _ :: _, [], h => h.elim
theorem VL.app {W : World} {B : Nat} {x : List Int} {u : Value} (hu : AO W B u x) : ∀ {L : List (List Int)} {vs : List Value}, VL W B L vs → VL W B (L ++ [x]) (vs ++ [u])
  | [], [], _ => ⟨hu, trivial⟩
  | _ :: _, _ :: _, h => ⟨h.1, VL.app hu h.2⟩
  | [], _ :: _, h => h.elim
  | _ :: _, [], h => h.elim
theorem VL.get {W : World} {B : Nat} : ∀ {L : List (List Int)} {vs : List Value}, VL W B L vs → ∀ i (h : i < L.length) (h' : i < vs.length), AO W B vs[i] L[i]
  | _ :: _, _ :: _, h, 0, _, _ => h.1
  | _ :: _, _ :: _, h, i + 1, h1, h2 => VL.get h.2 i (by simpa using h1) (by simpa using h2)
  | [], _, _, _, h, _ => absurd h (by simp)
  | _ :: _, [], h, _, _, _ => h.elim
/-- They lie in a row of their own. -/
def VO (W : World) (B : Nat) (v : Value) (L : List (List Int)) : Prop := ∃ vs, VL W B L vs ∧ W.ownsRow B 33 1 v L.length vs
theorem VO.below {W W' : World} {B : Nat} {v : Value} {L : List (List Int)} (h : VO W B v L) (hb : Below W.heap.size W W') : VO W' B v L := by
  obtain ⟨vs, h1, h2⟩ := h
  exact ⟨vs, h1.keeps (Keeps.of_below hb), own_below h2 hb⟩
theorem AO.mono {W : World} {B B' : Nat} {v : Value} {l : List Int} (h : AO W B v l) (hb : B' ≤ B) : AO W B' v l := own_mono h hb
theorem VL.mono {W : World} {B B' : Nat} (hb : B' ≤ B) : ∀ {L : List (List Int)} {vs : List Value}, VL W B L vs → VL W B' L vs
  | [], [], _ => trivial
  | _ :: _, _ :: _, h => ⟨h.1.mono hb, VL.mono hb h.2⟩
  | [], _ :: _, h => h.elim
  | _ :: _, [], h => h.elim
theorem VO.mono {W : World} {B B' : Nat} {v : Value} {L : List (List Int)} (h : VO W B v L) (hb : B' ≤ B) : VO W B' v L := by
  obtain ⟨vs, h1, h2⟩ := h
  exact ⟨vs, h1.mono hb, own_mono h2 hb⟩
theorem AO.lit (W : World) {B : Nat} (hB : B ≤ W.heap.size) (l : List Int) (hl : l.length ≤ 1000) : AO (W.alloc (.cells (l.map (.int .i64)).toArray 2)) B (.slice (some ⟨W.heap.size, 0, none⟩) l.length l.length) l := by
  unfold AO
  have := World.ownsRow_lit (base := B) (e := 2) (size := 1) W (l.map (.int .i64)).toArray l.length hB (by unfold maxLen; omega) (by simp)
  simpa using this
/-- One more slice of numbers behind. -/
theorem wpList_push {ops : Array Oper} {rest : List Oper} {o : Oper} {a : Act} {Q : Exit → Act → World → Prop} {wr : World} (hgd : o.guard = none) (s x : Operand) (ho : o.op = .call { callee := .builtin .append, args := #[s, x], argTypes := #[89, 89] })
    (B : Nat) (LL : List (List Int)) (v : Value) (hs : a.eval s = v) (xs : List Int) (hx : a.eval x = .slice (some ⟨wr.heap.size + 1, 0, none⟩) 1 1) (O : VO wr B v LL) (hB : B ≤ wr.heap.size) (hlen : LL.length ≤ 1000) (hxl : xs.length ≤ 1000)
    (h : ∀ g cap w9, VO w9 B (.slice (some ⟨g, 0, none⟩) (LL.length + 1) cap) (LL ++ [xs]) → (∀ gw t cs, Blk wr gw t cs → t ≠ 33 → Blk w9 gw t cs) → (∀ W0 : World, W0.heap.size ≤ B → Below W0.heap.size W0 wr → Below W0.heap.size W0 w9) → wpList Try.prog ops Q rest (a.put o.dst (.slice (some ⟨g, 0, none⟩) (LL.length + 1) cap)) w9) :
    wpList Try.prog ops Q (o :: rest) a ((wr.alloc (.cells (xs.map (.int .i64)).toArray 2)).alloc (.cells #[.slice (some ⟨wr.heap.size, 0, none⟩) xs.length xs.length] 33)) := by
  obtain ⟨i0, hi, hz0, hz1, hz2⟩ := info_parts info33
  obtain ⟨wA, hwA⟩ : ∃ wA, wA = wr.alloc (.cells (xs.map (.int .i64)).toArray 2) := ⟨_, rfl⟩
  have hA := AO.lit wr hB xs hxl
  have kA : Below wr.heap.size wr wA := by rw [hwA]; exact (Below.refl _ _).alloc (Nat.le_refl _) _
  have hsA : wA.heap.size = wr.heap.size + 1 := by rw [hwA]; simp
  rw [← hwA] at hA ⊢
  obtain ⟨wB, hwB⟩ : ∃ wB, wB = wA.alloc (.cells #[.slice (some ⟨wr.heap.size, 0, none⟩) xs.length xs.length] 33) := ⟨_, rfl⟩
  have kB : Below wA.heap.size wA wB := by rw [hwB]; exact (Below.refl _ _).alloc (Nat.le_refl _) _
  have nB : Blk wB wA.heap.size 33 #[.slice (some ⟨wr.heap.size, 0, none⟩) xs.length xs.length] := by rw [hwB]; exact Blk.new _ _ _
  rw [← hwB]
  have tB := below_call kA kB
  have hAB := hA.keeps (Keeps.of_below kB)
  obtain ⟨vs, hvl, hvo⟩ := O.below tB
  rw [hsA] at nB
  refine wpList_append_lies _ hgd s x 89 ho B 33 i0 (.slice none 0 0) 1 24 Try.underlying89 hi hz0 hz1 hz2 rfl (by decide) v LL.length vs hs hvo ⟨wr.heap.size + 1, 0, none⟩ 1 1 [.slice (some ⟨wr.heap.size, 0, none⟩) xs.length xs.length] hx rfl nB.news (by intro z hz; simp at hz; rcases hz with rfl; rfl) (by decide) (by unfold maxLen; omega) (by omega) (Nat.le_trans hB tB.size) _ rfl ?_
  intro g cap w9 hown hgrow _ _
  have hK := Keeps.of_grown hvo (by decide) hgrow
  refine h g cap w9 ⟨vs ++ [.slice (some ⟨wr.heap.size, 0, none⟩) xs.length xs.length], (hvl.keeps hK).app (hAB.keeps hK), ?_⟩ ?_ ?_
  · rw [List.length_append]; exact hown
  · intro gw t cs hb ht
    have hb' := hb.below tB hb.lt
    exact hb'.foot (foot_row hgrow) (fun hm => own_ne hvo hb' ht _ (Option.mem_toList.1 hm) rfl)
  · intro W0 h0 hb
    have h1 := below_call hb tB
    exact below_grown (a := W0) h1 hgrow (fun k hk => Nat.le_trans h0 (own_ge hvo k hk))
theorem take31 {L : List (List Int)} (h : L.length = 32) : L.take 31 = (List.range 31).map fun k => L.getD k [] := by
  apply List.ext_getElem?
  intro i
  rw [List.getElem?_take, List.getElem?_map]
  by_cases hi : i < 31
  · rw [if_pos hi, List.getElem?_range hi]
    simp only [Option.map_some]
    rw [List.getD_eq_getElem?_getD, List.getElem?_eq_getElem (by omega)]
    rfl
  · rw [if_neg hi, List.getElem?_eq_none (by simp; omega)]
    rfl
theorem SC_border (g : Nat → Nat → Int) (uv : Value) : ∀ i, i < 4 → (SC g uv)[24 + i]? = some (.int .i64 (g (23 + i) 0))
  | 0, _ => rfl
  | 1, _ => rfl
  | 2, _ => rfl
  | 3, _ => rfl
  | n + 4, h => absurd h (by omega)
theorem SC_pad (g : Nat → Nat → Int) (uv : Value) : ∀ i, i < 4 → (SC g uv)[28 + i]? = some (.int .i64 (g (27 + i) 0))
  | 0, _ => rfl
  | 1, _ => rfl
  | 2, _ => rfl
  | 3, _ => rfl
  | n + 4, h => absurd h (by omega)
set_option maxRecDepth 100000 in
set_option maxHeartbeats 4000000 in
theorem values_any (L : List (List Int)) (uv : Value) (w : World) (hL : okS KD L) :
    Calls Try.prog 61 #[.agg (SC (gof L) uv).toArray] w fun r w' => ∃ v, r = .returned v ∧ VO w' w.heap.size v ([] :: L.take 31) ∧ Below w.heap.size w w' := by
  obtain ⟨i0, hi, hz0, hz1, hz2⟩ := info_parts info33
  obtain ⟨W1, hW1⟩ : ∃ W1, W1 = w.alloc (.cells (SC (gof L) uv).toArray 49) := ⟨_, rfl⟩
  obtain ⟨ga, hga⟩ : ∃ ga, ga = w.heap.size := ⟨_, rfl⟩
  have k1 : Below w.heap.size w W1 := by rw [hW1]; exact (Below.refl _ _).alloc (Nat.le_refl _) _
  have BA : Blk W1 ga 49 (SC (gof L) uv).toArray := by rw [hW1, hga]; exact Blk.new w _ _
  have hgaB : ga ≤ W1.heap.size := by rw [hga]; exact k1.size
  have K1 : Hid (Below ga w W1) := hide (hga ▸ k1)
  have HW1 := hide hW1
  have HGA := hide hga
  have HL := hide hL
  have hf0 := okS_at hL 0 (by decide)
  have hf1 := okS_at hL 1 (by decide)
  obtain ⟨x1, hx1, hx1b⟩ : ∃ x, L.getD 0 [] = [x] ∧ (x = 0 ∨ x = 1) := by
    rcases hf0 with h | h
    · exact ⟨0, h, .inl rfl⟩
    · exact ⟨1, h, .inr rfl⟩
  obtain ⟨x34, hx34, hx34b⟩ : ∃ x, L.getD 1 [] = [x] ∧ (x = 0 ∨ x = 1) := by
    rcases hf1 with h | h
    · exact ⟨0, h, .inl rfl⟩
    · exact ⟨1, h, .inr rfl⟩
  have c1 : W1.cell? ⟨ga, 1, none⟩ = some (.bool (x1 != 0)) := (BA.cell 1).trans (by show some (Value.bool (gof L 0 0 != 0)) = _; unfold gof; rw [hx1]; rfl)
  have c34 : W1.cell? ⟨ga, 34, none⟩ = some (.bool (x34 != 0)) := (BA.cell 34).trans (by show some (Value.bool (gof L 1 0 != 0)) = _; unfold gof; rw [hx34]; rfl)
  obtain ⟨y2, hy2, ry2⟩ : ∃ x, L.getD 2 [] = [x] ∧ (0 ≤ x ∧ x ≤ 255) := okS_at hL 2 (by decide)
  have cy2 : W1.cell? ⟨ga, 0, none⟩ = some (.int .u8 y2) := (BA.cell 0).trans (by show some (Value.int .u8 (gof L 2 0)) = _; unfold gof; rw [hy2]; rfl)
  have wy2 : IntKind.i64.wrap y2 = y2 := by simp only [IntKind.wrap, IntKind.bits, IntKind.signed]; simp; omega
  have HY2 := hide hy2
  clear hy2
  obtain ⟨y3, hy3, ry3⟩ : ∃ x, L.getD 3 [] = [x] ∧ (0 ≤ x ∧ x ≤ 255) := okS_at hL 3 (by decide)
  have cy3 : W1.cell? ⟨ga, 2, none⟩ = some (.int .u8 y3) := (BA.cell 2).trans (by show some (Value.int .u8 (gof L 3 0)) = _; unfold gof; rw [hy3]; rfl)
  have wy3 : IntKind.i64.wrap y3 = y3 := by simp only [IntKind.wrap, IntKind.bits, IntKind.signed]; simp; omega
  have HY3 := hide hy3
  clear hy3
  obtain ⟨y4, hy4, ry4⟩ : ∃ x, L.getD 4 [] = [x] ∧ (0 ≤ x ∧ x ≤ 255) := okS_at hL 4 (by decide)
  have cy4 : W1.cell? ⟨ga, 3, none⟩ = some (.int .u8 y4) := (BA.cell 3).trans (by show some (Value.int .u8 (gof L 4 0)) = _; unfold gof; rw [hy4]; rfl)
  have wy4 : IntKind.i64.wrap y4 = y4 := by simp only [IntKind.wrap, IntKind.bits, IntKind.signed]; simp; omega
  have HY4 := hide hy4
  clear hy4
  obtain ⟨y5, hy5, ry5⟩ : ∃ x, L.getD 5 [] = [x] ∧ (0 ≤ x ∧ x ≤ 255) := okS_at hL 5 (by decide)
  have cy5 : W1.cell? ⟨ga, 32, none⟩ = some (.int .u8 y5) := (BA.cell 32).trans (by show some (Value.int .u8 (gof L 5 0)) = _; unfold gof; rw [hy5]; rfl)
  have wy5 : IntKind.i64.wrap y5 = y5 := by simp only [IntKind.wrap, IntKind.bits, IntKind.signed]; simp; omega
  have HY5 := hide hy5
  clear hy5
  obtain ⟨y6, hy6, ry6⟩ : ∃ x, L.getD 6 [] = [x] ∧ (0 ≤ x ∧ x ≤ 255) := okS_at hL 6 (by decide)
  have cy6 : W1.cell? ⟨ga, 35, none⟩ = some (.int .u8 y6) := (BA.cell 35).trans (by show some (Value.int .u8 (gof L 6 0)) = _; unfold gof; rw [hy6]; rfl)
  have wy6 : IntKind.i64.wrap y6 = y6 := by simp only [IntKind.wrap, IntKind.bits, IntKind.signed]; simp; omega
  have HY6 := hide hy6
  clear hy6
  obtain ⟨y7, hy7, ry7⟩ : ∃ x, L.getD 7 [] = [x] ∧ (0 ≤ x ∧ x ≤ 255) := okS_at hL 7 (by decide)
  have cy7 : W1.cell? ⟨ga, 36, none⟩ = some (.int .u8 y7) := (BA.cell 36).trans (by show some (Value.int .u8 (gof L 7 0)) = _; unfold gof; rw [hy7]; rfl)
  have wy7 : IntKind.i64.wrap y7 = y7 := by simp only [IntKind.wrap, IntKind.bits, IntKind.signed]; simp; omega
  have HY7 := hide hy7
  clear hy7
  obtain ⟨y8, hy8, ry8⟩ : ∃ x, L.getD 8 [] = [x] ∧ I64 x := okS_at hL 8 (by decide)
  have cy8 : W1.cell? ⟨ga, 33, none⟩ = some (.int .i64 y8) := (BA.cell 33).trans (by show some (Value.int .i64 (gof L 8 0)) = _; unfold gof; rw [hy8]; rfl)
  have HY8 := hide hy8
  clear hy8 ry8
  obtain ⟨y9, hy9, ry9⟩ : ∃ x, L.getD 9 [] = [x] ∧ I64 x := okS_at hL 9 (by decide)
  have cy9 : W1.cell? ⟨ga, 37, none⟩ = some (.int .i64 y9) := (BA.cell 37).trans (by show some (Value.int .i64 (gof L 9 0)) = _; unfold gof; rw [hy9]; rfl)
  have HY9 := hide hy9
  clear hy9 ry9
  obtain ⟨y10, hy10, ry10⟩ : ∃ x, L.getD 10 [] = [x] ∧ I64 x := okS_at hL 10 (by decide)
  have cy10 : W1.cell? ⟨ga, 38, none⟩ = some (.int .i64 y10) := (BA.cell 38).trans (by show some (Value.int .i64 (gof L 10 0)) = _; unfold gof; rw [hy10]; rfl)
  have HY10 := hide hy10
  clear hy10 ry10
  obtain ⟨y11, hy11, ry11⟩ : ∃ x, L.getD 11 [] = [x] ∧ I64 x := okS_at hL 11 (by decide)
  have cy11 : W1.cell? ⟨ga, 39, none⟩ = some (.int .i64 y11) := (BA.cell 39).trans (by show some (Value.int .i64 (gof L 11 0)) = _; unfold gof; rw [hy11]; rfl)
  have HY11 := hide hy11
  clear hy11 ry11
  obtain ⟨y12, n12, hy12, ry12, rn12⟩ : ∃ x n, L.getD 12 [] = [x, n] ∧ (0 ≤ x ∧ x ≤ 255) ∧ I64 n := okS_at hL 12 (by decide)
  have cy12 : W1.cell? ⟨ga, 4, none⟩ = some (.int .u8 y12) := (BA.cell 4).trans (by show some (Value.int .u8 (gof L 12 0)) = _; unfold gof; rw [hy12]; rfl)
  have cn12 : W1.cell? ⟨ga, 5, none⟩ = some (.int .i64 n12) := (BA.cell 5).trans (by show some (Value.int .i64 (gof L 12 1)) = _; unfold gof; rw [hy12]; rfl)
  have HY12 := hide hy12
  have HR12 := hide ry12
  have cy12 := hide cy12
  have cn12 := hide cn12
  clear hy12 ry12 rn12
  obtain ⟨y13, n13, hy13, ry13, rn13⟩ : ∃ x n, L.getD 13 [] = [x, n] ∧ (0 ≤ x ∧ x ≤ 255) ∧ I64 n := okS_at hL 13 (by decide)
  have cy13 : W1.cell? ⟨ga, 6, none⟩ = some (.int .u8 y13) := (BA.cell 6).trans (by show some (Value.int .u8 (gof L 13 0)) = _; unfold gof; rw [hy13]; rfl)
  have cn13 : W1.cell? ⟨ga, 7, none⟩ = some (.int .i64 n13) := (BA.cell 7).trans (by show some (Value.int .i64 (gof L 13 1)) = _; unfold gof; rw [hy13]; rfl)
  have HY13 := hide hy13
  have HR13 := hide ry13
  have cy13 := hide cy13
  have cn13 := hide cn13
  clear hy13 ry13 rn13
  obtain ⟨y14, n14, hy14, ry14, rn14⟩ : ∃ x n, L.getD 14 [] = [x, n] ∧ (0 ≤ x ∧ x ≤ 255) ∧ I64 n := okS_at hL 14 (by decide)
  have cy14 : W1.cell? ⟨ga, 8, none⟩ = some (.int .u8 y14) := (BA.cell 8).trans (by show some (Value.int .u8 (gof L 14 0)) = _; unfold gof; rw [hy14]; rfl)
  have cn14 : W1.cell? ⟨ga, 9, none⟩ = some (.int .i64 n14) := (BA.cell 9).trans (by show some (Value.int .i64 (gof L 14 1)) = _; unfold gof; rw [hy14]; rfl)
  have HY14 := hide hy14
  have HR14 := hide ry14
  have cy14 := hide cy14
  have cn14 := hide cn14
  clear hy14 ry14 rn14
  obtain ⟨y15, n15, hy15, ry15, rn15⟩ : ∃ x n, L.getD 15 [] = [x, n] ∧ (0 ≤ x ∧ x ≤ 255) ∧ I64 n := okS_at hL 15 (by decide)
  have cy15 : W1.cell? ⟨ga, 10, none⟩ = some (.int .u8 y15) := (BA.cell 10).trans (by show some (Value.int .u8 (gof L 15 0)) = _; unfold gof; rw [hy15]; rfl)
  have cn15 : W1.cell? ⟨ga, 11, none⟩ = some (.int .i64 n15) := (BA.cell 11).trans (by show some (Value.int .i64 (gof L 15 1)) = _; unfold gof; rw [hy15]; rfl)
  have HY15 := hide hy15
  have HR15 := hide ry15
  have cy15 := hide cy15
  have cn15 := hide cn15
  clear hy15 ry15 rn15
  obtain ⟨y16, n16, hy16, ry16, rn16⟩ : ∃ x n, L.getD 16 [] = [x, n] ∧ (0 ≤ x ∧ x ≤ 255) ∧ I64 n := okS_at hL 16 (by decide)
  have cy16 : W1.cell? ⟨ga, 12, none⟩ = some (.int .u8 y16) := (BA.cell 12).trans (by show some (Value.int .u8 (gof L 16 0)) = _; unfold gof; rw [hy16]; rfl)
  have cn16 : W1.cell? ⟨ga, 13, none⟩ = some (.int .i64 n16) := (BA.cell 13).trans (by show some (Value.int .i64 (gof L 16 1)) = _; unfold gof; rw [hy16]; rfl)
  have HY16 := hide hy16
  have HR16 := hide ry16
  have cy16 := hide cy16
  have cn16 := hide cn16
  clear hy16 ry16 rn16
  obtain ⟨y17, n17, hy17, ry17, rn17⟩ : ∃ x n, L.getD 17 [] = [x, n] ∧ (0 ≤ x ∧ x ≤ 255) ∧ I64 n := okS_at hL 17 (by decide)
  have cy17 : W1.cell? ⟨ga, 14, none⟩ = some (.int .u8 y17) := (BA.cell 14).trans (by show some (Value.int .u8 (gof L 17 0)) = _; unfold gof; rw [hy17]; rfl)
  have cn17 : W1.cell? ⟨ga, 15, none⟩ = some (.int .i64 n17) := (BA.cell 15).trans (by show some (Value.int .i64 (gof L 17 1)) = _; unfold gof; rw [hy17]; rfl)
  have HY17 := hide hy17
  have HR17 := hide ry17
  have cy17 := hide cy17
  have cn17 := hide cn17
  clear hy17 ry17 rn17
  obtain ⟨y18, n18, hy18, ry18, rn18⟩ : ∃ x n, L.getD 18 [] = [x, n] ∧ (0 ≤ x ∧ x ≤ 255) ∧ I64 n := okS_at hL 18 (by decide)
  have cy18 : W1.cell? ⟨ga, 40, none⟩ = some (.int .u8 y18) := (BA.cell 40).trans (by show some (Value.int .u8 (gof L 18 0)) = _; unfold gof; rw [hy18]; rfl)
  have cn18 : W1.cell? ⟨ga, 41, none⟩ = some (.int .i64 n18) := (BA.cell 41).trans (by show some (Value.int .i64 (gof L 18 1)) = _; unfold gof; rw [hy18]; rfl)
  have HY18 := hide hy18
  have HR18 := hide ry18
  have cy18 := hide cy18
  have cn18 := hide cn18
  clear hy18 ry18 rn18
  obtain ⟨y19, n19, hy19, ry19, rn19⟩ : ∃ x n, L.getD 19 [] = [x, n] ∧ (0 ≤ x ∧ x ≤ 255) ∧ I64 n := okS_at hL 19 (by decide)
  have cy19 : W1.cell? ⟨ga, 16, none⟩ = some (.int .u8 y19) := (BA.cell 16).trans (by show some (Value.int .u8 (gof L 19 0)) = _; unfold gof; rw [hy19]; rfl)
  have cn19 : W1.cell? ⟨ga, 17, none⟩ = some (.int .i64 n19) := (BA.cell 17).trans (by show some (Value.int .i64 (gof L 19 1)) = _; unfold gof; rw [hy19]; rfl)
  have HY19 := hide hy19
  have HR19 := hide ry19
  have cy19 := hide cy19
  have cn19 := hide cn19
  clear hy19 ry19 rn19
  obtain ⟨y20, n20, hy20, ry20, rn20⟩ : ∃ x n, L.getD 20 [] = [x, n] ∧ (0 ≤ x ∧ x ≤ 255) ∧ I64 n := okS_at hL 20 (by decide)
  have cy20 : W1.cell? ⟨ga, 18, none⟩ = some (.int .u8 y20) := (BA.cell 18).trans (by show some (Value.int .u8 (gof L 20 0)) = _; unfold gof; rw [hy20]; rfl)
  have cn20 : W1.cell? ⟨ga, 19, none⟩ = some (.int .i64 n20) := (BA.cell 19).trans (by show some (Value.int .i64 (gof L 20 1)) = _; unfold gof; rw [hy20]; rfl)
  have HY20 := hide hy20
  have HR20 := hide ry20
  have cy20 := hide cy20
  have cn20 := hide cn20
  clear hy20 ry20 rn20
  obtain ⟨y21, n21, hy21, ry21, rn21⟩ : ∃ x n, L.getD 21 [] = [x, n] ∧ (0 ≤ x ∧ x ≤ 255) ∧ I64 n := okS_at hL 21 (by decide)
  have cy21 : W1.cell? ⟨ga, 20, none⟩ = some (.int .u8 y21) := (BA.cell 20).trans (by show some (Value.int .u8 (gof L 21 0)) = _; unfold gof; rw [hy21]; rfl)
  have cn21 : W1.cell? ⟨ga, 21, none⟩ = some (.int .i64 n21) := (BA.cell 21).trans (by show some (Value.int .i64 (gof L 21 1)) = _; unfold gof; rw [hy21]; rfl)
  have HY21 := hide hy21
  have HR21 := hide ry21
  have cy21 := hide cy21
  have cn21 := hide cn21
  clear hy21 ry21 rn21
  obtain ⟨y22, n22, hy22, ry22, rn22⟩ : ∃ x n, L.getD 22 [] = [x, n] ∧ (0 ≤ x ∧ x ≤ 255) ∧ I64 n := okS_at hL 22 (by decide)
  have cy22 : W1.cell? ⟨ga, 22, none⟩ = some (.int .u8 y22) := (BA.cell 22).trans (by show some (Value.int .u8 (gof L 22 0)) = _; unfold gof; rw [hy22]; rfl)
  have cn22 : W1.cell? ⟨ga, 23, none⟩ = some (.int .i64 n22) := (BA.cell 23).trans (by show some (Value.int .i64 (gof L 22 1)) = _; unfold gof; rw [hy22]; rfl)
  have HY22 := hide hy22
  have HR22 := hide ry22
  have cy22 := hide cy22
  have cn22 := hide cn22
  clear hy22 ry22 rn22
  have BA := hide BA
  have HX1 := hide hx1
  have HX34 := hide hx34
  have hga1 : ga < W1.heap.size := BA.out.lt
  clear hW1 k1 hga hL hf0 hf1 hx1 hx34
  rw [← HGA.out]
  go_enter Try.func61, Try.ntmps61
  go_upto_region 1 with fail
  change Code.wp _ _ _ _ (w.alloc (.cells (SC (gof L) uv).toArray 49))
  rw [← HW1.out, ← HGA.out]
  have C1 := keepc (p := ⟨ga, 1, none⟩) hga1 c1
  have C34 := keepc (p := ⟨ga, 34, none⟩) hga1 c34
  refine Hold.begin_ 8 (by kernel_rfl) rfl (fun w' => Below W1.heap.size W1 w') ?_ (Below.refl _ _).drew
  intro hS
  refine Hold.take (i := 0) (v := ?_) rfl (by kernel_rfl) (fun _ _ _ h => h) rfl ?_ hS ?_
  rotate_left
  · intro w' hS; have z0_ := C1 _ hS; have z1_ := C34 _ hS; go_simp; (try go_bits); (first | rfl | rw [if_pos (by omega)])
  simp only [Act.put, List.getElem_toArray, List.getElem_cons_zero, List.getElem_cons_succ, List.setIfInBounds_toArray, List.set_cons_zero, List.set_cons_succ]
  refine Hold.take (i := 1) (v := ?_) rfl (by kernel_rfl) (fun _ _ _ h => h) rfl ?_ hS ?_
  rotate_left
  · intro w' hS; have z0_ := C1 _ hS; have z1_ := C34 _ hS; go_simp; (try go_bits); (first | rfl | rw [if_pos (by omega)])
  simp only [Act.put, List.getElem_toArray, List.getElem_cons_zero, List.getElem_cons_succ, List.setIfInBounds_toArray, List.set_cons_zero, List.set_cons_succ]
  refine Hold.take (i := 3) (v := ?_) rfl (by kernel_rfl) (fun _ _ _ h => h) rfl ?_ hS ?_
  rotate_left
  · intro w' hS; have z0_ := C1 _ hS; have z1_ := C34 _ hS; go_simp; (try go_bits); (first | rfl | rw [if_pos (by omega)])
  simp only [Act.put, List.getElem_toArray, List.getElem_cons_zero, List.getElem_cons_succ, List.setIfInBounds_toArray, List.set_cons_zero, List.set_cons_succ]
  refine Hold.take (i := 4) (v := ?_) rfl (by kernel_rfl) (fun _ _ _ h => h) rfl ?_ hS ?_
  rotate_left
  · intro w' hS; have z0_ := C1 _ hS; have z1_ := C34 _ hS; go_simp; (try go_bits); (first | rfl | rw [if_pos (by omega)])
  simp only [Act.put, List.getElem_toArray, List.getElem_cons_zero, List.getElem_cons_succ, List.setIfInBounds_toArray, List.set_cons_zero, List.set_cons_succ]
  refine Hold.one (i := 2) (by kernel_rfl) ?_
  refine Hold.call rfl rfl (by go_simp; exact ⟨rfl, rfl⟩) ?_
  refine (flag_any x1 hx1b W1.drew).mono ?_
  rintro r w2 ⟨rfl, hw2⟩
  have k2 : Below W1.heap.size W1 w2 := by rw [hw2]; exact (Below.refl _ _).drew.alloc (Nat.le_refl _) _
  have HE2 := hide hw2
  clear hw2
  refine ⟨_, rfl, k2, ?_⟩
  simp only [Act.put, List.getElem_toArray, List.getElem_cons_zero, List.getElem_cons_succ, List.setIfInBounds_toArray, List.set_cons_zero, List.set_cons_succ]
  refine Hold.one (i := 5) (by kernel_rfl) ?_
  refine Hold.call rfl rfl (by go_simp; exact ⟨rfl, rfl⟩) ?_
  refine (flag_any x34 hx34b w2).mono ?_
  rintro r w3 ⟨rfl, hw3⟩
  have k3' : Below w2.heap.size w2 w3 := by rw [hw3]; exact (Below.refl _ _).alloc (Nat.le_refl _) _
  have k3 : Below W1.heap.size W1 w3 := below_call k2 k3'
  have HE3 := hide hw3
  clear hw3
  refine ⟨_, rfl, k3, ?_⟩
  simp only [Act.put, List.getElem_toArray, List.getElem_cons_zero, List.getElem_cons_succ, List.setIfInBounds_toArray, List.set_cons_zero, List.set_cons_succ]
  refine Hold.one (i := 6) (by kernel_rfl) ?_
  refine Hold.run (w' := w3.alloc (.cells #[.slice none 0 0, .slice (some ⟨W1.drew.heap.size, 0, none⟩) 1 1, .slice (some ⟨w2.heap.size, 0, none⟩) 1 1] 33)) rfl rfl (by go_simp; first | rfl | exact ⟨rfl, rfl⟩) ?_
  have k4' : Below w3.heap.size w3 (w3.alloc (.cells #[.slice none 0 0, .slice (some ⟨W1.drew.heap.size, 0, none⟩) 1 1, .slice (some ⟨w2.heap.size, 0, none⟩) 1 1] 33)) := (Below.refl _ _).alloc (Nat.le_refl _) _
  have k4 := below_call k3 k4'
  refine ⟨k4, ?_⟩
  simp only [Act.put, List.getElem_toArray, List.getElem_cons_zero, List.getElem_cons_succ, List.setIfInBounds_toArray, List.set_cons_zero, List.set_cons_succ]
  have V4 : Hid (VO (w3.alloc (.cells #[.slice none 0 0, .slice (some ⟨W1.drew.heap.size, 0, none⟩) 1 1, .slice (some ⟨w2.heap.size, 0, none⟩) 1 1] 33)) W1.heap.size (.slice (some ⟨w3.heap.size, 0, none⟩) 3 3) [[], [x1], [x34]]) := hide (by
    refine ⟨[.slice none 0 0, .slice (some ⟨W1.drew.heap.size, 0, none⟩) 1 1, .slice (some ⟨w2.heap.size, 0, none⟩) 1 1], ⟨World.ownsRow_nil _ _ _ _, ?_, ?_, trivial⟩, ?_⟩
    · refine AO.keeps (W := w2) ?_ ((Keeps.of_below k3').trans (Keeps.of_below k4'))
      rw [HE2.out]
      exact AO.lit W1.drew (Nat.le_refl _) [x1] (by simp)
    · refine AO.keeps (W := w3) ?_ (Keeps.of_below k4')
      rw [HE3.out]
      exact AO.lit w2 k2.size [x34] (by simp)
    · exact World.ownsRow_lit (base := W1.heap.size) (e := 33) (size := 1) w3 #[.slice none 0 0, .slice (some ⟨W1.drew.heap.size, 0, none⟩) 1 1, .slice (some ⟨w2.heap.size, 0, none⟩) 1 1] 3 k3.size (by unfold maxLen; decide) rfl)
  obtain ⟨w4, hw4⟩ : ∃ w4, w4 = w3.alloc (.cells #[.slice none 0 0, .slice (some ⟨W1.drew.heap.size, 0, none⟩) 1 1, .slice (some ⟨w2.heap.size, 0, none⟩) 1 1] 33) := ⟨_, rfl⟩
  rw [← hw4] at V4 k4 ⊢
  clear hw4
  refine Hold.one (i := 7) (by kernel_rfl) ?_
  refine Hold.run rfl rfl (by go_simp; first | rfl | exact ⟨rfl, rfl⟩) ?_
  refine ⟨k4, ?_⟩
  simp only [Act.put, List.getElem_toArray, List.getElem_cons_zero, List.getElem_cons_succ, List.setIfInBounds_toArray, List.set_cons_zero, List.set_cons_succ]
  refine Hold.done (by kernel_rfl) ?_
  have T4 := hide k4
  clear hS HE2 HE3 k2 k3 k3' k4 k4' C1 C34 c1 c34
  have cy2 : w4.cell? ⟨ga, 0, none⟩ = _ := (T4.out.cell (p := ⟨ga, 0, none⟩) hga1).trans cy2
  have cy3 : w4.cell? ⟨ga, 2, none⟩ = _ := (T4.out.cell (p := ⟨ga, 2, none⟩) hga1).trans cy3
  have cy4 : w4.cell? ⟨ga, 3, none⟩ = _ := (T4.out.cell (p := ⟨ga, 3, none⟩) hga1).trans cy4
  have cy5 : w4.cell? ⟨ga, 32, none⟩ = _ := (T4.out.cell (p := ⟨ga, 32, none⟩) hga1).trans cy5
  have cy6 : w4.cell? ⟨ga, 35, none⟩ = _ := (T4.out.cell (p := ⟨ga, 35, none⟩) hga1).trans cy6
  have cy7 : w4.cell? ⟨ga, 36, none⟩ = _ := (T4.out.cell (p := ⟨ga, 36, none⟩) hga1).trans cy7
  have cy8 : w4.cell? ⟨ga, 33, none⟩ = _ := (T4.out.cell (p := ⟨ga, 33, none⟩) hga1).trans cy8
  have cy9 : w4.cell? ⟨ga, 37, none⟩ = _ := (T4.out.cell (p := ⟨ga, 37, none⟩) hga1).trans cy9
  have cy10 : w4.cell? ⟨ga, 38, none⟩ = _ := (T4.out.cell (p := ⟨ga, 38, none⟩) hga1).trans cy10
  have cy11 : w4.cell? ⟨ga, 39, none⟩ = _ := (T4.out.cell (p := ⟨ga, 39, none⟩) hga1).trans cy11
  go_upto_region 3 with fail
  clear cy2 cy3 cy4 cy5 cy6 cy7 cy8 cy9 cy10 cy11
  obtain ⟨ws, hws⟩ : ∃ ws : List Int, ws = [y2, y3, y4, y5, y6, y7, y8, y9, y10, y11] := ⟨_, rfl⟩
  obtain ⟨w5, hw5⟩ : ∃ w5, w5 = w4.alloc (.cells (ws.map (.int .i64)).toArray 2) := ⟨_, rfl⟩
  have k5 : Below w4.heap.size w4 w5 := by rw [hw5]; exact (Below.refl _ _).alloc (Nat.le_refl _) _
  have G5 : Blk w5 w4.heap.size 2 (ws.map (.int .i64)).toArray := by rw [hw5]; exact Blk.new _ _ _
  change Code.wp _ _ _ _ (w4.alloc (.cells (([y2, y3, y4, y5, y6, y7, y8, y9, y10, y11] : List Int).map (.int .i64)).toArray 2))
  rw [← hws, ← hw5]
  have V5 := hide (V4.out.below k5)
  have T5 := hide (below_call T4.out k5)
  have hwl : ws.length = 10 := by rw [hws]; rfl
  have HWS := hide hws
  clear hw5 k5 V4 T4 hws
  generalize w4.heap.size = gw at G5 ⊢
  generalize w3.heap.size = g3 at V5 ⊢
  generalize W1.drew.heap.size = gd
  generalize w2.heap.size = g2
  go_wp2_with fail
  go_loopw [3, 5] (fun s3 s5 wr => ∃ (i : Nat) (LL : List (List Int)) (a : Option Addr) (c : Nat), i ≤ 10 ∧ s5 = .int .i64 i ∧ s3 = .slice a LL.length c ∧ Hid (LL = [[], [x1], [x34]] ++ (ws.take i).map fun y => [y]) ∧ VO wr W1.heap.size s3 LL ∧ Blk wr gw 2 (ws.map (.int .i64)).toArray ∧ Below W1.heap.size W1 wr) (fun _ s5 _ => 10 - (intOf s5).toNat)
  case atStart => exact ⟨0, [[], [x1], [x34]], _, _, Nat.zero_le _, rfl, rfl, hide (by simp), V5.out, G5, T5.out⟩
  case round =>
    clear V5 G5 T5
    obtain ⟨i, LL, a, c, hi10, rfl, rfl, hLL, hV, hG, hb⟩ := hrel
    have V := hide hV
    have TR := hide hb
    have hll : LL.length ≤ 50 := by rw [hLL.out, List.length_append, List.length_map, List.length_take]; simp; omega
    clear hV hb
    by_cases hlt : i < 10
    · have hiw : i < ws.length := by omega
      have x0 : wr.cell? ⟨gw, i, none⟩ = some (.int .i64 ws[i]) := at_cell hG (by rw [List.getElem?_toArray, List.getElem?_map, List.getElem?_eq_getElem hiw]; rfl)
      have HT := hide (List.take_succ_eq_append_getElem hiw)
      generalize ws[i] = y at x0 HT
      have hLL2 : LL ++ [[y]] = [[], [x1], [x34]] ++ (ws.take (i + 1)).map fun y => [y] := by rw [HT.out, hLL.out, List.map_append, List.append_assoc]; rfl
      have HLL2 := hide hLL2
      have hG := hide hG
      clear hLL2 HT hLL
      have hszB := TR.out.size
      go_wp2_with (at_builtin; refine wpList_push rfl _ _ rfl W1.heap.size LL (.slice a LL.length c) rfl [y] rfl V.out hszB (by omega) (by simp) ?_)
      intro g9 cap9 w9 V9 hB9 hT9
      have V9 := hide V9
      have G9 := hB9 gw _ _ hG.out (by decide)
      have T9 := hide (hT9 W1 (Nat.le_refl _) TR.out)
      clear hB9 hT9 hG V TR x0
      go_wp2_with fail
      go_roundw
      case rel => exact ⟨i + 1, LL ++ [[y]], some ⟨g9, 0, none⟩, cap9, hlt, by go_num, by rw [List.length_append]; rfl, HLL2, V9.out, G9, T9.out⟩
      case measure => simp [intOf]; omega
    · have hLL3 : Hid (LL = [[], [x1], [x34]] ++ ws.map fun y => [y]) := hide (by rw [hLL.out, List.take_of_length_le (by omega)])
      have dend : decide ((i : Int) < 10) = false := by rw [decide_eq_false_iff_not]; omega
      clear hLL hG hi10 hlt
      have dy12 : wr.cell? ⟨ga, 4, none⟩ = _ := (TR.out.cell (p := ⟨ga, 4, none⟩) hga1).trans cy12.out
      have dn12 : wr.cell? ⟨ga, 5, none⟩ = _ := (TR.out.cell (p := ⟨ga, 5, none⟩) hga1).trans cn12.out
      have dy13 : wr.cell? ⟨ga, 6, none⟩ = _ := (TR.out.cell (p := ⟨ga, 6, none⟩) hga1).trans cy13.out
      have dn13 : wr.cell? ⟨ga, 7, none⟩ = _ := (TR.out.cell (p := ⟨ga, 7, none⟩) hga1).trans cn13.out
      have dy14 : wr.cell? ⟨ga, 8, none⟩ = _ := (TR.out.cell (p := ⟨ga, 8, none⟩) hga1).trans cy14.out
      have dn14 : wr.cell? ⟨ga, 9, none⟩ = _ := (TR.out.cell (p := ⟨ga, 9, none⟩) hga1).trans cn14.out
      have dy15 : wr.cell? ⟨ga, 10, none⟩ = _ := (TR.out.cell (p := ⟨ga, 10, none⟩) hga1).trans cy15.out
      have dn15 : wr.cell? ⟨ga, 11, none⟩ = _ := (TR.out.cell (p := ⟨ga, 11, none⟩) hga1).trans cn15.out
      have dy16 : wr.cell? ⟨ga, 12, none⟩ = _ := (TR.out.cell (p := ⟨ga, 12, none⟩) hga1).trans cy16.out
      have dn16 : wr.cell? ⟨ga, 13, none⟩ = _ := (TR.out.cell (p := ⟨ga, 13, none⟩) hga1).trans cn16.out
      have dy17 : wr.cell? ⟨ga, 14, none⟩ = _ := (TR.out.cell (p := ⟨ga, 14, none⟩) hga1).trans cy17.out
      have dn17 : wr.cell? ⟨ga, 15, none⟩ = _ := (TR.out.cell (p := ⟨ga, 15, none⟩) hga1).trans cn17.out
      have dy18 : wr.cell? ⟨ga, 40, none⟩ = _ := (TR.out.cell (p := ⟨ga, 40, none⟩) hga1).trans cy18.out
      have dn18 : wr.cell? ⟨ga, 41, none⟩ = _ := (TR.out.cell (p := ⟨ga, 41, none⟩) hga1).trans cn18.out
      have dy19 : wr.cell? ⟨ga, 16, none⟩ = _ := (TR.out.cell (p := ⟨ga, 16, none⟩) hga1).trans cy19.out
      have dn19 : wr.cell? ⟨ga, 17, none⟩ = _ := (TR.out.cell (p := ⟨ga, 17, none⟩) hga1).trans cn19.out
      have dy20 : wr.cell? ⟨ga, 18, none⟩ = _ := (TR.out.cell (p := ⟨ga, 18, none⟩) hga1).trans cy20.out
      have dn20 : wr.cell? ⟨ga, 19, none⟩ = _ := (TR.out.cell (p := ⟨ga, 19, none⟩) hga1).trans cn20.out
      have dy21 : wr.cell? ⟨ga, 20, none⟩ = _ := (TR.out.cell (p := ⟨ga, 20, none⟩) hga1).trans cy21.out
      have dn21 : wr.cell? ⟨ga, 21, none⟩ = _ := (TR.out.cell (p := ⟨ga, 21, none⟩) hga1).trans cn21.out
      have dy22 : wr.cell? ⟨ga, 22, none⟩ = _ := (TR.out.cell (p := ⟨ga, 22, none⟩) hga1).trans cy22.out
      have dn22 : wr.cell? ⟨ga, 23, none⟩ = _ := (TR.out.cell (p := ⟨ga, 23, none⟩) hga1).trans cn22.out
      go_upto_region 8 with fail
      clear dy12 dn12 dy13 dn13 dy14 dn14 dy15 dn15 dy16 dn16 dy17 dn17 dy18 dn18 dy19 dn19 dy20 dn20 dy21 dn21 dy22 dn22
      obtain ⟨ls, hls⟩ : ∃ ls : List (Int × Int), ls = [(y12, n12), (y13, n13), (y14, n14), (y15, n15), (y16, n16), (y17, n17), (y18, n18), (y19, n19), (y20, n20), (y21, n21), (y22, n22)] := ⟨_, rfl⟩
      obtain ⟨w6, hw6⟩ : ∃ w6, w6 = wr.alloc (.cells ((ls.map fun p => [Value.int .u8 p.1, .int .i64 p.2]).flatten).toArray 44) := ⟨_, rfl⟩
      have k6 : Below wr.heap.size wr w6 := by rw [hw6]; exact (Below.refl _ _).alloc (Nat.le_refl _) _
      have G6 : Blk w6 wr.heap.size 44 ((ls.map fun p => [Value.int .u8 p.1, .int .i64 p.2]).flatten).toArray := by rw [hw6]; exact Blk.new _ _ _
      change Code.wp _ _ _ _ (wr.alloc (.cells ((([(y12, n12), (y13, n13), (y14, n14), (y15, n15), (y16, n16), (y17, n17), (y18, n18), (y19, n19), (y20, n20), (y21, n21), (y22, n22)] : List (Int × Int)).map fun p => [Value.int .u8 p.1, .int .i64 p.2]).flatten).toArray 44))
      rw [← hls, ← hw6]
      have V6 := hide (V.out.below k6)
      have T6 := hide (below_call TR.out k6)
      have hlsl : ls.length = 11 := by rw [hls]; rfl
      have hlsr : ∀ p ∈ ls, 0 ≤ p.1 ∧ p.1 ≤ 255 := by
        rw [hls]
        intro p hp
        simp only [List.mem_cons, List.not_mem_nil, or_false] at hp
        rcases hp with rfl | rfl | rfl | rfl | rfl | rfl | rfl | rfl | rfl | rfl | rfl
        · exact HR12.out
        · exact HR13.out
        · exact HR14.out
        · exact HR15.out
        · exact HR16.out
        · exact HR17.out
        · exact HR18.out
        · exact HR19.out
        · exact HR20.out
        · exact HR21.out
        · exact HR22.out
      have HLS := hide hls
      clear hw6 k6 V TR hls
      generalize wr.heap.size = gl at G6 ⊢
      obtain ⟨LB, hLB⟩ : ∃ LB, LB = LL := ⟨_, rfl⟩
      rw [← hLB] at hLL3 hll
      clear dend
      go_wp2_with fail
      go_loopw [3, 7] (fun s3 s7 wr => ∃ (j : Nat) (LL : List (List Int)) (a : Option Addr) (c : Nat), j ≤ 11 ∧ s7 = .int .i64 j ∧ s3 = .slice a LL.length c ∧ Hid (LL = LB ++ (ls.take j).map fun p => [p.1, p.2]) ∧ VO wr W1.heap.size s3 LL ∧ Blk wr gl 44 ((ls.map fun p => [Value.int .u8 p.1, .int .i64 p.2]).flatten).toArray ∧ Below W1.heap.size W1 wr) (fun _ s7 _ => 11 - (intOf s7).toNat)
      case atStart => exact ⟨0, LL, a, c, Nat.zero_le _, rfl, rfl, hide (by rw [hLB]; simp), V6.out, G6, T6.out⟩
      case round =>
        clear V6 G6 T6 hLB
        obtain ⟨j, LM, a', c', hj11, rfl, rfl, hLM, hV, hG, hb⟩ := hrel
        have V := hide hV
        have TR := hide hb
        have hll2 : LM.length ≤ 70 := by rw [hLM.out, List.length_append, List.length_map, List.length_take]; omega
        clear hV hb
        by_cases hlt : j < 11
        · have hjl : j < ls.length := by omega
          have hfl := flat_get (sz := 2) (ls.map fun p => [Value.int .u8 p.1, .int .i64 p.2]) (by intro x hx; obtain ⟨p, _, rfl⟩ := List.mem_map.1 hx; rfl) j (by rw [List.length_map]; exact hjl)
          have e0 : ((ls.map fun p => [Value.int .u8 p.1, .int .i64 p.2]).flatten).toArray[j * 2]? = some (.int .u8 ls[j].1) := by
            rw [List.getElem?_toArray]
            have := hfl 0 (by simp)
            rw [Nat.add_zero] at this
            rw [this]
            simp
          have e1 : ((ls.map fun p => [Value.int .u8 p.1, .int .i64 p.2]).flatten).toArray[j * 2 + 1]? = some (.int .i64 ls[j].2) := by
            rw [List.getElem?_toArray, hfl 1 (by simp)]
            simp
          have hrg := hlsr _ (List.getElem_mem hjl)
          have HT := hide (List.take_succ_eq_append_getElem hjl)
          clear hfl
          generalize ls[j] = p at e0 e1 hrg HT
          obtain ⟨k, n⟩ := p
          dsimp only at e0 e1 hrg
          have hw8 : IntKind.i64.wrap k = k := by simp only [IntKind.wrap, IntKind.bits, IntKind.signed]; simp; omega
          have hLM2 : LM ++ [[k, n]] = LB ++ (ls.take (j + 1)).map fun p => [p.1, p.2] := by rw [HT.out, hLM.out, List.map_append, List.append_assoc]; rfl
          have HLM2 := hide hLM2
          clear hLM2 HT hLM hrg
          have hszB := TR.out.size
          obtain ⟨C, hC⟩ : ∃ C, C = ((ls.map fun p => [Value.int .u8 p.1, .int .i64 p.2]).flatten).toArray := ⟨_, rfl⟩
          rw [← hC] at hG e0 e1 ⊢
          have HCC := hide hC
          clear hC
          go_upto_region 11 with fail
          have E0 : ∀ w' : World, Blk w' gl 44 C → w'.cell? ⟨gl, j * 2, none⟩ = some (.int .u8 k) := fun w' h => at_cell h e0
          have E1 : ∀ w' : World, Blk w' gl 44 C → w'.cell? ⟨gl, j * 2 + 1, none⟩ = some (.int .i64 n) := fun w' h => at_cell h e1
          clear e0 e1
          refine Hold.begin_ 16 (by kernel_rfl) rfl (fun w' => Blk w' gl 44 C) ?_ hG.drew
          intro hS
          refine Hold.take (i := 0) (v := ?_) rfl (by kernel_rfl) (fun _ _ _ h => h) rfl ?_ hS ?_
          rotate_left
          · intro w' hS; have z0_ := E0 _ hS; have z1_ := E1 _ hS; go_simp; (try go_bits); (first | rfl | rw [if_pos (by omega)])
          simp only [Act.put, List.getElem_toArray, List.getElem_cons_zero, List.getElem_cons_succ, List.setIfInBounds_toArray, List.set_cons_zero, List.set_cons_succ]
          refine Hold.take (i := 1) (v := ?_) rfl (by kernel_rfl) (fun _ _ _ h => h) rfl ?_ hS ?_
          rotate_left
          · intro w' hS; have z0_ := E0 _ hS; have z1_ := E1 _ hS; go_simp; (try go_bits); (first | rfl | rw [if_pos (by omega)])
          simp only [Act.put, List.getElem_toArray, List.getElem_cons_zero, List.getElem_cons_succ, List.setIfInBounds_toArray, List.set_cons_zero, List.set_cons_succ]
          refine Hold.take (i := 2) (v := ?_) rfl (by kernel_rfl) (fun _ _ _ h => h) rfl ?_ hS ?_
          rotate_left
          · intro w' hS; have z0_ := E0 _ hS; have z1_ := E1 _ hS; go_simp; (try go_bits); (first | rfl | rw [if_pos (by omega)])
          simp only [Act.put, List.getElem_toArray, List.getElem_cons_zero, List.getElem_cons_succ, List.setIfInBounds_toArray, List.set_cons_zero, List.set_cons_succ]
          refine Hold.take (i := 3) (v := ?_) rfl (by kernel_rfl) (fun _ _ _ h => h) rfl ?_ hS ?_
          rotate_left
          · intro w' hS; have z0_ := E0 _ hS; have z1_ := E1 _ hS; go_simp; (try go_bits); (first | rfl | rw [if_pos (by omega)])
          simp only [Act.put, List.getElem_toArray, List.getElem_cons_zero, List.getElem_cons_succ, List.setIfInBounds_toArray, List.set_cons_zero, List.set_cons_succ]
          refine Hold.take (i := 4) (v := ?_) rfl (by kernel_rfl) (fun _ _ _ h => h) rfl ?_ hS ?_
          rotate_left
          · intro w' hS; have z0_ := E0 _ hS; have z1_ := E1 _ hS; go_simp; (try go_bits); (first | rfl | rw [if_pos (by omega)])
          simp only [Act.put, List.getElem_toArray, List.getElem_cons_zero, List.getElem_cons_succ, List.setIfInBounds_toArray, List.set_cons_zero, List.set_cons_succ]
          refine Hold.take (i := 5) (v := ?_) rfl (by kernel_rfl) (fun _ _ _ h => h) rfl ?_ hS ?_
          rotate_left
          · intro w' hS; have z0_ := E0 _ hS; have z1_ := E1 _ hS; go_simp; (try go_bits); (first | rfl | rw [if_pos (by omega)])
          simp only [Act.put, List.getElem_toArray, List.getElem_cons_zero, List.getElem_cons_succ, List.setIfInBounds_toArray, List.set_cons_zero, List.set_cons_succ]
          refine Hold.take (i := 6) (v := ?_) rfl (by kernel_rfl) (fun _ _ _ h => h) rfl ?_ hS ?_
          rotate_left
          · intro w' hS; have z0_ := E0 _ hS; have z1_ := E1 _ hS; go_simp; (try go_bits); (first | rfl | rw [if_pos (by omega)])
          simp only [Act.put, List.getElem_toArray, List.getElem_cons_zero, List.getElem_cons_succ, List.setIfInBounds_toArray, List.set_cons_zero, List.set_cons_succ]
          refine Hold.take (i := 7) (v := ?_) rfl (by kernel_rfl) (fun _ _ _ h => h) rfl ?_ hS ?_
          rotate_left
          · intro w' hS; have z0_ := E0 _ hS; have z1_ := E1 _ hS; go_simp; (try go_bits); (first | rfl | rw [if_pos (by omega)])
          simp only [Act.put, List.getElem_toArray, List.getElem_cons_zero, List.getElem_cons_succ, List.setIfInBounds_toArray, List.set_cons_zero, List.set_cons_succ]
          refine Hold.take (i := 8) (v := ?_) rfl (by kernel_rfl) (fun _ _ _ h => h) rfl ?_ hS ?_
          rotate_left
          · intro w' hS; have z0_ := E0 _ hS; have z1_ := E1 _ hS; go_simp; (try go_bits); (first | rfl | rw [if_pos (by omega)])
          simp only [Act.put, List.getElem_toArray, List.getElem_cons_zero, List.getElem_cons_succ, List.setIfInBounds_toArray, List.set_cons_zero, List.set_cons_succ]
          refine Hold.take (i := 9) (v := ?_) rfl (by kernel_rfl) (fun _ _ _ h => h) rfl ?_ hS ?_
          rotate_left
          · intro w' hS; have z0_ := E0 _ hS; have z1_ := E1 _ hS; go_simp; (try go_bits); (first | rfl | rw [if_pos (by omega)])
          simp only [Act.put, List.getElem_toArray, List.getElem_cons_zero, List.getElem_cons_succ, List.setIfInBounds_toArray, List.set_cons_zero, List.set_cons_succ]
          refine Hold.take (i := 10) (v := ?_) rfl (by kernel_rfl) (fun _ _ _ h => h) rfl ?_ hS ?_
          rotate_left
          · intro w' hS; have z0_ := E0 _ hS; have z1_ := E1 _ hS; go_simp; (try go_bits); (first | rfl | rw [if_pos (by omega)])
          simp only [Act.put, List.getElem_toArray, List.getElem_cons_zero, List.getElem_cons_succ, List.setIfInBounds_toArray, List.set_cons_zero, List.set_cons_succ]
          refine Hold.take (i := 11) (v := ?_) rfl (by kernel_rfl) (fun _ _ _ h => h) rfl ?_ hS ?_
          rotate_left
          · intro w' hS; have z0_ := E0 _ hS; have z1_ := E1 _ hS; go_simp; (try go_bits); (first | rfl | rw [if_pos (by omega)])
          simp only [Act.put, List.getElem_toArray, List.getElem_cons_zero, List.getElem_cons_succ, List.setIfInBounds_toArray, List.set_cons_zero, List.set_cons_succ]
          obtain ⟨wd, hwd⟩ : ∃ wd, wd = wr.drew := ⟨_, rfl⟩
          have VD : Hid (VO wd W1.heap.size (.slice a' LM.length c') LM) := hide (by rw [hwd]; exact V.out.below (Below.refl _ _).drew)
          have TD : Hid (Below W1.heap.size W1 wd) := hide (by rw [hwd]; exact TR.out.drew)
          have hszD := TD.out.size
          rw [← hwd] at hS ⊢
          clear hwd V TR hszB E0 E1
          refine Hold.one (i := 12) (by kernel_rfl) ?_
          refine Hold.run (w' := wd.alloc (.cells (([k, n] : List Int).map (.int .i64)).toArray 2)) rfl rfl (by go_simp; first | rfl | exact ⟨rfl, rfl⟩) ?_
          refine ⟨hS.alloc _, ?_⟩
          simp only [Act.put, List.getElem_toArray, List.getElem_cons_zero, List.getElem_cons_succ, List.setIfInBounds_toArray, List.set_cons_zero, List.set_cons_succ]
          refine Hold.one (i := 13) (by kernel_rfl) ?_
          refine Hold.run (w' := (wd.alloc (.cells (([k, n] : List Int).map (.int .i64)).toArray 2)).alloc (.cells #[.slice (some ⟨wd.heap.size, 0, none⟩) ([k, n] : List Int).length ([k, n] : List Int).length] 33)) rfl rfl (by go_simp; first | rfl | exact ⟨rfl, rfl⟩) ?_
          refine ⟨(hS.alloc _).alloc _, ?_⟩
          simp only [Act.put, List.getElem_toArray, List.getElem_cons_zero, List.getElem_cons_succ, List.setIfInBounds_toArray, List.set_cons_zero, List.set_cons_succ]
          refine Hold.one (i := 14) (by kernel_rfl) ?_
          refine Hold.list1 rfl rfl ?_
          refine wpList_push rfl _ _ rfl W1.heap.size LM (.slice a' LM.length c') rfl [k, n] (by first | rfl | simp [Act.eval]) VD.out hszD (by omega) (by simp) ?_
          intro g9 cap9 w9 V9 hB9 hT9
          have V9 := hide V9
          have G9 := hB9 gl _ _ hS (by decide)
          have T9 := hide (hT9 W1 (Nat.le_refl _) TD.out)
          show _ ∧ _
          refine ⟨G9, ?_⟩
          simp only [Act.put, List.getElem_toArray, List.getElem_cons_zero, List.getElem_cons_succ, List.setIfInBounds_toArray, List.set_cons_zero, List.set_cons_succ]
          clear hB9 hT9 hG VD TD hS
          have hS := G9
          refine Hold.one (i := 15) (by kernel_rfl) ?_
          refine Hold.run (w' := w9) rfl rfl (by go_simp; first | rfl | exact ⟨rfl, rfl⟩) ?_
          refine ⟨G9, ?_⟩
          simp only [Act.put, List.getElem_toArray, List.getElem_cons_zero, List.getElem_cons_succ, List.setIfInBounds_toArray, List.set_cons_zero, List.set_cons_succ]
          refine Hold.done (by kernel_rfl) ?_
          clear hS
          generalize wd.heap.size = gz
          clear HCC
          go_wp2_with fail
          go_roundw
          case rel => exact ⟨j + 1, LM ++ [[k, n]], some ⟨g9, 0, none⟩, cap9, hlt, by go_num, by rw [List.length_append]; rfl, HLM2, V9.out, G9, T9.out⟩
          case measure => simp [intOf]; omega
        · have hLM3 : Hid (LM = LB ++ ls.map fun p => [p.1, p.2]) := hide (by rw [hLM.out, List.take_of_length_le (by omega)])
          have dend : decide ((j : Int) < 11) = false := by rw [decide_eq_false_iff_not]; omega
          clear hLM hG hj11 hlt
          obtain ⟨LC, hLC⟩ : ∃ LC, LC = LM := ⟨_, rfl⟩
          rw [← hLC] at hLM3 hll2
          go_wp2_with fail
          clear dend
          go_loopw [3, 8] (fun s3 s8 wr => ∃ (i : Nat) (LL : List (List Int)) (a : Option Addr) (c : Nat), i ≤ 4 ∧ s8 = .int .i64 i ∧ s3 = .slice a LL.length c ∧ Hid (LL = LC ++ (List.range i).map fun t => [gof L (23 + t) 0]) ∧ VO wr W1.heap.size s3 LL ∧ Below W1.heap.size W1 wr) (fun _ s8 _ => 4 - (intOf s8).toNat)
          case atStart => exact ⟨0, LM, a', c', Nat.zero_le _, rfl, rfl, hide (by rw [hLC]; simp), V.out, TR.out⟩
          case round =>
            clear V TR hLC
            obtain ⟨q, LP, ap, cp, hq4, rfl, rfl, hLP, hV, hb⟩ := hrel
            have V := hide hV
            have TR := hide hb
            have hll3 : LP.length ≤ 80 := by rw [hLP.out, List.length_append, List.length_map, List.length_range]; omega
            clear hV hb
            by_cases hlt : q < 4
            · have x0 : wr.cell? ⟨ga, 24 + q, none⟩ = some (.int .i64 (gof L (23 + q) 0)) := (TR.out.cell (p := ⟨ga, 24 + q, none⟩) hga1).trans (at_cell BA.out (by rw [List.getElem?_toArray]; exact SC_border (gof L) uv q hlt))
              have hLP2 : LP ++ [[gof L (23 + q) 0]] = LC ++ (List.range (q + 1)).map fun t => [gof L (23 + t) 0] := by rw [hLP.out, List.range_succ, List.map_append, List.append_assoc]; rfl
              have HLP2 := hide hLP2
              clear hLP2 hLP
              generalize gof L (23 + q) 0 = y at x0 HLP2
              have hszB := TR.out.size
              go_wp2_with (at_builtin; refine wpList_push rfl _ _ rfl W1.heap.size LP (.slice ap LP.length cp) rfl [y] rfl V.out hszB (by omega) (by simp) ?_)
              intro g9 cap9 w9 V9 hB9 hT9
              have V9 := hide V9
              have T9 := hide (hT9 W1 (Nat.le_refl _) TR.out)
              clear hB9 hT9 V TR x0
              go_wp2_with fail
              go_roundw
              case rel => exact ⟨q + 1, LP ++ [[y]], some ⟨g9, 0, none⟩, cap9, hlt, by go_num, by rw [List.length_append]; rfl, HLP2, V9.out, T9.out⟩
              case measure => simp [intOf]; omega
            · have hLP3 : Hid (LP = LC ++ (List.range 4).map fun t => [gof L (23 + t) 0]) := hide (by rw [hLP.out, show q = 4 from by omega])
              have dend : decide ((q : Int) < 4) = false := by rw [decide_eq_false_iff_not]; omega
              clear hLP hq4 hlt
              obtain ⟨LD, hLD⟩ : ∃ LD, LD = LP := ⟨_, rfl⟩
              rw [← hLD] at hLP3 hll3
              go_wp2_with fail
              clear dend
              go_loopw [3, 9] (fun s3 s9 wr => ∃ (i : Nat) (LL : List (List Int)) (a : Option Addr) (c : Nat), i ≤ 4 ∧ s9 = .int .i64 i ∧ s3 = .slice a LL.length c ∧ Hid (LL = LD ++ (List.range i).map fun t => [gof L (27 + t) 0]) ∧ VO wr W1.heap.size s3 LL ∧ Below W1.heap.size W1 wr) (fun _ s9 _ => 4 - (intOf s9).toNat)
              case atStart => exact ⟨0, LP, ap, cp, Nat.zero_le _, rfl, rfl, hide (by rw [hLD]; simp), V.out, TR.out⟩
              case round =>
                clear V TR hLD
                obtain ⟨q, LP, ap, cp, hq4, rfl, rfl, hLP, hV, hb⟩ := hrel
                have V := hide hV
                have TR := hide hb
                have hll3 : LP.length ≤ 90 := by rw [hLP.out, List.length_append, List.length_map, List.length_range]; omega
                clear hV hb
                by_cases hlt : q < 4
                · have x0 : wr.cell? ⟨ga, 28 + q, none⟩ = some (.int .i64 (gof L (27 + q) 0)) := (TR.out.cell (p := ⟨ga, 28 + q, none⟩) hga1).trans (at_cell BA.out (by rw [List.getElem?_toArray]; exact SC_pad (gof L) uv q hlt))
                  have hLP2 : LP ++ [[gof L (27 + q) 0]] = LD ++ (List.range (q + 1)).map fun t => [gof L (27 + t) 0] := by rw [hLP.out, List.range_succ, List.map_append, List.append_assoc]; rfl
                  have HLP2 := hide hLP2
                  clear hLP2 hLP
                  generalize gof L (27 + q) 0 = y at x0 HLP2
                  have hszB := TR.out.size
                  go_wp2_with (at_builtin; refine wpList_push rfl _ _ rfl W1.heap.size LP (.slice ap LP.length cp) rfl [y] rfl V.out hszB (by omega) (by simp) ?_)
                  intro g9 cap9 w9 V9 hB9 hT9
                  have V9 := hide V9
                  have T9 := hide (hT9 W1 (Nat.le_refl _) TR.out)
                  clear hB9 hT9 V TR x0
                  go_wp2_with fail
                  go_roundw
                  case rel => exact ⟨q + 1, LP ++ [[y]], some ⟨g9, 0, none⟩, cap9, hlt, by go_num, by rw [List.length_append]; rfl, HLP2, V9.out, T9.out⟩
                  case measure => simp [intOf]; omega
                · have hLP4 : Hid (LP = LD ++ (List.range 4).map fun t => [gof L (27 + t) 0]) := hide (by rw [hLP.out, show q = 4 from by omega])
                  have dend : decide ((q : Int) < 4) = false := by rw [decide_eq_false_iff_not]; omega
                  clear hLP hq4 hlt
                  have hfin : LP = [] :: L.take 31 := by
                    rw [take31 (okS_len HL.out), hLP4.out, hLP3.out, hLM3.out, hLL3.out, HWS.out, HLS.out]
                    show _ = [] :: [L.getD 0 [], L.getD 1 [], L.getD 2 [], L.getD 3 [], L.getD 4 [], L.getD 5 [], L.getD 6 [], L.getD 7 [], L.getD 8 [], L.getD 9 [], L.getD 10 [], L.getD 11 [], L.getD 12 [], L.getD 13 [], L.getD 14 [], L.getD 15 [], L.getD 16 [], L.getD 17 [], L.getD 18 [], L.getD 19 [], L.getD 20 [], L.getD 21 [], L.getD 22 [], L.getD 23 [], L.getD 24 [], L.getD 25 [], L.getD 26 [], L.getD 27 [], L.getD 28 [], L.getD 29 [], L.getD 30 []]
                    rw [HX1.out, HX34.out, HY2.out, HY3.out, HY4.out, HY5.out, HY6.out, HY7.out, HY8.out, HY9.out, HY10.out, HY11.out, HY12.out, HY13.out, HY14.out, HY15.out, HY16.out, HY17.out, HY18.out, HY19.out, HY20.out, HY21.out, HY22.out]
                    have hone : ∀ k, 23 ≤ k → k ≤ 30 → L.getD k [] = [gof L k 0] := fun k h1 h2 => by
                      have hkd : ∀ k, 23 ≤ k → k ≤ 30 → KD.getD k 9 = 2 := by
                        intro k h1 h2
                        have : ∀ d, d < 8 → KD.getD (23 + d) 9 = 2 := by decide
                        have := this (k - 23) (by omega)
                        rwa [show 23 + (k - 23) = k from by omega] at this
                      have := okS_at HL.out k (by show k < 32; omega)
                      rw [hkd k h1 h2] at this
                      obtain ⟨x, hx, _⟩ := this
                      unfold gof
                      rw [hx]
                      rfl
                    rw [hone 23 (by decide) (by decide), hone 24 (by decide) (by decide), hone 25 (by decide) (by decide), hone 26 (by decide) (by decide), hone 27 (by decide) (by decide), hone 28 (by decide) (by decide), hone 29 (by decide) (by decide), hone 30 (by decide) (by decide)]
                    rfl
                  have HF := hide hfin
                  clear hfin
                  go_wp2_with fail
                  go_returns
                  refine ⟨_, rfl, ?_, K1.out.trans (TR.out.mono hgaB)⟩
                  rw [← HF.out]
                  exact V.out.mono hgaB
theorem VO.grown {W W' : World} {B B' : Nat} {v u : Value} {L : List (List Int)} {l : List Int} (h : VO W B v L) (hu : BOwn W B' u l) (hg : W.grownBy W' u.ownBlock) : VO W' B v L := by
  obtain ⟨vs, h1, h2⟩ := h
  refine ⟨vs, h1.keeps (Keeps.of_grown hu (by decide) hg), own_foot h2 (foot_row hg) (fun k hk hm => ?_)⟩
  obtain ⟨c1, z1, e1⟩ := own_type h2 k hk
  obtain ⟨c2, z2, e2⟩ := own_type hu k (Option.mem_toList.1 hm)
  rw [e1] at e2
  injection e2 with e2
  injection e2 with _ e2 _
  exact absurd e2 (by decide)
/-- One of them: its place, what it reads as. -/
theorem VO.at_ {W : World} {B : Nat} {v : Value} {L : List (List Int)} (h : VO W B v L) {k : Nat} (hk : k < L.length) : ∃ g c a c', v = .slice (some ⟨g, 0, none⟩) L.length c ∧ W.cell? ⟨g, k, none⟩ = some (.slice a L[k].length c') ∧ Row W a (L[k].map (.int .i64)) := by
  obtain ⟨vs, h1, h2⟩ := h
  have hvl := h1.len
  obtain ⟨g, c, e, _, _⟩ := h2.form (by omega)
  obtain ⟨a', c', e', _, _, _, hr⟩ := own_row h2
  rw [e] at e'
  simp only [Value.slice.injEq] at e'
  obtain ⟨rfl, _, rfl⟩ := e'
  obtain ⟨b, o, ha, _, hc⟩ := hr.2 (by omega)
  simp only [Option.some.injEq, Addr.mk.injEq, and_true] at ha
  obtain ⟨rfl, rfl⟩ := ha
  have hkv : k < vs.length := by omega
  obtain ⟨ax, cx, ex, _, _, _, hx⟩ := own_row (h1.get k hk hkv)
  refine ⟨g, c, ax, cx, e, ?_, hx⟩
  have := hc k hkv
  rw [Nat.zero_add] at this
  rw [this, ex]
/-- The fields 1 to 31: zero or not; their bytes. -/
def nk (k : Nat) : Nat := if k ≤ 2 then 0 else if 13 ≤ k ∧ k ≤ 23 then 2 else 1
theorem nk_kd : ∀ k, k < 31 → (kd k = 0 ∧ nk (k + 1) = 0) ∨ (kd k = 4 ∧ nk (k + 1) = 2) ∨ (kd k ≠ 0 ∧ kd k ≠ 4 ∧ kd k ≠ 5 ∧ nk (k + 1) = 1) := by decide
theorem field_zero {κ : Nat} {v : List Int} (h : okF κ v) (h5 : κ ≠ 5) : v.all (· == 0) = decide (v = zv κ) := by
  rcases kcase κ with e | e | e | e | ⟨k0, k1, k4, k5⟩
  · subst e; rcases h with rfl | rfl <;> rfl
  · subst e
    obtain ⟨x, rfl, _⟩ := h
    by_cases h0 : x = 0 <;> simp [h0, zv]
  · subst e
    obtain ⟨x, n, rfl, _⟩ := h
    by_cases h0 : x = 0 <;> by_cases h1 : n = 0 <;> simp [h0, h1, zv]
  · exact absurd e h5
  · rw [okF_o k0 k1 k4 k5] at h
    obtain ⟨x, rfl, _⟩ := h
    rw [zv_o k4 k5]
    by_cases h0 : x = 0 <;> simp [h0]
theorem field_bytes {k : Nat} {v : List Int} (hk : k < 31) (h : okF (kd k) v) : nk (k + 1) ≤ v.length ∧ encF (kd k) v = ((v.take (nk (k + 1))).map num).flatten := by
  rcases nk_kd k hk with ⟨e, e2⟩ | ⟨e, e2⟩ | ⟨e0, e4, e5, e2⟩
  · rw [e2, e]
    exact ⟨Nat.zero_le _, by simp [encF]⟩
  · rw [e2, e]
    rw [e] at h
    obtain ⟨x, n, rfl, _⟩ := h
    exact ⟨by simp, by simp [encF]⟩
  · rw [e2]
    by_cases e1 : kd k = 1
    · rw [e1] at h ⊢
      obtain ⟨x, rfl, _⟩ := h
      exact ⟨by simp, by simp [encF]⟩
    · rw [okF_o e0 e1 e4 e5] at h
      obtain ⟨x, rfl, _⟩ := h
      rw [encF_o e0 e4 e5]
      exact ⟨by simp, by simp⟩
theorem field_nums {κ : Nat} {v : List Int} (h : okF κ v) (h5 : κ ≠ 5) : ∀ x ∈ v, I64 x := by
  rcases kcase κ with e | e | e | e | ⟨k0, k1, k4, k5⟩
  · subst e; rcases h with rfl | rfl <;> (intro x hx; obtain rfl := List.mem_singleton.1 hx; unfold I64; decide)
  · subst e
    obtain ⟨x, rfl, h1, h2⟩ := h
    intro y hy
    obtain rfl := List.mem_singleton.1 hy
    exact ⟨by omega, by omega⟩
  · subst e
    obtain ⟨x, n, rfl, ⟨h1, h2⟩, hn⟩ := h
    intro y hy
    simp only [List.mem_cons, List.not_mem_nil, or_false] at hy
    rcases hy with rfl | rfl
    · exact ⟨by omega, by omega⟩
    · exact hn
  · exact absurd e h5
  · rw [okF_o k0 k1 k4 k5] at h
    obtain ⟨x, rfl, hx⟩ := h
    intro y hy
    obtain rfl := List.mem_singleton.1 hy
    exact hx
/-- The numbers that stand for field q (from 0 on): l[q + 1]. -/
theorem lv_get {L : List (List Int)} (h : L.length = 32) {q : Nat} (hq : q < 31) : ∃ hh : q + 1 < ([] :: L.take 31).length, ([] :: L.take 31)[q + 1]'hh = L.getD q [] := by
  refine ⟨by simp [h]; omega, ?_⟩
  rw [List.getElem_cons_succ, List.getElem_take, List.getD_eq_getElem?_getD, List.getElem?_eq_getElem (by omega)]
  rfl
set_option maxRecDepth 100000 in
set_option maxHeartbeats 4000000 in
theorem rstyle_any (L : List (List Int)) (uv : Value) (w : World) (hL : okS KD L) (hu : UR w uv (L.getD 31 [])) (hul : (L.getD 31 []).length ≤ 10000000) :
    Calls Try.prog 30 #[.agg (SC (gof L) uv).toArray] w fun r w' => ∃ v, r = .returned v ∧ BOwn w' w.heap.size v (wrF KD 1 L) ∧ Below w.heap.size w w' := by
  obtain ⟨i0, hi, hz0, hz1, hz2⟩ := info_parts info5
  obtain ⟨ua, uc, rfl, hur, huc, hum⟩ := hu
  obtain ⟨us, hus⟩ : ∃ us, us = L.getD 31 [] := ⟨_, rfl⟩
  rw [← hus] at hul hur huc ⊢
  obtain ⟨W1, hW1⟩ : ∃ W1, W1 = w.alloc (.cells (SC (gof L) (.slice ua us.length uc)).toArray 49) := ⟨_, rfl⟩
  obtain ⟨ga, hga⟩ : ∃ ga, ga = w.heap.size := ⟨_, rfl⟩
  have k1 : Below w.heap.size w W1 := by rw [hW1]; exact (Below.refl _ _).alloc (Nat.le_refl _) _
  have BA : Blk W1 ga 49 (SC (gof L) (.slice ua us.length uc)).toArray := by rw [hW1, hga]; exact Blk.new w _ _
  have hgaB : ga ≤ W1.heap.size := by rw [hga]; exact k1.size
  have K1 : Hid (Below ga w W1) := hide (hga ▸ k1)
  have UR1 := hide (hur.below k1)
  have HW1 := hide hW1
  have HGA := hide hga
  have HL := hide hL
  have HUS := hide hus
  have BA := hide BA
  have hga1 : ga < W1.heap.size := BA.out.lt
  have hlen := okS_len hL
  have hlen : L.length = 32 := hlen
  clear hW1 k1 hga hL hur hus
  rw [← HGA.out]
  go_enter Try.func30, Try.ntmps30
  go_upto_region 2 with fail
  change Code.wp _ _ _ _ (w.alloc (.cells (SC (gof L) (.slice ua us.length uc)).toArray 49))
  rw [← HW1.out, ← HGA.out]
  go_wp2_with (refine wpList_load_row rfl 49 _ rfl ga rfl 49 _ _ _ BA.out Try.underlying49 rfl (st_size _ _) ?_)
  refine (values_any L (.slice ua us.length uc) W1 HL.out).mono ?_
  rintro r w2 ⟨v2, rfl, V2, k2⟩
  obtain ⟨gv, cv2, _, _, e2, _, _⟩ := V2.at_ (k := 0) (by simp)
  have hlv : ([] :: L.take 31).length = 32 := by simp [hlen]
  rw [hlv] at e2
  subst e2
  have V2 := hide V2
  have T2 := hide k2
  have HLEN := hide hlen
  clear k2 hlv hlen
  go_wp2_with fail
  go_loopw [3, 5, 6, 7, 8] (fun s3 s5 _ _ _ wr => ∃ (q : Nat) (cur : List Int) (a : Option Addr) (cap : Nat), q ≤ 31 ∧ s5 = .int .i64 ((q : Int) + 1) ∧ s3 = .slice a cur.length cap ∧ BOwn wr W1.heap.size s3 cur ∧ Hid (cur = ((List.range q).map (fb L)).flatten) ∧ VO wr W1.heap.size (.slice (some ⟨gv, 0, none⟩) 32 cv2) ([] :: L.take 31) ∧ Below W1.heap.size W1 wr) (fun _ s5 _ _ _ _ => 32 - (intOf s5).toNat)
  case atStart => exact ⟨0, [], none, 0, Nat.zero_le _, rfl, rfl, World.ownsRow_nil _ _ _ _, hide (by simp), V2.out, T2.out⟩
  case round =>
    clear V2 T2
    obtain ⟨q, cur, a, cap, hq, rfl, rfl, hO, hcur, hV, hb⟩ := hrel
    have O := hide hO
    have V := hide hV
    have TR := hide hb
    have hcl : cur.length ≤ 20001000 := by
      rw [hcur.out]
      have h1 := fb_le L (k := q) (m := 32) (by omega)
      have h2 := style_len HL.out
      rw [wrF_eq HL.out, List.length_append, ← HUS.out] at h2
      omega
    clear hO hV hb
    by_cases hlt : q < 31
    · obtain ⟨hh, hv⟩ := lv_get HLEN.out hlt
      obtain ⟨gv', _, ax, cx, e', x0, hrow⟩ := V.out.at_ hh
      simp only [Value.slice.injEq, Option.some.injEq, Addr.mk.injEq, and_true] at e'
      obtain ⟨e1', e32, e3'⟩ := e'
      subst e1' e3'
      clear e32
      rw [hv] at x0 hrow
      have hok := okS_at HL.out q (by show q < 32; omega)
      change okF (kd q) _ at hok
      have h5 := (nk_kd q hlt)
      have hk5 : kd q ≠ 5 := by rcases h5 with ⟨h, _⟩ | ⟨h, _⟩ | ⟨_, _, h, _⟩ <;> omega
      have hfb : fb L q = if L.getD q [] = zv (kd q) then [] else ((q + 1 : Nat) : Int) :: encF (kd q) (L.getD q []) := rfl
      have hzero := field_zero hok hk5
      have hby := field_bytes hlt hok
      have hnum := field_nums hok hk5
      obtain ⟨v, hvv⟩ : ∃ v, v = L.getD q [] := ⟨_, rfl⟩
      rw [← hvv] at x0 hrow hfb hzero hby hnum hok
      have HV := hide hvv
      clear hvv
      have hvl : v.length ≤ 2 := (encF_le hok).2 hk5
      have HFB := hide hfb
      have HZ := hide hzero
      have HBY := hide hby.2
      have hnl := hby.1
      have HNUM := hide hnum
      have ROW := hide hrow
      have d0 : decide ((q : Int) + 1 < 32) = true := by rw [decide_eq_true_eq]; omega
      have HK5 := hide hk5
      clear hfb hzero hby hnum hrow hok hh hv h5 hk5
      go_wp2_with fail
      go_loopw [6, 7] (fun s6 s7 wx => ∃ (i : Nat) (bz : Bool), i ≤ v.length ∧ s7 = .int .i64 i ∧ s6 = .bool bz ∧ Hid (bz = (v.take i).all (· == 0)) ∧ wx = wr) (fun _ s7 _ => v.length - (intOf s7).toNat)
      case atStart => exact ⟨0, true, Nat.zero_le _, rfl, rfl, hide rfl, rfl⟩
      case round =>
        obtain ⟨i, bz, hiv, rfl, rfl, hbz, rfl⟩ := hrel
        by_cases hlt2 : i < v.length
        · obtain ⟨bx, ox, hax, hbx, hcx⟩ := ROW.out.2 (by rw [List.length_map]; omega)
          subst hax
          have y0 := hcx i (by rw [List.length_map]; exact hlt2)
          rw [List.getElem_map] at y0
          have HT := hide (List.take_succ_eq_append_getElem hlt2)
          clear hcx
          generalize v[i] = y at y0 HT
          cases bz with
          | true =>
            have HB : Hid ((y == 0) = (v.take (i + 1)).all (· == 0)) := hide (by rw [HT.out, List.all_append, ← hbz.out]; simp)
            clear hbz HT
            go_wp2_with fail
            go_roundw
            case rel => exact ⟨i + 1, (y == 0), hlt2, by go_num, by first | rfl | simp, HB, trivial⟩
            case measure => simp [intOf]; omega
          | false =>
            have HB : Hid (false = (v.take (i + 1)).all (· == 0)) := hide (by rw [HT.out, List.all_append, ← hbz.out]; rfl)
            clear hbz HT
            go_wp2_with fail
            go_roundw
            case rel => exact ⟨i + 1, false, hlt2, by go_num, rfl, HB, trivial⟩
            case measure => simp [intOf]; omega
        · have dend : decide ((i : Int) < (v.length : Int)) = false := by rw [decide_eq_false_iff_not]; omega
          have hbz2 : bz = decide (v = zv (kd q)) := by rw [hbz.out, List.take_of_length_le (by omega), HZ.out]
          have HBZ := hide hbz2
          have hie : i = v.length := by omega
          clear hbz hbz2 hiv hlt2 dend
          subst hie
          cases bz with
          | true =>
            have HC : Hid (cur = ((List.range (q + 1)).map (fb L)).flatten) := hide (by
              have hv0 : v = zv (kd q) := by have := HBZ.out; simpa using this.symm
              rw [fb_succ, HFB.out, if_pos hv0, List.append_nil]; exact hcur.out)
            clear hcur
            go_wp2_with fail
            go_roundw
            case rel => exact ⟨q + 1, cur, a, cap, hlt, by go_num, rfl, O.out, HC, V.out, TR.out⟩
            case measure => simp [intOf]; omega
          | false =>
            have hv0 : v ≠ zv (kd q) := by have := HBZ.out; simpa using this.symm
            have hw8 : IntKind.u8.wrap ((q : Int) + 1) = (q : Int) + 1 := by simp only [IntKind.wrap, IntKind.bits, IntKind.signed]; simp; omega
            have HC : Hid (((List.range (q + 1)).map (fb L)).flatten = cur ++ (((q : Int) + 1) :: ((v.take (nk (q + 1))).map num).flatten)) := hide (by
              rw [fb_succ, HFB.out, if_neg hv0, ← hcur.out, HBY.out]
              rfl)
            have b8 : Below wr.heap.size wr (wr.alloc (.cells #[.int .u8 ((q : Int) + 1)] 5)) := (Below.refl _ _).alloc (Nat.le_refl _) _
            have O8 := hide (O.out.below b8)
            have V8 := hide (V.out.below b8)
            have T8 := hide (below_call TR.out b8)
            have N8 := hide (Blk.new wr 5 #[.int .u8 ((q : Int) + 1)])
            have hsz8 := T8.out.size
            clear b8 hcur hv0
            go_wp2_with (at_builtin; refine wpList_append_lies _ rfl _ _ 22 rfl W1.heap.size 5 i0 (.int .u8 0) 1 1 Try.underlying22 hi hz0 hz1 hz2 rfl (by decide) (.slice a cur.length cap) cur.length (bys cur) rfl O8.out ⟨wr.heap.size, 0, none⟩ 1 1 [.int .u8 ((q : Int) + 1)] rfl rfl ?c1 ?c2 (by decide) ?c3 ?c4 ?c5 _ rfl ?_)
            case c1 => exact N8.out.news
            case c2 => intro z hz; simp at hz; rcases hz with rfl; rfl
            case c3 => unfold maxLen; omega
            case c4 => omega
            case c5 => exact hsz8
            intro g9 cap9 w9 hown hgrow _ _
            have O9 : Hid (BOwn w9 W1.heap.size (.slice (some ⟨g9, 0, none⟩) (cur.length + 1) cap9) (cur ++ [(q : Int) + 1])) := hide (by
              unfold BOwn
              rw [List.length_append]
              simpa [bys] using hown)
            have V9 := hide (V8.out.grown O8.out hgrow)
            have T9 := hide (below_grown (a := W1) T8.out hgrow (own_ge O8.out))
            clear hown hgrow O8 V8 T8 N8 hsz8 O V TR
            go_wp2_with fail
            go_loopw [3, 8] (fun s3 s8 wy => ∃ (i : Nat) (cu : List Int) (a : Option Addr) (cap : Nat), i ≤ nk (q + 1) ∧ s8 = .int .i64 i ∧ s3 = .slice a cu.length cap ∧ BOwn wy W1.heap.size s3 cu ∧ Hid (cu = cur ++ (((q : Int) + 1) :: ((v.take i).map num).flatten)) ∧ VO wy W1.heap.size (.slice (some ⟨gv, 0, none⟩) 32 cv2) ([] :: L.take 31) ∧ Below W1.heap.size W1 wy) (fun _ s8 _ => nk (q + 1) - (intOf s8).toNat)
            case atStart => exact ⟨0, cur ++ [(q : Int) + 1], some ⟨g9, 0, none⟩, cap9, Nat.zero_le _, rfl, by rw [List.length_append]; rfl, O9.out, hide (by simp), V9.out, T9.out⟩
            case round =>
              clear O9 V9 T9
              obtain ⟨i, cu, a, cap, hi2, rfl, rfl, hO, hcu, hV, hb⟩ := hrel
              have O := hide hO
              have V := hide hV
              have TR := hide hb
              clear hO hV hb
              have hnum : Calls Try.prog 62 #[.int .i64 ((q : Int) + 1)] wr fun r w' => r = .returned (.int .i64 (nk (q + 1) : Nat)) ∧ w' = wr := by
                rw [show ((q : Int) + 1) = ((q + 1 : Nat) : Int) from by omega]
                refine (numbers_any (q + 1) (by omega) wr).mono ?_
                rintro r w' ⟨rfl, rfl⟩
                refine ⟨?_, rfl⟩
                congr 2
                unfold nk
                split
                · rfl
                · split <;> rfl
              have NUM := hide hnum
              clear hnum
              have hcul : cu.length ≤ 20001100 := by
                rw [hcu.out, List.length_append, List.length_cons]
                have h1 : ((v.take i).map num).flatten.length ≤ 9 * (v.take i).length := adv_le (fun a ha => HNUM.out a (List.mem_of_mem_take ha))
                have h2 : (v.take i).length ≤ 2 := by rw [List.length_take]; omega
                omega
              by_cases hlt3 : i < nk (q + 1)
              · have hiv : i < v.length := by omega
                obtain ⟨hh, hv⟩ := lv_get HLEN.out hlt
                obtain ⟨gv', _, ax, cx, e', x0, hrow⟩ := V.out.at_ hh
                simp only [Value.slice.injEq, Option.some.injEq, Addr.mk.injEq, and_true] at e'
                obtain ⟨e1', e32, e3'⟩ := e'
                subst e1' e3'
                clear e32
                have hvq : v = L.getD q [] := HV.out
                rw [hv, ← hvq] at x0 hrow
                clear hvq hv
                obtain ⟨bx, ox, hax, hbx, hcx⟩ := hrow.2 (by rw [List.length_map]; omega)
                subst hax
                have y0 := hcx i (by rw [List.length_map]; exact hiv)
                rw [List.getElem_map] at y0
                have HT := hide (List.take_succ_eq_append_getElem hiv)
                have hy := HNUM.out _ (List.getElem_mem hiv)
                clear hcx hrow hh
                generalize v[i] = y at y0 HT hy
                have HY := hide hy
                have hnl9 : (num y).length ≤ 9 := (num_len hy).1
                have dlt : decide ((i : Int) < ((nk (q + 1) : Nat) : Int)) = true := by rw [decide_eq_true_eq]; omega
                clear hy
                go_wp2_with fail
                refine NUM.out.mono ?_
                rintro r w' ⟨rfl, rfl⟩
                go_wp2_with fail
                refine (rnumber_any y w' HY.out).mono ?_
                rintro r wN ⟨vN, rfl, ON, kN⟩
                obtain ⟨aN, cN, rfl, _, _, rN⟩ := ON.row
                have rN := hide rN
                have O2 := hide (O.out.below kN)
                have V2 := hide (V.out.below kN)
                have T2 := hide (below_call TR.out kN)
                have hsz2 := T2.out.size
                obtain ⟨nn, hnn⟩ : ∃ nn, nn = num y := ⟨_, rfl⟩
                rw [← hnn] at rN hnl9 ⊢
                have HNN := hide hnn
                clear hnn kN ON O V TR NUM x0 y0 dlt
                go_wp2_with (at_builtin; refine wpList_append_row rfl _ _ 22 rfl W1.heap.size 5 i0 (.int .u8 0) 1 Try.underlying22 hi hz0 hz1 hz2 rfl (.slice a cu.length cap) cu.length (bys cu) rfl O2.out aN nn.length cN (bys nn) rfl rN.out (bys_len nn) (bys_one nn) ?c1a ?c2a ?c3a ?_)
                case c1a => unfold maxLen; omega
                case c2a => omega
                case c3a => exact hsz2
                intro v9 w9 hown hgrow _
                have O9 : BOwn w9 W1.heap.size v9 (cu ++ nn) := by
                  unfold BOwn
                  rw [List.length_append]
                  simpa [bys] using hown
                obtain ⟨a9, cap9, rfl, _, _, _⟩ := O9.row
                have V9 := hide (V2.out.grown O2.out hgrow)
                have T9 := hide (below_grown (a := W1) T2.out hgrow (own_ge O2.out))
                have O9 := hide O9
                have HC2 : Hid (cu ++ nn = cur ++ (((q : Int) + 1) :: ((v.take (i + 1)).map num).flatten)) := hide (by
                  rw [HT.out, hcu.out, HNN.out, List.map_append, List.flatten_append]
                  simp)
                clear hown hgrow O2 V2 T2 rN hsz2 hcu
                go_wp2_with fail
                go_roundw
                case rel => exact ⟨i + 1, cu ++ nn, a9, cap9, hlt3, by go_num, rfl, O9.out, HC2, V9.out, T9.out⟩
                case measure => simp [intOf]; omega
              · have hie : i = nk (q + 1) := by omega
                subst hie
                have HC3 : Hid (cu = ((List.range (q + 1)).map (fb L)).flatten) := hide (by rw [hcu.out, HC.out])
                clear hcu
                go_wp2_with fail
                refine NUM.out.mono ?_
                rintro r w' ⟨rfl, rfl⟩
                go_wp2_with fail
                go_roundw
                case rel => exact ⟨q + 1, cu, a, cap, hlt, by go_num, rfl, O.out, HC3, V.out, TR.out⟩
                case measure => simp [intOf]; omega
    · have dend2 : decide ((q : Int) + 1 < 32) = false := by rw [decide_eq_false_iff_not]; omega
      have HQ : Hid (cur = ((List.range 31).map (fb L)).flatten) := hide (by rw [hcur.out, show q = 31 from by omega])
      have x42 : wr.cell? ⟨ga, 42, none⟩ = some (.slice ua us.length uc) := (TR.out.cell (p := ⟨ga, 42, none⟩) hga1).trans (BA.out.cell 42)
      clear hcur hlt hq
      by_cases hus0 : us = []
      · have HW : Hid (cur ++ [0] = wrF KD 1 L) := hide (by
          rw [wrF_eq HL.out, fb_succ, ← HQ.out]
          have : fb L 31 = [] := by
            have h1 : L.getD 31 [] = zv (kd 31) := by rw [← HUS.out, hus0]; rfl
            unfold fb
            rw [if_pos h1]
          rw [this, List.append_nil])
        have hul0 : us.length = 0 := by rw [hus0]; rfl
        have d3 : decide (0 < (us.length : Int)) = false := by rw [decide_eq_false_iff_not]; omega
        have d3' : decide (0 < us.length) = false := by rw [decide_eq_false_iff_not]; omega
        clear hus0 hul0
        have b8 : Below wr.heap.size wr (wr.alloc (.cells #[.int .u8 (0 : Int)] 5)) := (Below.refl _ _).alloc (Nat.le_refl _) _
        have O8 := hide (O.out.below b8)
        have T8 := hide (below_call TR.out b8)
        have N8 := hide (Blk.new wr 5 #[.int .u8 (0 : Int)])
        have hsz8 := T8.out.size
        clear b8
        go_wp2_with (at_builtin; refine wpList_append_lies _ rfl _ _ 22 rfl W1.heap.size 5 i0 (.int .u8 0) 1 1 Try.underlying22 hi hz0 hz1 hz2 rfl (by decide) (.slice a cur.length cap) cur.length (bys cur) rfl O8.out ⟨wr.heap.size, 0, none⟩ 1 1 [.int .u8 (0 : Int)] rfl rfl ?c1 ?c2 (by decide) ?c3 ?c4 ?c5 _ rfl ?_)
        case c1 => exact N8.out.news
        case c2 => intro z hz; simp at hz; rcases hz with rfl; rfl
        case c3 => unfold maxLen; omega
        case c4 => omega
        case c5 => exact hsz8
        intro g9 cap9 w9 hown hgrow _ _
        have O9 : Hid (BOwn w9 W1.heap.size (.slice (some ⟨g9, 0, none⟩) (cur.length + 1) cap9) (cur ++ [(0 : Int)])) := hide (by
          unfold BOwn
          rw [List.length_append]
          simpa [bys] using hown)
        have T9 := hide (below_grown (a := W1) T8.out hgrow (own_ge O8.out))
        clear hown hgrow O8 T8 N8 hsz8 O TR
        go_wp2_with fail
        go_returns
        refine ⟨_, rfl, ?_, K1.out.trans (T9.out.mono hgaB)⟩
        rw [← HW.out]
        have := O9.out
        unfold BOwn at this ⊢
        rw [List.length_append] at this ⊢
        exact own_mono this hgaB
      · have hup : 0 < us.length := List.length_pos_iff.2 hus0
        have d3 : decide (0 < (us.length : Int)) = true := by rw [decide_eq_true_eq]; omega
        have HW : Hid (wrF KD 1 L = cur ++ ((32 : Int) :: (num us.length ++ uBytes us)) ++ [0]) := hide (by
          rw [wrF_eq HL.out, fb_succ, ← HQ.out]
          have : fb L 31 = (32 : Int) :: (num us.length ++ uBytes us) := by
            have h1 : L.getD 31 [] ≠ zv (kd 31) := by rw [← HUS.out]; exact hus0
            unfold fb
            rw [if_neg h1, ← HUS.out]
            rfl
          rw [this])
        have d3' : decide (0 < us.length) = true := by rw [decide_eq_true_eq]; omega
        clear hus0
        have b8 : Below wr.heap.size wr (wr.alloc (.cells #[.int .u8 (32 : Int)] 5)) := (Below.refl _ _).alloc (Nat.le_refl _) _
        have O8 := hide (O.out.below b8)
        have T8 := hide (below_call TR.out b8)
        have N8 := hide (Blk.new wr 5 #[.int .u8 (32 : Int)])
        have hsz8 := T8.out.size
        clear b8
        go_wp2_with (at_builtin; refine wpList_append_lies _ rfl _ _ 22 rfl W1.heap.size 5 i0 (.int .u8 0) 1 1 Try.underlying22 hi hz0 hz1 hz2 rfl (by decide) (.slice a cur.length cap) cur.length (bys cur) rfl O8.out ⟨wr.heap.size, 0, none⟩ 1 1 [.int .u8 (32 : Int)] rfl rfl ?c1 ?c2 (by decide) ?c3 ?c4 ?c5 _ rfl ?_)
        case c1 => exact N8.out.news
        case c2 => intro z hz; simp at hz; rcases hz with rfl; rfl
        case c3 => unfold maxLen; omega
        case c4 => omega
        case c5 => exact hsz8
        intro g9 cap9 w9 hown hgrow _ _
        have O9 : Hid (BOwn w9 W1.heap.size (.slice (some ⟨g9, 0, none⟩) (cur.length + 1) cap9) (cur ++ [(32 : Int)])) := hide (by
          unfold BOwn
          rw [List.length_append]
          simpa [bys] using hown)
        have T9 := hide (below_grown (a := W1) T8.out hgrow (own_ge O8.out))
        clear hown hgrow O8 T8 N8 hsz8 O TR
        have x42 : w9.cell? ⟨ga, 42, none⟩ = some (.slice ua us.length uc) := (T9.out.cell (p := ⟨ga, 42, none⟩) hga1).trans (BA.out.cell 42)
        go_wp2_with fail
        refine (rnumber_any us.length w9 ⟨by omega, by omega⟩).mono ?_
        rintro r wN ⟨vN, rfl, ON, kN⟩
        obtain ⟨aN, cN, rfl, _, _, rN⟩ := ON.row
        have rN := hide rN
        have O2 := hide (O9.out.below kN)
        have T2 := hide (below_call T9.out kN)
        have hsz2 := T2.out.size
        have hnl9 : (num (us.length : Int)).length ≤ 9 := (num_len ⟨by omega, by omega⟩).1
        obtain ⟨nn, hnn⟩ : ∃ nn, nn = num (us.length : Int) := ⟨_, rfl⟩
        rw [← hnn] at rN hnl9 HW ⊢
        clear hnn kN ON O9 T9 x42
        have O2n : Hid (wN.ownsRow W1.heap.size 5 1 (.slice (some ⟨g9, 0, none⟩) (cur.length + 1) cap9) (cur.length + 1) (bys (cur ++ [32]))) := hide (by
          have := O2.out
          unfold BOwn at this
          rw [List.length_append] at this
          exact this)
        go_wp2_with (at_builtin; refine wpList_append_row rfl _ _ 22 rfl W1.heap.size 5 i0 (.int .u8 0) 1 Try.underlying22 hi hz0 hz1 hz2 rfl (.slice (some ⟨g9, 0, none⟩) (cur.length + 1) cap9) (cur.length + 1) (bys (cur ++ [32])) rfl O2n.out aN nn.length cN (bys nn) rfl rN.out (bys_len nn) (bys_one nn) ?c1a ?c2a ?c3a ?_)
        case c1a => unfold maxLen; omega
        case c2a => omega
        case c3a => exact hsz2
        intro v3 w3 hown hgrow _
        obtain ⟨c2, hc2⟩ : ∃ c2, c2 = cur ++ [32] ++ nn := ⟨_, rfl⟩
        have O3 : BOwn w3 W1.heap.size v3 c2 := by
          rw [hc2]
          unfold BOwn
          rw [List.length_append, List.length_append]
          simpa [bys] using hown
        have hc2l : c2.length ≤ 20002000 := by rw [hc2, List.length_append, List.length_append]; simp; omega
        obtain ⟨a3, cap3, rfl, _, _, _⟩ := O3.row
        have T3 := hide (below_grown (a := W1) T2.out hgrow (own_ge O2n.out))
        have O3 := hide O3
        have HC2 := hide hc2
        clear hown hgrow O2 O2n T2 rN hsz2 hc2
        go_wp2_with fail
        go_loopw [3, 9] (fun s3 s9 wr => ∃ (i : Nat) (cu : List Int) (a : Option Addr) (cap : Nat), i ≤ us.length ∧ s9 = .int .i64 i ∧ s3 = .slice a cu.length cap ∧ BOwn wr W1.heap.size s3 cu ∧ Hid (cu = c2 ++ uBytes (us.take i)) ∧ Below W1.heap.size W1 wr) (fun _ s9 _ => us.length - (intOf s9).toNat)
        case atStart => exact ⟨0, c2, a3, cap3, Nat.zero_le _, rfl, rfl, O3.out, hide (by simp [uBytes]), T3.out⟩
        case round =>
          clear O3 T3
          obtain ⟨i, cu, a, cap, hiu, rfl, rfl, hO, hcu, hb⟩ := hrel
          have O := hide hO
          have TR := hide hb
          clear hO hb
          have hcul : cu.length ≤ 40003000 := by
            rw [hcu.out, List.length_append, uBytes_len, List.length_take]; omega
          have x42 : wr.cell? ⟨ga, 42, none⟩ = some (.slice ua us.length uc) := (TR.out.cell (p := ⟨ga, 42, none⟩) hga1).trans (BA.out.cell 42)
          by_cases hlt : i < us.length
          · obtain ⟨ub, uo, hua, hub, hcu2⟩ := UR1.out.2 (by rw [List.length_map]; omega)
            subst hua
            have y0 := hcu2 i (by rw [List.length_map]; exact hlt)
            rw [List.getElem_map] at y0
            have y1 := y0
            have y0 : wr.cell? ⟨ub, uo + i, none⟩ = some (.int .u16 us[i]) := (TR.out.cell (p := ⟨ub, uo + i, none⟩) hub).trans y1
            have hok5 := okS_at HL.out 31 (by decide)
            change okF 5 _ at hok5
            rw [← HUS.out] at hok5
            obtain ⟨u1, u2⟩ := hok5.1 _ (List.getElem_mem hlt)
            have HT := hide (uBytes_take hlt)
            clear hcu2 hok5
            generalize us[i] = u at y0 y1 u1 u2 HT
            have HSO : Hid (∀ w' : World, Below W1.heap.size W1 w' → w'.cell? ⟨ga, 42, none⟩ = some (.slice (some ⟨ub, uo, none⟩) us.length uc) ∧ w'.cell? ⟨ub, uo + i, none⟩ = some (.int .u16 u)) := hide (fun w' hb => ⟨(hb.cell (p := ⟨ga, 42, none⟩) hga1).trans (BA.out.cell 42), (hb.cell (p := ⟨ub, uo + i, none⟩) hub).trans y1⟩)
            clear y1
            have hw2 : IntKind.u8.wrap u = u % 256 := wrap_u8 ⟨u1, u2⟩
            have HCN : Hid (cu ++ [u / 256, u % 256] = c2 ++ uBytes (us.take (i + 1))) := hide (by rw [HT.out, hcu.out, List.append_assoc]; rfl)
            have dlt : decide ((i : Int) < (us.length : Int)) = true := by rw [decide_eq_true_eq]; omega
            clear hcu HT
            go_upto_region 23 with fail
            have Z0 : ∀ w' : World, (w'.cell? ⟨ga, 42, none⟩ = some (.slice (some ⟨ub, uo, none⟩) us.length uc) ∧ w'.cell? ⟨ub, uo + i, none⟩ = some (.int .u16 u)) → w'.cell? ⟨ga, 42, none⟩ = some (.slice (some ⟨ub, uo, none⟩) us.length uc) := fun w' h => h.1
            have Z1 : ∀ w' : World, (w'.cell? ⟨ga, 42, none⟩ = some (.slice (some ⟨ub, uo, none⟩) us.length uc) ∧ w'.cell? ⟨ub, uo + i, none⟩ = some (.int .u16 u)) → w'.cell? ⟨ub, uo + i, none⟩ = some (.int .u16 u) := fun w' h => h.2
            refine Hold.begin_ 17 (by kernel_rfl) rfl (fun w' : World => w'.cell? ⟨ga, 42, none⟩ = some (.slice (some ⟨ub, uo, none⟩) us.length uc) ∧ w'.cell? ⟨ub, uo + i, none⟩ = some (.int .u16 u)) ?_ ⟨x42, y0⟩
            intro hS
            refine Hold.take (i := 0) (v := ?_) rfl (by kernel_rfl) (fun _ _ _ h => h) rfl ?_ hS ?_
            rotate_left
            · intro w' hS; have z0_ := Z0 _ hS; have z1_ := Z1 _ hS; go_simp; (try go_bits); (first | rfl | rw [if_pos (by omega)])
            simp only [Act.put, List.getElem_toArray, List.getElem_cons_zero, List.getElem_cons_succ, List.setIfInBounds_toArray, List.set_cons_zero, List.set_cons_succ]
            refine Hold.take (i := 1) (v := ?_) rfl (by kernel_rfl) (fun _ _ _ h => h) rfl ?_ hS ?_
            rotate_left
            · intro w' hS; have z0_ := Z0 _ hS; have z1_ := Z1 _ hS; go_simp; (try go_bits); (first | rfl | rw [if_pos (by omega)])
            simp only [Act.put, List.getElem_toArray, List.getElem_cons_zero, List.getElem_cons_succ, List.setIfInBounds_toArray, List.set_cons_zero, List.set_cons_succ]
            refine Hold.take (i := 2) (v := ?_) rfl (by kernel_rfl) (fun _ _ _ h => h) rfl ?_ hS ?_
            rotate_left
            · intro w' hS; have z0_ := Z0 _ hS; have z1_ := Z1 _ hS; go_simp; (try go_bits); (first | rfl | rw [if_pos (by omega)])
            simp only [Act.put, List.getElem_toArray, List.getElem_cons_zero, List.getElem_cons_succ, List.setIfInBounds_toArray, List.set_cons_zero, List.set_cons_succ]
            refine Hold.take (i := 3) (v := ?_) rfl (by kernel_rfl) (fun _ _ _ h => h) rfl ?_ hS ?_
            rotate_left
            · intro w' hS; have z0_ := Z0 _ hS; have z1_ := Z1 _ hS; go_simp; (try go_bits); (first | rfl | rw [if_pos (by omega)])
            simp only [Act.put, List.getElem_toArray, List.getElem_cons_zero, List.getElem_cons_succ, List.setIfInBounds_toArray, List.set_cons_zero, List.set_cons_succ]
            refine Hold.take (i := 4) (v := ?_) rfl (by kernel_rfl) (fun _ _ _ h => h) rfl ?_ hS ?_
            rotate_left
            · intro w' hS; have z0_ := Z0 _ hS; have z1_ := Z1 _ hS; go_simp; (try go_bits); (first | rfl | rw [if_pos (by omega)])
            simp only [Act.put, List.getElem_toArray, List.getElem_cons_zero, List.getElem_cons_succ, List.setIfInBounds_toArray, List.set_cons_zero, List.set_cons_succ]
            refine Hold.take (i := 5) (v := ?_) rfl (by kernel_rfl) (fun _ _ _ h => h) rfl ?_ hS ?_
            rotate_left
            · intro w' hS; have z0_ := Z0 _ hS; have z1_ := Z1 _ hS; go_simp; (try go_bits); (first | rfl | rw [if_pos (by omega)])
            simp only [Act.put, List.getElem_toArray, List.getElem_cons_zero, List.getElem_cons_succ, List.setIfInBounds_toArray, List.set_cons_zero, List.set_cons_succ]
            refine Hold.take (i := 6) (v := ?_) rfl (by kernel_rfl) (fun _ _ _ h => h) rfl ?_ hS ?_
            rotate_left
            · intro w' hS; have z0_ := Z0 _ hS; have z1_ := Z1 _ hS; go_simp; (try go_bits); (first | rfl | rw [if_pos (by omega)])
            simp only [Act.put, List.getElem_toArray, List.getElem_cons_zero, List.getElem_cons_succ, List.setIfInBounds_toArray, List.set_cons_zero, List.set_cons_succ]
            refine Hold.take (i := 7) (v := ?_) rfl (by kernel_rfl) (fun _ _ _ h => h) rfl ?_ hS ?_
            rotate_left
            · intro w' hS; have z0_ := Z0 _ hS; have z1_ := Z1 _ hS; go_simp; (try go_bits); (first | rfl | rw [if_pos (by omega)])
            simp only [Act.put, List.getElem_toArray, List.getElem_cons_zero, List.getElem_cons_succ, List.setIfInBounds_toArray, List.set_cons_zero, List.set_cons_succ]
            refine Hold.take (i := 8) (v := ?_) rfl (by kernel_rfl) (fun _ _ _ h => h) rfl ?_ hS ?_
            rotate_left
            · intro w' hS; have z0_ := Z0 _ hS; have z1_ := Z1 _ hS; go_simp; (try go_bits); (first | rfl | rw [if_pos (by omega)])
            simp only [Act.put, List.getElem_toArray, List.getElem_cons_zero, List.getElem_cons_succ, List.setIfInBounds_toArray, List.set_cons_zero, List.set_cons_succ]
            refine Hold.take (i := 9) (v := ?_) rfl (by kernel_rfl) (fun _ _ _ h => h) rfl ?_ hS ?_
            rotate_left
            · intro w' hS; have z0_ := Z0 _ hS; have z1_ := Z1 _ hS; go_simp; (try go_bits); (first | rfl | rw [if_pos (by omega)])
            simp only [Act.put, List.getElem_toArray, List.getElem_cons_zero, List.getElem_cons_succ, List.setIfInBounds_toArray, List.set_cons_zero, List.set_cons_succ]
            refine Hold.take (i := 10) (v := ?_) rfl (by kernel_rfl) (fun _ _ _ h => h) rfl ?_ hS ?_
            rotate_left
            · intro w' hS; have z0_ := Z0 _ hS; have z1_ := Z1 _ hS; go_simp; (try go_bits); (first | rfl | rw [if_pos (by omega)])
            simp only [Act.put, List.getElem_toArray, List.getElem_cons_zero, List.getElem_cons_succ, List.setIfInBounds_toArray, List.set_cons_zero, List.set_cons_succ]
            refine Hold.take (i := 11) (v := ?_) rfl (by kernel_rfl) (fun _ _ _ h => h) rfl ?_ hS ?_
            rotate_left
            · intro w' hS; have z0_ := Z0 _ hS; have z1_ := Z1 _ hS; go_simp; (try go_bits); (first | rfl | rw [if_pos (by omega)])
            simp only [Act.put, List.getElem_toArray, List.getElem_cons_zero, List.getElem_cons_succ, List.setIfInBounds_toArray, List.set_cons_zero, List.set_cons_succ]
            refine Hold.take (i := 12) (v := ?_) rfl (by kernel_rfl) (fun _ _ _ h => h) rfl ?_ hS ?_
            rotate_left
            · intro w' hS; have z0_ := Z0 _ hS; have z1_ := Z1 _ hS; go_simp; (try go_bits); (first | rfl | rw [if_pos (by omega)])
            simp only [Act.put, List.getElem_toArray, List.getElem_cons_zero, List.getElem_cons_succ, List.setIfInBounds_toArray, List.set_cons_zero, List.set_cons_succ]
            refine Hold.take (i := 13) (v := ?_) rfl (by kernel_rfl) (fun _ _ _ h => h) rfl ?_ hS ?_
            rotate_left
            · intro w' hS; have z0_ := Z0 _ hS; have z1_ := Z1 _ hS; go_simp; (try go_bits); (first | rfl | rw [if_pos (by omega)])
            simp only [Act.put, List.getElem_toArray, List.getElem_cons_zero, List.getElem_cons_succ, List.setIfInBounds_toArray, List.set_cons_zero, List.set_cons_succ]
            obtain ⟨wd, hwd⟩ : ∃ wd, wd = wr.drew := ⟨_, rfl⟩
            have TD : Hid (Below W1.heap.size W1 wd) := hide (by rw [hwd]; exact TR.out.drew)
            have OD : Hid (BOwn wd W1.heap.size (.slice a cu.length cap) cu) := hide (by rw [hwd]; exact O.out.below (Below.refl _ _).drew)
            rw [← hwd] at hS ⊢
            clear hwd O TR Z0 Z1
            have b8 : Below wd.heap.size wd (wd.alloc (.cells #[.int .u8 (u / 256), .int .u8 (u % 256)] 5)) := (Below.refl _ _).alloc (Nat.le_refl _) _
            have T8 := hide (below_call TD.out b8)
            have O8 := hide (OD.out.below b8)
            have N8 := hide (Blk.new wd 5 #[.int .u8 (u / 256), .int .u8 (u % 256)])
            have hsz8 := T8.out.size
            clear b8
            refine Hold.one (i := 14) (by kernel_rfl) ?_
            refine Hold.run (w' := wd.alloc (.cells #[.int .u8 (u / 256), .int .u8 (u % 256)] 5)) rfl rfl (by go_simp; first | rfl | exact ⟨rfl, rfl⟩) ?_
            refine ⟨HSO.out _ T8.out, ?_⟩
            simp only [Act.put, List.getElem_toArray, List.getElem_cons_zero, List.getElem_cons_succ, List.setIfInBounds_toArray, List.set_cons_zero, List.set_cons_succ]
            refine Hold.one (i := 15) (by kernel_rfl) ?_
            refine Hold.list1 rfl rfl ?_
            refine wpList_append_lies _ rfl _ _ 22 rfl W1.heap.size 5 i0 (.int .u8 0) 1 1 Try.underlying22 hi hz0 hz1 hz2 rfl (by decide) (.slice a cu.length cap) cu.length (bys cu) rfl O8.out ⟨wd.heap.size, 0, none⟩ 2 2 [.int .u8 (u / 256), .int .u8 (u % 256)] rfl rfl ?c1 ?c2 (by decide) ?c3 ?c4 ?c5 _ rfl ?_
            case c1 => exact N8.out.news
            case c2 => intro z hz; simp at hz; rcases hz with rfl | rfl <;> rfl
            case c3 => unfold maxLen; omega
            case c4 => omega
            case c5 => exact hsz8
            intro g2 cap2 w9 hown hgrow _ _
            have O9 : Hid (BOwn w9 W1.heap.size (.slice (some ⟨g2, 0, none⟩) (cu.length + 2) cap2) (cu ++ [u / 256, u % 256])) := hide (by
              unfold BOwn
              rw [List.length_append]
              simpa [bys] using hown)
            have T9 := hide (below_grown (a := W1) T8.out hgrow (own_ge O8.out))
            show _ ∧ _
            refine ⟨HSO.out _ T9.out, ?_⟩
            simp only [Act.put, List.getElem_toArray, List.getElem_cons_zero, List.getElem_cons_succ, List.setIfInBounds_toArray, List.set_cons_zero, List.set_cons_succ]
            clear hown hgrow O8 T8 N8 OD TD hS hsz8
            have hS := HSO.out _ T9.out
            refine Hold.one (i := 16) (by kernel_rfl) ?_
            refine Hold.run (w' := w9) rfl rfl (by go_simp; first | rfl | exact ⟨rfl, rfl⟩) ?_
            refine ⟨hS, ?_⟩
            simp only [Act.put, List.getElem_toArray, List.getElem_cons_zero, List.getElem_cons_succ, List.setIfInBounds_toArray, List.set_cons_zero, List.set_cons_succ]
            refine Hold.done (by kernel_rfl) ?_
            clear hS x42 y0
            generalize wd.heap.size = gz
            go_wp2_with fail
            go_roundw
            case rel => exact ⟨i + 1, cu ++ [u / 256, u % 256], some ⟨g2, 0, none⟩, cap2, hlt, by go_num, by rw [List.length_append]; rfl, O9.out, HCN, T9.out⟩
            case measure => simp [intOf]; omega
          · have hie : i = us.length := by omega
            subst hie
            have HF : Hid (wrF KD 1 L = cu ++ [0]) := hide (by
              rw [HW.out, hcu.out, List.take_length, HC2.out]
              simp)
            clear hcu
            have b8 : Below wr.heap.size wr (wr.alloc (.cells #[.int .u8 (0 : Int)] 5)) := (Below.refl _ _).alloc (Nat.le_refl _) _
            have O8 := hide (O.out.below b8)
            have T8 := hide (below_call TR.out b8)
            have N8 := hide (Blk.new wr 5 #[.int .u8 (0 : Int)])
            have hsz8 := T8.out.size
            clear b8
            go_wp2_with (at_builtin; refine wpList_append_lies _ rfl _ _ 22 rfl W1.heap.size 5 i0 (.int .u8 0) 1 1 Try.underlying22 hi hz0 hz1 hz2 rfl (by decide) (.slice a cu.length cap) cu.length (bys cu) rfl O8.out ⟨wr.heap.size, 0, none⟩ 1 1 [.int .u8 (0 : Int)] rfl rfl ?c1 ?c2 (by decide) ?c3 ?c4 ?c5 _ rfl ?_)
            case c1 => exact N8.out.news
            case c2 => intro z hz; simp at hz; rcases hz with rfl; rfl
            case c3 => unfold maxLen; omega
            case c4 => omega
            case c5 => exact hsz8
            intro g9 cap9 w9 hown hgrow _ _
            have O9 : Hid (BOwn w9 W1.heap.size (.slice (some ⟨g9, 0, none⟩) (cu.length + 1) cap9) (cu ++ [(0 : Int)])) := hide (by
              unfold BOwn
              rw [List.length_append]
              simpa [bys] using hown)
            have T9 := hide (below_grown (a := W1) T8.out hgrow (own_ge O8.out))
            clear hown hgrow O8 T8 N8 hsz8 O TR
            go_wp2_with fail
            go_returns
            refine ⟨_, rfl, ?_, K1.out.trans (T9.out.mono hgaB)⟩
            rw [HF.out]
            have := O9.out
            unfold BOwn at this ⊢
            rw [List.length_append] at this ⊢
            exact own_mono this hgaB
/-- One more row of bytes behind: $1 its name, $2 cur, $3 the world after the call that made it. -/
theorem pre_le {p s t : List Int} {n : Nat} (h : (p ++ s ++ t).length ≤ n) : (p ++ s).length ≤ n := by rw [List.length_append] at h; omega
set_option maxRecDepth 100000 in
set_option maxHeartbeats 4000000 in
theorem rwrite_any (v : Value) (T : Tr) (w : World) (hv : TrV w v T) (hsz : (wrT T).length ≤ 10000000) :
    Calls Try.prog 19 #[v] w fun r w' => ∃ v', r = .returned v' ∧ BOwn w' w.heap.size v' (wrT T) ∧ Below w.heap.size w w' := by
  obtain ⟨i0, hi, hz0, hz1, hz2⟩ := info_parts info5
  have sT := SzT.of_wr (by obtain ⟨_, _, _, _, _, _, _, h, _⟩ := hv; exact h) hsz
  obtain ⟨na, nc, aa, ac, rfl, hn, ha, hok, _⟩ := hv
  obtain ⟨view, adv, nodes⟩ := T
  obtain ⟨ok1, ok2, ok3, ok4, ok5⟩ := hok
  obtain ⟨s1, s2, s3⟩ := sT
  dsimp only at hn ha ok1 ok2 ok3 ok4 ok5 s1 s2 s3 ⊢
  obtain ⟨W1, hW1⟩ : ∃ W1, W1 = w.alloc (.cells #[.slice na nodes.length nc, .slice aa adv.length ac, .int .i64 view] 35) := ⟨_, rfl⟩
  obtain ⟨ga, hga⟩ : ∃ ga, ga = w.heap.size := ⟨_, rfl⟩
  have k1 : Below w.heap.size w W1 := by rw [hW1]; exact (Below.refl _ _).alloc (Nat.le_refl _) _
  have BA : Blk W1 ga 35 #[.slice na nodes.length nc, .slice aa adv.length ac, .int .i64 view] := by rw [hW1, hga]; exact Blk.new w _ _
  have hgaB : ga ≤ W1.heap.size := by rw [hga]; exact k1.size
  have K1 : Hid (Below ga w W1) := hide (hga ▸ k1)
  have N1 := hide (hn.below k1)
  have A1 := hide (ha.below k1)
  have HW1 := hide hW1
  have HGA := hide hga
  have OK1 := hide ok1
  have OK2 := hide ok2
  have OK4 := hide ok4
  have HSZ := hide hsz
  have BA := hide BA
  have hga1 : ga < W1.heap.size := BA.out.lt
  clear hn ha hW1 k1 hga ok1 ok2 ok4 hsz
  rw [← HGA.out]
  go_enter Try.func19, Try.ntmps19
  go_upto_region 1 with fail
  rw [← HW1.out, ← HGA.out]
  have C0 := keepc (p := ⟨ga, 0, none⟩) hga1 (BA.out.cell 0)
  have C1 := keepc (p := ⟨ga, 1, none⟩) hga1 (BA.out.cell 1)
  have C2 := keepc (p := ⟨ga, 2, none⟩) hga1 (BA.out.cell 2)
  refine Hold.begin_ 9 (by kernel_rfl) rfl (fun w' => Below W1.heap.size W1 w') ?_ (Below.refl _ _).drew
  intro hS
  refine Hold.take (i := 0) (v := ?_) rfl (by kernel_rfl) (fun _ _ _ h => h) rfl ?_ hS ?_
  rotate_left
  · intro w' hS; have z0_ := C0 _ hS; have z1_ := C1 _ hS; have z2_ := C2 _ hS; go_simp; (try go_bits); (first | rfl | rw [if_pos (by omega)])
  simp only [Act.put, List.getElem_toArray, List.getElem_cons_zero, List.getElem_cons_succ, List.setIfInBounds_toArray, List.set_cons_zero, List.set_cons_succ]
  refine Hold.take (i := 1) (v := ?_) rfl (by kernel_rfl) (fun _ _ _ h => h) rfl ?_ hS ?_
  rotate_left
  · intro w' hS; have z0_ := C0 _ hS; have z1_ := C1 _ hS; have z2_ := C2 _ hS; go_simp; (try go_bits); (first | rfl | rw [if_pos (by omega)])
  simp only [Act.put, List.getElem_toArray, List.getElem_cons_zero, List.getElem_cons_succ, List.setIfInBounds_toArray, List.set_cons_zero, List.set_cons_succ]
  refine Hold.take (i := 3) (v := ?_) rfl (by kernel_rfl) (fun _ _ _ h => h) rfl ?_ hS ?_
  rotate_left
  · intro w' hS; have z0_ := C0 _ hS; have z1_ := C1 _ hS; have z2_ := C2 _ hS; go_simp; (try go_bits); (first | rfl | rw [if_pos (by omega)])
  simp only [Act.put, List.getElem_toArray, List.getElem_cons_zero, List.getElem_cons_succ, List.setIfInBounds_toArray, List.set_cons_zero, List.set_cons_succ]
  refine Hold.take (i := 4) (v := ?_) rfl (by kernel_rfl) (fun _ _ _ h => h) rfl ?_ hS ?_
  rotate_left
  · intro w' hS; have z0_ := C0 _ hS; have z1_ := C1 _ hS; have z2_ := C2 _ hS; go_simp; (try go_bits); (first | rfl | rw [if_pos (by omega)])
  simp only [Act.put, List.getElem_toArray, List.getElem_cons_zero, List.getElem_cons_succ, List.setIfInBounds_toArray, List.set_cons_zero, List.set_cons_succ]
  refine Hold.take (i := 5) (v := ?_) rfl (by kernel_rfl) (fun _ _ _ h => h) rfl ?_ hS ?_
  rotate_left
  · intro w' hS; have z0_ := C0 _ hS; have z1_ := C1 _ hS; have z2_ := C2 _ hS; go_simp; (try go_bits); (first | rfl | rw [if_pos (by omega)])
  simp only [Act.put, List.getElem_toArray, List.getElem_cons_zero, List.getElem_cons_succ, List.setIfInBounds_toArray, List.set_cons_zero, List.set_cons_succ]
  refine Hold.one (i := 2) (by kernel_rfl) ?_
  refine Hold.call rfl rfl (by go_simp; exact ⟨rfl, rfl⟩) ?_
  refine (rnumber_any view W1.drew OK1.out).mono ?_
  rintro r w2 ⟨v2, rfl, O2, k2⟩
  have t2 : Below W1.heap.size W1 w2 := below_call (Below.refl _ _).drew k2
  refine ⟨_, rfl, t2, ?_⟩
  simp only [Act.put, List.getElem_toArray, List.getElem_cons_zero, List.getElem_cons_succ, List.setIfInBounds_toArray, List.set_cons_zero, List.set_cons_succ]
  refine Hold.one (i := 6) (by kernel_rfl) ?_
  refine Hold.call rfl rfl (by go_simp; exact ⟨rfl, rfl⟩) ?_
  refine (rnumber_any adv.length w2 ⟨by omega, by omega⟩).mono ?_
  rintro r w3 ⟨v3, rfl, O3, k3⟩
  have t3 : Below W1.heap.size W1 w3 := below_call t2 k3
  refine ⟨_, rfl, t3, ?_⟩
  simp only [Act.put, List.getElem_toArray, List.getElem_cons_zero, List.getElem_cons_succ, List.setIfInBounds_toArray, List.set_cons_zero, List.set_cons_succ]
  obtain ⟨nn, hnn⟩ : ∃ nn, nn = num view := ⟨_, rfl⟩
  obtain ⟨mm, hmm⟩ : ∃ mm, mm = num (adv.length : Int) := ⟨_, rfl⟩
  have hnl : nn.length ≤ 9 := by rw [hnn]; exact (num_len OK1.out).1
  have hml : mm.length ≤ 9 := by rw [hmm]; exact (num_len ⟨by omega, by omega⟩).1
  rw [← hnn] at O2
  rw [← hmm] at O3
  have O23 : BOwn w3 W1.heap.size v2 nn := O2.below k3
  obtain ⟨am, cm, rfl, _, _, rm⟩ := O3.row
  have HNN := hide hnn
  have HMM := hide hmm
  clear hnn hmm
  refine Hold.one (i := 7) (by kernel_rfl) ?_
  refine Hold.list1 rfl rfl ?_
  refine wpList_append_row rfl _ _ 22 rfl W1.heap.size 5 i0 (.int .u8 0) 1 Try.underlying22 hi hz0 hz1 hz2 rfl v2 nn.length (bys nn) (by first | rfl | simp [Act.eval]) O23 am mm.length cm (bys mm) (by first | rfl | simp [Act.eval]) rm (bys_len mm) (bys_one mm) ?c1a ?c2a ?c3a ?_
  case c1a => unfold maxLen; omega
  case c2a => omega
  case c3a => exact t3.size
  intro v4 w4 hown hgrow _
  have t4 : Below W1.heap.size W1 w4 := below_grown (a := W1) t3 hgrow (own_ge O23)
  have O4 : BOwn w4 W1.heap.size v4 (nn ++ mm) := by
    unfold BOwn
    rw [List.length_append]
    simpa [bys] using hown
  obtain ⟨a4, cap4, rfl, _, _, _⟩ := O4.row
  show _ ∧ _
  refine ⟨t4, ?_⟩
  simp only [Act.put, List.getElem_toArray, List.getElem_cons_zero, List.getElem_cons_succ, List.setIfInBounds_toArray, List.set_cons_zero, List.set_cons_succ]
  clear hS
  have hS := t4
  refine Hold.one (i := 8) (by kernel_rfl) ?_
  refine Hold.run (w' := w4) rfl rfl (by go_simp; first | rfl | exact ⟨rfl, rfl⟩) ?_
  refine ⟨t4, ?_⟩
  simp only [Act.put, List.getElem_toArray, List.getElem_cons_zero, List.getElem_cons_succ, List.setIfInBounds_toArray, List.set_cons_zero, List.set_cons_succ]
  refine Hold.done (by kernel_rfl) ?_
  have T4 := hide t4
  have O4 := hide O4
  clear hS hown hgrow O23 O2 O3 k2 k3 t2 t3 t4 rm C0 C1 C2
  obtain ⟨c0, hc0⟩ : ∃ c0, c0 = nn ++ mm := ⟨_, rfl⟩
  rw [← hc0] at O4 ⊢
  have HC0 : Hid (c0 = num view ++ num adv.length) := hide (by rw [hc0, HNN.out, HMM.out])
  have HL0 : Hid (nn.length + mm.length = c0.length) := hide (by rw [hc0, List.length_append])
  have hc0l : c0.length ≤ 18 := by rw [hc0, List.length_append]; omega
  clear hc0
  go_wp2_with fail
  go_loopw [3, 4] (fun s3 s4 wr => ∃ (i : Nat) (cu : List Int) (a : Option Addr) (cap : Nat), i ≤ adv.length ∧ s4 = .int .i64 i ∧ s3 = .slice a cu.length cap ∧ BOwn wr W1.heap.size s3 cu ∧ Hid (cu = c0 ++ ((adv.take i).map num).flatten) ∧ Below W1.heap.size W1 wr) (fun _ s4 _ => adv.length - (intOf s4).toNat)
  case atStart => exact ⟨0, c0, a4, cap4, Nat.zero_le _, rfl, by rw [HL0.out], by rw [HL0.out]; exact O4.out, hide (by simp), T4.out⟩
  case round =>
    clear O4 T4
    obtain ⟨i, cu, a, cap, hiu, rfl, rfl, hO, hcu, hb⟩ := hrel
    have O := hide hO
    have TR := hide hb
    have hcul : cu.length ≤ 10000100 := by
      have h1 := flat_le num adv i
      have h2 := HSZ.out
      unfold wrT at h2
      simp only [List.length_append] at h2
      rw [hcu.out, List.length_append]
      omega
    clear hO hb
    have x1 : wr.cell? ⟨ga, 1, none⟩ = some (.slice aa adv.length ac) := (TR.out.cell (p := ⟨ga, 1, none⟩) hga1).trans (BA.out.cell 1)
    have x0 : wr.cell? ⟨ga, 0, none⟩ = some (.slice na nodes.length nc) := (TR.out.cell (p := ⟨ga, 0, none⟩) hga1).trans (BA.out.cell 0)
    by_cases hlt : i < adv.length
    · obtain ⟨ab, ao, haa, hab, hac⟩ := A1.out.2 (by rw [List.length_map]; omega)
      subst haa
      have y0 := hac i (by rw [List.length_map]; exact hlt)
      rw [List.getElem_map] at y0
      have y0 : wr.cell? ⟨ab, ao + i, none⟩ = some (.int .i64 adv[i]) := (TR.out.cell (p := ⟨ab, ao + i, none⟩) hab).trans y0
      have hy := OK2.out _ (List.getElem_mem hlt)
      have HT := hide (flat_succ num adv hlt)
      clear hac
      generalize adv[i] = y at y0 hy HT
      have hyl : (num y).length ≤ 9 := (num_len hy).1
      have HCN : Hid (cu ++ num y = c0 ++ ((adv.take (i + 1)).map num).flatten) := hide (by rw [HT.out, hcu.out, List.append_assoc])
      clear hcu HT
      go_wp2_with fail
      refine (rnumber_any y wr hy).mono ?_
      rintro r wN ⟨vN, rfl, ON, kN⟩
      clear x0 x1 y0 hy
      obtain ⟨ny, hny⟩ : ∃ ny, ny = num y := ⟨_, rfl⟩
      rw [← hny] at ON hyl HCN
      clear hny
      obtain ⟨aN, cN, rfl, _, _, rN⟩ := ON.row
      have rN := hide rN
      have O2 := hide (O.out.below kN)
      have T2 := hide (below_call TR.out kN)
      have hsz2 := T2.out.size
      clear kN ON O TR
      go_wp2_with (at_builtin; refine wpList_append_row rfl _ _ 22 rfl W1.heap.size 5 i0 (.int .u8 0) 1 Try.underlying22 hi hz0 hz1 hz2 rfl (.slice a cu.length cap) cu.length (bys cu) rfl O2.out aN ny.length cN (bys ny) rfl rN.out (bys_len ny) (bys_one ny) ?c1a ?c2a ?c3a ?_)
      case c1a => unfold maxLen; omega
      case c2a => omega
      case c3a => exact hsz2
      intro v3 w3 hown hgrow _
      have O3 : BOwn w3 W1.heap.size v3 (cu ++ ny) := by
        unfold BOwn
        rw [List.length_append]
        simpa [bys] using hown
      obtain ⟨a3, cap3, rfl, _, _, _⟩ := O3.row
      have T3 := hide (below_grown (a := W1) T2.out hgrow (own_ge O2.out))
      have O3 := hide O3
      clear hown hgrow O2 T2 rN hsz2
      go_wp2_with fail
      go_roundw
      case rel => exact ⟨i + 1, cu ++ ny, a3, cap3, hlt, by go_num, rfl, O3.out, HCN, T3.out⟩
      case measure => simp [intOf]; omega
    · have hie : i = adv.length := by omega
      have HC1 : Hid (cu = c0 ++ (adv.map num).flatten) := hide (by rw [hcu.out, List.take_of_length_le (by omega)])
      clear hcu hlt hiu
      subst hie
      go_wp2_with fail
      refine (rnumber_any nodes.length wr ⟨by omega, by omega⟩).mono ?_
      rintro r wN ⟨vN, rfl, ON, kN⟩
      clear x0 x1
      have hyl : (num (nodes.length : Int)).length ≤ 9 := (num_len ⟨by omega, by omega⟩).1
      obtain ⟨ny, hny⟩ : ∃ ny, ny = num (nodes.length : Int) := ⟨_, rfl⟩
      rw [← hny] at ON hyl
      have HNY := hide hny
      clear hny
      obtain ⟨aN, cN, rfl, _, _, rN⟩ := ON.row
      have rN := hide rN
      have O2 := hide (O.out.below kN)
      have T2 := hide (below_call TR.out kN)
      have hsz2 := T2.out.size
      clear kN ON O TR
      go_wp2_with (at_builtin; refine wpList_append_row rfl _ _ 22 rfl W1.heap.size 5 i0 (.int .u8 0) 1 Try.underlying22 hi hz0 hz1 hz2 rfl (.slice a cu.length cap) cu.length (bys cu) rfl O2.out aN ny.length cN (bys ny) rfl rN.out (bys_len ny) (bys_one ny) ?c1a ?c2a ?c3a ?_)
      case c1a => unfold maxLen; omega
      case c2a => omega
      case c3a => exact hsz2
      intro v3 w3 hown hgrow _
      have O3 : BOwn w3 W1.heap.size v3 (cu ++ ny) := by
        unfold BOwn
        rw [List.length_append]
        simpa [bys] using hown
      obtain ⟨a3, cap3, rfl, _, _, _⟩ := O3.row
      have T3 := hide (below_grown (a := W1) T2.out hgrow (own_ge O2.out))
      have O3 := hide O3
      clear hown hgrow O2 T2 rN hsz2
      obtain ⟨c1, hc1⟩ : ∃ c1, c1 = cu ++ ny := ⟨_, rfl⟩
      rw [← hc1] at O3 ⊢
      have HW : Hid (wrT ⟨view, adv, nodes⟩ = c1 ++ (nodes.map wrN).flatten) := hide (by
        unfold wrT
        rw [hc1, HC1.out, HC0.out, HNY.out]
        simp)
      clear hc1
      go_wp2_with fail
      go_loopw [3, 5] (fun s3 s5 wr => ∃ (i : Nat) (cu : List Int) (a : Option Addr) (cap : Nat), i ≤ nodes.length ∧ s5 = .int .i64 i ∧ s3 = .slice a cu.length cap ∧ BOwn wr W1.heap.size s3 cu ∧ Hid (cu = c1 ++ ((nodes.take i).map wrN).flatten) ∧ Below W1.heap.size W1 wr) (fun _ s5 _ => nodes.length - (intOf s5).toNat)
      case atStart => exact ⟨0, c1, a3, cap3, Nat.zero_le _, rfl, rfl, O3.out, hide (by simp), T3.out⟩
      case round =>
        clear O3 T3
        obtain ⟨j, cu, a, cap, hju, rfl, rfl, hO, hcu, hb⟩ := hrel
        have O := hide hO
        have TR := hide hb
        have hcul : cu.length ≤ 10000100 := by
          have h1 := flat_le wrN nodes j
          have h2 := HSZ.out
          rw [HW.out, List.length_append] at h2
          rw [hcu.out, List.length_append]
          omega
        clear hO hb
        have x0 : wr.cell? ⟨ga, 0, none⟩ = some (.slice na nodes.length nc) := (TR.out.cell (p := ⟨ga, 0, none⟩) hga1).trans (BA.out.cell 0)
        by_cases hlt : j < nodes.length
        · obtain ⟨b, o, hna, hbl, hnd⟩ := N1.out.2 (by omega)
          subst hna
          obtain ⟨p0, q0⟩ := hnd j hlt
          obtain ⟨uv, rg, ur⟩ := st_range q0
          have p0 : wr.cell? ⟨b, o + j * 44, none⟩ = some (.int .i64 nodes[j].1) := (TR.out.cell (p := ⟨b, o + j * 44, none⟩) hbl).trans p0
          have hok := OK4.out _ (List.getElem_mem hlt)
          have hul := s3 _ (List.getElem_mem hlt)
          have HT := hide (flat_succ wrN nodes hlt)
          clear hnd q0
          generalize nodes[j] = nd at p0 rg ur hok hul HT
          obtain ⟨pa, L⟩ := nd
          dsimp only at p0 rg ur
          have hul : (L.getD 31 []).length ≤ 10000000 := hul
          have hyl : (num pa).length ≤ 9 := (num_len hok.1).1
          have OKL := hide hok.2
          have hpa := hok.1
          have UR0 := hide ur
          have RG0 := hide rg
          have HCN : Hid (cu ++ num pa ++ wrF KD 1 L = c1 ++ ((nodes.take (j + 1)).map wrN).flatten) := hide (by rw [HT.out, hcu.out]; unfold wrN; simp)
          have hwl : (wrF KD 1 L).length ≤ 800 + 2 * 10000000 := by
            have h1 := style_len OKL.out
            have h2 := hul
            clear HSZ
            dsimp only at h1
            omega
          have dlt : decide ((j : Int) < (nodes.length : Int)) = true := by rw [decide_eq_true_eq]; omega
          clear hcu HT hok ur rg
          go_wp2_with fail
          refine (rnumber_any pa wr hpa).mono ?_
          rintro r wN ⟨vN, rfl, ON, kN⟩
          clear x0 p0
          obtain ⟨ny, hny⟩ : ∃ ny, ny = num pa := ⟨_, rfl⟩
          rw [← hny] at ON hyl HCN
          clear hny hpa
          obtain ⟨aN, cN, rfl, _, _, rN⟩ := ON.row
          have rN := hide rN
          have O2 := hide (O.out.below kN)
          have T2 := hide (below_call TR.out kN)
          have hsz2 := T2.out.size
          clear kN ON O TR
          go_wp2_with (at_builtin; refine wpList_append_row rfl _ _ 22 rfl W1.heap.size 5 i0 (.int .u8 0) 1 Try.underlying22 hi hz0 hz1 hz2 rfl (.slice a cu.length cap) cu.length (bys cu) rfl O2.out aN ny.length cN (bys ny) rfl rN.out (bys_len ny) (bys_one ny) ?c1a ?c2a ?c3a ?_)
          case c1a => unfold maxLen; omega
          case c2a => omega
          case c3a => exact hsz2
          intro v3 w3 hown hgrow _
          have O3 : BOwn w3 W1.heap.size v3 (cu ++ ny) := by
            unfold BOwn
            rw [List.length_append]
            simpa [bys] using hown
          obtain ⟨a3, cap3, rfl, _, _, _⟩ := O3.row
          have T3 := hide (below_grown (a := W1) T2.out hgrow (own_ge O2.out))
          have O3 := hide O3
          clear hown hgrow O2 T2 rN hsz2
          obtain ⟨c2, hc2⟩ : ∃ c2, c2 = cu ++ ny := ⟨_, rfl⟩
          have HC2 : Hid (cu.length + ny.length = c2.length) := hide (by rw [hc2, List.length_append])
          have hc2l : c2.length ≤ 10000200 := by rw [hc2, List.length_append]; omega
          rw [← hc2] at O3 HCN ⊢
          clear hc2
          have x0 : w3.cell? ⟨ga, 0, none⟩ = some (.slice (some ⟨b, o, none⟩) nodes.length nc) := (T3.out.cell (p := ⟨ga, 0, none⟩) hga1).trans (BA.out.cell 0)
          have RG3 := range_below RG0.out T3.out hbl
          have UR3 := hide (UR0.out.below T3.out)
          go_wp2_with (refine wpList_load_mid rfl 49 _ rfl b (o + j * 44 + 1) rfl (SC (gof L) uv) _ RG3 Try.underlying49 rfl (st_size (gof L) uv) ?_)
          refine (rstyle_any L uv w3 OKL.out UR3.out hul).mono ?_
          rintro r wN ⟨vN, rfl, ON, kN⟩
          clear x0 RG3
          obtain ⟨ws, hws⟩ : ∃ ws, ws = wrF KD 1 L := ⟨_, rfl⟩
          rw [← hws] at ON hwl HCN
          clear hws
          obtain ⟨aN, cN, rfl, _, _, rN⟩ := ON.row
          have rN := hide rN
          have O2 := hide (O3.out.below kN)
          have T2 := hide (below_call T3.out kN)
          have hsz2 := T2.out.size
          clear kN ON O3 T3
          go_wp2_with (at_builtin; refine wpList_append_row rfl _ _ 22 rfl W1.heap.size 5 i0 (.int .u8 0) 1 Try.underlying22 hi hz0 hz1 hz2 rfl (.slice a3 c2.length cap3) c2.length (bys c2) rfl O2.out aN ws.length cN (bys ws) rfl rN.out (bys_len ws) (bys_one ws) ?c1a ?c2a ?c3a ?_)
          case c1a => unfold maxLen; omega
          case c2a => omega
          case c3a => exact hsz2
          intro v3 w3 hown hgrow _
          have O3 : BOwn w3 W1.heap.size v3 (c2 ++ ws) := by
            unfold BOwn
            rw [List.length_append]
            simpa [bys] using hown
          obtain ⟨a3, cap3, rfl, _, _, _⟩ := O3.row
          have T3 := hide (below_grown (a := W1) T2.out hgrow (own_ge O2.out))
          have O3 := hide O3
          clear hown hgrow O2 T2 rN hsz2
          go_wp2_with fail
          go_roundw
          case rel => exact ⟨j + 1, c2 ++ ws, a3, cap3, hlt, by go_num, rfl, O3.out, HCN, T3.out⟩
          case measure => simp [intOf]; omega
        · have HF : Hid (wrT ⟨view, adv, nodes⟩ = cu) := hide (by rw [HW.out, hcu.out, List.take_of_length_le (by omega)])
          have hje : j = nodes.length := by omega
          subst hje
          clear hcu
          go_wp2_with fail
          go_returns
          refine ⟨_, rfl, ?_, K1.out.trans (TR.out.mono hgaB)⟩
          rw [HF.out]
          exact own_mono O.out hgaB
end Go.Proofs.Ytmngndmcidbakaa
