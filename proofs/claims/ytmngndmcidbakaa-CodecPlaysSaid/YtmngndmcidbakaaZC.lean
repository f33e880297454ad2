/- Walk: Read: the advances; the nodes. -/
import Derived.Test.YtmngndmcidbakaaSA
import Derived.Deep.WholeRow
namespace Go.Proofs.Ytmngndmcidbakaa
open Go.RowKit
theorem info2 : (Try.prog.info? 2).map (fun i => (i.zero, i.size, i.bytes)) = some (some (.int .i64 0), 1, 8) := by kernel_rfl
theorem leaves_put {P : Program} {fn : Func} {R : Ending → World → Prop} {t t' : Array Value} (h : results fn t = results fn t') : ∀ (ds : List Deferred) (u : FrameMode) (w : World), Leaves P fn t R ds u w → Leaves P fn t' R ds u w
  | [], .returning, w, hh => by obtain ⟨v, h1, h2⟩ := hh; exact ⟨v, by rw [← h]; exact h1, h2⟩
  | [], .panicking _, _, hh => hh
  | [], .run, _, hh => hh
  | d :: ds, u, w, hh => by
    obtain ⟨h1, fv, cap, f, args, h2, h3, h4⟩ := hh
    refine ⟨h1, fv, cap, f, args, h2, h3, ?_⟩
    refine CallsD.mono h4 fun e u' w' he => ?_
    cases e with
    | returned v => exact leaves_put h ds _ _ he
    | panicked c => exact leaves_put h ds _ _ he
    | outgrown => exact he
theorem put18 {R : Ending → World → Prop} {c : List PanicEntry} {a : Act} {d : Tmp} {v : Value} {w : World} (h : bodyPostD Try.prog Try.f18 R (.panic c) (a.put (some d) v) w) (hd : d ≠ 2 ∧ d ≠ 3) : bodyPostD Try.prog Try.f18 R (.panic c) a w := by
  refine leaves_put ?_ _ _ _ h
  simp [results, Try.results18, Act.put, Array.getElem?_setIfInBounds_ne hd.1, Array.getElem?_setIfInBounds_ne hd.2]
theorem wpList_build_eq {P : Program} {Q : Exit → Act → World → Prop} {w : World} {a : Act} {ops : Array Oper} {rest : List Oper} {o : Oper} (hg : o.guard = none) (t : TypeId) (parts : Array (Nat × Operand)) (ho : o.op = .build t parts) (cs : Array Value)
    (hb : P.built t (parts.map fun (i, x) => (i, a.eval x)).toList = some cs) (h : wpList P ops Q rest (a.put o.dst (.agg cs)) w) : wpList P ops Q (o :: rest) a w :=
  wpList_build hg t parts ho (by rw [hb]; rfl) (by rw [hb]; exact h)
theorem own_ne {W : World} {B : Nat} {e t : TypeId} {sz n rb : Nat} {v : Value} {xs : List Value} {cs : Array Value} (h : W.ownsRow B e sz v n xs) (hb : Blk W rb t cs) (hne : t ≠ e) : ∀ k, v.ownBlock = some k → k ≠ rb := by
  rintro k hk rfl
  obtain ⟨cs', z, h'⟩ := own_type h k hk
  unfold Blk at hb
  rw [hb] at h'
  injection h' with h'
  injection h' with _ h' _
  exact hne h'
theorem rdL_none {α : Type} {rd : List Int → Option (α × List Int)} {m i : Nat} {r q : List Int} {xs : List α} (h : i < m) (hrd : rdL rd m r = (rdL rd (m - i) q).map fun p => (xs ++ p.1, p.2)) (he : rd q = none) : rdL rd m r = none := by
  obtain ⟨j, hj⟩ : ∃ j, m - i = j + 1 := ⟨m - i - 1, by omega⟩
  rw [hrd, hj, rdL, he]; rfl
theorem rdL_some {α : Type} {rd : List Int → Option (α × List Int)} {m i : Nat} {r q q' : List Int} {xs : List α} {x : α} (h : i < m) (hrd : rdL rd m r = (rdL rd (m - i) q).map fun p => (xs ++ p.1, p.2)) (he : rd q = some (x, q')) : rdL rd m r = (rdL rd (m - (i + 1)) q').map fun p => ((xs ++ [x]) ++ p.1, p.2) := by
  obtain ⟨j, hj⟩ : ∃ j, m - i = j + 1 := ⟨m - i - 1, by omega⟩
  rw [hrd, hj, rdL, he, show m - (i + 1) = j from by omega]
  dsimp only
  cases rdL rd j q' with
  | none => rfl
  | some p => simp
theorem rdL_end {α : Type} {rd : List Int → Option (α × List Int)} {m : Nat} {r q : List Int} {xs : List α} (hrd : rdL rd m r = (rdL rd (m - m) q).map fun p => (xs ++ p.1, p.2)) : rdL rd m r = some (xs, q) := by
  rw [hrd, Nat.sub_self, rdL]; simp
theorem rdC_nat {l r : List Int} {n : Int} (h : rdC l = some (n, r)) : ∃ m : Nat, n = m ∧ m ≤ r.length := by
  unfold rdC at h
  cases e' : rdN l with
  | none => rw [e'] at h; cases h
  | some p =>
    obtain ⟨n', r'⟩ := p
    rw [e'] at h
    dsimp only at h
    by_cases hh : 0 ≤ n' ∧ n' ≤ (r'.length : Int)
    · rw [if_pos hh] at h
      simp only [Option.some.injEq, Prod.mk.injEq] at h
      obtain ⟨rfl, rfl⟩ := h
      exact ⟨n'.toNat, by omega, by omega⟩
    · rw [if_neg hh] at h; cases h
theorem RS.len {w W : World} {rb rc : Nat} {ra : Option Addr} {b rest : List Int} {c : Array Value} (h : RS w W rb ra rc b c rest) : rest.length ≤ 10000000 := by
  obtain ⟨W0, h1, _⟩ := h.ex
  exact Nat.le_trans h1.le h1.len
set_option maxRecDepth 100000 in
set_option maxHeartbeats 4000000 in
theorem read_any (ra : Option Addr) (b : List Int) (rc : Nat) (w : World) (hr : BRow w ra b) (hb : Bts b) (hc : b.length ≤ rc) (hc2 : rc ≤ maxLen) (hl : b.length ≤ 10000000) :
    Calls Try.prog 18 #[.slice ra b.length rc] w (RDP w (rdT b)) := by
  obtain ⟨i0, hi, hz0, hz1, hz2⟩ := info_parts info2
  obtain ⟨i1, hi', hy0, hy1, hy2⟩ := info_parts info51
  have hmf : ∀ (fn : Fn) (first cap : Array Value) (w : World), (Instr.makeFunc fn first cap).run Try.prog w = .ok (.func fn first cap) w := fun _ _ _ _ => rfl
  obtain ⟨W1, hW1⟩ : ∃ W1, W1 = ((w.alloc (.cells #[.slice none 0 0, .slice none 0 0, .int .i64 0] 35)).alloc (.cells #[.int .i64 0] 25)).alloc (.cells #[.slice ra b.length rc, .int .i64 0] 64) := ⟨_, rfl⟩
  have R1 : Hid (RS w W1 (w.heap.size + 1 + 1) ra rc b #[.slice none 0 0, .slice none 0 0, .int .i64 0] b) := hide (by
    have k0 : Below w.heap.size w ((w.alloc (.cells #[.slice none 0 0, .slice none 0 0, .int .i64 0] 35)).alloc (.cells #[.int .i64 0] 25)) := ((Below.refl _ _).alloc (Nat.le_refl _) _).alloc (by simp) _
    refine ⟨⟨(w.alloc (.cells #[.slice none 0 0, .slice none 0 0, .int .i64 0] 35)).alloc (.cells #[.int .i64 0] 25), ⟨hr.below k0, ?_, ?_, by simp, ⟨[], rfl⟩, hb, hl, hc, hc2⟩, ?_, ?_, k0, by simp⟩, hr⟩
    · rw [hW1]; exact (Below.refl _ _).alloc (Nat.le_refl _) _
    · rw [hW1]
      have := Blk.new ((w.alloc (.cells #[.slice none 0 0, .slice none 0 0, .int .i64 0] 35)).alloc (.cells #[.int .i64 0] 25)) 64 #[.slice ra b.length rc, .int .i64 0]
      simpa using this
    · exact (Blk.new w _ _).alloc _
    · have := Blk.new (w.alloc (.cells #[.slice none 0 0, .slice none 0 0, .int .i64 0] 35)) 25 #[.int .i64 0]
      simpa using this)
  have HW1 := hide hW1
  have HB := hide hb
  clear hW1 hr hb
  go_enter_defers Try.func18, Try.ntmps18
  go_upto_region 3 with fail
  rw [← HW1.out]
  have h1 := rs_call R1.out (fun W0 h => number_ok h)
  cases e1 : rdN b with
  | none =>
    have HN : Hid (rdT b = none) := hide (by unfold rdT rdP; rw [e1])
    rw [e1] at h1
    have H1 := hide h1
    clear h1 e1
    go_wp2_with fail
    refine H1.out.mono ?_
    rintro r' w2 ⟨rfl, k2⟩
    go_wp2_with fail
    exact door_panic HN.out k2 rfl rfl
  | some p =>
    obtain ⟨vw, r1⟩ := p
    rw [e1] at h1
    have H1 := hide h1
    have hT1 : rdP b = rdP2 vw r1 := by unfold rdP; rw [e1]
    have HT1 := hide hT1
    clear h1 e1 hT1
    go_wp2_with fail
    refine H1.out.mono ?_
    rintro r' w2 ⟨rfl, R2, F2⟩
    have x0 : w2.cell? ⟨w.heap.size, 2, none⟩ = some (.int .i64 0) := R2.pe.1.cell 2
    have f0 := R2.pe.1.frozen 2
    have R3 : Hid (RS w (w2.setCell ⟨w.heap.size, 2, none⟩ (.int .i64 vw)) (w.heap.size + 1 + 1) ra rc b #[.slice none 0 0, .slice none 0 0, .int .i64 vw] r1) := hide (R2.write 2 (.int .i64 vw))
    clear R2 F2 H1
    go_upto_region 4 with fail
    obtain ⟨w3, hw3⟩ : ∃ w3, w3 = w2.setCell ⟨w.heap.size, 2, none⟩ (.int .i64 vw) := ⟨_, rfl⟩
    rw [← hw3] at R3 ⊢
    have h2 := rs_call R3.out (fun W0 h => count_ok h)
    clear x0 f0 hw3
    cases e2 : rdC r1 with
    | none =>
      have HN : Hid (rdT b = none) := hide (by unfold rdT; rw [HT1.out]; unfold rdP2; rw [e2])
      rw [e2] at h2
      have H2 := hide h2
      clear h2 e2
      go_wp2_with fail
      refine H2.out.mono ?_
      rintro r' w4 ⟨rfl, k4⟩
      go_wp2_with fail
      exact door_panic HN.out k4 rfl rfl
    | some p2 =>
      obtain ⟨mm, r2⟩ := p2
      obtain ⟨m, rfl, hmr⟩ := rdC_nat e2
      rw [e2] at h2
      have H2 := hide h2
      have hT2 : rdP b = match rdL rdN m r2 with
        | some (av, r') => rdP3 vw av r'
        | none => none := by rw [HT1.out]; unfold rdP2; rw [e2]; rfl
      have HT2 := hide hT2
      clear h2 e2 hT2
      go_wp2_with fail
      refine H2.out.mono ?_
      rintro r' w4 ⟨rfl, R4, F4⟩
      have hml : m ≤ 10000000 := Nat.le_trans hmr R4.len
      have R4 := hide R4
      clear F4 H2
      go_wp2_with fail
      go_loopw [16] (fun s16 wr => ∃ (i : Nat) (xs q : List Int) (av : Option Addr) (ac : Nat), i ≤ m ∧ s16 = .int .i64 i ∧ Hid (xs.length = i) ∧ Hid (rdL rdN m r2 = (rdL rdN (m - i) q).map fun p => (xs ++ p.1, p.2)) ∧ RS w wr (w.heap.size + 1 + 1) ra rc b #[.slice none 0 0, .slice av i ac, .int .i64 vw] q ∧ AO wr (w.heap.size + 2) (.slice av i ac) xs) (fun s16 _ => m - (intOf s16).toNat)
      case atStart => exact ⟨0, [], r2, none, 0, Nat.zero_le _, rfl, hide rfl, hide (by cases rdL rdN (m - 0) r2 <;> rfl), R4.out, World.ownsRow_nil _ _ _ _⟩
      case round =>
        clear R1 R3 R4
        obtain ⟨i, xs, q, av, ac, him, rfl, HXS, hrd, hR, hO⟩ := hrel
        have R := hide hR
        have O := hide hO
        clear hR hO
        by_cases hlt : i < m
        · have h2 := rs_call (R.out.below (Below.refl _ _).drew) (fun W0 h => number_ok h)
          have x5 : wr.drew.cell? ⟨w.heap.size, 1, none⟩ = some (.slice av i ac) := R.out.pe.1.cell 1
          as_aux_lemma =>
            go_upto_region 6 with fail
            cases e3 : rdN q with
            | none =>
              have HN : Hid (rdT b = none) := hide (by unfold rdT; rw [HT2.out, rdL_none hlt hrd.out e3])
              rw [e3] at h2
              have H2 := hide h2
              clear h2 e3
              refine Hold.begin_ 8 (by kernel_rfl) rfl (fun _ : World => True) ?_ trivial
              intro hS
              refine Hold.take (i := 0) (v := ?_) rfl (by kernel_rfl) (by intro _ _ _ h; exact put18 h (by decide)) rfl ?_ hS ?_
              rotate_left
              · intro w' hS; go_simp; (try go_bits); (first | rfl | rw [if_pos (by omega)])
              simp only [Act.put, List.getElem_toArray, List.getElem_cons_zero, List.getElem_cons_succ, List.setIfInBounds_toArray, List.set_cons_zero, List.set_cons_succ]
              refine Hold.take (i := 2) (v := ?_) rfl (by kernel_rfl) (by intro _ _ _ h; exact put18 h (by decide)) rfl ?_ hS ?_
              rotate_left
              · intro w' hS; go_simp; (try go_bits); (first | rfl | rw [if_pos (by omega)])
              simp only [Act.put, List.getElem_toArray, List.getElem_cons_zero, List.getElem_cons_succ, List.setIfInBounds_toArray, List.set_cons_zero, List.set_cons_succ]
              refine Hold.two (i := 1) (j := 3) (by kernel_rfl) ?_ ?_
              · refine Hold.run rfl rfl (by go_simp; exact ⟨rfl, rfl⟩) ?_
                refine ⟨trivial, ?_⟩
                simp only [Act.put, List.getElem_toArray, List.getElem_cons_zero, List.getElem_cons_succ, List.setIfInBounds_toArray, List.set_cons_zero, List.set_cons_succ]
                refine Hold.one (i := 3) (by kernel_rfl) ?_
                refine Hold.callX rfl rfl (by go_simp; exact ⟨rfl, rfl⟩) ?_
                refine H2.out.mono ?_
                rintro r' w7 ⟨rfl, k7⟩
                refine ⟨_, rfl, ?_⟩
                exact door_panic HN.out k7 rfl rfl
              · refine Hold.callX rfl rfl (by go_simp; exact ⟨rfl, rfl⟩) ?_
                refine H2.out.mono ?_
                rintro r' w7 ⟨rfl, k7⟩
                refine ⟨_, rfl, ?_⟩
                exact door_panic HN.out k7 rfl rfl
            | some p3 =>
              obtain ⟨x, q'⟩ := p3
              have HRD := hide (rdL_some hlt hrd.out e3)
              rw [e3] at h2
              have H2 := hide h2
              clear h2 e3 hrd
              refine Hold.begin_ 8 (by kernel_rfl) rfl (fun _ : World => True) ?_ trivial
              intro hS
              refine Hold.take (i := 0) (v := ?_) rfl (by kernel_rfl) (by intro _ _ _ h; exact put18 h (by decide)) rfl ?_ hS ?_
              rotate_left
              · intro w' hS; go_simp; (try go_bits); (first | rfl | rw [if_pos (by omega)])
              simp only [Act.put, List.getElem_toArray, List.getElem_cons_zero, List.getElem_cons_succ, List.setIfInBounds_toArray, List.set_cons_zero, List.set_cons_succ]
              refine Hold.take (i := 2) (v := ?_) rfl (by kernel_rfl) (by intro _ _ _ h; exact put18 h (by decide)) rfl ?_ hS ?_
              rotate_left
              · intro w' hS; go_simp; (try go_bits); (first | rfl | rw [if_pos (by omega)])
              simp only [Act.put, List.getElem_toArray, List.getElem_cons_zero, List.getElem_cons_succ, List.setIfInBounds_toArray, List.set_cons_zero, List.set_cons_succ]
              refine Hold.two (i := 1) (j := 3) (by kernel_rfl) ?_ ?_
              · refine Hold.run rfl rfl (by go_simp; exact ⟨rfl, rfl⟩) ?_
                refine ⟨trivial, ?_⟩
                simp only [Act.put, List.getElem_toArray, List.getElem_cons_zero, List.getElem_cons_succ, List.setIfInBounds_toArray, List.set_cons_zero, List.set_cons_succ]
                refine Hold.one (i := 3) (by kernel_rfl) ?_
                refine Hold.call rfl rfl (by go_simp; exact ⟨rfl, rfl⟩) ?_
                refine H2.out.mono ?_
                rintro r' w7 ⟨rfl, R7, F7⟩
                have O7 := hide (AO.keeps (W := wr.drew) O.out (Keeps.of_foot F7 (fun k hk => by obtain rfl := List.mem_singleton.1 hk; exact ⟨_, _, R.out.rb_blk, by decide⟩)))
                have x7 : w7.cell? ⟨w.heap.size, 1, none⟩ = some (.slice av i ac) := R7.pe.1.cell 1
                have R7 := hide R7
                clear H2 F7
                refine ⟨_, rfl, trivial, ?_⟩
                simp only [Act.put, List.getElem_toArray, List.getElem_cons_zero, List.getElem_cons_succ, List.setIfInBounds_toArray, List.set_cons_zero, List.set_cons_succ]
                refine Hold.one (i := 4) (by kernel_rfl) ?_
                refine Hold.run (w' := w7.alloc (.cells #[.int .i64 x] 2)) rfl rfl (by go_simp; first | rfl | exact ⟨rfl, rfl⟩) ?_
                refine ⟨trivial, ?_⟩
                simp only [Act.put, List.getElem_toArray, List.getElem_cons_zero, List.getElem_cons_succ, List.setIfInBounds_toArray, List.set_cons_zero, List.set_cons_succ]
                refine Hold.one (i := 5) (by kernel_rfl) ?_
                refine Hold.list1 rfl rfl ?_
                have b8 : Below w7.heap.size w7 (w7.alloc (.cells #[.int .i64 x] 2)) := (Below.refl _ _).alloc (Nat.le_refl _) _
                have O8 : Hid ((w7.alloc (.cells #[.int .i64 x] 2)).ownsRow (w.heap.size + 2) 2 1 (.slice av i ac) i (xs.map (.int .i64))) := hide (by
                  have := own_below O7.out b8
                  rwa [HXS.out] at this)
                have N8 := hide (Blk.new w7 2 #[.int .i64 x])
                have R8 := hide (R7.out.below b8)
                have hsz8 : w.heap.size + 2 ≤ (w7.alloc (.cells #[.int .i64 x] 2)).heap.size := by
                  have h1 := R8.out.rb_ge
                  have h2 := R8.out.rb_blk.lt
                  omega
                refine wpList_append_lies _ rfl _ _ 33 rfl (w.heap.size + 2) 2 i0 (.int .i64 0) 1 8 Try.underlying33 hi hz0 hz1 hz2 rfl (by decide) _ _ _ rfl O8.out ⟨w7.heap.size, 0, none⟩ 1 1 [.int .i64 x] rfl rfl ?c1 ?c2 (by decide) ?c3 ?c4 ?c5 _ rfl ?_
                case c1 => exact N8.out.news
                case c2 => intro z hz; simp at hz; rcases hz with rfl; rfl
                case c3 => unfold maxLen; omega
                case c4 => omega
                case c5 => exact hsz8
                intro g2 cap2 w9 hown hgrow hat hlt9
                have hge := own_ge O8.out
                have hnr := own_ne O8.out R8.out.rb_blk (by decide)
                have FG := foot_row hgrow
                have R9 := hide (R8.out.foot FG (fun y hy => hge y (Option.mem_toList.1 hy)) (fun hm => absurd rfl (hnr _ (Option.mem_toList.1 hm))))
                have x9 : w9.cell? ⟨w.heap.size, 1, none⟩ = some (.slice av i ac) := R9.out.pe.1.cell 1
                have f9 := R9.out.pe.1.frozen 1
                show _ ∧ _
                refine ⟨trivial, ?_⟩
                simp only [Act.put, List.getElem_toArray, List.getElem_cons_zero, List.getElem_cons_succ, List.setIfInBounds_toArray, List.set_cons_zero, List.set_cons_succ]
                refine Hold.take (i := 6) (v := ?_) rfl (by kernel_rfl) (by intro _ _ _ h; exact put18 h (by decide)) rfl ?_ hS ?_
                rotate_left
                · intro w' hS; go_simp; (try go_bits); (first | rfl | rw [if_pos (by omega)])
                simp only [Act.put, List.getElem_toArray, List.getElem_cons_zero, List.getElem_cons_succ, List.setIfInBounds_toArray, List.set_cons_zero, List.set_cons_succ]
                refine Hold.one (i := 7) (by kernel_rfl) ?_
                refine Hold.skip rfl rfl (by go_simp; exact rfl) ?_
                refine ⟨trivial, ?_⟩
                simp only [Act.put, List.getElem_toArray, List.getElem_cons_zero, List.getElem_cons_succ, List.setIfInBounds_toArray, List.set_cons_zero, List.set_cons_succ]
                refine Hold.done (by kernel_rfl) ?_
                have RA : Hid (RS w (w9.setCell ⟨w.heap.size, 1, none⟩ (.slice (some ⟨g2, 0, none⟩) (i + 1) cap2)) (w.heap.size + 1 + 1) ra rc b #[.slice none 0 0, .slice (some ⟨g2, 0, none⟩) (i + 1) cap2, .int .i64 vw] q') := hide (R9.out.write 1 (.slice (some ⟨g2, 0, none⟩) (i + 1) cap2))
                have OA : Hid (AO (w9.setCell ⟨w.heap.size, 1, none⟩ (.slice (some ⟨g2, 0, none⟩) (i + 1) cap2)) (w.heap.size + 2) (.slice (some ⟨g2, 0, none⟩) (i + 1) cap2) (xs ++ [x])) := hide (by
                  refine AO.keeps (W := w9) ?_ ((Keeps.refl w9).setCell R9.out.pe.1 (by decide) _)
                  unfold AO
                  rw [List.length_append, HXS.out, List.map_append]
                  exact hown)
                clear hown hgrow hat hlt9 b8 O8 N8 R8 hge hnr FG R9 x9 f9 hsz8
                go_wp2_with fail
                go_roundw
                case rel => exact ⟨i + 1, xs ++ [x], q', some ⟨g2, 0, none⟩, cap2, hlt, by go_num, hide (by rw [List.length_append, HXS.out]; rfl), HRD, RA.out, OA.out⟩
                case measure => simp [intOf]; omega
              · refine Hold.call rfl rfl (by go_simp; exact ⟨rfl, rfl⟩) ?_
                refine H2.out.mono ?_
                rintro r' w7 ⟨rfl, R7, F7⟩
                have O7 := hide (AO.keeps (W := wr.drew) O.out (Keeps.of_foot F7 (fun k hk => by obtain rfl := List.mem_singleton.1 hk; exact ⟨_, _, R.out.rb_blk, by decide⟩)))
                have x7 : w7.cell? ⟨w.heap.size, 1, none⟩ = some (.slice av i ac) := R7.pe.1.cell 1
                have R7 := hide R7
                clear H2 F7
                refine ⟨_, rfl, trivial, ?_⟩
                simp only [Act.put, List.getElem_toArray, List.getElem_cons_zero, List.getElem_cons_succ, List.setIfInBounds_toArray, List.set_cons_zero, List.set_cons_succ]
                refine Hold.two (i := 1) (j := 4) (by kernel_rfl) ?_ ?_
                · refine Hold.run rfl rfl (by go_simp; exact ⟨rfl, rfl⟩) ?_
                  refine ⟨trivial, ?_⟩
                  simp only [Act.put, List.getElem_toArray, List.getElem_cons_zero, List.getElem_cons_succ, List.setIfInBounds_toArray, List.set_cons_zero, List.set_cons_succ]
                  refine Hold.one (i := 4) (by kernel_rfl) ?_
                  refine Hold.run (w' := w7.alloc (.cells #[.int .i64 x] 2)) rfl rfl (by go_simp; first | rfl | exact ⟨rfl, rfl⟩) ?_
                  refine ⟨trivial, ?_⟩
                  simp only [Act.put, List.getElem_toArray, List.getElem_cons_zero, List.getElem_cons_succ, List.setIfInBounds_toArray, List.set_cons_zero, List.set_cons_succ]
                  refine Hold.one (i := 5) (by kernel_rfl) ?_
                  refine Hold.list1 rfl rfl ?_
                  have b8 : Below w7.heap.size w7 (w7.alloc (.cells #[.int .i64 x] 2)) := (Below.refl _ _).alloc (Nat.le_refl _) _
                  have O8 : Hid ((w7.alloc (.cells #[.int .i64 x] 2)).ownsRow (w.heap.size + 2) 2 1 (.slice av i ac) i (xs.map (.int .i64))) := hide (by
                    have := own_below O7.out b8
                    rwa [HXS.out] at this)
                  have N8 := hide (Blk.new w7 2 #[.int .i64 x])
                  have R8 := hide (R7.out.below b8)
                  have hsz8 : w.heap.size + 2 ≤ (w7.alloc (.cells #[.int .i64 x] 2)).heap.size := by
                    have h1 := R8.out.rb_ge
                    have h2 := R8.out.rb_blk.lt
                    omega
                  refine wpList_append_lies _ rfl _ _ 33 rfl (w.heap.size + 2) 2 i0 (.int .i64 0) 1 8 Try.underlying33 hi hz0 hz1 hz2 rfl (by decide) _ _ _ rfl O8.out ⟨w7.heap.size, 0, none⟩ 1 1 [.int .i64 x] rfl rfl ?c1 ?c2 (by decide) ?c3 ?c4 ?c5 _ rfl ?_
                  case c1 => exact N8.out.news
                  case c2 => intro z hz; simp at hz; rcases hz with rfl; rfl
                  case c3 => unfold maxLen; omega
                  case c4 => omega
                  case c5 => exact hsz8
                  intro g2 cap2 w9 hown hgrow hat hlt9
                  have hge := own_ge O8.out
                  have hnr := own_ne O8.out R8.out.rb_blk (by decide)
                  have FG := foot_row hgrow
                  have R9 := hide (R8.out.foot FG (fun y hy => hge y (Option.mem_toList.1 hy)) (fun hm => absurd rfl (hnr _ (Option.mem_toList.1 hm))))
                  have x9 : w9.cell? ⟨w.heap.size, 1, none⟩ = some (.slice av i ac) := R9.out.pe.1.cell 1
                  have f9 := R9.out.pe.1.frozen 1
                  show _ ∧ _
                  refine ⟨trivial, ?_⟩
                  simp only [Act.put, List.getElem_toArray, List.getElem_cons_zero, List.getElem_cons_succ, List.setIfInBounds_toArray, List.set_cons_zero, List.set_cons_succ]
                  refine Hold.take (i := 6) (v := ?_) rfl (by kernel_rfl) (by intro _ _ _ h; exact put18 h (by decide)) rfl ?_ hS ?_
                  rotate_left
                  · intro w' hS; go_simp; (try go_bits); (first | rfl | rw [if_pos (by omega)])
                  simp only [Act.put, List.getElem_toArray, List.getElem_cons_zero, List.getElem_cons_succ, List.setIfInBounds_toArray, List.set_cons_zero, List.set_cons_succ]
                  refine Hold.one (i := 7) (by kernel_rfl) ?_
                  refine Hold.skip rfl rfl (by go_simp; exact rfl) ?_
                  refine ⟨trivial, ?_⟩
                  simp only [Act.put, List.getElem_toArray, List.getElem_cons_zero, List.getElem_cons_succ, List.setIfInBounds_toArray, List.set_cons_zero, List.set_cons_succ]
                  refine Hold.done (by kernel_rfl) ?_
                  have RA : Hid (RS w (w9.setCell ⟨w.heap.size, 1, none⟩ (.slice (some ⟨g2, 0, none⟩) (i + 1) cap2)) (w.heap.size + 1 + 1) ra rc b #[.slice none 0 0, .slice (some ⟨g2, 0, none⟩) (i + 1) cap2, .int .i64 vw] q') := hide (R9.out.write 1 (.slice (some ⟨g2, 0, none⟩) (i + 1) cap2))
                  have OA : Hid (AO (w9.setCell ⟨w.heap.size, 1, none⟩ (.slice (some ⟨g2, 0, none⟩) (i + 1) cap2)) (w.heap.size + 2) (.slice (some ⟨g2, 0, none⟩) (i + 1) cap2) (xs ++ [x])) := hide (by
                    refine AO.keeps (W := w9) ?_ ((Keeps.refl w9).setCell R9.out.pe.1 (by decide) _)
                    unfold AO
                    rw [List.length_append, HXS.out, List.map_append]
                    exact hown)
                  clear hown hgrow hat hlt9 b8 O8 N8 R8 hge hnr FG R9 x9 f9 hsz8
                  go_wp2_with fail
                  go_roundw
                  case rel => exact ⟨i + 1, xs ++ [x], q', some ⟨g2, 0, none⟩, cap2, hlt, by go_num, hide (by rw [List.length_append, HXS.out]; rfl), HRD, RA.out, OA.out⟩
                  case measure => simp [intOf]; omega
                · refine Hold.run (w' := w7.alloc (.cells #[.int .i64 x] 2)) rfl rfl (by go_simp; first | rfl | exact ⟨rfl, rfl⟩) ?_
                  refine ⟨trivial, ?_⟩
                  simp only [Act.put, List.getElem_toArray, List.getElem_cons_zero, List.getElem_cons_succ, List.setIfInBounds_toArray, List.set_cons_zero, List.set_cons_succ]
                  refine Hold.one (i := 1) (by kernel_rfl) ?_
                  have x8 : (w7.alloc (.cells #[.int .i64 x] 2)).cell? ⟨w.heap.size, 1, none⟩ = some (.slice av i ac) := (((Below.refl _ _).alloc (Nat.le_refl _) _).cell (p := ⟨w.heap.size, 1, none⟩) R7.out.pe.1.lt).trans x7
                  refine Hold.run rfl rfl (by go_simp; exact ⟨rfl, rfl⟩) ?_
                  refine ⟨trivial, ?_⟩
                  simp only [Act.put, List.getElem_toArray, List.getElem_cons_zero, List.getElem_cons_succ, List.setIfInBounds_toArray, List.set_cons_zero, List.set_cons_succ]
                  refine Hold.one (i := 5) (by kernel_rfl) ?_
                  refine Hold.list1 rfl rfl ?_
                  have b8 : Below w7.heap.size w7 (w7.alloc (.cells #[.int .i64 x] 2)) := (Below.refl _ _).alloc (Nat.le_refl _) _
                  have O8 : Hid ((w7.alloc (.cells #[.int .i64 x] 2)).ownsRow (w.heap.size + 2) 2 1 (.slice av i ac) i (xs.map (.int .i64))) := hide (by
                    have := own_below O7.out b8
                    rwa [HXS.out] at this)
                  have N8 := hide (Blk.new w7 2 #[.int .i64 x])
                  have R8 := hide (R7.out.below b8)
                  have hsz8 : w.heap.size + 2 ≤ (w7.alloc (.cells #[.int .i64 x] 2)).heap.size := by
                    have h1 := R8.out.rb_ge
                    have h2 := R8.out.rb_blk.lt
                    omega
                  refine wpList_append_lies _ rfl _ _ 33 rfl (w.heap.size + 2) 2 i0 (.int .i64 0) 1 8 Try.underlying33 hi hz0 hz1 hz2 rfl (by decide) _ _ _ rfl O8.out ⟨w7.heap.size, 0, none⟩ 1 1 [.int .i64 x] rfl rfl ?c1 ?c2 (by decide) ?c3 ?c4 ?c5 _ rfl ?_
                  case c1 => exact N8.out.news
                  case c2 => intro z hz; simp at hz; rcases hz with rfl; rfl
                  case c3 => unfold maxLen; omega
                  case c4 => omega
                  case c5 => exact hsz8
                  intro g2 cap2 w9 hown hgrow hat hlt9
                  have hge := own_ge O8.out
                  have hnr := own_ne O8.out R8.out.rb_blk (by decide)
                  have FG := foot_row hgrow
                  have R9 := hide (R8.out.foot FG (fun y hy => hge y (Option.mem_toList.1 hy)) (fun hm => absurd rfl (hnr _ (Option.mem_toList.1 hm))))
                  have x9 : w9.cell? ⟨w.heap.size, 1, none⟩ = some (.slice av i ac) := R9.out.pe.1.cell 1
                  have f9 := R9.out.pe.1.frozen 1
                  show _ ∧ _
                  refine ⟨trivial, ?_⟩
                  simp only [Act.put, List.getElem_toArray, List.getElem_cons_zero, List.getElem_cons_succ, List.setIfInBounds_toArray, List.set_cons_zero, List.set_cons_succ]
                  refine Hold.take (i := 6) (v := ?_) rfl (by kernel_rfl) (by intro _ _ _ h; exact put18 h (by decide)) rfl ?_ hS ?_
                  rotate_left
                  · intro w' hS; go_simp; (try go_bits); (first | rfl | rw [if_pos (by omega)])
                  simp only [Act.put, List.getElem_toArray, List.getElem_cons_zero, List.getElem_cons_succ, List.setIfInBounds_toArray, List.set_cons_zero, List.set_cons_succ]
                  refine Hold.one (i := 7) (by kernel_rfl) ?_
                  refine Hold.skip rfl rfl (by go_simp; exact rfl) ?_
                  refine ⟨trivial, ?_⟩
                  simp only [Act.put, List.getElem_toArray, List.getElem_cons_zero, List.getElem_cons_succ, List.setIfInBounds_toArray, List.set_cons_zero, List.set_cons_succ]
                  refine Hold.done (by kernel_rfl) ?_
                  have RA : Hid (RS w (w9.setCell ⟨w.heap.size, 1, none⟩ (.slice (some ⟨g2, 0, none⟩) (i + 1) cap2)) (w.heap.size + 1 + 1) ra rc b #[.slice none 0 0, .slice (some ⟨g2, 0, none⟩) (i + 1) cap2, .int .i64 vw] q') := hide (R9.out.write 1 (.slice (some ⟨g2, 0, none⟩) (i + 1) cap2))
                  have OA : Hid (AO (w9.setCell ⟨w.heap.size, 1, none⟩ (.slice (some ⟨g2, 0, none⟩) (i + 1) cap2)) (w.heap.size + 2) (.slice (some ⟨g2, 0, none⟩) (i + 1) cap2) (xs ++ [x])) := hide (by
                    refine AO.keeps (W := w9) ?_ ((Keeps.refl w9).setCell R9.out.pe.1 (by decide) _)
                    unfold AO
                    rw [List.length_append, HXS.out, List.map_append]
                    exact hown)
                  clear hown hgrow hat hlt9 b8 O8 N8 R8 hge hnr FG R9 x9 f9 hsz8
                  go_wp2_with fail
                  go_roundw
                  case rel => exact ⟨i + 1, xs ++ [x], q', some ⟨g2, 0, none⟩, cap2, hlt, by go_num, hide (by rw [List.length_append, HXS.out]; rfl), HRD, RA.out, OA.out⟩
                  case measure => simp [intOf]; omega
        · obtain rfl : i = m := by omega
          have HRE := hide (rdL_end hrd.out)
          clear hrd
          as_aux_lemma =>
            go_wp2_with fail
            refine (fields_any wr).mono ?_
            rintro r' w5 ⟨fa, fc, rfl, hFs, k5⟩
            have R5 := hide (R.out.below k5)
            have O5 := hide (AO.keeps O.out (Keeps.of_below k5))
            have FS5 := hide hFs
            have h3 := rs_call R5.out (fun W0 h => count_ok h)
            obtain ⟨FB, hFB⟩ : ∃ FB, FB = wr.heap.size := ⟨_, rfl⟩
            rw [← hFB] at FS5
            have hT3 : rdP b = rdP3 vw xs q := by rw [HT2.out, HRE.out]
            have HT3 := hide hT3
            clear k5 hFs hFB hT3 R O HT2 HRE
            cases e4 : rdC q with
            | none =>
              have HN : Hid (rdT b = none) := hide (by unfold rdT; rw [HT3.out]; unfold rdP3; rw [e4])
              rw [e4] at h3
              have H3 := hide h3
              clear h3 e4
              go_wp2_with fail
              refine H3.out.mono ?_
              rintro r' w6 ⟨rfl, k6⟩
              go_wp2_with fail
              exact door_panic HN.out k6 rfl rfl
            | some p4 =>
              obtain ⟨kk, r5⟩ := p4
              obtain ⟨k, rfl, hkr⟩ := rdC_nat e4
              rw [e4] at h3
              have H3 := hide h3
              have hT4 : rdP b = match rdL rdNd k r5 with
                | some (ns, r') => some (⟨vw, xs, ns⟩, r')
                | none => none := by rw [HT3.out]; unfold rdP3; rw [e4]; rfl
              have HT4 := hide hT4
              clear h3 e4 hT4
              go_wp2_with fail
              refine H3.out.mono ?_
              rintro r' w6 ⟨rfl, R6, F6⟩
              have hkl : k ≤ 10000000 := Nat.le_trans hkr R6.len
              have K6 := Keeps.of_foot F6 (fun y hy => by obtain rfl := List.mem_singleton.1 hy; exact ⟨_, _, R5.out.rb_blk, by decide⟩)
              have O6 := hide (AO.keeps O5.out K6)
              have FS6 := hide (FS5.out.keeps K6)
              have R6 := hide R6
              clear F6 H3 K6 R5 O5 FS5
              go_wp2_with fail
              go_loopw [6, 29] (fun s6 s29 wr => ∃ (j : Nat) (ns : List Nd) (q : List Int) (nv : Option Addr) (nc : Nat), j ≤ k ∧ s29 = .int .i64 j ∧ Hid (ns.length = j) ∧ Hid (rdL rdNd k r5 = (rdL rdNd (k - j) q).map fun p => (ns ++ p.1, p.2)) ∧ RS w wr (w.heap.size + 1 + 1) ra rc b #[.slice nv j nc, .slice av i ac, .int .i64 vw] q ∧ AO wr (w.heap.size + 2) (.slice av i ac) xs ∧ NO wr (w.heap.size + 2) (.slice nv j nc) ns ∧ Fs wr FB fa fc) (fun _ s29 _ => k - (intOf s29).toNat)
              case atStart => exact ⟨0, [], r5, none, 0, Nat.zero_le _, rfl, hide rfl, hide (by cases rdL rdNd (k - 0) r5 <;> rfl), R6.out, O6.out, ⟨[], trivial, World.ownsRow_nil _ _ _ _⟩, FS6.out⟩
              case round =>
                clear R6 O6 FS6
                obtain ⟨j, ns, q, nv, nc, hjk, rfl, HNS, hrd, hR, hO, hN, hF⟩ := hrel
                have R := hide hR
                have O := hide hO
                have N := hide hN
                have FS := hide hF
                clear hR hO hN hF
                by_cases hlt : j < k
                · have h2 := rs_call R.out (fun W0 h => whole_ok h)
                  cases e5 : rdN q with
                  | none =>
                    have HN : Hid (rdT b = none) := hide (by unfold rdT; rw [HT4.out, rdL_none hlt hrd.out (by unfold rdNd; rw [e5])])
                    rw [e5] at h2
                    have H2 := hide h2
                    clear h2 e5
                    go_wp2_with fail
                    refine H2.out.mono ?_
                    rintro r' w7 ⟨rfl, k7⟩
                    go_wp2_with fail
                    exact door_panic HN.out k7 rfl rfl
                  | some p5 =>
                    obtain ⟨pa, q1⟩ := p5
                    rw [e5] at h2
                    have H2 := hide h2
                    clear h2
                    go_wp2_with fail
                    refine H2.out.mono ?_
                    rintro r' w7 ⟨rfl, R7, F7⟩
                    have K7 := Keeps.of_foot F7 (fun y hy => by obtain rfl := List.mem_singleton.1 hy; exact ⟨_, _, R.out.rb_blk, by decide⟩)
                    obtain ⟨ls0, hnl0, how0⟩ := N.out
                    have N7 := N.out.foot F7 K7 (fun y hy hm => own_ne how0 R.out.rb_blk (by decide) y hy (List.mem_singleton.1 hm))
                    have O7 := AO.keeps O.out K7
                    have FS7 := FS.out.keeps K7
                    clear H2 how0 hnl0
                    as_aux_lemma =>
                      go_upto_region 12 with (first | (refine wpList_build_eq rfl 51 _ rfl (ncell (pa, KD.map zv) (.slice none 0 0)).toArray (by kernel_rfl) ?_) | (refine wpList_store_row rfl 51 _ _ rfl w7.heap.size (ncell (pa, KD.map zv) (.slice none 0 0)).toArray rfl rfl 51 _ (heap_alloc_new w7 _) (nd_size _ _) rfl (all_oneCell_toArray (ncell_one _ rfl)) ?_))
                      rw [World.setRow_alloc_new]
                      obtain ⟨w8, hw8⟩ : ∃ w8, w8 = w7.alloc (.cells (ncell (pa, KD.map zv) (.slice none 0 0)).toArray 51) := ⟨_, rfl⟩
                      have k8 : Below w7.heap.size w7 w8 := by rw [hw8]; exact (Below.refl _ _).alloc (Nat.le_refl _) _
                      have NB8 : Blk w8 w7.heap.size 51 (ncell (pa, KD.map zv) (.slice none 0 0)).toArray := by rw [hw8]; exact Blk.new _ _ _
                      rw [← hw8]
                      have R8 := hide (R7.below k8)
                      have O8 := hide (AO.keeps O7 (Keeps.of_below k8))
                      have N8 := hide (N7.below k8)
                      have FS8 := hide (FS7.keeps (Keeps.of_below k8))
                      have hnb : w.heap.size + 2 ≤ w7.heap.size ∧ w.heap.size + 1 + 1 < w7.heap.size := by
                        have h1 := R7.rb_ge
                        have h2 := R7.rb_blk.lt
                        omega
                      have NB8 := hide NB8
                      have hol : ∀ y, (Value.slice nv j nc).ownBlock = some y → y < w7.heap.size := by
                        obtain ⟨ls1, _, how1⟩ := N7
                        intro y hy
                        obtain ⟨_, _, h⟩ := own_type how1 y hy
                        exact heap_lt h
                      clear hw8 k8 R7 F7 O7 N7 FS7 K7
                      generalize w7.heap.size = nb at hnb NB8 hol ⊢
                      have h3 := rs_style R8.out FS8.out
                      cases e6 : rdF KD 1 q1 with
                      | none =>
                        have HN : Hid (rdT b = none) := hide (by unfold rdT; rw [HT4.out, rdL_none hlt hrd.out (by unfold rdNd; rw [e5]; dsimp only; rw [e6])])
                        rw [e6] at h3
                        have H3 := hide h3
                        clear h3 e6
                        go_wp2_with fail
                        refine H3.out.mono ?_
                        rintro r' w9 ⟨rfl, k9⟩
                        go_wp2_with fail
                        exact door_panic HN.out k9 rfl rfl
                      | some p6 =>
                        obtain ⟨L, q'⟩ := p6
                        have HRD := hide (rdL_some (x := ((pa, L) : Nd)) hlt hrd.out (by unfold rdNd; rw [e5]; dsimp only; rw [e6]))
                        rw [e6] at h3
                        have H3 := hide h3
                        clear h3 e6
                        go_wp2_with fail
                        refine H3.out.mono ?_
                        rintro r' w9 ⟨hLl, uv, rfl, R9, F9, U9⟩
                        have K9 := Keeps.of_foot F9 (fun y hy => by obtain rfl := List.mem_singleton.1 hy; exact ⟨_, _, R8.out.rb_blk, by decide⟩)
                        have NB9 := NB8.out.foot F9 (by simp; omega)
                        obtain ⟨ls2, hnl2, how2⟩ := N8.out
                        have N9 := N8.out.foot F9 K9 (fun y hy hm => own_ne how2 R8.out.rb_blk (by decide) y hy (List.mem_singleton.1 hm))
                        have O9 := AO.keeps O8.out K9
                        have FS9 := FS8.out.keeps K9
                        have U9 := U9.mono (B' := w.heap.size + 2) (by have h1 := R8.out.rb_ge; have h2 := R8.out.rb_blk.lt; omega)
                        have TH9 : w9.there nb 1 43 := there_blk NB9 (by change 1 + 43 ≤ 44; omega)
                        have RG10 := node_range (L := L) (uv := uv) NB9 rfl rfl
                        have F10 : Foot [nb] w9 (w9.setCells nb 1 (SC (gof L) uv)) := Foot.setCells (.inl (by simp)) _ _ _ (Foot.refl _ _)
                        have K10 := Keeps.of_foot F10 (fun y hy => by obtain rfl := List.mem_singleton.1 hy; exact ⟨_, _, NB9, by decide⟩)
                        have R10 := hide (R9.foot F10 (by simp; omega) (by simp; omega))
                        have N10 := hide (N9.foot F10 K10 (fun y hy hm => by have := hol y hy; have := List.mem_singleton.1 hm; omega))
                        have O10 := hide (AO.keeps O9 K10)
                        have FS10 := hide (FS9.keeps K10)
                        have U10 := hide (U9.keeps K10)
                        have HU := hide U9.one
                        clear H3 how2 hnl2 K9 F9 F10 K10 N9 O9 FS9 U9 NB9 R9 O8 N8 FS8 R8
                        go_upto_region 13 with (refine wpList_store_mid rfl 49 _ _ rfl nb 1 (SC (gof L) uv).toArray rfl rfl TH9 (st_size _ _) (SC_one _ HU.out) ?_)
                        obtain ⟨w10, hw10⟩ : ∃ w10, w10 = w9.setCells nb 1 (SC (gof L) uv) := ⟨_, rfl⟩
                        rw [← hw10] at R10 N10 O10 FS10 U10 RG10 ⊢
                        clear hw10 TH9
                        have x10 : w10.cell? ⟨w.heap.size, 0, none⟩ = some (.slice nv j nc) := R10.out.pe.1.cell 0
                        obtain ⟨ls, hnl, how⟩ := N10.out
                        have b11 : Below w10.heap.size w10 (w10.alloc (.cells (ncell (pa, L) uv).toArray 51)) := (Below.refl _ _).alloc (Nat.le_refl _) _
                        have O11 : Hid ((w10.alloc (.cells (ncell (pa, L) uv).toArray 51)).ownsRow (w.heap.size + 2) 51 44 (.slice nv j nc) j ls.flatten) := hide (by
                          have := own_below how b11
                          rwa [HNS.out] at this)
                        have NL10 := hide hnl
                        have NB11 := hide (Blk.new w10 51 (ncell (pa, L) uv).toArray)
                        have R11 := hide (R10.out.below b11)
                        have K11 := hide (Keeps.of_below b11)
                        have hsz11 : w.heap.size + 2 ≤ (w10.alloc (.cells (ncell (pa, L) uv).toArray 51)).heap.size := by
                          have h1 := R11.out.rb_ge
                          have h2 := R11.out.rb_blk.lt
                          omega
                        clear hnl how b11 N10
                        go_wp2_with (first | (refine wpList_load_mid rfl 51 _ rfl nb 0 rfl (ncell (pa, L) uv) _ RG10 Try.underlying51 rfl (nd_size _ _) ?_) | (refine wpList_node rfl _ rfl (pa, L) uv rfl ?_) | (at_builtin; refine wpList_append_lies _ rfl _ _ 32 rfl (w.heap.size + 2) 51 i1 (.agg (ncell (0, KD.map zv) (.slice none 0 0)).toArray) 44 328 Try.underlying32 hi' hy0 hy1 hy2 rfl (by decide) _ _ _ rfl O11.out ⟨w10.heap.size, 0, none⟩ 1 1 (ncell (pa, L) uv) rfl rfl ?c1 ?c2 (by decide) ?c3 ?c4 ?c5 _ rfl ?_))
                        case c1 => exact NB11.out.news
                        case c2 => exact ncell_one _ HU.out
                        case c3 => unfold maxLen; omega
                        case c4 => omega
                        case c5 => exact hsz11
                        intro g2 cap2 w12 hown hgrow hat hlt12
                        have hge := own_ge O11.out
                        have hnr := own_ne O11.out R11.out.rb_blk (by decide)
                        have FG := foot_row hgrow
                        have R12 := hide (R11.out.foot FG (fun y hy => hge y (Option.mem_toList.1 hy)) (fun hm => absurd rfl (hnr _ (Option.mem_toList.1 hm))))
                        have K12 := hide (K11.out.trans (Keeps.of_grown O11.out (by decide) hgrow))
                        have x12 : w12.cell? ⟨w.heap.size, 0, none⟩ = some (.slice nv j nc) := R12.out.pe.1.cell 0
                        have f12 := R12.out.pe.1.frozen 0
                        have hge2 := own_ge hown
                        obtain ⟨w13, hw13⟩ : ∃ w13, w13 = w12.setCell ⟨w.heap.size, 0, none⟩ (.slice (some ⟨g2, 0, none⟩) (j + 1) cap2) := ⟨_, rfl⟩
                        have RA : Hid (RS w w13 (w.heap.size + 1 + 1) ra rc b #[.slice (some ⟨g2, 0, none⟩) (j + 1) cap2, .slice av i ac, .int .i64 vw] q') := hide (by rw [hw13]; exact R12.out.write 0 (.slice (some ⟨g2, 0, none⟩) (j + 1) cap2))
                        have K13 : Keeps w10 w13 := by rw [hw13]; exact K12.out.setCell R12.out.pe.1 (by decide) _
                        have F13 : Foot [w.heap.size] w12 w13 := by rw [hw13]; exact (Foot.refl _ _).setCell (.inl (by simp)) _
                        have OA := hide (AO.keeps O10.out K13)
                        have FA := hide (FS10.out.keeps K13)
                        have NA : Hid (NO w13 (w.heap.size + 2) (.slice (some ⟨g2, 0, none⟩) (j + 1) cap2) (ns ++ [((pa, L) : Nd)])) := hide (by
                          refine ⟨ls ++ [ncell (pa, L) uv], (NL10.out.keeps K13).app ⟨⟨uv, rfl, U10.out.keeps K13⟩, trivial⟩, ?_⟩
                          refine own_foot ?_ F13 (fun y hy hm => by have := hge2 y hy; have := List.mem_singleton.1 hm; omega)
                          rw [List.length_append, HNS.out, List.flatten_append]
                          simpa using hown)
                        have HNS2 : Hid ((ns ++ [((pa, L) : Nd)]).length = j + 1) := hide (by rw [List.length_append, HNS.out]; rfl)
                        clear hown hgrow hat hlt12 hge hnr FG R12 K12 hge2 F13 K13 O11 NL10 NB11 R11 K11 hsz11 O10 FS10 U10 HU R10 hol
                        go_wp2_with fail
                        rw [← hw13]
                        go_roundw
                        case rel => exact ⟨j + 1, ns ++ [(pa, L)], q', some ⟨g2, 0, none⟩, cap2, hlt, by go_num, HNS2, HRD, RA.out, OA.out, NA.out, FA.out⟩
                        case measure => simp [intOf]; omega
                · obtain rfl : j = k := by omega
                  have hT5 : rdP b = some (⟨vw, xs, ns⟩, q) := by rw [HT4.out, rdL_end hrd.out]
                  have HT5 := hide hT5
                  clear hT5 hrd HT4
                  as_aux_lemma =>
                    have x0 := R.out.rb_blk.cell 0
                    have x1 := R.out.rb_blk.cell 1
                    simp only [List.getElem?_toArray, List.getElem?_cons_zero, List.getElem?_cons_succ] at x0 x1
                    obtain ⟨p, hp⟩ : ∃ p, p = b.length - q.length := ⟨_, rfl⟩
                    rw [← hp] at x1
                    have hql : q.length ≤ b.length := by
                      obtain ⟨W0, h1, _⟩ := R.out.ex
                      exact h1.le
                    have C0 := keepd x0
                    have C1 := keepd x1
                    by_cases hq : q = []
                    · have HF : Hid (rdT b = some ⟨vw, xs, ns⟩) := hide (by unfold rdT; rw [HT5.out]; dsimp only; rw [if_pos hq])
                      have d0 : ((p : Int) == (b.length : Int)) = true := by
                        rw [hp, hq]; simp
                      clear hp hq hql
                      go_upto_region 15 with fail
                      refine Reg.region (by kernel_rfl) 11 [] (fun _ w' => w' = wr.drew) (by kernel_rfl) (by kernel_rfl) rfl ?_
                      iterate 11
                        first
                          | refine Reg.WT.idle rfl rfl ?_
                          | (refine Reg.WT.yield (v := ?_) rfl rfl ?_ ?_
                             rotate_left
                             · intro w' _ hS; go_simp; (try go_bits); (first | rfl | rw [if_pos (by omega)]))
                        simp only [Act.put, List.setIfInBounds_toArray, List.set_cons_zero, List.set_cons_succ]
                      intro w4 hS
                      subst hS
                      clear C0 C1 d0
                      go_wp2_with fail
                      refine (must_true _ _).mono ?_
                      rintro r' w5 ⟨rfl, k5⟩
                      have t5 := below_call (Below.refl wr.heap.size wr).drew k5
                      have R5 := R.out.below t5
                      have N5 := hide (N.out.below t5)
                      have O5 := hide (AO.keeps O.out (Keeps.of_below t5))
                      have P5 := R5.pe
                      have c0 : w5.cell? ⟨w.heap.size, 0, none⟩ = some (.slice nv j nc) := P5.1.cell 0
                      have c1 : w5.cell? ⟨w.heap.size, 1, none⟩ = some (.slice av i ac) := P5.1.cell 1
                      have c2 : w5.cell? ⟨w.heap.size, 2, none⟩ = some (.int .i64 vw) := P5.1.cell 2
                      have c3 : w5.cell? ⟨w.heap.size + 1, 0, none⟩ = some (.int .i64 0) := P5.2.1.cell 0
                      have f0 := P5.1.frozen 0
                      have f1 := P5.1.frozen 1
                      have f2 := P5.1.frozen 2
                      have f3 := P5.2.1.frozen 0
                      have HT := hide (rdT_sound HB.out HF.out).2
                      have P5 := hide P5
                      clear k5 t5 x0 x1 R5 R N O FS
                      go_wp2_with fail
                      refine door_ret (t1 := .slice nv j nc) (t2 := .slice av i ac) (t3 := .int .i64 vw) HF.out ?_ ?_ rfl rfl
                      · refine ⟨?_, ?_, ?_⟩
                        · have := (((P5.out.1.set_ 0 (.slice nv j nc)).set_ 1 (.slice av i ac)).set_ 2 (.int .i64 vw)).far (p := ⟨w.heap.size + 1, 0, none⟩) (by simp) (.int .i64 0)
                          simpa using this
                        · have := (((P5.out.2.1.far (p := ⟨w.heap.size, 0, none⟩) (by simp) (.slice nv j nc)).far (p := ⟨w.heap.size, 1, none⟩) (by simp) (.slice av i ac)).far (p := ⟨w.heap.size, 2, none⟩) (by simp) (.int .i64 vw)).set_ 0 (.int .i64 0)
                          simpa using this
                        · exact (((P5.out.2.2.setCell (p := ⟨w.heap.size, 0, none⟩) (Nat.le_refl _) _).setCell (p := ⟨w.heap.size, 1, none⟩) (Nat.le_refl _) _).setCell (p := ⟨w.heap.size, 2, none⟩) (Nat.le_refl _) _).setCell (p := ⟨w.heap.size + 1, 0, none⟩) (by simp) _
                      · have FW : Foot [w.heap.size, w.heap.size + 1] w5 ((((w5.setCell ⟨w.heap.size, 0, none⟩ (.slice nv j nc)).setCell ⟨w.heap.size, 1, none⟩ (.slice av i ac)).setCell ⟨w.heap.size, 2, none⟩ (.int .i64 vw)).setCell ⟨w.heap.size + 1, 0, none⟩ (.int .i64 0)) := ((((Foot.refl _ w5).setCell (.inl (by simp)) _).setCell (.inl (by simp)) _).setCell (.inl (by simp)) _).setCell (.inl (by simp)) _
                        have KW := Keeps.of_foot FW (fun y hy => by
                          simp only [List.mem_cons, List.not_mem_nil, or_false] at hy
                          rcases hy with rfl | rfl
                          · exact ⟨_, _, P5.out.1, by decide⟩
                          · exact ⟨_, _, P5.out.2.1, by decide⟩)
                        obtain ⟨ls, hnl, how⟩ := N5.out
                        have hge := own_ge how
                        have NW := N5.out.foot FW KW (fun y hy hm => by
                          have := hge y hy
                          simp only [List.mem_cons, List.not_mem_nil, or_false] at hm
                          omega)
                        have OW := AO.keeps O5.out KW
                        obtain ⟨na, nc', e1, hn1, hn2, hn3⟩ := NW.row
                        obtain ⟨aa, ac', e2, ha1, ha2, _, ha3⟩ := own_row OW
                        rw [HNS.out] at e1 hn2
                        rw [HXS.out] at e2 ha1
                        refine ⟨nv, nc, av, ac, by rw [HNS.out, HXS.out], ?_, ?_, HT.out, ?_⟩
                        · simp only [Value.slice.injEq] at e1; rw [← e1.1] at hn1; exact hn1
                        · simp only [Value.slice.injEq] at e2; rw [← e2.1] at ha3; exact ha3
                        · simp only [Value.slice.injEq] at e1 e2
                          dsimp only
                          rw [HNS.out, HXS.out, e1.2.2, e2.2.2]
                          exact ⟨hn2, hn3, ha1, ha2⟩
                    · have HN : Hid (rdT b = none) := hide (by unfold rdT; rw [HT5.out]; dsimp only; rw [if_neg hq])
                      have d0 : ((p : Int) == (b.length : Int)) = false := by
                        have : 0 < q.length := List.length_pos_iff.2 hq
                        simp; omega
                      clear hp hq hql
                      go_upto_region 15 with fail
                      refine Reg.region (by kernel_rfl) 11 [] (fun _ w' => w' = wr.drew) (by kernel_rfl) (by kernel_rfl) rfl ?_
                      iterate 11
                        first
                          | refine Reg.WT.idle rfl rfl ?_
                          | (refine Reg.WT.yield (v := ?_) rfl rfl ?_ ?_
                             rotate_left
                             · intro w' _ hS; go_simp; (try go_bits); (first | rfl | rw [if_pos (by omega)]))
                        simp only [Act.put, List.setIfInBounds_toArray, List.set_cons_zero, List.set_cons_succ]
                      intro w4 hS
                      subst hS
                      clear C0 C1 d0
                      go_wp2_with fail
                      refine (must_false _ _).mono ?_
                      rintro r' w5 ⟨rfl, k5⟩
                      have R5 := R.out.below (below_call (Below.refl _ _).drew k5)
                      go_wp2_with fail
                      exact door_panic HN.out R5.pe rfl rfl
end Go.Proofs.Ytmngndmcidbakaa
