/- Walk: Stamps. -/
import Derived.Test.YtffpphnjokmffaaEC
import Derived.Deep.AppendLies
import Derived.Deep.Onto
import Derived.Deep.CutRange
namespace Go.Proofs.Ytffpphnjokmffaa
open Go.RowKit Go.Maps

theorem info34 : (Try.prog.info? 34).map (fun i => (i.zero, i.size, i.bytes)) = some (some (.slice none 0 0), 1, 24) := by kernel_rfl
theorem info3 : (Try.prog.info? 3).map (fun i => (i.zero, i.size, i.bytes)) = some (some (.int .i64 0), 1, 8) := by kernel_rfl
theorem law : Keyed Try.prog 3 := int_keyed Try.underlying3
/-- The stamps as they are handed back. -/
def TRow (W : World) (A : Option Addr) (e : Nat → Ev) (n L : Nat) : Prop :=
  ∃ obs : List (Nat × Nat), obs.length = L ∧ Row W A (obs.map (outV n)) ∧ ∀ j (h : j < obs.length), n ≤ obs[j].2 ∧ obs[j].2 ≤ maxLen ∧ Row W (some ⟨obs[j].1, 0, none⟩) (ints (stRow e n j))
theorem TRow.below {W W' : World} {A : Option Addr} {e : Nat → Ev} {n L : Nat} (h : TRow W A e n L) (hb : Below W.heap.size W W') : TRow W' A e n L := by
  obtain ⟨obs, h1, h2, h3⟩ := h
  exact ⟨obs, h1, h2.below hb, fun j hj => ⟨(h3 j hj).1, (h3 j hj).2.1, (h3 j hj).2.2.below hb⟩⟩
def SPost (e : Nat → Ev) (n L : Nat) (w : World) (r : Ending) (w' : World) : Prop := ∃ g cap, r = .returned (.tuple #[.slice (some ⟨g, 0, none⟩) L cap, .int .i64 0]) ∧ TRow w' (some ⟨g, 0, none⟩) e n L ∧ Below w.heap.size w w'
/-- The first u rows made. -/
def madeU (N0 n u : Nat) : List Value := ((List.range u).map fun v => .slice (some ⟨N0 + 1 + v, 0, none⟩) n n) ++ List.replicate (n - u) (.slice none 0 0)
theorem madeU_set {N0 n u : Nat} (h : u < n) : (madeU N0 n u).set u (.slice (some ⟨N0 + 1 + u, 0, none⟩) n n) = madeU N0 n (u + 1) := by
  unfold madeU
  have hl : ((List.range u).map fun v => Value.slice (some ⟨N0 + 1 + v, 0, none⟩) n n).length = u := by simp
  rw [List.set_append_right _ _ (by omega), hl, Nat.sub_self, show n - u = (n - (u + 1)) + 1 from by omega, List.replicate_succ, List.set_cons_zero, List.range_succ, List.map_append, List.append_assoc]
  rfl
theorem stamps_no (a : Option Addr) (l : List Ev) (c : Nat) (n : Int) (w : World) (hr : ERow w a l) (hk : ∀ x ∈ l, 0 ≤ x.k ∧ x.k ≤ 255) (hM : ¬ LogOk n l) :
    Calls Try.prog 12 #[.int .i64 n, .slice a l.length c] w fun r w' => r = .returned (.tuple #[.slice none 0 0, .int .i64 1]) ∧ Below w.heap.size w w' := by
  have HN := hide (right_no a l c n w hr hk hM)
  go_enter Try.func12, Try.ntmps12
  go_wp2_with fail
  refine HN.out.mono ?_
  rintro r w2 ⟨rfl, k2⟩
  have t2 := hide k2
  clear k2
  go_wp2_with fail
  go_returns
  exact ⟨rfl, t2.out⟩

theorem zeroS (w : World) : (zeroValue 34).run Try.prog w = .ok (.slice none 0 0) w := by kernel_rfl
set_option maxRecDepth 100000 in
set_option maxHeartbeats 8000000 in
theorem stamps_yes (a : Option Addr) (l : List Ev) (c : Nat) (n : Nat) (w : World) (hr : ERow w a l) (hM : LogOk n l) (hc : ∀ x ∈ l, x.c ≤ 9223372036854775807) : Calls Try.prog 12 #[.int .i64 n, .slice a l.length c] w (SPost (gl l) n l.length w) := by
  obtain ⟨⟨hn1, hn2⟩, hl, he⟩ := hM
  obtain ⟨i0, hi, hz0, hz1, hz2⟩ := info_parts info34
  obtain ⟨i1, gi, gz0, gz1, gz2⟩ := info_parts info3
  have HN := hide (right_yes a l c n w hr ⟨⟨hn1, hn2⟩, hl, he⟩)
  have HE := hide he
  have HCC := hide hc
  clear he hc
  have hmk34 := fun W => run_make1 (P := Try.prog) 25 34 Try.underlying25 hi hz0 hz1 rfl hz2 n (by omega) (by omega) W
  have hmkL := fun W => run_make1 (P := Try.prog) 25 34 Try.underlying25 hi hz0 hz1 rfl hz2 l.length (by omega) (by omega) W
  have hmk3 := fun W => run_make1 (P := Try.prog) 34 3 Try.underlying34 gi gz0 gz1 rfl gz2 n (by omega) (by omega) W
  have HK34 := hide hmk34
  have HKL := hide hmkL
  have HK3 := hide hmk3
  have hmm := @run_makeMap Try.prog
  have HMM := hide hmm
  clear hmk34 hmkL hmk3 hmm
  go_enter Try.func12, Try.ntmps12
  go_wp2_with fail
  refine HN.out.mono ?_
  rintro r w2 ⟨rfl, k2⟩
  have t2 := hide k2
  clear k2 HN
  have hmk34 := HK34.out
  go_wp2_with fail
  clear hmk34
  obtain ⟨N0, hN0⟩ : ∃ N0, N0 = w2.heap.size := ⟨_, rfl⟩
  obtain ⟨w3, hw3⟩ : ∃ w3, w3 = w2.alloc (.cells (Array.replicate n (.slice none 0 0)) 34) := ⟨_, rfl⟩
  have B3 : Hid (Blk w3 N0 34 (madeU N0 n 0).toArray) := hide (by rw [hw3, hN0]; simpa [madeU] using Blk.new w2 _ _)
  have s3 : Hid (w3.heap.size = N0 + 1 + 0) := hide (by rw [hw3, hN0]; simp)
  have t3 : Hid (Below w.heap.size w w3) := hide (hw3 ▸ t2.out.alloc t2.out.size _)
  have hwN : w.heap.size ≤ N0 := by rw [hN0]; exact t2.out.size
  rw [← hw3, ← hN0]
  clear hw3 hN0 t2
  have hmk3 := HK3.out
  go_loopw [21] (fun iv wr => ∃ u : Nat, u ≤ n ∧ iv = .int .i64 u ∧ Blk wr N0 34 (madeU N0 n u).toArray ∧ Hid (wr.heap.size = N0 + 1 + u) ∧ Below w.heap.size w wr ∧ ∀ v, v < u → Blk wr (N0 + 1 + v) 3 (ints (List.replicate n 0)).toArray) (fun iv _ => n - (intOf iv).toNat)
  case atStart => exact ⟨0, Nat.zero_le _, rfl, B3.out, s3, t3.out, fun v hv => by omega⟩
  case round =>
    clear B3 s3 t3
    obtain ⟨u, hu, rfl, hB, hs, hbel, hR⟩ := hrel
    have t := hide hbel
    have B := hide hB
    have R := hide hR
    clear hbel hR hB
    by_cases hlt : u < n
    · have hcell : wr.cell? ⟨N0, u, none⟩ = some (.slice none 0 0) := by
        refine (B.out.cell u).trans ?_
        have hl : ((List.range u).map fun v => Value.slice (some ⟨N0 + 1 + v, 0, none⟩) n n).length = u := by simp
        unfold madeU
        rw [List.getElem?_toArray, List.getElem?_append_right (by omega), hl, Nat.sub_self, List.getElem?_replicate, if_pos (by omega)]
      have hfz : wr.frozen? ⟨N0, u, none⟩ = false := B.out.frozen u
      have hN0r := B.out.lt
      have sz4 : (wr.setCell ⟨N0, u, none⟩ (.slice (some ⟨wr.heap.size, 0, none⟩) n n)).heap.size = wr.heap.size := by show (wr.heap.modify _ _).size = _; rw [Array.size_modify]
      have BF : Hid (Blk ((wr.setCell ⟨N0, u, none⟩ (.slice (some ⟨wr.heap.size, 0, none⟩) n n)).alloc (.cells (Array.replicate n (.int .i64 0)) 3)) N0 34 (madeU N0 n (u + 1)).toArray) := hide (by
        have := (B.out.set_ u (.slice (some ⟨wr.heap.size, 0, none⟩) n n)).alloc (.cells (Array.replicate n (.int .i64 0)) 3)
        rw [← madeU_set hlt, show N0 + 1 + u = wr.heap.size from hs.out.symm]
        simpa using this)
      have SF : Hid (((wr.setCell ⟨N0, u, none⟩ (.slice (some ⟨wr.heap.size, 0, none⟩) n n)).alloc (.cells (Array.replicate n (.int .i64 0)) 3)).heap.size = N0 + 1 + (u + 1)) := hide (by
        rw [World.size_alloc, sz4, hs.out]; omega)
      have RF : Hid (∀ v, v < u + 1 → Blk ((wr.setCell ⟨N0, u, none⟩ (.slice (some ⟨wr.heap.size, 0, none⟩) n n)).alloc (.cells (Array.replicate n (.int .i64 0)) 3)) (N0 + 1 + v) 3 (ints (List.replicate n 0)).toArray) := hide (fun v hv => by
        by_cases hvu : v < u
        · exact ((R.out v hvu).far (by show N0 + 1 + v ≠ N0; omega) _).alloc _
        · have hve : v = u := by omega
          have h5 := Blk.new (wr.setCell ⟨N0, u, none⟩ (.slice (some ⟨wr.heap.size, 0, none⟩) n n)) 3 (Array.replicate n (.int .i64 0))
          rw [sz4, hs.out] at h5
          rw [hve, hs.out]
          simpa [ints] using h5)
      have TF := hide ((t.out.setCell (p := ⟨N0, u, none⟩) (by exact hwN) (.slice (some ⟨wr.heap.size, 0, none⟩) n n)).alloc (by rw [sz4]; have := t.out.size; exact this) (.cells (Array.replicate n (.int .i64 0)) 3))
      clear sz4
      go_wp2_with fail
      go_roundw
      case rel => exact ⟨u + 1, hlt, by go_num, BF.out, SF, TF.out, RF.out⟩
      case measure => simp [intOf]; omega
    · obtain rfl : u = n := by omega
      clear hmk3
      have hmm := HMM.out
      have hmkL := HKL.out
      go_wp2_with fail
      clear hmm hmkL
      obtain ⟨M0, hM0⟩ : ∃ M0, M0 = wr.heap.size := ⟨_, rfl⟩
      obtain ⟨O0, hO0⟩ : ∃ O0, O0 = wr.heap.size + 1 := ⟨_, rfl⟩
      obtain ⟨w5, hw5⟩ : ∃ w5, w5 = (wr.alloc (.map #[] 0)).alloc (.cells (Array.replicate l.length (.slice none 0 0)) 34) := ⟨_, rfl⟩
      have hMO : M0 < O0 := by omega
      have hNM : N0 + u < M0 := by have := hs.out; omega
      have t5 : Hid (Below w.heap.size w w5) := hide (by rw [hw5]; exact (t.out.alloc t.out.size _).alloc (by have := t.out.size; simp; omega) _)
      have S5 : Hid (SW w5 (gl l) u l.length N0 M0 O0 (fun v => nowRow (gl l) u 0 v) 0 []) := hide (by
        refine ⟨?_, fun v hv => ?_, ?_, ?_, fun j hj => by simp at hj⟩
        · have := B.out
          have e : madeU N0 u u = nowCells N0 u := by unfold madeU nowCells; simp
          rw [e] at this
          rw [hw5]; exact (this.alloc _).alloc _
        · rw [hw5, nowRow_zero]; exact ((R.out v hv).alloc _).alloc _
        · refine ⟨.map [], ?_, ⟨[], rfl⟩, fun c' => ?_⟩
          · rw [hw5, hM0]
            exact (World.ownsMap_made wr Try.prog 3 SR).alloc _
          · rfl
        · have := Blk.new (wr.alloc (.map #[] 0)) 34 (Array.replicate l.length (.slice none 0 0))
          rw [World.size_alloc] at this
          rw [hw5, hO0]
          simpa [outCells] using this)
      rw [← hw5, ← hO0, ← hM0]
      clear hw5 hM0 hO0 B R
      go_loopw [36] (fun iv wr => ∃ (i : Nat) (obs : List (Nat × Nat)), i ≤ l.length ∧ iv = .int .i64 i ∧ obs.length = i ∧ SW wr (gl l) u l.length N0 M0 O0 (fun v => nowRow (gl l) u i v) i obs ∧ Below w.heap.size w wr) (fun iv _ => l.length - (intOf iv).toNat)
      case atStart => exact ⟨0, [], Nat.zero_le _, rfl, rfl, S5.out, t5.out⟩
      case round =>
        clear t5 S5 t
        obtain ⟨i, obs, hi, rfl, hob, hS, hbel⟩ := hrel
        have t := hide hbel
        have S := hide hS
        have HOB := hide hob
        clear hbel hS hob
        by_cases hlt : i < l.length
        · obtain ⟨b, off, rfl, hb, hcell⟩ := e_at (hr.below t.out) (by omega)
          obtain ⟨x0, x1, x2⟩ := hcell i hlt
          obtain ⟨⟨p1, p2⟩, p3, p4, p5⟩ := HE.out _ (List.getElem_mem hlt)
          have pc := HCC.out _ (List.getElem_mem hlt)
          have HGL := hide (gl_at hlt)
          clear hcell
          generalize l[i] = z at x0 x1 x2 p1 p2 p3 p4 p5 pc HGL
          obtain ⟨zw, zk, zc⟩ := z
          dsimp only at x0 x1 x2 p1 p2 p3 p4 p5 pc
          obtain ⟨v, rfl⟩ := Int.eq_ofNat_of_zero_le p1
          have hvu : v < u := by omega
          obtain ⟨w6, hw6⟩ : ∃ w6, w6 = wr.alloc (.cells #[.int .i64 v, .int .u8 zk, .int .i64 zc] 48) := ⟨_, rfl⟩
          have a6 : Below wr.heap.size wr w6 := hw6 ▸ (Below.refl _ _).alloc (Nat.le_refl _) _
          have E6 := hide (hw6 ▸ Blk.new wr _ _ : Blk w6 wr.heap.size 48 #[.int .i64 v, .int .u8 zk, .int .i64 zc])
          have S6 := hide (S.out.below a6)
          have t6 := hide (below_call (w := w) t.out a6)
          obtain ⟨eb, heb⟩ : ∃ eb, eb = wr.heap.size := ⟨_, rfl⟩
          have hebS : O0 < eb := by have := S.out.ob.lt; omega
          have n0 : wr.cell? ⟨N0, v, none⟩ = some (.slice (some ⟨N0 + 1 + v, 0, none⟩) u u) := by
            refine (S.out.nb.cell v).trans ?_
            simp [nowCells, hvu]
          have hN0r := S.out.nb.lt
          go_upto_region 15 with fail
          rw [← hw6]
          rw [← heb] at E6 ⊢
          clear hw6 a6 heb n0 hN0r S t x0 x1 x2
          have q1 : w6.cell? ⟨eb, 1, none⟩ = some (.int .u8 zk) := E6.out.cell 1
          go_upto_block 4 with fail
          clear q1
          go_cut [36] from 37 to 86 (fun s36 wx => s36 = .int .i64 i ∧ Below w.heap.size w wx ∧ Blk wx eb 48 #[.int .i64 v, .int .u8 zk, .int .i64 zc] ∧ SW wx (gl l) u l.length N0 M0 O0 (updR (fun v' : Nat => nowRow (gl l) u i (v' : Int)) v (joRow (gl l) u i)) i obs)
          case first =>
            have hgw : (gl l i).w = (v : Int) := by rw [HGL.out]
            have hgk : (gl l i).k = zk := by rw [HGL.out]
            have hgc : (gl l i).c = zc := by rw [HGL.out]
            by_cases hrd : zk = 1 ∨ zk = 3 ∨ zk = 4
            · have hrdE : rdE (gl l i) = true := by unfold rdE; rw [hgk]; rcases hrd with rfl | rfl | rfl <;> rfl
              obtain ⟨D, d1, d2, d3⟩ := S6.out.mp
              have hwf : (Lit.int .i64 zc).wf = true := by simp [Lit.wf, IntKind.min, IntKind.max, IntKind.signed, IntKind.bits]; omega
              obtain ⟨lv, ps, hrun, hlv⟩ := d1.lookup law Try.underlying56 (zeroS w6) (zd := .nil) (zp := []) rfl (keyOf_int_mk Try.underlying3 hwf)
              rw [d3] at hlv
              have hlv := SR_inv hlv
              have HJ : Hid (∃ ys : List Int, ∃ A d, lv = .slice A ys.length d ∧ Row w6 A (ints ys) ∧ ys.length ≤ u ∧ (∀ q o, A = some ⟨q, o, none⟩ → q ≠ N0 + 1 + v) ∧ jmid (nowRow (gl l) u i v) ys ys.length = joRow (gl l) u i) := hide (by
                cases hlw : lastW (gl l) zc i with
                | none =>
                  rw [hlw] at hlv
                  refine ⟨[], none, 0, hlv, ⟨by simp [ints], fun h => by simp [ints] at h⟩, by simp, (fun q o h => by cases h), ?_⟩
                  have := join_none (e := gl l) (n := u) (i := i) (fun _ => by rw [hgc]; exact hlw)
                  rw [hgw] at this
                  rw [show ([] : List Int).length = 0 from rfl, jmid_zero]
                  exact this
                | some k =>
                  have hki := lastW_lt hlw
                  have hko : k < obs.length := by have := HOB.out; omega
                  rw [hlw] at hlv
                  have hlv : lv = valO u (obs[k]?) := hlv
                  rw [List.getElem?_eq_getElem hko] at hlv
                  obtain ⟨a1, a2, a3, a4⟩ := S6.out.or k hko
                  obtain ⟨A, cp, e1, _, _, _, h5⟩ := own_row a4
                  simp only [outV, Value.slice.injEq] at e1
                  obtain ⟨rfl, _, _⟩ := e1
                  have hj := join_some (e := gl l) (n := u) (i := i) hrdE (by rw [hgc]; exact hlw)
                  rw [hgw] at hj
                  refine ⟨stRow (gl l) u k, _, obs[k].2, by rw [stRow_len]; exact hlv, h5, by rw [stRow_len]; exact Nat.le_refl _, fun q o h => ?_, hj⟩
                  simp only [Option.some.injEq, Addr.mk.injEq] at h
                  omega)
              obtain ⟨ys, A, d, rfl, hrow, hyl, hyA, hjo⟩ := HJ.out
              have HJN := hide (join_any (N0 + 1 + v) u u (nowRow (gl l) u i v) ys A d w6 (S6.out.nr v hvu) (nowRow_len _ _ _ _) hrow hyl hyA (by omega))
              have q2 : w6.cell? ⟨eb, 2, none⟩ = some (.int .i64 zc) := E6.out.cell 2
              have HJO := hide hjo
              clear d1 d2 d3 hlv HJ hjo hrow hyA hgw hgk hgc hrdE hwf
              rcases hrd with rfl | rfl | rfl
              · go_wp2_with fail
                refine HJN.out.mono ?_
                rintro r w7 ⟨⟨rv, rfl⟩, F7, B7⟩
                have F7 := hide F7
                have B7 := hide B7
                clear q2 hrun
                go_wp2_with fail
                go_meet
                exact ⟨rfl, below_foot t6.out F7.out (fun x hx => by simp at hx; omega), E6.out.foot F7.out (by simp; omega), by
                  have := S6.out.foot hNM hMO hvu F7.out B7.out
                  rw [HJO.out] at this
                  exact this⟩
              · go_wp2_with fail
                refine HJN.out.mono ?_
                rintro r w7 ⟨⟨rv, rfl⟩, F7, B7⟩
                have F7 := hide F7
                have B7 := hide B7
                clear q2 hrun
                go_wp2_with fail
                go_meet
                exact ⟨rfl, below_foot t6.out F7.out (fun x hx => by simp at hx; omega), E6.out.foot F7.out (by simp; omega), by
                  have := S6.out.foot hNM hMO hvu F7.out B7.out
                  rw [HJO.out] at this
                  exact this⟩
              · go_wp2_with fail
                refine HJN.out.mono ?_
                rintro r w7 ⟨⟨rv, rfl⟩, F7, B7⟩
                have F7 := hide F7
                have B7 := hide B7
                clear q2 hrun
                go_wp2_with fail
                go_meet
                exact ⟨rfl, below_foot t6.out F7.out (fun x hx => by simp at hx; omega), E6.out.foot F7.out (by simp; omega), by
                  have := S6.out.foot hNM hMO hvu F7.out B7.out
                  rw [HJO.out] at this
                  exact this⟩
            · have hrdE : rdE (gl l i) = false := by
                unfold rdE; rw [hgk]
                simp only [Bool.or_eq_false_iff, beq_eq_false_iff_ne]
                omega
              have b1 : (zk == 1) = false := by simp; omega
              have b3 : (zk == 3) = false := by simp; omega
              have b4 : (zk == 4) = false := by simp; omega
              have HF : Hid (updR (fun v' : Nat => nowRow (gl l) u i (v' : Int)) v (joRow (gl l) u i) = fun v' : Nat => nowRow (gl l) u i (v' : Int)) := hide (by
                funext v'
                unfold updR
                split
                · next h =>
                  subst h
                  have := join_none (e := gl l) (n := u) (i := i) (fun h => by rw [hrdE] at h; cases h)
                  rw [hgw] at this
                  exact this.symm
                · rfl)
              clear hgw hgk hgc hrdE
              go_wp2_with fail
              go_meet
              exact ⟨rfl, t6.out, E6.out, by rw [HF.out]; exact S6.out⟩
          case rest =>
            obtain ⟨rfl, tc, Ec, Sc⟩ := hcut
            have hgw : (gl l i).w = (v : Int) := by rw [HGL.out]
            have hjl : v < (joRow (gl l) u i).length := by rw [joRow_len]; exact hvu
            have hjb := jo_bound hgw hvu hjl
            have hst := hide (st_set hgw hvu hjl)
            have BR := Sc.nr v hvu
            rw [show updR (fun v' : Nat => nowRow (gl l) u i (v' : Int)) v (joRow (gl l) u i) v = joRow (gl l) u i from by unfold updR; rw [if_pos rfl]] at BR
            have m0 : wc.cell? ⟨N0 + 1 + v, v, none⟩ = some (.int .i64 (joRow (gl l) u i)[v]) := blk_int BR hjl
            have mf := BR.frozen v
            have q0 : wc.cell? ⟨eb, 0, none⟩ = some (.int .i64 v) := Ec.cell 0
            have BR2 := blk_int_set BR v ((joRow (gl l) u i)[v] + 1)
            rw [hst.out] at BR2
            have HBR2 := hide BR2
            generalize (joRow (gl l) u i)[v] = jv at m0 hjb HBR2
            obtain ⟨j1, j2⟩ := hjb
            have HFT := hide (foot_set wc (N0 + 1 + v) v (.int .i64 (jv + 1)))
            have S8 := hide (Sc.foot hNM hMO hvu HFT.out HBR2.out)
            have E8 := hide (Ec.foot HFT.out (by simp; omega))
            have t8 := hide (tc.setCell (p := ⟨N0 + 1 + v, v, none⟩) (by show w.heap.size ≤ N0 + 1 + v; omega) (.int .i64 (jv + 1)))
            obtain ⟨w8, hw8⟩ : ∃ w8, w8 = wc.setCell ⟨N0 + 1 + v, v, none⟩ (.int .i64 (jv + 1)) := ⟨_, rfl⟩
            rw [← hw8] at HBR2 S8 E8 t8
            clear BR BR2 Sc Ec tc hst hjl hgw HFT
            go_upto_region 21 with fail
            rw [← hw8]
            clear hw8 m0 mf q0
            have hob8 := S8.out.ob.lt
            have HNIL := hide (World.ownsRow_nil w8 (O0 + 1) 3 1)
            go_wp2_with (at_builtin; refine wpList_append_lies _ rfl _ _ 34 rfl (O0 + 1) 3 i1 (.int .i64 0) 1 8 Try.underlying34 gi gz0 gz1 gz2 rfl (by decide) _ _ _ rfl HNIL.out ⟨N0 + 1 + v, 0, none⟩ u u (ints (stRow (gl l) u i)) rfl ?c1 ?c2 ?c3 (by omega) ?c4 ?c5 ?c6 _ rfl ?_)
            case c1 => rw [ints_len, stRow_len, Nat.mul_one]
            case c2 => exact HBR2.out.news
            case c3 => exact ints_one _
            case c4 => unfold maxLen; omega
            case c5 => omega
            case c6 => omega
            intro g cap w9 hown hgrow hat _
            have hge : g = w8.heap.size := by
              rcases hat with h | h
              · cases h
              · exact h
            obtain ⟨A, cp, e1, hcp, hcm, _, _⟩ := own_row hown
            simp only [Value.slice.injEq] at e1
            obtain ⟨rfl, _, rfl⟩ := e1
            have b9 : Below w8.heap.size w8 w9 := (Below.refl _ _).grown hgrow (Nat.le_refl _) (fun k h => by cases h)
            have S9 := hide (S8.out.below b9)
            have E9 := hide (E8.out.below b9 E8.out.lt)
            have t9 := hide (below_call (w := w) t8.out b9)
            have hgO : O0 < g := by omega
            have HOWN := hide hown
            have o0 : w9.cell? ⟨O0, i, none⟩ = some (.slice none 0 0) := by
              refine (S9.out.ob.cell i).trans ?_
              unfold outCells
              rw [List.getElem?_toArray, List.getElem?_append_right (by rw [List.length_map, HOB.out]; exact Nat.le_refl _), List.length_map, HOB.out, Nat.sub_self, List.getElem?_replicate, if_pos (by omega)]
            have of := S9.out.ob.frozen i
            clear hown hgrow hat hge b9 S8 E8 t8 HBR2 HNIL hob8
            have SF := hide (SW.push S9.out hNM hMO (by rw [HOB.out]; exact hlt) hgO hcp hcm (by rw [HOB.out]; exact HOWN.out) (fun c' k hk => by have := lastW_lt hk; rw [HOB.out]; exact this))
            rw [HOB.out] at SF
            have EF := hide (E9.out.far (p := ⟨O0, i, none⟩) (by show eb ≠ O0; omega) (outV u (g, cap)))
            have TF := hide (t9.out.setCell (p := ⟨O0, i, none⟩) (by show w.heap.size ≤ O0; omega) (outV u (g, cap)))
            unfold outV at SF EF TF
            dsimp only at SF EF TF
            go_upto_region 22 with fail
            obtain ⟨wa, hwa⟩ : ∃ wa, wa = w9.setCell ⟨O0, i, none⟩ (.slice (some ⟨g, 0, none⟩) u cap) := ⟨_, rfl⟩
            rw [← hwa] at SF EF TF ⊢
            clear hwa o0 of S9 E9 t9 HOWN
            have HRN : Hid (updR (updR (fun v' : Nat => nowRow (gl l) u i (v' : Int)) v (joRow (gl l) u i)) v (stRow (gl l) u i) = fun v' : Nat => nowRow (gl l) u (i + 1) (v' : Int)) := hide (by
              funext v'
              rw [nowRow_succ, HGL.out]
              unfold updR
              by_cases h : v' = v
              · subst h; simp
              · rw [if_neg h, if_neg h, if_neg (by show ¬ (v : Int) = (v' : Int); omega)])
            rw [HRN.out] at SF
            have hgc : (gl l i).c = zc := by rw [HGL.out]
            have q1 : wa.cell? ⟨eb, 1, none⟩ = some (.int .u8 zk) := EF.out.cell 1
            by_cases hwr : zk = 2 ∨ zk = 3
            · have hwE : wrE (gl l i) = true := by unfold wrE; rw [HGL.out]; rcases hwr with rfl | rfl <;> rfl
              obtain ⟨D, d1, d2, d3⟩ := SF.out.mp
              have HD1 := hide d1
              have HD3 := hide d3
              have hoi : (obs ++ [(g, cap)])[i]? = some (g, cap) := by rw [List.getElem?_append_right (by rw [HOB.out]; exact Nat.le_refl _), HOB.out, Nat.sub_self]; rfl
              have hwf : (Lit.int .i64 zc).wf = true := by simp [Lit.wf, IntKind.min, IntKind.max, IntKind.signed, IntKind.bits]; omega
              have o1 : wa.cell? ⟨O0, i, none⟩ = some (.slice (some ⟨g, 0, none⟩) u cap) := by
                refine (SF.out.ob.cell i).trans ?_
                unfold outCells
                rw [List.getElem?_toArray, List.getElem?_append_left (by rw [List.length_map, List.length_append, HOB.out]; simp), List.getElem?_map, hoi]
                rfl
              have q2 : wa.cell? ⟨eb, 2, none⟩ = some (.int .i64 zc) := EF.out.cell 2
              have HOI := hide hoi
              have HWF := hide hwf
              clear d1 d3 hoi hwf
              rcases hwr with rfl | rfl
              · go_upto_region 25 with fail
                have z1 := keepd q2
                have z2 := keepd o1
                clear q1 q2 o1
                refine Reg.region (by kernel_rfl) 8 [] (fun _ w' => w' = wa.drew) (by kernel_rfl) (by kernel_rfl) rfl ?_
                iterate 8
                  refine Reg.WT.yield (v := ?_) rfl rfl ?_ ?_
                  rotate_left
                  · intro w' _ hS; go_simp; (try go_bits); (first | rfl | rw [if_pos (by omega)])
                  simp only [Act.put, List.setIfInBounds_toArray, List.set_cons_zero, List.set_cons_succ]
                intro w2 hS
                subst hS
                clear z1 z2
                go_wp2_with (at_mapUpdate; refine wpList_mapUpdate_own _ rfl _ _ _ 56 rfl 3 34 law Try.underlying56 SR M0 i D rfl HD1.out.drew (by unfold maxLen; omega) _ _ (.int .i64 zc) rfl rfl (keyOf_int_mk Try.underlying3 HWF.out) (encO u (some (g, cap))) [] rfl ?_)
                intro wb hmo hgb
                have SM := hide (SW.mapped (c := zc) SF.out.drew hNM hMO hgb HOI.out hwE hgc d2 HD3.out hmo trivial)
                have TM := hide (TF.out.drew.grown hgb (by have := TF.out.size; exact this) (fun k h => by injection h with h; omega))
                clear hmo hgb
                go_wp2_with fail
                go_roundw
                case rel => exact ⟨i + 1, _, hlt, by go_num, by rw [List.length_append, HOB.out]; rfl, SM.out, TM.out⟩
                case measure => simp [intOf]; omega
              · go_upto_region 25 with fail
                have z1 := keepd q2
                have z2 := keepd o1
                clear q1 q2 o1
                refine Reg.region (by kernel_rfl) 8 [] (fun _ w' => w' = wa.drew) (by kernel_rfl) (by kernel_rfl) rfl ?_
                iterate 8
                  refine Reg.WT.yield (v := ?_) rfl rfl ?_ ?_
                  rotate_left
                  · intro w' _ hS; go_simp; (try go_bits); (first | rfl | rw [if_pos (by omega)])
                  simp only [Act.put, List.setIfInBounds_toArray, List.set_cons_zero, List.set_cons_succ]
                intro w2 hS
                subst hS
                clear z1 z2
                go_wp2_with (at_mapUpdate; refine wpList_mapUpdate_own _ rfl _ _ _ 56 rfl 3 34 law Try.underlying56 SR M0 i D rfl HD1.out.drew (by unfold maxLen; omega) _ _ (.int .i64 zc) rfl rfl (keyOf_int_mk Try.underlying3 HWF.out) (encO u (some (g, cap))) [] rfl ?_)
                intro wb hmo hgb
                have SM := hide (SW.mapped (c := zc) SF.out.drew hNM hMO hgb HOI.out hwE hgc d2 HD3.out hmo trivial)
                have TM := hide (TF.out.drew.grown hgb (by have := TF.out.size; exact this) (fun k h => by injection h with h; omega))
                clear hmo hgb
                go_wp2_with fail
                go_roundw
                case rel => exact ⟨i + 1, _, hlt, by go_num, by rw [List.length_append, HOB.out]; rfl, SM.out, TM.out⟩
                case measure => simp [intOf]; omega
            · have hwE : wrE (gl l i) = false := by
                unfold wrE; rw [HGL.out]
                simp only [Bool.or_eq_false_iff, beq_eq_false_iff_ne]
                omega
              have b2 : (zk == 2) = false := by simp; omega
              have b3 : (zk == 3) = false := by simp; omega
              have SP := hide (SF.out.passed hwE)
              go_wp2_with fail
              go_roundw
              case rel => exact ⟨i + 1, _, hlt, by go_num, by rw [List.length_append, HOB.out]; rfl, SP.out, TF.out⟩
              case measure => simp [intOf]; omega
        · obtain rfl : i = l.length := by omega
          go_wp2_with fail
          go_returns
          refine ⟨O0, _, rfl, ⟨obs, HOB.out, ?_, fun j hj => ?_⟩, t.out⟩
          · have := S.out.ob.row (by simp [outCells]; have := HOB.out; omega)
            have e : outCells u l.length obs = obs.map (outV u) := by unfold outCells; rw [HOB.out]; simp
            rw [e] at this
            simpa using this
          · obtain ⟨a1, a2, a3, a4⟩ := S.out.or j hj
            refine ⟨a2, a3, ?_⟩
            obtain ⟨A, cp, e1, _, _, _, h5⟩ := own_row a4
            simp only [outV, Value.slice.injEq] at e1
            obtain ⟨rfl, _, _⟩ := e1
            exact h5
end Go.Proofs.Ytffpphnjokmffaa
