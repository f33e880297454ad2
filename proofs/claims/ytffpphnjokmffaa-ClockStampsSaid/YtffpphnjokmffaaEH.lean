/- Walk: Race. -/
import Derived.Test.YtffpphnjokmffaaEG
import Derived.Test.YtffpphnjokmffaaHoldL
import Derived.Deep.CutRange
namespace Go.Proofs.Ytffpphnjokmffaa
open Go.RowKit Go.Maps

def valS : Option (Nat × Nat × Nat) → Value
  | none => .slice none 0 0
  | some p => .slice (some ⟨p.1, 0, none⟩) p.2.1 p.2.2
def encS : Option (Nat × Nat × Nat) → DataW Unit
  | none => .nil
  | some p => encO p.2.1 (some (p.1, p.2.2))
theorem SR_valS (o : Option (Nat × Nat × Nat)) : SR (valS o) = some (encS o, []) := by cases o <;> rfl
theorem SR_invS {o : Option (Nat × Nat × Nat)} {v : Value} {ps : List MemPlace} (h : SR v = some (encS o, ps)) : v = valS o := by
  cases o with
  | none => exact SR_inv (n := 0) (o := none) h
  | some p => exact SR_inv (n := p.2.1) (o := some (p.1, p.2.2)) h
theorem valS_of {v : Value} {a : Option Addr} {n c B0 : Nat} {W : World} {L : List Sn} (h : SnRow W B0 v L) : ∃ o, v = valS o := by
  rcases h.2 with ⟨rfl, _⟩ | ⟨g, cap, cur, rfl, _⟩
  · exact ⟨none, rfl⟩
  · exact ⟨some (g, L.length, cap), rfl⟩
/-- What holds of the map of what was seen. -/
def RM (W : World) (e : Nat → Ev) (M0 j : Nat) : Prop :=
  ∃ (D : DataW Unit) (f : Int → Option (Nat × Nat × Nat)), W.ownsMap Try.prog 3 SR M0 j D ∧ IsMap D ∧ (∀ c : Int, D.atKey (.int .i64 c) .nil = encS (f c)) ∧ (∀ c : Int, SnRow W (M0 + 1) (valS (f c)) (snl e c j)) ∧
    ∀ (c c' : Int) (g : Nat), (valS (f c)).ownBlock = some g → (valS (f c')).ownBlock = some g → c = c'
section
variable {W W' : World} {e : Nat → Ev} {M0 j : Nat}
theorem RM.below (h : RM W e M0 j) (hb : Below W.heap.size W W') : RM W' e M0 j := by
  obtain ⟨D, f, h1, h2, h3, h4, h5⟩ := h
  exact ⟨D, f, h1.kept (grown_of_below hb) (by simp), h2, h3, fun c => own_below (h4 c) hb, h5⟩
theorem RM.pass (h : RM W e M0 j) (hp : plE (e j) = false) : RM W e M0 (j + 1) := by
  obtain ⟨D, f, h1, h2, h3, h4, h5⟩ := h
  refine ⟨D, f, h1.mono (by omega), h2, h3, fun c => ?_, h5⟩
  have := h4 c
  unfold snl
  rw [if_neg (by rw [hp]; simp)]
  exact this
theorem snl_len (c : Int) : ∀ j, (snl e c j).length ≤ j
  | 0 => by simp [snl]
  | j + 1 => by
    have := snl_len c j
    unfold snl
    split
    · have h2 := note_len (w := (e j).w) (n := (rk e j : Int)) (iw := (e j).k == 6) (L := snl e c j); omega
    · omega
/-- Behind note, and the map written. -/
theorem RM.noted {W2 : World} {D : DataW Unit} {f : Int → Option (Nat × Nat × Nat)} {c0 : Int} {v' : Value} {o' : Option (Nat × Nat × Nat)} (h1 : IsMap D) (h3 : ∀ c : Int, D.atKey (.int .i64 c) .nil = encS (f c)) (h4 : ∀ c : Int, SnRow W (M0 + 1) (valS (f c)) (snl e c j))
    (h5 : ∀ (c c' : Int) (g : Nat), (valS (f c)).ownBlock = some g → (valS (f c')).ownBlock = some g → c = c') (hv : v' = valS o') (hp : plE (e j) = true) (hc : (e j).c = c0) (hn : SnRow W' (M0 + 1) v' (noteL (e j).w (rk e j) ((e j).k == 6) (snl e c0 j)))
    (hg : W.grownBy W' (valS (f c0)).ownBlock) (ho : v'.ownBlock = (valS (f c0)).ownBlock ∨ ∃ g, v'.ownBlock = some g ∧ W.heap.size ≤ g) (hg2 : W'.grownBy W2 (some M0)) (hm : W2.ownsMap Try.prog 3 SR M0 (j + 1) (D.put (.int .i64 c0) (encS o'))) : RM W2 e M0 (j + 1) := by
  have hM : ∀ {v : Value} {L : List Sn} {Y : World}, SnRow Y (M0 + 1) v L → v.ownBlock = none ∨ v.ownBlock ≠ some M0 := fun {v L Y} h => by
    cases hb : v.ownBlock with
    | none => exact .inl rfl
    | some k => right; intro e'; injection e' with e'; have := (h.lt k hb).1; omega
  refine ⟨D.put (.int .i64 c0) (encS o'), fun c => if c = c0 then o' else f c, hm, ?_, fun c => ?_, fun c => ?_, fun c c' g hgc hgc' => ?_⟩
  · obtain ⟨es, rfl⟩ := h1; exact ⟨_, rfl⟩
  · show _ = encS (if c = c0 then o' else f c)
    by_cases hcc : c = c0
    · rw [if_pos hcc, hcc, atKey_put_same h1 (show WideAt.IsKeyLit (.int .i64 c0) from trivial)]
    · rw [if_neg hcc, atKey_put_other (by intro h; injection h with h1 h2; exact hcc h2), h3]
  · show SnRow W2 (M0 + 1) (valS (if c = c0 then o' else f c)) (snl e c (j + 1))
    by_cases hcc : c = c0
    · rw [if_pos hcc, hcc, ← hv]
      unfold snl
      rw [if_pos ⟨hp, hc⟩]
      exact World.ownsRow.kept hn hg2 (hM hn)
    · rw [if_neg hcc]
      have hs := h4 c
      have : snl e c (j + 1) = snl e c j := by
        show (if plE (e j) = true ∧ (e j).c = c then noteL (e j).w (rk e j) ((e j).k == 6) (snl e c j) else snl e c j) = _
        rw [if_neg (fun h => hcc (by rw [← h.2, hc]))]
      rw [this]
      refine World.ownsRow.kept (World.ownsRow.kept hs hg ?_) hg2 (hM hs)
      cases hb : (valS (f c)).ownBlock with
      | none => exact .inl rfl
      | some k => right; intro e'; exact hcc (h5 c c0 k hb e'.symm)
  · have key : ∀ c2, c2 ≠ c0 → (valS (f c2)).ownBlock = some g → v'.ownBlock = some g → False := fun c2 hne hb hv2 => by
      rcases ho with h | ⟨g2, h, hlt⟩
      · rw [h] at hv2; exact hne (h5 c2 c0 g hb hv2)
      · rw [h] at hv2; injection hv2 with hv2; have := ((h4 c2).lt g hb).2; omega
    simp only at hgc hgc'
    by_cases h1c : c = c0
    · by_cases h2c : c' = c0
      · rw [h1c, h2c]
      · rw [if_pos h1c, ← hv] at hgc
        rw [if_neg h2c] at hgc'
        exact (key c' h2c hgc' hgc).elim
    · rw [if_neg h1c] at hgc
      by_cases h2c : c' = c0
      · rw [if_pos h2c, ← hv] at hgc'
        exact (key c h1c hgc hgc').elim
      · rw [if_neg h2c] at hgc'
        exact h5 c c' g hgc hgc'
end
def RPost (e : Nat → Ev) (L : Nat) (w : World) (r : Ending) (w' : World) : Prop := ∃ (i j : Nat) (is : Bool), r = .returned (.tuple #[.int .i64 i, .int .i64 j, .bool is, .int .i64 0]) ∧ RaceIs e L i j is ∧ Below w.heap.size w w'
theorem snl_w {e : Nat → Ev} {c : Int} : ∀ {j : Nat} {s : Sn}, s ∈ snl e c j → ∃ i, i < j ∧ (e i).w = s.w
  | 0, s, h => by simp [snl] at h
  | j + 1, s, h => by
    unfold snl at h
    split at h
    · rcases note_mem h with h1 | ⟨q, h1, h2⟩
      · exact ⟨j, by omega, h1.symm⟩
      · obtain ⟨i, hi, hw⟩ := snl_w h1
        exact ⟨i, by omega, by rw [hw, h2]⟩
    · obtain ⟨i, hi, hw⟩ := snl_w h
      exact ⟨i, by omega, hw⟩
theorem zeroSn (w : World) : (zeroValue 60).run Try.prog w = .ok (.slice none 0 0) w := by kernel_rfl

set_option maxRecDepth 100000 in
set_option maxHeartbeats 8000000 in
theorem race_yes (a : Option Addr) (l : List Ev) (c : Nat) (n : Nat) (w : World) (hr : ERow w a l) (hM : LogOk n l) (hc : ∀ x ∈ l, x.c ≤ 9223372036854775807) : Calls Try.prog 18 #[.int .i64 n, .slice a l.length c] w (RPost (gl l) l.length w) := by
  have HSY := hide (stamps_yes a l c n w hr hM hc)
  obtain ⟨⟨hn1, hn2⟩, hl, he⟩ := hM
  have hn2' : n ≤ 65 := by omega
  have HE := hide he
  have HCC := hide hc
  have hKK : Hid (∀ i, 1 ≤ (gl l i).k ∧ (gl l i).k ≤ 6) := hide (fun i => by
    by_cases hi : i < l.length
    · rw [gl_at hi]; exact (he _ (List.getElem_mem hi)).k
    · unfold gl; rw [List.getD_eq_getElem?_getD, List.getElem?_eq_none (by omega)]; decide)
  clear he hc
  have hmm := @run_makeMap Try.prog
  go_enter Try.func18, Try.ntmps18
  go_wp2_with fail
  refine HSY.out.mono ?_
  rintro r w2 ⟨S0, capS, rfl, hT, k2⟩
  have t2 := hide k2
  have HT := hide hT
  clear k2 HSY hT
  go_wp2_with fail
  clear hmm
  obtain ⟨M0, hM0⟩ : ∃ M0, M0 = w2.heap.size := ⟨_, rfl⟩
  obtain ⟨w3, hw3⟩ : ∃ w3, w3 = w2.alloc (.map #[] 0) := ⟨_, rfl⟩
  have B3 : Hid (Below M0 w2 w3) := hide (by rw [hw3, hM0]; exact (Below.refl _ _).alloc (Nat.le_refl _) _)
  have R3 : Hid (RM w3 (gl l) M0 0) := hide (by
    refine ⟨.map [], fun _ => none, ?_, ⟨[], rfl⟩, fun c' => rfl, fun c' => ?_, fun c' c2 g h => by cases h⟩
    · rw [hw3, hM0]; exact World.ownsMap_made w2 Try.prog 3 SR
    · exact World.ownsRow_nil _ _ _ _)
  have hTB : Hid (∀ W, Below M0 w2 W → TRow W (some ⟨S0, 0, none⟩) (gl l) n l.length ∧ ERow W a l ∧ Below w.heap.size w W) := hide (fun W hW => ⟨HT.out.below (hM0 ▸ hW), hr.below (below_call t2.out (hM0 ▸ hW)), below_call t2.out (hM0 ▸ hW)⟩)
  have hMs : M0 < w3.heap.size := by rw [hw3, hM0]; simp
  have HMM : Hid (w2.heap.size = M0) := hide hM0.symm
  rw [← hw3, ← hM0]
  clear hw3 hM0 HT t2
  go_loopw [28] (fun iv wr => ∃ j : Nat, j ≤ l.length ∧ iv = .int .i64 j ∧ RM wr (gl l) M0 j ∧ Below M0 w2 wr ∧ M0 < wr.heap.size ∧ Hid (∀ j', j' < j → ∀ i', ¬ Racy (gl l) i' j')) (fun iv _ => l.length - (intOf iv).toNat)
  case atStart => exact ⟨0, Nat.zero_le _, rfl, R3.out, B3.out, hMs, hide (fun j' h => by omega)⟩
  case round =>
    clear R3 B3 hMs
    obtain ⟨j, hj, rfl, hR, hB, hMr, hno⟩ := hrel
    have R := hide hR
    have B := hide hB
    clear hR hB
    by_cases hlt : j < l.length
    · obtain ⟨b, off, rfl, hb, hcell⟩ := e_at (hTB.out wr B.out).2.1 (by omega)
      obtain ⟨x0, x1, x2⟩ := hcell j hlt
      obtain ⟨⟨p1, p2⟩, p3, p4, p5⟩ := HE.out _ (List.getElem_mem hlt)
      have pc := HCC.out _ (List.getElem_mem hlt)
      have HGL := hide (gl_at hlt)
      clear hcell
      generalize l[j] = z at x0 x1 x2 p1 p2 p3 p4 p5 pc HGL
      obtain ⟨zw, zk, zc⟩ := z
      dsimp only at x0 x1 x2 p1 p2 p3 p4 p5 pc
      obtain ⟨v, rfl⟩ := Int.eq_ofNat_of_zero_le p1
      have hvn : v < n := by omega
      obtain ⟨w4, hw4⟩ : ∃ w4, w4 = wr.alloc (.cells #[.int .i64 v, .int .u8 zk, .int .i64 zc] 48) := ⟨_, rfl⟩
      have a4 : Below wr.heap.size wr w4 := hw4 ▸ (Below.refl _ _).alloc (Nat.le_refl _) _
      have E4 := hide (hw4 ▸ Blk.new wr _ _ : Blk w4 wr.heap.size 48 #[.int .i64 v, .int .u8 zk, .int .i64 zc])
      have R4 := hide (R.out.below a4)
      have B4 := hide (B.out.trans (a4.mono (by omega)) : Below M0 w2 w4)
      have hM4 : M0 < w4.heap.size := by have := a4.size; omega
      obtain ⟨eb, heb⟩ : ∃ eb, eb = wr.heap.size := ⟨_, rfl⟩
      have hebM : M0 < eb := by omega
      go_upto_region 8 with fail
      rw [← hw4]
      rw [← heb] at E4 ⊢
      clear hw4 a4 heb R B x0 x1 x2 hb hMr
      have q1 : w4.cell? ⟨eb, 1, none⟩ = some (.int .u8 zk) := E4.out.cell 1
      have q2 : w4.cell? ⟨eb, 2, none⟩ = some (.int .i64 zc) := E4.out.cell 2
      go_wp2_with fail
      refine (plain_any zk zc _ ⟨p4, p5⟩).mono ?_
      rintro r w5 ⟨rfl, k5⟩
      have E5 := hide (E4.out.below k5 E4.out.lt)
      have R5 := hide (R4.out.below k5)
      have B5 := hide (B4.out.trans (k5.mono (by omega)) : Below M0 w2 w5)
      have hM5 : M0 < w5.heap.size := by have := k5.size; omega
      clear q1 q2 k5 E4 R4 B4 hM4
      by_cases hp : 5 ≤ zk
      · have hpl : plE (gl l j) = true := by unfold plE; rw [HGL.out]; simpa using hp
        rw [decide_eq_true hp]
        obtain ⟨D, f, d1, d2, d3, d4, d5⟩ := R5.out
        have hwf : (Lit.int .i64 zc).wf = true := by simp [Lit.wf, IntKind.min, IntKind.max, IntKind.signed, IntKind.bits]; omega
        obtain ⟨lv, ps, hrun, hlv⟩ := d1.lookup law Try.underlying58 (zeroSn w5) (zd := .nil) (zp := []) rfl (keyOf_int_mk Try.underlying3 hwf)
        rw [d3] at hlv
        have hlv := SR_invS hlv
        have hsn := d4 zc
        obtain ⟨la, lc, hvs, hlc1, hlc2, _, hrow, _⟩ := own_rowS (scell_len _) (by decide) (show w5.ownsRow _ _ _ _ _ _ from hsn)
        rw [hvs] at hlv
        subst hlv
        have hsl := snl_len (e := gl l) zc j
        obtain ⟨LL, hLL⟩ : ∃ LL, LL = snl (gl l) zc j := ⟨_, rfl⟩
        rw [← hLL] at hsn hvs hlc1 hrow hsl hrun
        have HLL := hide hLL
        have HVS := hide hvs
        have HSN := hide hsn
        have HROW := hide hrow
        have HRUN := hide hrun
        have q2 : w5.cell? ⟨eb, 2, none⟩ = some (.int .i64 zc) := E5.out.cell 2
        unfold maxLen at hlc2
        clear d1 d2 d3 d4 d5 hsn hvs hLL hrow hwf
        go_upto_block 2 with fail
        go_cut [44] from 45 to 77 (fun s44 wx => Below w5.heap.size w5 wx ∧ Hid (∀ s ∈ LL, ¬ Bad (gl l) j s))
        case first =>
          go_wp2_with fail
          go_loopw [44] (fun kv wr => ∃ k : Nat, k ≤ LL.length ∧ kv = .int .i64 k ∧ Below w5.heap.size w5 wr ∧ Hid (∀ q (h : q < LL.length), q < k → ¬ Bad (gl l) j LL[q])) (fun kv _ => LL.length - (intOf kv).toNat)
          case atStart => exact ⟨0, Nat.zero_le _, rfl, Below.refl _ _, hide (fun q h hq => by omega)⟩
          case round =>
            obtain ⟨k, hk, rfl, hb5, hnb⟩ := hrel
            have b5 := hide hb5
            by_cases hkl : k < LL.length
            · obtain ⟨bl, ol, rfl, hbl, hlc⟩ := RowS.at_ HROW.out (by rw [List.length_map]; omega)
              have l0 := hlc k (by rw [List.length_map]; exact hkl) 0 (by simp [scell])
              have l1 := hlc k (by rw [List.length_map]; exact hkl) 1 (by simp [scell])
              have l2 := hlc k (by rw [List.length_map]; exact hkl) 2 (by simp [scell])
              simp only [List.getElem_map, scell, List.getElem_cons_zero, List.getElem_cons_succ, Nat.add_zero] at l0 l1 l2
              have hmem : LL[k] ∈ snl (gl l) zc j := by
                have h := List.getElem_mem hkl
                have hs : ∀ s ∈ LL, s ∈ snl (gl l) zc j := fun s hs => by rw [← HLL.out]; exact hs
                exact hs _ h
              have hsw := snl_w hmem
              have HEX := hide (fun hbad : Bad (gl l) j LL[k] => (bad_iff (e := gl l) (j := j) hKK.out hpl).2 ⟨LL[k], by rw [HGL.out]; exact hmem, hbad⟩)
              have HBD : Hid (Bad (gl l) j LL[k] ↔ ((stamp (gl l) j LL[k].w : Int) < LL[k].k ∨ (zk = 6 ∧ (stamp (gl l) j LL[k].w : Int) < LL[k].r))) := hide (by unfold Bad; rw [HGL.out])
              have HNB2 : Hid (¬ Bad (gl l) j LL[k] → ∀ q (h : q < LL.length), q < k + 1 → ¬ Bad (gl l) j LL[q]) := hide (fun hb q h hq => by
                by_cases hqe : q = k
                · subst hqe; exact hb
                · exact hnb.out q h (by omega))
              obtain ⟨i1, hi1, hw1⟩ := hsw
              have hi1l : i1 < l.length := by omega
              have hw2 := (HE.out _ (List.getElem_mem hi1l)).w
              rw [gl_at hi1l] at hw1
              rw [hw1] at hw2
              clear hlc hmem hw1
              generalize LL[k] = s at l0 l1 l2 HEX HBD HNB2 hw2
              obtain ⟨sw, sr, sk⟩ := s
              dsimp only at l0 l1 l2 HBD hw2
              obtain ⟨s1, s2⟩ := hw2
              obtain ⟨u, rfl⟩ := Int.eq_ofNat_of_zero_le s1
              have hun : u < n := by omega
              have l0 := (hb5.cell (p := ⟨bl, ol + k * 3, none⟩) hbl).trans l0
              have l1 := (hb5.cell (p := ⟨bl, ol + k * 3 + 1, none⟩) hbl).trans l1
              have l2 := (hb5.cell (p := ⟨bl, ol + k * 3 + 2, none⟩) hbl).trans l2
              obtain ⟨w6, hw6⟩ : ∃ w6, w6 = wr.alloc (.cells #[.int .i64 u, .int .i64 sr, .int .i64 sk] 62) := ⟨_, rfl⟩
              have a6 : Below wr.heap.size wr w6 := hw6 ▸ (Below.refl _ _).alloc (Nat.le_refl _) _
              have N6 := hide (hw6 ▸ Blk.new wr _ _ : Blk w6 wr.heap.size 62 #[.int .i64 u, .int .i64 sr, .int .i64 sk])
              have b6 := hide (hb5.trans (a6.mono hb5.size) : Below w5.heap.size w5 w6)
              obtain ⟨sb, hsb⟩ : ∃ sb, sb = wr.heap.size := ⟨_, rfl⟩
              have B6 := hide (B5.out.trans (b6.out.mono (by omega)) : Below M0 w2 w6)
              obtain ⟨bs, os, hS0, hbs, hcs⟩ := t_at (hTB.out w6 B6.out).1 (by omega)
              simp only [Option.some.injEq, Addr.mk.injEq, and_true] at hS0
              obtain ⟨e1, e2⟩ := hS0
              subst e1 e2
              obtain ⟨g2, c2, y2, _, m2, _, st2⟩ := hcs j hlt
              have z2 := st2 u hun
              unfold maxLen at m2
              have hst := stamp_le (e := gl l) j (u : Int)
              go_upto_region 13 with fail
              rw [← hw6]
              rw [← hsb] at N6 ⊢
              clear hw6 a6 hsb l0 l1 l2 hcs st2 hb5
              have t0 : w6.cell? ⟨sb, 0, none⟩ = some (.int .i64 u) := N6.out.cell 0
              have r0 := keepd t0
              have r1 := keepd y2
              have r2 := keepd z2
              simp only [Nat.zero_add] at r1
              clear t0 y2 z2
              generalize stamp (gl l) j (u : Int) = st at r2 hst HBD
              refine Reg.region (by kernel_rfl) 9 [] (fun _ w' => w' = w6.drew) (by kernel_rfl) (by kernel_rfl) rfl ?_
              iterate 9
                refine Reg.WT.yield (v := ?_) rfl rfl ?_ ?_
                rotate_left
                · intro w' _ hS; go_simp; (try go_bits); (first | rfl | rw [if_pos (by omega)])
                simp only [Act.put, List.setIfInBounds_toArray, List.set_cons_zero, List.set_cons_succ]
              intro w7 hS
              subst hS
              clear r0 r1 r2
              have E6 := hide (E5.out.below b6.out E5.out.lt)
              have t1 : w6.drew.cell? ⟨sb, 1, none⟩ = some (.int .i64 sr) := N6.out.cell 1
              have t2_ : w6.drew.cell? ⟨sb, 2, none⟩ = some (.int .i64 sk) := N6.out.cell 2
              have t3 : w6.drew.cell? ⟨eb, 1, none⟩ = some (.int .u8 zk) := E6.out.cell 1
              by_cases hA : (st : Int) < sk
              · have HX := hide (HEX.out (HBD.out.2 (.inl hA)))
                go_wp2_with fail
                refine (first_any (some ⟨b, off, none⟩) l c (some ⟨S0, 0, none⟩) capS n j w6.drew (hTB.out w6 B6.out).2.1 HE.out (hTB.out w6 B6.out).1 hlt hl hn2' HX.out).mono ?_
                rintro r w8 ⟨i0, rfl, hrc, hls, k8⟩
                have hrc := hide hrc
                have hls := hide hls
                have T8 := hide (hTB.out w8 (B6.out.drew.trans (k8.mono (by show M0 ≤ w6.heap.size; have := b6.out.size; omega)))).2.2
                clear k8
                go_wp2_with fail
                go_returns
                exact ⟨i0, j, true, rfl, .inl ⟨rfl, hlt, hrc.out, hno.out, hls.out⟩, T8.out⟩
              · have bA : decide ((st : Int) < sk) = false := decide_eq_false hA
                by_cases h6 : zk = 6
                · have b6_ : (zk == 6) = true := by rw [beq_iff_eq]; exact h6
                  by_cases hBx : (st : Int) < sr
                  · have HX := hide (HEX.out (HBD.out.2 (.inr ⟨h6, hBx⟩)))
                    clear h6
                    go_wp2_with fail
                    refine (first_any (some ⟨b, off, none⟩) l c (some ⟨S0, 0, none⟩) capS n j w6.drew (hTB.out w6 B6.out).2.1 HE.out (hTB.out w6 B6.out).1 hlt hl hn2' HX.out).mono ?_
                    rintro r w8 ⟨i0, rfl, hrc, hls, k8⟩
                    have hrc := hide hrc
                    have hls := hide hls
                    have T8 := hide (hTB.out w8 (B6.out.drew.trans (k8.mono (by show M0 ≤ w6.heap.size; have := b6.out.size; omega)))).2.2
                    clear k8
                    go_wp2_with fail
                    go_returns
                    exact ⟨i0, j, true, rfl, .inl ⟨rfl, hlt, hrc.out, hno.out, hls.out⟩, T8.out⟩
                  · have bB : decide ((st : Int) < sr) = false := decide_eq_false hBx
                    have HN2 := hide (HNB2.out (fun h => by rcases HBD.out.1 h with h | h; exact hA h; exact hBx h.2))
                    clear h6
                    go_wp2_with fail
                    go_roundw
                    case rel => exact ⟨k + 1, hkl, by go_num, b6.out.drew, hide HN2.out⟩
                    case measure => simp [intOf]; omega
                · have b6_ : (zk == 6) = false := by rw [beq_eq_false_iff_ne]; exact h6
                  have HN2 := hide (HNB2.out (fun h => by rcases HBD.out.1 h with h | h; exact hA h; exact h6 h.1))
                  clear h6
                  go_wp2_with fail
                  go_roundw
                  case rel => exact ⟨k + 1, hkl, by go_num, b6.out.drew, hide HN2.out⟩
                  case measure => simp [intOf]; omega
            · obtain rfl : k = LL.length := by omega
              go_wp2_with fail
              go_meet
              exact ⟨b5.out, hide (fun s hs => by
                obtain ⟨q, hq, rfl⟩ := List.getElem_of_mem hs
                exact hnb.out q hq hq)⟩
        case rest =>
          obtain ⟨b5, hnb⟩ := hcut
          have hszc := b5.size
          have RC := R5.out.below b5
          have EC := hide (E5.out.below b5 E5.out.lt)
          have BC := hide (B5.out.trans (b5.mono (by omega)) : Below M0 w2 wc)
          obtain ⟨D, f, d1, d2, d3, d4, d5⟩ := RC
          have hwf : (Lit.int .i64 zc).wf = true := by simp [Lit.wf, IntKind.min, IntKind.max, IntKind.signed, IntKind.bits]; omega
          obtain ⟨lv, ps, hrun2, hlv⟩ := d1.drew.lookup law Try.underlying58 (zeroSn wc.drew) (zd := .nil) (zp := []) rfl (keyOf_int_mk Try.underlying3 hwf)
          rw [d3] at hlv
          have hlv := SR_invS hlv
          have hsn := d4 zc
          rw [← HLL.out] at hsn
          obtain ⟨la2, lc2, hvs2, _, _, _, _, _⟩ := own_rowS (scell_len _) (by decide) (show wc.ownsRow _ _ _ _ _ _ from hsn)
          rw [hvs2] at hlv
          subst hlv
          have hbwhen : ∀ i', ¬ Racy (gl l) i' j := fun i' hr' => by
            obtain ⟨s, hs, hb⟩ := (bad_iff (e := gl l) (j := j) hKK.out hpl).1 ⟨i', hr'⟩
            rw [HGL.out] at hs
            exact hnb.out s (by rw [HLL.out]; exact hs) hb
          have HNO : Hid (∀ j', j' < j + 1 → ∀ i', ¬ Racy (gl l) i' j') := hide (fun j' hj' i' hr' => by
            by_cases hje : j' = j
            · subst hje; exact hbwhen i' hr'
            · exact hno.out j' (by omega) i' hr')
          obtain ⟨bs, os, hS0, hbs, hcs⟩ := t_at (hTB.out w2 (Below.refl _ _)).1 (by omega)
          simp only [Option.some.injEq, Addr.mk.injEq, and_true] at hS0
          obtain ⟨e1, e2⟩ := hS0
          subst e1 e2
          obtain ⟨g2, c2, y2, _, m2, hg2, st2⟩ := hcs j hlt
          have z2 := st2 v hvn
          have hg2 := hg2 (by omega)
          have hst := stamp_le (e := gl l) j (v : Int)
          unfold maxLen at m2
          rw [HMM.out] at hbs hg2
          simp only [Nat.zero_add] at y2
          have HD1 := hide d1
          have HD3 := hide d3
          have HD4 := hide d4
          have HD5 := hide d5
          have HD2 := hide d2
          have HSN2 := hide hsn
          have HV2 := hide hvs2
          have HWF := hide hwf
          have HSW : Hid (SnRow wc.drew (M0 + 1) (.slice la2 LL.length lc2) LL) := hide (by rw [← hvs2]; exact World.ownsRow.drew hsn)
          have HST := hide ((stamp_spec (e := gl l) j).2.1)
          clear d1 d2 d3 d4 d5 hsn hvs2 hwf hbwhen hcs st2 b5 hno
          go_upto_region 17 with fail
          have z0 : ∀ w', (Below M0 w2 w' ∧ Blk w' eb 48 #[.int .i64 v, .int .u8 zk, .int .i64 zc]) → w'.cell? ⟨eb, 0, none⟩ = some (.int .i64 v) := fun w' h => h.2.cell 0
          have z1 : ∀ w', (Below M0 w2 w' ∧ Blk w' eb 48 #[.int .i64 v, .int .u8 zk, .int .i64 zc]) → w'.cell? ⟨eb, 1, none⟩ = some (.int .u8 zk) := fun w' h => h.2.cell 1
          have z3 : ∀ w', (Below M0 w2 w' ∧ Blk w' eb 48 #[.int .i64 v, .int .u8 zk, .int .i64 zc]) → w'.cell? ⟨eb, 2, none⟩ = some (.int .i64 zc) := fun w' h => h.2.cell 2
          have z4 : ∀ w', (Below M0 w2 w' ∧ Blk w' eb 48 #[.int .i64 v, .int .u8 zk, .int .i64 zc]) → w'.cell? ⟨S0, j, none⟩ = some (.slice (some ⟨g2, 0, none⟩) n c2) := fun w' h => (h.1.cell (p := ⟨S0, j, none⟩) hbs).trans y2
          have z5 : ∀ w', (Below M0 w2 w' ∧ Blk w' eb 48 #[.int .i64 v, .int .u8 zk, .int .i64 zc]) → w'.cell? ⟨g2, v, none⟩ = some (.int .i64 (stamp (gl l) j (v : Int) : Int)) := fun w' h => (h.1.cell (p := ⟨g2, v, none⟩) hg2).trans z2
          clear y2 z2 hbs hg2 hrun q2
          refine Hold.begin_ 16 (by kernel_rfl) rfl (fun w' => Below M0 w2 w' ∧ Blk w' eb 48 #[.int .i64 v, .int .u8 zk, .int .i64 zc]) ?_ (⟨BC.out.drew, EC.out.drew⟩)
          intro hS
          refine Hold.take (i := 0) (v := ?_) rfl (by kernel_rfl) (fun _ _ _ h => h) rfl ?_ hS ?_
          rotate_left
          · intro w' hS; have z0_ := z0 _ hS; have z1_ := z1 _ hS; have z2_ := z3 _ hS; have z3_ := z4 _ hS; have z4_ := z5 _ hS; go_simp; (try go_bits); (first | rfl | rw [if_pos (by omega)])
          simp only [Act.put, List.getElem_toArray, List.getElem_cons_zero, List.getElem_cons_succ, List.setIfInBounds_toArray, List.set_cons_zero, List.set_cons_succ]
          refine Hold.take (i := 1) (v := ?_) rfl (by kernel_rfl) (fun _ _ _ h => h) rfl ?_ hS ?_
          rotate_left
          · intro w' hS; have z0_ := z0 _ hS; have z1_ := z1 _ hS; have z2_ := z3 _ hS; have z3_ := z4 _ hS; have z4_ := z5 _ hS; go_simp; (try go_bits); (first | rfl | rw [if_pos (by omega)])
          simp only [Act.put, List.getElem_toArray, List.getElem_cons_zero, List.getElem_cons_succ, List.setIfInBounds_toArray, List.set_cons_zero, List.set_cons_succ]
          refine Hold.take (i := 2) (v := ?_) rfl (by kernel_rfl) (fun _ _ _ h => h) rfl ?_ hS ?_
          rotate_left
          · intro w' hS; have z0_ := z0 _ hS; have z1_ := z1 _ hS; have z2_ := z3 _ hS; have z3_ := z4 _ hS; have z4_ := z5 _ hS; go_simp; (try go_bits); (first | rfl | rw [if_pos (by omega)])
          simp only [Act.put, List.getElem_toArray, List.getElem_cons_zero, List.getElem_cons_succ, List.setIfInBounds_toArray, List.set_cons_zero, List.set_cons_succ]
          refine Hold.take (i := 3) (v := ?_) rfl (by kernel_rfl) (fun _ _ _ h => h) rfl ?_ hS ?_
          rotate_left
          · intro w' hS; have z0_ := z0 _ hS; have z1_ := z1 _ hS; have z2_ := z3 _ hS; have z3_ := z4 _ hS; have z4_ := z5 _ hS; go_simp; (try go_bits); (first | rfl | rw [if_pos (by omega)])
          simp only [Act.put, List.getElem_toArray, List.getElem_cons_zero, List.getElem_cons_succ, List.setIfInBounds_toArray, List.set_cons_zero, List.set_cons_succ]
          refine Hold.take (i := 5) (v := ?_) rfl (by kernel_rfl) (fun _ _ _ h => h) rfl ?_ hS ?_
          rotate_left
          · intro w' hS; have z0_ := z0 _ hS; have z1_ := z1 _ hS; have z2_ := z3 _ hS; have z3_ := z4 _ hS; have z4_ := z5 _ hS; go_simp; (try go_bits); (first | rfl | rw [if_pos (by omega)])
          simp only [Act.put, List.getElem_toArray, List.getElem_cons_zero, List.getElem_cons_succ, List.setIfInBounds_toArray, List.set_cons_zero, List.set_cons_succ]
          refine Hold.take (i := 6) (v := ?_) rfl (by kernel_rfl) (fun _ _ _ h => h) rfl ?_ hS ?_
          rotate_left
          · intro w' hS; have z0_ := z0 _ hS; have z1_ := z1 _ hS; have z2_ := z3 _ hS; have z3_ := z4 _ hS; have z4_ := z5 _ hS; go_simp; (try go_bits); (first | rfl | rw [if_pos (by omega)])
          simp only [Act.put, List.getElem_toArray, List.getElem_cons_zero, List.getElem_cons_succ, List.setIfInBounds_toArray, List.set_cons_zero, List.set_cons_succ]
          refine Hold.take (i := 7) (v := ?_) rfl (by kernel_rfl) (fun _ _ _ h => h) rfl ?_ hS ?_
          rotate_left
          · intro w' hS; have z0_ := z0 _ hS; have z1_ := z1 _ hS; have z2_ := z3 _ hS; have z3_ := z4 _ hS; have z4_ := z5 _ hS; go_simp; (try go_bits); (first | rfl | rw [if_pos (by omega)])
          simp only [Act.put, List.getElem_toArray, List.getElem_cons_zero, List.getElem_cons_succ, List.setIfInBounds_toArray, List.set_cons_zero, List.set_cons_succ]
          refine Hold.take (i := 8) (v := ?_) rfl (by kernel_rfl) (fun _ _ _ h => h) rfl ?_ hS ?_
          rotate_left
          · intro w' hS; have z0_ := z0 _ hS; have z1_ := z1 _ hS; have z2_ := z3 _ hS; have z3_ := z4 _ hS; have z4_ := z5 _ hS; go_simp; (try go_bits); (first | rfl | rw [if_pos (by omega)])
          simp only [Act.put, List.getElem_toArray, List.getElem_cons_zero, List.getElem_cons_succ, List.setIfInBounds_toArray, List.set_cons_zero, List.set_cons_succ]
          refine Hold.take (i := 9) (v := ?_) rfl (by kernel_rfl) (fun _ _ _ h => h) rfl ?_ hS ?_
          rotate_left
          · intro w' hS; have z0_ := z0 _ hS; have z1_ := z1 _ hS; have z2_ := z3 _ hS; have z3_ := z4 _ hS; have z4_ := z5 _ hS; go_simp; (try go_bits); (first | rfl | rw [if_pos (by omega)])
          simp only [Act.put, List.getElem_toArray, List.getElem_cons_zero, List.getElem_cons_succ, List.setIfInBounds_toArray, List.set_cons_zero, List.set_cons_succ]
          refine Hold.take (i := 10) (v := ?_) rfl (by kernel_rfl) (fun _ _ _ h => h) rfl ?_ hS ?_
          rotate_left
          · intro w' hS; have z0_ := z0 _ hS; have z1_ := z1 _ hS; have z2_ := z3 _ hS; have z3_ := z4 _ hS; have z4_ := z5 _ hS; go_simp; (try go_bits); (first | rfl | rw [if_pos (by omega)])
          simp only [Act.put, List.getElem_toArray, List.getElem_cons_zero, List.getElem_cons_succ, List.setIfInBounds_toArray, List.set_cons_zero, List.set_cons_succ]
          refine Hold.take (i := 11) (v := ?_) rfl (by kernel_rfl) (fun _ _ _ h => h) rfl ?_ hS ?_
          rotate_left
          · intro w' hS; have z0_ := z0 _ hS; have z1_ := z1 _ hS; have z2_ := z3 _ hS; have z3_ := z4 _ hS; have z4_ := z5 _ hS; go_simp; (try go_bits); (first | rfl | rw [if_pos (by omega)])
          simp only [Act.put, List.getElem_toArray, List.getElem_cons_zero, List.getElem_cons_succ, List.setIfInBounds_toArray, List.set_cons_zero, List.set_cons_succ]
          refine Hold.take (i := 12) (v := ?_) rfl (by kernel_rfl) (fun _ _ _ h => h) rfl ?_ hS ?_
          rotate_left
          · intro w' hS; have z0_ := z0 _ hS; have z1_ := z1 _ hS; have z2_ := z3 _ hS; have z3_ := z4 _ hS; have z4_ := z5 _ hS; go_simp; (try go_bits); (first | rfl | rw [if_pos (by omega)])
          simp only [Act.put, List.getElem_toArray, List.getElem_cons_zero, List.getElem_cons_succ, List.setIfInBounds_toArray, List.set_cons_zero, List.set_cons_succ]
          refine Hold.take (i := 13) (v := ?_) rfl (by kernel_rfl) (fun _ _ _ h => h) rfl ?_ hS ?_
          rotate_left
          · intro w' hS; have z0_ := z0 _ hS; have z1_ := z1 _ hS; have z2_ := z3 _ hS; have z3_ := z4 _ hS; have z4_ := z5 _ hS; go_simp; (try go_bits); (first | rfl | rw [if_pos (by omega)])
          simp only [Act.put, List.getElem_toArray, List.getElem_cons_zero, List.getElem_cons_succ, List.setIfInBounds_toArray, List.set_cons_zero, List.set_cons_succ]
          refine Hold.one (i := 4) (by kernel_rfl) ?_
          refine Hold.run rfl rfl (by go_simp; exact ⟨rfl, rfl⟩) ?_
          refine ⟨hS, ?_⟩
          simp only [Act.put, List.getElem_toArray, List.getElem_cons_zero, List.getElem_cons_succ, List.setIfInBounds_toArray, List.set_cons_zero, List.set_cons_succ]
          refine Hold.one (i := 14) (by kernel_rfl) ?_
          refine Hold.call rfl rfl (by go_simp; exact ⟨rfl, rfl⟩) ?_
          refine (note_any (M0 + 1) (.slice la2 LL.length lc2) LL la2 lc2 v zk zc (stamp (gl l) j (v : Int) : Int) wc.drew rfl HSW.out (by show M0 + 1 ≤ wc.heap.size; omega) (by omega) (by omega)).mono ?_
          rintro r w8 ⟨v', rfl, hn', hg', ho'⟩
          have hb8 := EC.out.drew.grown hg' (EC.out.drew.not_row (by decide) HSW.out)
          have T8 := hide (BC.out.drew.grown hg' (by show M0 ≤ wc.heap.size; omega) (fun k h => by have := own_ge HSW.out k h; omega) : Below M0 w2 w8)
          have hs8 : M0 < w8.heap.size := by have := hg'.size; have h2 : wc.drew.heap.size = wc.heap.size := rfl; omega
          refine ⟨_, rfl, ⟨T8.out, hb8⟩, ?_⟩
          simp only [Act.put, List.getElem_toArray, List.getElem_cons_zero, List.getElem_cons_succ, List.setIfInBounds_toArray, List.set_cons_zero, List.set_cons_succ]
          refine Hold.one (i := 15) (by kernel_rfl) ?_
          refine Hold.list1 rfl rfl ?_
          obtain ⟨o', ho1⟩ := valS_of (a := none) (n := 0) (c := 0) hn'
          have hMne : some M0 ≠ (Value.slice la2 LL.length lc2).ownBlock := fun h => by have := own_ge HSW.out M0 h.symm; omega
          have HD8 : Hid (w8.ownsMap Try.prog 3 SR M0 j D) := hide (HD1.out.drew.kept hg' hMne)
          refine wpList_mapUpdate_own _ rfl _ _ _ 58 rfl 3 60 law Try.underlying58 SR M0 j D rfl HD8.out (by unfold maxLen; omega) _ _ (.int .i64 zc) rfl rfl (keyOf_int_mk Try.underlying3 HWF.out) (encS o') [] (by rw [ho1]; exact SR_valS o') ?_
          intro w9 hm9 hg9
          have hst2 := HST.out
          rw [HGL.out] at hst2
          have R9 := hide (RM.noted (W := wc.drew) (W' := w8) HD2.out HD3.out (fun c' => World.ownsRow.drew (HD4.out c')) HD5.out ho1 hpl (by rw [HGL.out]) (by rw [HGL.out, ← HLL.out, ← hst2]; exact hn') (by rw [HV2.out]; exact hg') (by rw [HV2.out]; exact ho') hg9 hm9 : RM w9 (gl l) M0 (j + 1))
          have T9 := hide (T8.out.grown hg9 (by omega) (fun k h => by injection h with h; omega) : Below M0 w2 w9)
          have hb9 := hb8.grown hg9 (by intro h; injection h with h; omega)
          have hs9 : M0 < w9.heap.size := by have := hg9.size; omega
          show _ ∧ _
          refine ⟨⟨T9.out, hb9⟩, ?_⟩
          simp only [Act.put, List.getElem_toArray, List.getElem_cons_zero, List.getElem_cons_succ, List.setIfInBounds_toArray, List.set_cons_zero, List.set_cons_succ]
          refine Hold.done (by kernel_rfl) ?_
          clear z0 z1 z3 z4 z5 hst2 hm9 hg9 hb9 hb8 hn' hg' ho' hS hMne
          go_wp2_with fail
          go_roundw
          case rel => exact ⟨j + 1, hlt, by go_num, R9.out, T9.out, hs9, HNO⟩
          case measure => simp [intOf]; omega
      · have hpl : plE (gl l j) = false := by unfold plE; rw [HGL.out]; simpa using hp
        rw [decide_eq_false hp]
        have RP := hide (R5.out.pass hpl)
        have HNO : Hid (∀ j', j' < j + 1 → ∀ i', ¬ Racy (gl l) i' j') := hide (fun j' hj' i' hr' => by
          by_cases hje : j' = j
          · subst hje
            have := (racy_parts hr').2.2.1
            rw [HGL.out] at this
            exact hp this
          · exact hno.out j' (by omega) i' hr')
        clear hpl hp
        go_wp2_with fail
        go_roundw
        case rel => exact ⟨j + 1, hlt, by go_num, RP.out, B5.out, hM5, HNO⟩
        case measure => simp [intOf]; omega
    · obtain rfl : j = l.length := by omega
      have T := hide (hTB.out wr B.out).2.2
      go_wp2_with fail
      go_returns
      exact ⟨0, 0, false, rfl, .inr ⟨rfl, rfl, rfl, hno.out⟩, T.out⟩
theorem race_no (a : Option Addr) (l : List Ev) (c : Nat) (n : Int) (w : World) (hr : ERow w a l) (hk : ∀ x ∈ l, 0 ≤ x.k ∧ x.k ≤ 255) (hM : ¬ LogOk n l) :
    Calls Try.prog 18 #[.int .i64 n, .slice a l.length c] w fun r w' => r = .returned (.tuple #[.int .i64 0, .int .i64 0, .bool false, .int .i64 1]) ∧ Below w.heap.size w w' := by
  have HN := hide (stamps_no a l c n w hr hk hM)
  go_enter Try.func18, Try.ntmps18
  go_wp2_with fail
  refine HN.out.mono ?_
  rintro r w2 ⟨rfl, k2⟩
  have t2 := hide k2
  clear k2
  go_wp2_with fail
  go_returns
  exact ⟨rfl, t2.out⟩
end Go.Proofs.Ytffpphnjokmffaa
