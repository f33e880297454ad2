/- Walk: note. -/
import Derived.Test.YtffpphnjokmffaaEE
import Derived.Deep.LoopGhost
namespace Go.Proofs.Ytffpphnjokmffaa
open Go.RowKit Go.Maps

def scell (s : Sn) : List Value := [.int .i64 s.w, .int .i64 s.r, .int .i64 s.k]
theorem scell_len (l : List Sn) : ∀ x ∈ l.map scell, x.length = 3 := by
  intro x hx; rw [List.mem_map] at hx; obtain ⟨y, _, rfl⟩ := hx; rfl
theorem sflat_len (l : List Sn) : (l.map scell).flatten.length = l.length * 3 := by
  rw [flat_len _ (scell_len l), List.length_map]
theorem sflat_at : ∀ (l : List Sn) (k : Nat) (h : k < l.length), (l.map scell).flatten[k * 3]? = some (.int .i64 l[k].w) ∧ (l.map scell).flatten[k * 3 + 1]? = some (.int .i64 l[k].r) ∧ (l.map scell).flatten[k * 3 + 2]? = some (.int .i64 l[k].k)
  | s :: l, 0, _ => ⟨rfl, rfl, rfl⟩
  | s :: l, k + 1, h => by
    have := sflat_at l k (by simpa using h)
    simp only [List.map_cons, List.flatten_cons, List.getElem_cons_succ]
    refine ⟨?_, ?_, ?_⟩
    · rw [List.getElem?_append_right (by simp [scell]; omega)]; rw [show (k + 1) * 3 - (scell s).length = k * 3 from by simp [scell]; omega]; exact this.1
    · rw [List.getElem?_append_right (by simp [scell]; omega)]; rw [show (k + 1) * 3 + 1 - (scell s).length = k * 3 + 1 from by simp [scell]; omega]; exact this.2.1
    · rw [List.getElem?_append_right (by simp [scell]; omega)]; rw [show (k + 1) * 3 + 2 - (scell s).length = k * 3 + 2 from by simp [scell]; omega]; exact this.2.2
theorem sflat_set : ∀ (l : List Sn) (k : Nat) (h : k < l.length) (n : Int), (l.map scell).flatten.set (k * 3 + 1) (.int .i64 n) = ((l.set k (l[k].put n false)).map scell).flatten ∧ (l.map scell).flatten.set (k * 3 + 2) (.int .i64 n) = ((l.set k (l[k].put n true)).map scell).flatten
  | s :: l, 0, _, n => ⟨rfl, rfl⟩
  | s :: l, k + 1, h, n => by
    have := sflat_set l k (by simpa using h) n
    simp only [List.map_cons, List.flatten_cons, List.getElem_cons_succ, List.set_cons_succ]
    constructor
    · rw [List.set_append_right _ _ (by simp [scell]; omega), show (k + 1) * 3 + 1 - (scell s).length = k * 3 + 1 from by simp [scell]; omega, this.1]
    · rw [List.set_append_right _ _ (by simp [scell]; omega), show (k + 1) * 3 + 2 - (scell s).length = k * 3 + 2 from by simp [scell]; omega, this.2]
theorem note_at {w n : Int} {iw : Bool} : ∀ {L : List Sn} {k : Nat} (h : k < L.length), (∀ i (hi : i < L.length), i < k → L[i].w ≠ w) → L[k].w = w → noteL w n iw L = L.set k (L[k].put n iw)
  | s :: L, 0, _, _, hw => by
    have hw : s.w = w := hw
    unfold noteL; rw [if_pos hw]; rfl
  | s :: L, k + 1, h, hne, hw => by
    have h0 : s.w ≠ w := hne 0 (by simp) (by omega)
    unfold noteL
    rw [if_neg h0, note_at (k := k) (by simpa using h) (fun i hi hik => hne (i + 1) (by simpa using hi) (by omega)) hw]
    rfl
theorem note_new {w n : Int} {iw : Bool} : ∀ {L : List Sn}, (∀ i (hi : i < L.length), L[i].w ≠ w) → noteL w n iw L = L ++ [Sn.put ⟨w, 0, 0⟩ n iw]
  | [], _ => rfl
  | s :: L, hne => by
    unfold noteL
    have h0 : s.w ≠ w := hne 0 (by simp)
    rw [if_neg h0, note_new (fun i hi => hne (i + 1) (by simpa using hi))]
    rfl
theorem note_len {w n : Int} {iw : Bool} : ∀ {L : List Sn}, (noteL w n iw L).length ≤ L.length + 1
  | [] => by simp [noteL]
  | s :: L => by
    unfold noteL; split
    · simp
    · have := note_len (w := w) (n := n) (iw := iw) (L := L); simp; omega
theorem info62 : (Try.prog.info? 62).map (fun i => (i.zero, i.size, i.bytes)) = some (some (.agg #[.int .i64 0, .int .i64 0, .int .i64 0]), 3, 24) := by kernel_rfl
def SnRow (W : World) (B0 : Nat) (v : Value) (L : List Sn) : Prop := W.ownsRow B0 62 3 v L.length (L.map scell).flatten
theorem Blk.not_row {W : World} {B : Nat} {t e : TypeId} {cs : Array Value} (h : Blk W B t cs) (hte : t ≠ e) {base size k : Nat} {v : Value} {xs : List Value} (hr : W.ownsRow base e size v k xs) : some B ≠ v.ownBlock := by
  rcases hr.2 with ⟨rfl, _⟩ | ⟨g, cap, cur, rfl, _, hgb, _⟩
  · simp [Value.ownBlock]
  · intro e'
    obtain rfl : B = g := by simpa [Value.ownBlock] using e'
    have := (show W.heap[B]? = _ from h).symm.trans hgb
    simp at this
    exact hte this.2
theorem Blk.grown {W W' : World} {B : Nat} {t : TypeId} {cs : Array Value} {row : Option Nat} (h : Blk W B t cs) (hg : W.grownBy W' row) (hne : some B ≠ row) : Blk W' B t cs := (hg.block B h.lt hne).trans h
def NoteP (B0 : Nat) (lv : Value) (L' : List Sn) (w : World) (r : Ending) (w' : World) : Prop :=
  ∃ v', r = .returned v' ∧ SnRow w' B0 v' L' ∧ w.grownBy w' lv.ownBlock ∧ (v'.ownBlock = lv.ownBlock ∨ ∃ g, v'.ownBlock = some g ∧ w.heap.size ≤ g)

theorem grownBy_trans {a b c : World} {row row2 : Option Nat} (h1 : a.grownBy b row) (h2 : b.grownBy c row2) (hr : ∀ k, row2 = some k → row = some k ∨ a.heap.size ≤ k) : a.grownBy c row :=
  ⟨h2.os.trans h1.os, h2.tape.trans h1.tape, h2.output.trans h1.output, Nat.le_trans h1.size h2.size, fun k hk hne => (h2.block k (Nat.lt_of_lt_of_le hk h1.size) (fun e => by
    rcases hr k e.symm with h | h
    · exact hne h.symm
    · omega)).trans (h1.block k hk hne)⟩
set_option maxRecDepth 100000 in
set_option maxHeartbeats 4000000 in
theorem note_any (B0 : Nat) (lv : Value) (L : List Sn) (a : Option Addr) (cap : Nat) (ew ek ec n : Int) (w : World) (hlv : lv = .slice a L.length cap) (ho : SnRow w B0 lv L) (hB : B0 ≤ w.heap.size) (hL : L.length ≤ 70000) (hk56 : ek = 5 ∨ ek = 6) :
    Calls Try.prog 29 #[lv, .agg #[.int .i64 ew, .int .u8 ek, .int .i64 ec], .int .i64 n] w (NoteP B0 lv (noteL ew n (ek == 6) L) w) := by
  obtain ⟨i0, hi, hz0, hz1, hz2⟩ := info_parts info62
  subst hlv
  have HO := hide ho
  obtain ⟨w1, hw1⟩ : ∃ w1, w1 = w.alloc (.cells #[.int .i64 ew, .int .u8 ek, .int .i64 ec] 48) := ⟨_, rfl⟩
  have E1 := hide (hw1 ▸ Blk.new w _ _ : Blk w1 w.heap.size 48 #[.int .i64 ew, .int .u8 ek, .int .i64 ec])
  have O1 := hide (hw1 ▸ (show w.ownsRow _ _ _ _ _ _ from ho).alloc _ : w1.ownsRow B0 62 3 (.slice a L.length cap) L.length (L.map scell).flatten)
  have G1 := hide (hw1 ▸ World.grownBy_alloc w _ (Value.slice a L.length cap).ownBlock : w.grownBy w1 (Value.slice a L.length cap).ownBlock)
  have s1 : w.heap.size < w1.heap.size := by rw [hw1]; simp
  have HW1 := hide hw1
  clear hw1 ho
  go_enter Try.func29, Try.ntmps29
  go_upto_region 1 with fail
  rw [← HW1.out]
  go_upto_block 0 with fail
  go_cut [7] from 8 to 23 (fun s7 wx => ∃ k : Nat, s7 = .int .i64 k ∧ k ≤ L.length ∧ Hid (∀ i (h : i < L.length), i < k → L[i].w ≠ ew) ∧ Hid (∀ h : k < L.length, L[k].w = ew) ∧ ∃ q, wx = w1.drewN q)
  case first =>
    go_wp2_with fail
    go_loopg [7] (L.length + 1) (fun gk iv wr => ∃ k : Nat, iv = .int .i64 k ∧ k ≤ L.length ∧ L.length - k < gk ∧ Hid (∀ i (h : i < L.length), i < k → L[i].w ≠ ew) ∧ ∃ q, wr = w1.drewN q)
    case atStart => exact ⟨0, rfl, Nat.zero_le _, by omega, hide (fun i h hk => by omega), 0, rfl⟩
    case round =>
      obtain ⟨k, rfl, hk, hgk, hne, q, rfl⟩ := hrel
      by_cases hlt : k < L.length
      · obtain ⟨g, cp, hv, hbg, hgl⟩ := O1.out.form (by omega)
        simp only [Value.slice.injEq] at hv
        obtain ⟨hv1, _, hv2⟩ := hv
        subst hv1 hv2
        have x0 : w1.cell? ⟨g, k * 3, none⟩ = some (.int .i64 L[k].w) := by
          have := O1.out.cellAt (k * 3) (by omega)
          rw [(sflat_at L k hlt).1] at this
          exact this
        have y0 : w1.cell? ⟨w.heap.size, 0, none⟩ = some (.int .i64 ew) := E1.out.cell 0
        by_cases hw : L[k].w = ew
        · have HW := hide hw
          rw [hw] at x0
          clear hw
          go_upto_region 2 with fail
          refine Reg.region (by kernel_rfl) 14 [] (fun _ w' => w' = (w1.drewN q).drew) (by kernel_rfl) (by kernel_rfl) rfl ?_
          iterate 14
            first
              | refine Reg.WT.idle rfl rfl ?_
              | (refine Reg.WT.yield (v := ?_) rfl rfl ?_ ?_
                 rotate_left
                 · intro w' _ hS; go_simp; (try go_bits); (first | rfl | rw [if_pos (by omega)]))
            simp only [Act.put, List.setIfInBounds_toArray, List.set_cons_zero, List.set_cons_succ]
          intro w2 hS
          subst hS
          go_wp2_with fail
          go_meet
          exact ⟨k, rfl, hk, hne, hide (fun _ => HW.out), q + 1, rfl⟩
        · have HW := hide hw
          have bw : (L[k].w != ew) = true := by simpa using hw
          clear hw
          generalize L[k].w = lk at x0 bw
          go_upto_region 2 with fail
          refine Reg.region (by kernel_rfl) 14 [] (fun _ w' => w' = (w1.drewN q).drew) (by kernel_rfl) (by kernel_rfl) rfl ?_
          iterate 14
            first
              | refine Reg.WT.idle rfl rfl ?_
              | (refine Reg.WT.yield (v := ?_) rfl rfl ?_ ?_
                 rotate_left
                 · intro w' _ hS; go_simp; (try go_bits); (first | rfl | rw [if_pos (by omega)]))
            simp only [Act.put, List.setIfInBounds_toArray, List.set_cons_zero, List.set_cons_succ]
          intro w2 hS
          subst hS
          go_wp2_with fail
          go_roundg (L.length - k)
          case measure => omega
          case rel => exact ⟨k + 1, by go_num, hlt, by omega, hide (fun i h hik => by
            by_cases hie : i = k
            · subst hie; exact HW.out
            · exact hne.out i h (by omega)), q + 1, rfl⟩
      · obtain rfl : k = L.length := by omega
        go_upto_region 2 with fail
        refine Reg.region (by kernel_rfl) 14 [] (fun _ w' => w' = (w1.drewN q).drew) (by kernel_rfl) (by kernel_rfl) rfl ?_
        iterate 14
          first
            | refine Reg.WT.idle rfl rfl ?_
            | (refine Reg.WT.yield (v := ?_) rfl rfl ?_ ?_
               rotate_left
               · intro w' _ hS; go_simp; (try go_bits); (first | rfl | rw [if_pos (by omega)]))
          simp only [Act.put, List.setIfInBounds_toArray, List.set_cons_zero, List.set_cons_succ]
        intro w2 hS
        subst hS
        go_wp2_with fail
        go_meet
        exact ⟨L.length, rfl, Nat.le_refl _, hne, hide (fun h => by omega), q + 1, rfl⟩
  case rest =>
    obtain ⟨k, rfl, hk, hne, heq, q, hwc⟩ := hcut
    have O2 : Hid (wc.ownsRow B0 62 3 (.slice a L.length cap) L.length (L.map scell).flatten) := hide (hwc ▸ O1.out)
    have E2 : Hid (Blk wc w.heap.size 48 #[.int .i64 ew, .int .u8 ek, .int .i64 ec]) := hide (hwc ▸ E1.out)
    have G2 : Hid (w.grownBy wc (Value.slice a L.length cap).ownBlock) := hide (grownBy_trans G1.out (row2 := none) (by rw [hwc]; exact ⟨rfl, rfl, rfl, Nat.le_refl _, fun _ _ _ => rfl⟩) (fun k h => by cases h))
    have s2 : w.heap.size < wc.heap.size := by rw [hwc]; exact s1
    clear hwc O1 E1 G1 s1
    by_cases hkl : k < L.length
    · obtain ⟨g, cp, hv, hbg, hgl⟩ := O2.out.form (by omega)
      simp only [Value.slice.injEq] at hv
      obtain ⟨hv1, _, hv2⟩ := hv
      subst hv1 hv2
      have HN := hide (note_at (n := n) (iw := ek == 6) hkl hne.out (heq.out hkl))
      have c0 : wc.cell? ⟨w.heap.size, 1, none⟩ = some (.int .u8 ek) := E2.out.cell 1
      have m1 : wc.cell? ⟨g, k * 3 + 1, none⟩ = some (.int .i64 L[k].r) := by
        have := O2.out.cellAt (k * 3 + 1) (by omega); rw [(sflat_at L k hkl).2.1] at this; exact this
      have m2 : wc.cell? ⟨g, k * 3 + 2, none⟩ = some (.int .i64 L[k].k) := by
        have := O2.out.cellAt (k * 3 + 2) (by omega); rw [(sflat_at L k hkl).2.2] at this; exact this
      have f1 := O2.out.frozenAt (k * 3 + 1)
      have f2 := O2.out.frozenAt (k * 3 + 2)
      have S1 := hide (O2.out.stored (k * 3 + 1) (.int .i64 n))
      have S2 := hide (O2.out.stored (k * 3 + 2) (.int .i64 n))
      rw [(sflat_set L k hkl n).1] at S1
      rw [(sflat_set L k hkl n).2] at S2
      have bk : ((k : Int) == (L.length : Int)) = false := by rw [beq_eq_false_iff_ne]; omega
      generalize L[k].r = lr at m1
      generalize L[k].k = lk at m2
      rcases hk56 with rfl | rfl
      · go_wp2_with fail
        go_returns
        refine ⟨_, rfl, ?_, grownBy_trans G2.out S1.out.2 (fun j h => .inl h), .inl rfl⟩
        rw [HN.out]
        unfold SnRow
        rw [List.length_set]
        exact S1.out.1
      · go_wp2_with fail
        go_returns
        refine ⟨_, rfl, ?_, grownBy_trans G2.out S2.out.2 (fun j h => .inl h), .inl rfl⟩
        rw [HN.out]
        unfold SnRow
        rw [List.length_set]
        exact S2.out.1
    · have hke : k = L.length := by omega
      have HN := hide (note_new (n := n) (iw := ek == 6) (fun i hi => hne.out i hi (by omega)))
      have bk : ((k : Int) == (L.length : Int)) = true := by rw [beq_iff_eq]; omega
      have HKE := hide hke
      have c0 : wc.cell? ⟨w.heap.size, 1, none⟩ = some (.int .u8 ek) := E2.out.cell 1
      have c1 : wc.cell? ⟨w.heap.size, 0, none⟩ = some (.int .i64 ew) := E2.out.cell 0
      have O3 := hide (O2.out.alloc (.cells #[.int .i64 ew, .int .i64 0, .int .i64 0] 62))
      have E3 := hide (E2.out.alloc (.cells #[.int .i64 ew, .int .i64 0, .int .i64 0] 62))
      have N3 := hide (Blk.new wc 62 #[.int .i64 ew, .int .i64 0, .int .i64 0])
      clear hke
      go_wp2_with (at_builtin; refine wpList_append_lies _ rfl _ _ 60 rfl B0 62 i0 (.agg #[.int .i64 0, .int .i64 0, .int .i64 0]) 3 24 Try.underlying60 hi hz0 hz1 hz2 rfl (by decide) _ _ _ rfl O3.out ⟨wc.heap.size, 0, none⟩ 1 1 [.int .i64 ew, .int .i64 0, .int .i64 0] rfl rfl ?c1 ?c2 (by decide) ?c3 ?c4 ?c5 _ rfl ?_)
      case c1 => exact N3.out.news
      case c2 => intro z hz; simp at hz; rcases hz with rfl | rfl | rfl <;> rfl
      case c3 => unfold maxLen; omega
      case c4 => omega
      case c5 => simp; omega
      intro g cap' w5 hown hgrow hat hlt
      have hown2 : w5.ownsRow B0 62 3 (.slice (some ⟨g, 0, none⟩) (L.length + 1) cap') (L.length + 1) ((L ++ [(⟨ew, 0, 0⟩ : Sn)]).map scell).flatten := by simpa [scell] using hown
      have hl1 : L.length < (L ++ [(⟨ew, 0, 0⟩ : Sn)]).length := by simp
      have G5 := hide (grownBy_trans (grownBy_trans G2.out (row2 := none) (World.grownBy_alloc wc _ none) (fun k h => by cases h)) hgrow (fun j h => .inl h))
      have hE5 : some w.heap.size ≠ (Value.slice a L.length cap).ownBlock := E3.out.not_row (by decide) O3.out
      have E5 := hide (E3.out.grown hgrow hE5)
      have c0 : w5.cell? ⟨w.heap.size, 1, none⟩ = some (.int .u8 ek) := E5.out.cell 1
      have m1 : w5.cell? ⟨g, L.length * 3 + 1, none⟩ = some (.int .i64 0) := by
        have := hown2.cellAt (L.length * 3 + 1) (by omega); rw [(sflat_at _ _ hl1).2.1] at this; simpa using this
      have m2 : w5.cell? ⟨g, L.length * 3 + 2, none⟩ = some (.int .i64 0) := by
        have := hown2.cellAt (L.length * 3 + 2) (by omega); rw [(sflat_at _ _ hl1).2.2] at this; simpa using this
      have f1 := hown2.frozenAt (L.length * 3 + 1)
      have f2 := hown2.frozenAt (L.length * 3 + 2)
      have S1 := hide (hown2.stored (L.length * 3 + 1) (.int .i64 n))
      have S2 := hide (hown2.stored (L.length * 3 + 2) (.int .i64 n))
      rw [(sflat_set _ _ hl1 n).1] at S1
      rw [(sflat_set _ _ hl1 n).2] at S2
      rw [← HKE.out] at m1 m2 f1 f2
      rw [show L.length * 3 = k * 3 from by rw [HKE.out]] at S1 S2
      have hgr : ∀ j, some g = some j → (Value.slice a L.length cap).ownBlock = some j ∨ w.heap.size ≤ j := fun j h => by
        injection h with h
        subst h
        rcases hat with h | h
        · exact .inl h
        · right; rw [h]; first | omega | (simp; omega)
      have hob : (Value.slice (some ⟨g, 0, none⟩) (L.length + 1) cap').ownBlock = (Value.slice a L.length cap).ownBlock ∨ ∃ g2, (Value.slice (some ⟨g, 0, none⟩) (L.length + 1) cap').ownBlock = some g2 ∧ w.heap.size ≤ g2 := by
        rcases hat with h | h
        · exact .inl h.symm
        · exact .inr ⟨g, rfl, by rw [h]; first | omega | (simp; omega)⟩
      have HGR := hide hgr
      have HOB := hide hob
      have hkk : k < L.length + 1 := by have := HKE.out; omega
      clear hown hgrow hat hlt hE5 hgr hob c1 O3 N3
      rcases hk56 with rfl | rfl
      · go_wp2_with fail
        go_returns
        refine ⟨_, rfl, ?_, grownBy_trans G5.out S1.out.2 HGR.out, HOB.out⟩
        rw [HN.out]
        unfold SnRow
        have := S1.out.1
        simpa using this
      · go_wp2_with fail
        go_returns
        refine ⟨_, rfl, ?_, grownBy_trans G5.out S2.out.2 HGR.out, HOB.out⟩
        rw [HN.out]
        unfold SnRow
        have := S2.out.1
        simpa using this
end Go.Proofs.Ytffpphnjokmffaa
