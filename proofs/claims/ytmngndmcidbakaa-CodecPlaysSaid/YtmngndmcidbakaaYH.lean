/- Walks: the field of a length; the field Units. -/
import Derived.Test.YtmngndmcidbakaaYG
import Derived.Test.YtmngndmcidbakaaHoldQ
namespace Go.Proofs.Ytmngndmcidbakaa
open Go.RowKit
theorem length_has (g off b o : Nat) (k n : Int) (W : World) (h : OfAt W g off b o) (hx : W.cell? ⟨b, o + off, none⟩ = some (.int .u8 k)) (hy : W.cell? ⟨b, o + off + 1, none⟩ = some (.int .i64 n)) :
    Calls Try.prog 77 #[.pointer (some ⟨b, o, none⟩), .pointer (some ⟨g, 0, none⟩)] W (BqPost (k != 0 || n != 0) W) := by
  obtain ⟨K, caps, hg, he, hc⟩ := h.ex
  have HC := hide hc
  clear hc h
  go_enter Try.func77, Try.ntmps77
  go_wp2_with fail
  refine HC.out.mono ?_
  rintro r w2 ⟨rfl, q, rfl⟩
  have hx : (W.drewN q).cell? ⟨b, o + off, none⟩ = some (.int .u8 k) := hx
  have hy : (W.drewN q).cell? ⟨b, o + off + 1, none⟩ = some (.int .i64 n) := hy
  cases h1 : (k == 0) with
  | true =>
    cases h2 : (n == 0) with
    | true =>
      have HD : Hid ((k != 0 || n != 0) = false) := hide (by simp [bne, h1, h2])
      go_wp2_with fail
      go_returns
      exact ⟨by rw [HD.out]; rfl, q, rfl⟩
    | false =>
      have HD : Hid ((k != 0 || n != 0) = true) := hide (by simp [bne, h1, h2])
      go_wp2_with fail
      go_returns
      exact ⟨by rw [HD.out]; rfl, q, rfl⟩
  | false =>
    have HD : Hid ((k != 0 || n != 0) = true) := hide (by simp [bne, h1])
    cases h2 : (n == 0) with
    | true =>
      go_wp2_with fail
      go_returns
      exact ⟨by rw [HD.out]; rfl, q, rfl⟩
    | false =>
      go_wp2_with fail
      go_returns
      exact ⟨by rw [HD.out]; rfl, q, rfl⟩
set_option maxHeartbeats 1000000 in
theorem length_put (B0 : Nat) (l : List Int) (a : Option Addr) (cap g off b o : Nat) (k n : Int) (W : World) (ho : BOwn W B0 (.slice a l.length cap) l) (hB : B0 ≤ W.heap.size) (hl : l.length ≤ 90000000) (h : OfAt W g off b o) (hx : W.cell? ⟨b, o + off, none⟩ = some (.int .u8 k)) (hy : W.cell? ⟨b, o + off + 1, none⟩ = some (.int .i64 n))
    (hbl : b < W.heap.size) (hbo : (Value.slice a l.length cap).ownBlock ≠ some b) (hk : 0 ≤ k ∧ k ≤ 255) (hn : -9223372036854775808 ≤ n ∧ n ≤ 9223372036854775807) :
    Calls Try.prog 78 #[.slice a l.length cap, .pointer (some ⟨b, o, none⟩), .pointer (some ⟨g, 0, none⟩)] W (AppPost B0 (.slice a l.length cap) (l ++ num k ++ num n) W) := by
  obtain ⟨K, caps, hg, he, hc⟩ := h.ex
  have HC := hide hc
  clear hc h
  go_enter Try.func78, Try.ntmps78
  go_wp2_with fail
  refine HC.out.mono ?_
  rintro r w2 ⟨rfl, q, rfl⟩
  obtain ⟨w2, hw2⟩ : ∃ w2, w2 = W.drewN q := ⟨_, rfl⟩
  have x0 : w2.cell? ⟨b, o + off, none⟩ = some (.int .u8 k) := hw2 ▸ hx
  have y0 : w2.cell? ⟨b, o + off + 1, none⟩ = some (.int .i64 n) := hw2 ▸ hy
  have ho2 : Hid (BOwn w2 B0 (.slice a l.length cap) l) := hide (hw2 ▸ ho)
  have g2 : Hid (W.grownBy w2 (Value.slice a l.length cap).ownBlock) := hide (hw2 ▸ (⟨rfl, rfl, rfl, Nat.le_refl _, fun _ _ _ => rfl⟩ : W.grownBy (W.drewN q) (Value.slice a l.length cap).ownBlock))
  have hbl2 : b < w2.heap.size := hw2 ▸ hbl
  have hB2 : B0 ≤ w2.heap.size := hw2 ▸ hB
  rw [← hw2]
  clear hw2 hx hy ho hg he HC
  go_upto_region 2 with fail
  have z0 : ∀ w' : World, (w'.cell? ⟨b, o + off, none⟩ = some (.int .u8 k) ∧ w'.cell? ⟨b, o + off + 1, none⟩ = some (.int .i64 n)) → w'.cell? ⟨b, o + off, none⟩ = some (.int .u8 k) := fun w' h => h.1
  have z1 : ∀ w' : World, (w'.cell? ⟨b, o + off, none⟩ = some (.int .u8 k) ∧ w'.cell? ⟨b, o + off + 1, none⟩ = some (.int .i64 n)) → w'.cell? ⟨b, o + off + 1, none⟩ = some (.int .i64 n) := fun w' h => h.2
  refine Hold.begin_ 13 (by kernel_rfl) rfl (fun w' : World => w'.cell? ⟨b, o + off, none⟩ = some (.int .u8 k) ∧ w'.cell? ⟨b, o + off + 1, none⟩ = some (.int .i64 n)) ?_ ⟨x0, y0⟩
  intro hS
  refine Hold.take (i := 0) (v := ?_) rfl (by kernel_rfl) (fun _ _ _ h => h) rfl ?_ hS ?_
  rotate_left
  · intro w' hS; have z0_ := z0 _ hS; have z1_ := z1 _ hS; go_simp; (try go_bits); (first | rfl | rw [if_pos (by omega)])
  simp only [Act.put, List.getElem_toArray, List.getElem_cons_zero, List.getElem_cons_succ, List.setIfInBounds_toArray, List.set_cons_zero, List.set_cons_succ]
  refine Hold.take (i := 1) (v := ?_) rfl (by kernel_rfl) (fun _ _ _ h => h) rfl ?_ hS ?_
  rotate_left
  · intro w' hS; have z0_ := z0 _ hS; have z1_ := z1 _ hS; go_simp; (try go_bits); (first | rfl | rw [if_pos (by omega)])
  simp only [Act.put, List.getElem_toArray, List.getElem_cons_zero, List.getElem_cons_succ, List.setIfInBounds_toArray, List.set_cons_zero, List.set_cons_succ]
  refine Hold.take (i := 2) (v := ?_) rfl (by kernel_rfl) (fun _ _ _ h => h) rfl ?_ hS ?_
  rotate_left
  · intro w' hS; have z0_ := z0 _ hS; have z1_ := z1 _ hS; go_simp; (try go_bits); (first | rfl | rw [if_pos (by omega)])
  simp only [Act.put, List.getElem_toArray, List.getElem_cons_zero, List.getElem_cons_succ, List.setIfInBounds_toArray, List.set_cons_zero, List.set_cons_succ]
  refine Hold.take (i := 3) (v := ?_) rfl (by kernel_rfl) (fun _ _ _ h => h) rfl ?_ hS ?_
  rotate_left
  · intro w' hS; have z0_ := z0 _ hS; have z1_ := z1 _ hS; go_simp; (try go_bits); (first | rfl | rw [if_pos (by omega)])
  simp only [Act.put, List.getElem_toArray, List.getElem_cons_zero, List.getElem_cons_succ, List.setIfInBounds_toArray, List.set_cons_zero, List.set_cons_succ]
  refine Hold.take (i := 4) (v := ?_) rfl (by kernel_rfl) (fun _ _ _ h => h) rfl ?_ hS ?_
  rotate_left
  · intro w' hS; have z0_ := z0 _ hS; have z1_ := z1 _ hS; go_simp; (try go_bits); (first | rfl | rw [if_pos (by omega)])
  simp only [Act.put, List.getElem_toArray, List.getElem_cons_zero, List.getElem_cons_succ, List.setIfInBounds_toArray, List.set_cons_zero, List.set_cons_succ]
  refine Hold.take (i := 5) (v := ?_) rfl (by kernel_rfl) (fun _ _ _ h => h) rfl ?_ hS ?_
  rotate_left
  · intro w' hS; have z0_ := z0 _ hS; have z1_ := z1 _ hS; go_simp; (try go_bits); (first | rfl | rw [if_pos (by omega)])
  simp only [Act.put, List.getElem_toArray, List.getElem_cons_zero, List.getElem_cons_succ, List.setIfInBounds_toArray, List.set_cons_zero, List.set_cons_succ]
  refine Hold.take (i := 7) (v := ?_) rfl (by kernel_rfl) (fun _ _ _ h => h) rfl ?_ hS ?_
  rotate_left
  · intro w' hS; have z0_ := z0 _ hS; have z1_ := z1 _ hS; go_simp; (try go_bits); (first | rfl | rw [if_pos (by omega)])
  simp only [Act.put, List.getElem_toArray, List.getElem_cons_zero, List.getElem_cons_succ, List.setIfInBounds_toArray, List.set_cons_zero, List.set_cons_succ]
  refine Hold.take (i := 8) (v := ?_) rfl (by kernel_rfl) (fun _ _ _ h => h) rfl ?_ hS ?_
  rotate_left
  · intro w' hS; have z0_ := z0 _ hS; have z1_ := z1 _ hS; go_simp; (try go_bits); (first | rfl | rw [if_pos (by omega)])
  simp only [Act.put, List.getElem_toArray, List.getElem_cons_zero, List.getElem_cons_succ, List.setIfInBounds_toArray, List.set_cons_zero, List.set_cons_succ]
  refine Hold.take (i := 9) (v := ?_) rfl (by kernel_rfl) (fun _ _ _ h => h) rfl ?_ hS ?_
  rotate_left
  · intro w' hS; have z0_ := z0 _ hS; have z1_ := z1 _ hS; go_simp; (try go_bits); (first | rfl | rw [if_pos (by omega)])
  simp only [Act.put, List.getElem_toArray, List.getElem_cons_zero, List.getElem_cons_succ, List.setIfInBounds_toArray, List.set_cons_zero, List.set_cons_succ]
  refine Hold.take (i := 10) (v := ?_) rfl (by kernel_rfl) (fun _ _ _ h => h) rfl ?_ hS ?_
  rotate_left
  · intro w' hS; have z0_ := z0 _ hS; have z1_ := z1 _ hS; go_simp; (try go_bits); (first | rfl | rw [if_pos (by omega)])
  simp only [Act.put, List.getElem_toArray, List.getElem_cons_zero, List.getElem_cons_succ, List.setIfInBounds_toArray, List.set_cons_zero, List.set_cons_succ]
  refine Hold.one (i := 6) (by kernel_rfl) ?_
  refine Hold.call rfl rfl (by go_simp; exact ⟨rfl, rfl⟩) ?_
  refine (number_any B0 l a cap k w2.drew (by exact ho2.out) hB2 (by omega) (by omega)).mono ?_
  rintro r w3 ⟨v3, rfl, hO3, hG3, hob3⟩
  have hl3 : (l ++ num k).length ≤ 100000000 := by
    rw [List.length_append]; unfold num; have := nb_len (abs_lt (n := k) ⟨by omega, by omega⟩); rw [List.length_cons]; omega
  obtain ⟨cur, hcur⟩ : ∃ cur, cur = l ++ num k := ⟨_, rfl⟩
  rw [← hcur] at hO3 hl3
  obtain ⟨a3, cap3, rfl, _, _, _⟩ := hO3.row
  have HCUR := hide hcur
  clear hcur
  have hb3 : w3.heap[b]? = w2.drew.heap[b]? := hG3.block b hbl2 (fun e => hbo e.symm)
  have hS3 : w3.cell? ⟨b, o + off, none⟩ = some (.int .u8 k) ∧ w3.cell? ⟨b, o + off + 1, none⟩ = some (.int .i64 n) := ⟨(World.cell?_of_block (w := w2.drew) (a := ⟨b, o + off, none⟩) hb3).trans x0, (World.cell?_of_block (w := w2.drew) (a := ⟨b, o + off + 1, none⟩) hb3).trans y0⟩
  have hB3 : B0 ≤ w3.heap.size := Nat.le_trans hB2 hG3.size
  refine ⟨_, rfl, hS3, ?_⟩
  simp only [Act.put, List.getElem_toArray, List.getElem_cons_zero, List.getElem_cons_succ, List.setIfInBounds_toArray, List.set_cons_zero, List.set_cons_succ]
  refine Hold.one (i := 11) (by kernel_rfl) ?_
  refine Hold.call rfl rfl (by go_simp; exact ⟨rfl, rfl⟩) ?_
  refine (number_any B0 cur a3 cap3 n w3 hO3 hB3 hl3 hn).mono ?_
  rintro r w4 ⟨v4, rfl, hO4, hG4, hob4⟩
  have hlt3 : b < w3.heap.size := Nat.lt_of_lt_of_le hbl2 hG3.size
  have hne3 : some b ≠ (Value.slice a3 cur.length cap3).ownBlock := fun e => by
    rcases hob3 with h | ⟨g', h, h2⟩
    · exact hbo (by rw [← h]; exact e.symm)
    · rw [h] at e; injection e with e; have h2' : w2.heap.size ≤ g' := h2; omega
  have hb4 : w4.heap[b]? = w3.heap[b]? := hG4.block b hlt3 hne3
  have hS4 : w4.cell? ⟨b, o + off, none⟩ = some (.int .u8 k) ∧ w4.cell? ⟨b, o + off + 1, none⟩ = some (.int .i64 n) := ⟨(World.cell?_of_block (w := w3) (a := ⟨b, o + off, none⟩) hb4).trans hS3.1, (World.cell?_of_block (w := w3) (a := ⟨b, o + off + 1, none⟩) hb4).trans hS3.2⟩
  have GG : Hid (W.grownBy w4 (Value.slice a l.length cap).ownBlock) := hide (grownBy_trans (grownBy_trans g2.out (⟨hG3.os, hG3.tape, hG3.output, hG3.size, hG3.block⟩ : w2.grownBy w3 (Value.slice a l.length cap).ownBlock) (fun k h => .inl h)) hG4 (fun k' h => by
    rcases hob3 with h' | ⟨g', h', h2⟩
    · exact .inl (by rw [← h', h])
    · rw [h'] at h; injection h with h; subst h; exact .inr (Nat.le_trans g2.out.size h2)))
  have OB : Hid (v4.ownBlock = (Value.slice a l.length cap).ownBlock ∨ ∃ g', v4.ownBlock = some g' ∧ W.heap.size ≤ g') := hide (by
    rcases hob4 with h | ⟨g', h, h2⟩
    · rcases hob3 with h' | ⟨g'', h', h2'⟩
      · exact .inl (h.trans h')
      · exact .inr ⟨g'', h.trans h', Nat.le_trans g2.out.size h2'⟩
    · exact .inr ⟨g', h, Nat.le_trans (Nat.le_trans g2.out.size hG3.size) h2⟩)
  have O4 := hide hO4
  refine ⟨_, rfl, hS4, ?_⟩
  simp only [Act.put, List.getElem_toArray, List.getElem_cons_zero, List.getElem_cons_succ, List.setIfInBounds_toArray, List.set_cons_zero, List.set_cons_succ]
  clear hS
  have hS := hS4
  refine Hold.take (i := 12) (v := ?_) rfl (by kernel_rfl) (fun _ _ _ h => h) rfl ?_ hS ?_
  rotate_left
  · intro w' hS; have z0_ := z0 _ hS; have z1_ := z1 _ hS; go_simp; (try go_bits); (first | rfl | rw [if_pos (by omega)])
  simp only [Act.put, List.getElem_toArray, List.getElem_cons_zero, List.getElem_cons_succ, List.setIfInBounds_toArray, List.set_cons_zero, List.set_cons_succ]
  refine Hold.done (by kernel_rfl) ?_
  clear hS hS3 hS4 hb3 hb4 hne3 hob3 hob4 hO3 hO4 hG3 hG4 z0 z1 x0 y0
  go_wp2_with fail
  go_returns
  exact ⟨_, rfl, by rw [← HCUR.out]; exact O4.out, GG.out, OB.out⟩
end Go.Proofs.Ytmngndmcidbakaa
