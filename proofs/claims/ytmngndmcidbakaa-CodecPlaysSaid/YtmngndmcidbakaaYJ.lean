/- Walks: the makers of fields. -/
import Derived.Test.YtmngndmcidbakaaYI
import Derived.Laws.Rows
import Derived.Laws.EntriesVeiled
namespace Go.Proofs.Ytmngndmcidbakaa
open Go.RowKit
/-- A field's three functions. -/
def fval (k0 k1 k2 : Nat) (c0 c1 c2 : Array Value) : Array Value := #[.func (.func k0) #[] c0, .func (.func k1) #[] c1, .func (.func k2) #[] c2]
theorem flag_mk (K : Nat) (caps : Array Value) (W : World) : Calls Try.prog 33 #[.func (.func K) #[] caps] W fun r w' =>
    r = .returned (.agg (fval 64 65 66 #[.pointer (some ⟨W.heap.size, 0, none⟩)] #[] #[.pointer (some ⟨W.heap.size, 0, none⟩)])) ∧ Blk w' W.heap.size 75 #[.func (.func K) #[] caps] ∧ Below W.heap.size W w' := by
  obtain ⟨G, hG⟩ : ∃ G, G = W.heap.size + 1 := ⟨_, rfl⟩
  obtain ⟨g, hg⟩ : ∃ g, g = W.heap.size := ⟨_, rfl⟩
  obtain ⟨w1, hw1⟩ : ∃ w1, w1 = (W.alloc (.cells #[.func (.func K) #[] caps] 75)).alloc (.cells #[.nilFunc, .nilFunc, .nilFunc] 61) := ⟨_, rfl⟩
  have B1 : Hid (Blk w1 g 75 #[.func (.func K) #[] caps]) := hide (by rw [hw1, hg]; exact (Blk.new W _ _).alloc _)
  have B2 : Hid (Blk w1 G 61 #[.nilFunc, .nilFunc, .nilFunc]) := hide (by
    have := Blk.new (W.alloc (.cells #[.func (.func K) #[] caps] 75)) 61 #[.nilFunc, .nilFunc, .nilFunc]
    rw [World.size_alloc, ← hw1, ← hG] at this
    exact this)
  have t1 : Hid (Below W.heap.size W w1) := hide (by rw [hw1]; exact ((Below.refl _ _).alloc (Nat.le_refl _) _).alloc (by simp) _)
  have hgG : G = g + 1 := by omega
  have HGG := hide hgG
  have HW1 := hide hw1
  have HG := hide hG
  have Hg := hide hg
  rw [← hg]
  clear hw1 hG hgG
  go_enter Try.func33, Try.ntmps33
  go_upto_region 1 with fail
  rw [← HW1.out, ← HG.out, ← Hg.out]
  have z0 : w1.cell? ⟨G, 0, none⟩ = some .nilFunc := B2.out.cell 0
  have z1 : w1.cell? ⟨G, 1, none⟩ = some .nilFunc := B2.out.cell 1
  have z2 : w1.cell? ⟨G, 2, none⟩ = some .nilFunc := B2.out.cell 2
  have f0 := B2.out.frozen 0
  have f1 := B2.out.frozen 1
  have f2 := B2.out.frozen 2
  clear hg
  go_wp2
  obtain ⟨v0, h0⟩ : ∃ v, v = Value.func (.func 64) #[] #[.pointer (some ⟨g, 0, none⟩)] := ⟨_, rfl⟩
  obtain ⟨v1, h1⟩ : ∃ v, v = Value.func (.func 65) #[] #[] := ⟨_, rfl⟩
  obtain ⟨v2, h2⟩ : ∃ v, v = Value.func (.func 66) #[] #[.pointer (some ⟨g, 0, none⟩)] := ⟨_, rfl⟩
  have B4 : Blk (((w1.setCell ⟨G, 0, none⟩ v0).setCell ⟨G, 1, none⟩ v1).setCell ⟨G, 2, none⟩ v2) G 61 #[v0, v1, v2] := by
    have := ((B2.out.set_ 0 v0).set_ 1 v1).set_ 2 v2
    simpa using this
  have hgne : g ≠ G := by have := HGG.out; omega
  have B5 : Blk (((w1.setCell ⟨G, 0, none⟩ v0).setCell ⟨G, 1, none⟩ v1).setCell ⟨G, 2, none⟩ v2) g 75 #[.func (.func K) #[] caps] := ((B1.out.far (p := ⟨G, 0, none⟩) hgne _).far (p := ⟨G, 1, none⟩) hgne _).far (p := ⟨G, 2, none⟩) hgne _
  have hle : W.heap.size ≤ G := by have := HG.out; omega
  have T5 : Below W.heap.size W (((w1.setCell ⟨G, 0, none⟩ v0).setCell ⟨G, 1, none⟩ v1).setCell ⟨G, 2, none⟩ v2) := ((t1.out.setCell (p := ⟨G, 0, none⟩) hle _).setCell (p := ⟨G, 1, none⟩) hle _).setCell (p := ⟨G, 2, none⟩) hle _
  rw [h0, h1, h2] at B4 B5 T5
  rw [← Hg.out] at T5
  refine bodyPost_ret (results_cell_row Try.results33 _ _ G 61 _ (0, 0) _ rfl B4 Try.underlying61 rfl (by kernel_rfl)) rfl ?_
  exact ⟨rfl, B5, T5⟩
theorem small_mk (K : Nat) (caps : Array Value) (W : World) : Calls Try.prog 36 #[.func (.func K) #[] caps] W fun r w' =>
    r = .returned (.agg (fval 67 68 69 #[.pointer (some ⟨W.heap.size, 0, none⟩)] #[.pointer (some ⟨W.heap.size, 0, none⟩)] #[.pointer (some ⟨W.heap.size, 0, none⟩)])) ∧ Blk w' W.heap.size 78 #[.func (.func K) #[] caps] ∧ Below W.heap.size W w' := by
  obtain ⟨G, hG⟩ : ∃ G, G = W.heap.size + 1 := ⟨_, rfl⟩
  obtain ⟨g, hg⟩ : ∃ g, g = W.heap.size := ⟨_, rfl⟩
  obtain ⟨w1, hw1⟩ : ∃ w1, w1 = (W.alloc (.cells #[.func (.func K) #[] caps] 78)).alloc (.cells #[.nilFunc, .nilFunc, .nilFunc] 61) := ⟨_, rfl⟩
  have B1 : Hid (Blk w1 g 78 #[.func (.func K) #[] caps]) := hide (by rw [hw1, hg]; exact (Blk.new W _ _).alloc _)
  have B2 : Hid (Blk w1 G 61 #[.nilFunc, .nilFunc, .nilFunc]) := hide (by
    have := Blk.new (W.alloc (.cells #[.func (.func K) #[] caps] 78)) 61 #[.nilFunc, .nilFunc, .nilFunc]
    rw [World.size_alloc, ← hw1, ← hG] at this
    exact this)
  have t1 : Hid (Below W.heap.size W w1) := hide (by rw [hw1]; exact ((Below.refl _ _).alloc (Nat.le_refl _) _).alloc (by simp) _)
  have hgG : G = g + 1 := by omega
  have HGG := hide hgG
  have HW1 := hide hw1
  have HG := hide hG
  have Hg := hide hg
  rw [← hg]
  clear hw1 hG hgG
  go_enter Try.func36, Try.ntmps36
  go_upto_region 1 with fail
  rw [← HW1.out, ← HG.out, ← Hg.out]
  have z0 : w1.cell? ⟨G, 0, none⟩ = some .nilFunc := B2.out.cell 0
  have z1 : w1.cell? ⟨G, 1, none⟩ = some .nilFunc := B2.out.cell 1
  have z2 : w1.cell? ⟨G, 2, none⟩ = some .nilFunc := B2.out.cell 2
  have f0 := B2.out.frozen 0
  have f1 := B2.out.frozen 1
  have f2 := B2.out.frozen 2
  clear hg
  go_wp2
  obtain ⟨v0, h0⟩ : ∃ v, v = Value.func (.func 67) #[] #[.pointer (some ⟨g, 0, none⟩)] := ⟨_, rfl⟩
  obtain ⟨v1, h1⟩ : ∃ v, v = Value.func (.func 68) #[] #[.pointer (some ⟨g, 0, none⟩)] := ⟨_, rfl⟩
  obtain ⟨v2, h2⟩ : ∃ v, v = Value.func (.func 69) #[] #[.pointer (some ⟨g, 0, none⟩)] := ⟨_, rfl⟩
  have B4 : Blk (((w1.setCell ⟨G, 0, none⟩ v0).setCell ⟨G, 1, none⟩ v1).setCell ⟨G, 2, none⟩ v2) G 61 #[v0, v1, v2] := by
    have := ((B2.out.set_ 0 v0).set_ 1 v1).set_ 2 v2
    simpa using this
  have hgne : g ≠ G := by have := HGG.out; omega
  have B5 : Blk (((w1.setCell ⟨G, 0, none⟩ v0).setCell ⟨G, 1, none⟩ v1).setCell ⟨G, 2, none⟩ v2) g 78 #[.func (.func K) #[] caps] := ((B1.out.far (p := ⟨G, 0, none⟩) hgne _).far (p := ⟨G, 1, none⟩) hgne _).far (p := ⟨G, 2, none⟩) hgne _
  have hle : W.heap.size ≤ G := by have := HG.out; omega
  have T5 : Below W.heap.size W (((w1.setCell ⟨G, 0, none⟩ v0).setCell ⟨G, 1, none⟩ v1).setCell ⟨G, 2, none⟩ v2) := ((t1.out.setCell (p := ⟨G, 0, none⟩) hle _).setCell (p := ⟨G, 1, none⟩) hle _).setCell (p := ⟨G, 2, none⟩) hle _
  rw [h0, h1, h2] at B4 B5 T5
  rw [← Hg.out] at T5
  refine bodyPost_ret (results_cell_row Try.results36 _ _ G 61 _ (0, 0) _ rfl B4 Try.underlying61 rfl (by kernel_rfl)) rfl ?_
  exact ⟨rfl, B5, T5⟩
theorem great_mk (K : Nat) (caps : Array Value) (W : World) : Calls Try.prog 43 #[.func (.func K) #[] caps] W fun r w' =>
    r = .returned (.agg (fval 71 72 73 #[.pointer (some ⟨W.heap.size, 0, none⟩)] #[.pointer (some ⟨W.heap.size, 0, none⟩)] #[.pointer (some ⟨W.heap.size, 0, none⟩)])) ∧ Blk w' W.heap.size 81 #[.func (.func K) #[] caps] ∧ Below W.heap.size W w' := by
  obtain ⟨G, hG⟩ : ∃ G, G = W.heap.size + 1 := ⟨_, rfl⟩
  obtain ⟨g, hg⟩ : ∃ g, g = W.heap.size := ⟨_, rfl⟩
  obtain ⟨w1, hw1⟩ : ∃ w1, w1 = (W.alloc (.cells #[.func (.func K) #[] caps] 81)).alloc (.cells #[.nilFunc, .nilFunc, .nilFunc] 61) := ⟨_, rfl⟩
  have B1 : Hid (Blk w1 g 81 #[.func (.func K) #[] caps]) := hide (by rw [hw1, hg]; exact (Blk.new W _ _).alloc _)
  have B2 : Hid (Blk w1 G 61 #[.nilFunc, .nilFunc, .nilFunc]) := hide (by
    have := Blk.new (W.alloc (.cells #[.func (.func K) #[] caps] 81)) 61 #[.nilFunc, .nilFunc, .nilFunc]
    rw [World.size_alloc, ← hw1, ← hG] at this
    exact this)
  have t1 : Hid (Below W.heap.size W w1) := hide (by rw [hw1]; exact ((Below.refl _ _).alloc (Nat.le_refl _) _).alloc (by simp) _)
  have hgG : G = g + 1 := by omega
  have HGG := hide hgG
  have HW1 := hide hw1
  have HG := hide hG
  have Hg := hide hg
  rw [← hg]
  clear hw1 hG hgG
  go_enter Try.func43, Try.ntmps43
  go_upto_region 1 with fail
  rw [← HW1.out, ← HG.out, ← Hg.out]
  have z0 : w1.cell? ⟨G, 0, none⟩ = some .nilFunc := B2.out.cell 0
  have z1 : w1.cell? ⟨G, 1, none⟩ = some .nilFunc := B2.out.cell 1
  have z2 : w1.cell? ⟨G, 2, none⟩ = some .nilFunc := B2.out.cell 2
  have f0 := B2.out.frozen 0
  have f1 := B2.out.frozen 1
  have f2 := B2.out.frozen 2
  clear hg
  go_wp2
  obtain ⟨v0, h0⟩ : ∃ v, v = Value.func (.func 71) #[] #[.pointer (some ⟨g, 0, none⟩)] := ⟨_, rfl⟩
  obtain ⟨v1, h1⟩ : ∃ v, v = Value.func (.func 72) #[] #[.pointer (some ⟨g, 0, none⟩)] := ⟨_, rfl⟩
  obtain ⟨v2, h2⟩ : ∃ v, v = Value.func (.func 73) #[] #[.pointer (some ⟨g, 0, none⟩)] := ⟨_, rfl⟩
  have B4 : Blk (((w1.setCell ⟨G, 0, none⟩ v0).setCell ⟨G, 1, none⟩ v1).setCell ⟨G, 2, none⟩ v2) G 61 #[v0, v1, v2] := by
    have := ((B2.out.set_ 0 v0).set_ 1 v1).set_ 2 v2
    simpa using this
  have hgne : g ≠ G := by have := HGG.out; omega
  have B5 : Blk (((w1.setCell ⟨G, 0, none⟩ v0).setCell ⟨G, 1, none⟩ v1).setCell ⟨G, 2, none⟩ v2) g 81 #[.func (.func K) #[] caps] := ((B1.out.far (p := ⟨G, 0, none⟩) hgne _).far (p := ⟨G, 1, none⟩) hgne _).far (p := ⟨G, 2, none⟩) hgne _
  have hle : W.heap.size ≤ G := by have := HG.out; omega
  have T5 : Below W.heap.size W (((w1.setCell ⟨G, 0, none⟩ v0).setCell ⟨G, 1, none⟩ v1).setCell ⟨G, 2, none⟩ v2) := ((t1.out.setCell (p := ⟨G, 0, none⟩) hle _).setCell (p := ⟨G, 1, none⟩) hle _).setCell (p := ⟨G, 2, none⟩) hle _
  rw [h0, h1, h2] at B4 B5 T5
  rw [← Hg.out] at T5
  refine bodyPost_ret (results_cell_row Try.results43 _ _ G 61 _ (0, 0) _ rfl B4 Try.underlying61 rfl (by kernel_rfl)) rfl ?_
  exact ⟨rfl, B5, T5⟩
theorem length_mk (K : Nat) (caps : Array Value) (W : World) : Calls Try.prog 48 #[.func (.func K) #[] caps] W fun r w' =>
    r = .returned (.agg (fval 77 78 79 #[.pointer (some ⟨W.heap.size, 0, none⟩)] #[.pointer (some ⟨W.heap.size, 0, none⟩)] #[.pointer (some ⟨W.heap.size, 0, none⟩)])) ∧ Blk w' W.heap.size 85 #[.func (.func K) #[] caps] ∧ Below W.heap.size W w' := by
  obtain ⟨G, hG⟩ : ∃ G, G = W.heap.size + 1 := ⟨_, rfl⟩
  obtain ⟨g, hg⟩ : ∃ g, g = W.heap.size := ⟨_, rfl⟩
  obtain ⟨w1, hw1⟩ : ∃ w1, w1 = (W.alloc (.cells #[.func (.func K) #[] caps] 85)).alloc (.cells #[.nilFunc, .nilFunc, .nilFunc] 61) := ⟨_, rfl⟩
  have B1 : Hid (Blk w1 g 85 #[.func (.func K) #[] caps]) := hide (by rw [hw1, hg]; exact (Blk.new W _ _).alloc _)
  have B2 : Hid (Blk w1 G 61 #[.nilFunc, .nilFunc, .nilFunc]) := hide (by
    have := Blk.new (W.alloc (.cells #[.func (.func K) #[] caps] 85)) 61 #[.nilFunc, .nilFunc, .nilFunc]
    rw [World.size_alloc, ← hw1, ← hG] at this
    exact this)
  have t1 : Hid (Below W.heap.size W w1) := hide (by rw [hw1]; exact ((Below.refl _ _).alloc (Nat.le_refl _) _).alloc (by simp) _)
  have hgG : G = g + 1 := by omega
  have HGG := hide hgG
  have HW1 := hide hw1
  have HG := hide hG
  have Hg := hide hg
  rw [← hg]
  clear hw1 hG hgG
  go_enter Try.func48, Try.ntmps48
  go_upto_region 1 with fail
  rw [← HW1.out, ← HG.out, ← Hg.out]
  have z0 : w1.cell? ⟨G, 0, none⟩ = some .nilFunc := B2.out.cell 0
  have z1 : w1.cell? ⟨G, 1, none⟩ = some .nilFunc := B2.out.cell 1
  have z2 : w1.cell? ⟨G, 2, none⟩ = some .nilFunc := B2.out.cell 2
  have f0 := B2.out.frozen 0
  have f1 := B2.out.frozen 1
  have f2 := B2.out.frozen 2
  clear hg
  go_wp2
  obtain ⟨v0, h0⟩ : ∃ v, v = Value.func (.func 77) #[] #[.pointer (some ⟨g, 0, none⟩)] := ⟨_, rfl⟩
  obtain ⟨v1, h1⟩ : ∃ v, v = Value.func (.func 78) #[] #[.pointer (some ⟨g, 0, none⟩)] := ⟨_, rfl⟩
  obtain ⟨v2, h2⟩ : ∃ v, v = Value.func (.func 79) #[] #[.pointer (some ⟨g, 0, none⟩)] := ⟨_, rfl⟩
  have B4 : Blk (((w1.setCell ⟨G, 0, none⟩ v0).setCell ⟨G, 1, none⟩ v1).setCell ⟨G, 2, none⟩ v2) G 61 #[v0, v1, v2] := by
    have := ((B2.out.set_ 0 v0).set_ 1 v1).set_ 2 v2
    simpa using this
  have hgne : g ≠ G := by have := HGG.out; omega
  have B5 : Blk (((w1.setCell ⟨G, 0, none⟩ v0).setCell ⟨G, 1, none⟩ v1).setCell ⟨G, 2, none⟩ v2) g 85 #[.func (.func K) #[] caps] := ((B1.out.far (p := ⟨G, 0, none⟩) hgne _).far (p := ⟨G, 1, none⟩) hgne _).far (p := ⟨G, 2, none⟩) hgne _
  have hle : W.heap.size ≤ G := by have := HG.out; omega
  have T5 : Below W.heap.size W (((w1.setCell ⟨G, 0, none⟩ v0).setCell ⟨G, 1, none⟩ v1).setCell ⟨G, 2, none⟩ v2) := ((t1.out.setCell (p := ⟨G, 0, none⟩) hle _).setCell (p := ⟨G, 1, none⟩) hle _).setCell (p := ⟨G, 2, none⟩) hle _
  rw [h0, h1, h2] at B4 B5 T5
  rw [← Hg.out] at T5
  refine bodyPost_ret (results_cell_row Try.results48 _ _ G 61 _ (0, 0) _ rfl B4 Try.underlying61 rfl (by kernel_rfl)) rfl ?_
  exact ⟨rfl, B5, T5⟩
theorem order_mk (W : World) : Calls Try.prog 45 #[] W fun r w' =>
    r = .returned (.agg (fval 74 75 76 #[] #[] #[])) ∧ Below W.heap.size W w' := by
  obtain ⟨G, hG⟩ : ∃ G, G = W.heap.size := ⟨_, rfl⟩
  obtain ⟨w1, hw1⟩ : ∃ w1, w1 = (W.alloc (.cells #[.nilFunc, .nilFunc, .nilFunc] 61)) := ⟨_, rfl⟩
  have B2 : Hid (Blk w1 G 61 #[.nilFunc, .nilFunc, .nilFunc]) := hide (by rw [hw1, hG]; exact Blk.new W _ _)
  have t1 : Hid (Below W.heap.size W w1) := hide (by rw [hw1]; exact (Below.refl _ _).alloc (Nat.le_refl _) _)
  have HW1 := hide hw1
  have HG := hide hG
  clear hw1 hG
  go_enter Try.func45, Try.ntmps45
  go_upto_region 1 with fail
  rw [← HW1.out, ← HG.out]
  have z0 : w1.cell? ⟨G, 0, none⟩ = some .nilFunc := B2.out.cell 0
  have z1 : w1.cell? ⟨G, 1, none⟩ = some .nilFunc := B2.out.cell 1
  have z2 : w1.cell? ⟨G, 2, none⟩ = some .nilFunc := B2.out.cell 2
  have f0 := B2.out.frozen 0
  have f1 := B2.out.frozen 1
  have f2 := B2.out.frozen 2
  go_wp2
  obtain ⟨v0, h0⟩ : ∃ v, v = Value.func (.func 74) #[] #[] := ⟨_, rfl⟩
  obtain ⟨v1, h1⟩ : ∃ v, v = Value.func (.func 75) #[] #[] := ⟨_, rfl⟩
  obtain ⟨v2, h2⟩ : ∃ v, v = Value.func (.func 76) #[] #[] := ⟨_, rfl⟩
  have B4 : Blk (((w1.setCell ⟨G, 0, none⟩ v0).setCell ⟨G, 1, none⟩ v1).setCell ⟨G, 2, none⟩ v2) G 61 #[v0, v1, v2] := by
    have := ((B2.out.set_ 0 v0).set_ 1 v1).set_ 2 v2
    simpa using this
  have hle : W.heap.size ≤ G := by have := HG.out; omega
  have T5 : Below W.heap.size W (((w1.setCell ⟨G, 0, none⟩ v0).setCell ⟨G, 1, none⟩ v1).setCell ⟨G, 2, none⟩ v2) := ((t1.out.setCell (p := ⟨G, 0, none⟩) hle _).setCell (p := ⟨G, 1, none⟩) hle _).setCell (p := ⟨G, 2, none⟩) hle _
  rw [h0, h1, h2] at B4 T5
  refine bodyPost_ret (results_cell_row Try.results45 _ _ G 61 _ (0, 0) _ rfl B4 Try.underlying61 rfl (by kernel_rfl)) rfl ?_
  exact ⟨rfl, T5⟩
theorem units_mk (W : World) : Calls Try.prog 59 #[] W fun r w' =>
    r = .returned (.agg (fval 80 81 82 #[] #[] #[])) ∧ Below W.heap.size W w' := by
  obtain ⟨G, hG⟩ : ∃ G, G = W.heap.size := ⟨_, rfl⟩
  obtain ⟨w1, hw1⟩ : ∃ w1, w1 = (W.alloc (.cells #[.nilFunc, .nilFunc, .nilFunc] 61)) := ⟨_, rfl⟩
  have B2 : Hid (Blk w1 G 61 #[.nilFunc, .nilFunc, .nilFunc]) := hide (by rw [hw1, hG]; exact Blk.new W _ _)
  have t1 : Hid (Below W.heap.size W w1) := hide (by rw [hw1]; exact (Below.refl _ _).alloc (Nat.le_refl _) _)
  have HW1 := hide hw1
  have HG := hide hG
  clear hw1 hG
  go_enter Try.func59, Try.ntmps59
  go_upto_region 1 with fail
  rw [← HW1.out, ← HG.out]
  have z0 : w1.cell? ⟨G, 0, none⟩ = some .nilFunc := B2.out.cell 0
  have z1 : w1.cell? ⟨G, 1, none⟩ = some .nilFunc := B2.out.cell 1
  have z2 : w1.cell? ⟨G, 2, none⟩ = some .nilFunc := B2.out.cell 2
  have f0 := B2.out.frozen 0
  have f1 := B2.out.frozen 1
  have f2 := B2.out.frozen 2
  go_wp2
  obtain ⟨v0, h0⟩ : ∃ v, v = Value.func (.func 80) #[] #[] := ⟨_, rfl⟩
  obtain ⟨v1, h1⟩ : ∃ v, v = Value.func (.func 81) #[] #[] := ⟨_, rfl⟩
  obtain ⟨v2, h2⟩ : ∃ v, v = Value.func (.func 82) #[] #[] := ⟨_, rfl⟩
  have B4 : Blk (((w1.setCell ⟨G, 0, none⟩ v0).setCell ⟨G, 1, none⟩ v1).setCell ⟨G, 2, none⟩ v2) G 61 #[v0, v1, v2] := by
    have := ((B2.out.set_ 0 v0).set_ 1 v1).set_ 2 v2
    simpa using this
  have hle : W.heap.size ≤ G := by have := HG.out; omega
  have T5 : Below W.heap.size W (((w1.setCell ⟨G, 0, none⟩ v0).setCell ⟨G, 1, none⟩ v1).setCell ⟨G, 2, none⟩ v2) := ((t1.out.setCell (p := ⟨G, 0, none⟩) hle _).setCell (p := ⟨G, 1, none⟩) hle _).setCell (p := ⟨G, 2, none⟩) hle _
  rw [h0, h1, h2] at B4 T5
  refine bodyPost_ret (results_cell_row Try.results59 _ _ G 61 _ (0, 0) _ rfl B4 Try.underlying61 rfl (by kernel_rfl)) rfl ?_
  exact ⟨rfl, T5⟩
end Go.Proofs.Ytmngndmcidbakaa
