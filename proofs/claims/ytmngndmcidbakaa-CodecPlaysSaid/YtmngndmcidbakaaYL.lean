/- Walks: fields(). Printed by gen_fields.py. -/
import Derived.Test.YtmngndmcidbakaaYK
import Derived.Shelf.Abstract
namespace Go.Proofs.Ytmngndmcidbakaa
open Go.RowKit
theorem rowS_lit (w : World) (cs : Array Value) (t : TypeId) {sz : Nat} (L : List (List Value)) (hsz : 0 < sz) (hl : ∀ x ∈ L, x.length = sz) (hcs : cs.toList = L.flatten) (hn : L.length ≤ maxLen) :
    RowS (w.alloc (.cells cs t)) (some ⟨w.heap.size, 0, none⟩) sz L := by
  have h := World.ownsRow_lit (base := w.heap.size) (e := t) (size := sz) w cs L.length (Nat.le_refl _) hn (by rw [← flat_len L hl, ← hcs]; simp)
  rw [hcs] at h
  obtain ⟨a, cap, he, _, _, _, h4, _⟩ := own_rowS hl hsz h
  simp only [Value.slice.injEq] at he
  rw [he.1]; exact h4
/-- The 32 fields as a row. -/
def Fs (W : World) (B : Nat) (a : Option Addr) (cap : Nat) : Prop := ∃ ls : List (List Value), W.ownsRow B 61 3 (.slice a 32 cap) 32 ls.flatten ∧ FL W B FT ls ∧ ∀ l ∈ ls, l.length = 3
theorem fv_length {W : World} {B g off : Nat} (h : OfV W B g off) : FV W B (4, off) [fn1 77 g, fn1 78 g, fn1 79 g] := ⟨g, h, rfl⟩
theorem fv_great {W : World} {B g off : Nat} (h : OfV W B g off) : FV W B (2, off) [fn1 71 g, fn1 72 g, fn1 73 g] := ⟨g, h, rfl⟩
theorem info61 : (Try.prog.info? 61).map (fun i => (i.zero, i.size, i.bytes)) = some (some (.agg #[.nilFunc, .nilFunc, .nilFunc]), 3, 24) := by kernel_rfl
set_option maxHeartbeats 4000000 in
set_option maxRecDepth 100000 in
theorem fields_any (W : World) : Calls Try.prog 23 #[] W fun r w' => ∃ a cap, r = .returned (.slice a 32 cap) ∧ Fs w' W.heap.size a cap ∧ Below W.heap.size W w' := by
  obtain ⟨i0, hi, hz0, hz1, hz2⟩ := info_parts info61
  go_enter Try.func23, Try.ntmps23
  have T0 : Hid (Below W.heap.size W W) := hide (Below.refl _ _)
  go_wp2_with fail
  refine (flag_mkv (B := W.heap.size) 34 1 #[] W (fun w' hB _ => .lit 34 75 1 (by decide) T0.out.size hB (enters_of Try.func34 (by kernel_rfl) rfl) of1_any)).mono ?_
  rintro r w1 ⟨g1, rfl, o1, k1⟩
  have D1 := hide o1
  clear o1
  have K1 := hide k1
  have T1 : Hid (Below W.heap.size W w1) := hide (below_call T0.out k1)
  clear k1
  go_wp2_with fail
  refine (flag_mkv (B := W.heap.size) 35 34 #[] w1 (fun w' hB _ => .lit 35 75 34 (by decide) T1.out.size hB (enters_of Try.func35 (by kernel_rfl) rfl) of2_any)).mono ?_
  rintro r w2 ⟨g2, rfl, o2, k2⟩
  have D2 := hide o2
  clear o2
  have K2 := hide k2
  have T2 : Hid (Below W.heap.size W w2) := hide (below_call T1.out k2)
  clear k2
  go_wp2_with fail
  refine (small_mkv (B := W.heap.size) 37 0 #[] w2 (fun w' hB _ => .lit 37 78 0 (by decide) T2.out.size hB (enters_of Try.func37 (by kernel_rfl) rfl) of3_any)).mono ?_
  rintro r w3 ⟨g3, rfl, o3, k3⟩
  have D3 := hide o3
  clear o3
  have K3 := hide k3
  have T3 : Hid (Below W.heap.size W w3) := hide (below_call T2.out k3)
  clear k3
  go_wp2_with fail
  refine (small_mkv (B := W.heap.size) 38 2 #[] w3 (fun w' hB _ => .lit 38 78 2 (by decide) T3.out.size hB (enters_of Try.func38 (by kernel_rfl) rfl) of4_any)).mono ?_
  rintro r w4 ⟨g4, rfl, o4, k4⟩
  have D4 := hide o4
  clear o4
  have K4 := hide k4
  have T4 : Hid (Below W.heap.size W w4) := hide (below_call T3.out k4)
  clear k4
  go_wp2_with fail
  refine (small_mkv (B := W.heap.size) 39 3 #[] w4 (fun w' hB _ => .lit 39 78 3 (by decide) T4.out.size hB (enters_of Try.func39 (by kernel_rfl) rfl) of5_any)).mono ?_
  rintro r w5 ⟨g5, rfl, o5, k5⟩
  have D5 := hide o5
  clear o5
  have K5 := hide k5
  have T5 : Hid (Below W.heap.size W w5) := hide (below_call T4.out k5)
  clear k5
  go_wp2_with fail
  refine (small_mkv (B := W.heap.size) 40 32 #[] w5 (fun w' hB _ => .lit 40 78 32 (by decide) T5.out.size hB (enters_of Try.func40 (by kernel_rfl) rfl) of6_any)).mono ?_
  rintro r w6 ⟨g6, rfl, o6, k6⟩
  have D6 := hide o6
  clear o6
  have K6 := hide k6
  have T6 : Hid (Below W.heap.size W w6) := hide (below_call T5.out k6)
  clear k6
  go_wp2_with fail
  refine (small_mkv (B := W.heap.size) 41 35 #[] w6 (fun w' hB _ => .lit 41 78 35 (by decide) T6.out.size hB (enters_of Try.func41 (by kernel_rfl) rfl) of7_any)).mono ?_
  rintro r w7 ⟨g7, rfl, o7, k7⟩
  have D7 := hide o7
  clear o7
  have K7 := hide k7
  have T7 : Hid (Below W.heap.size W w7) := hide (below_call T6.out k7)
  clear k7
  go_wp2_with fail
  refine (small_mkv (B := W.heap.size) 42 36 #[] w7 (fun w' hB _ => .lit 42 78 36 (by decide) T7.out.size hB (enters_of Try.func42 (by kernel_rfl) rfl) of8_any)).mono ?_
  rintro r w8 ⟨g8, rfl, o8, k8⟩
  have D8 := hide o8
  clear o8
  have K8 := hide k8
  have T8 : Hid (Below W.heap.size W w8) := hide (below_call T7.out k8)
  clear k8
  go_wp2_with fail
  refine (great_mkv (B := W.heap.size) 44 33 #[] w8 (fun w' hB _ => .lit 44 81 33 (by decide) T8.out.size hB (enters_of Try.func44 (by kernel_rfl) rfl) of9_any)).mono ?_
  rintro r w9 ⟨g9, rfl, o9, k9⟩
  have D9 := hide o9
  clear o9
  have K9 := hide k9
  have T9 : Hid (Below W.heap.size W w9) := hide (below_call T8.out k9)
  clear k9
  go_wp2_with fail
  refine (order_mk w9).mono ?_
  rintro r w10 ⟨rfl, k10⟩
  unfold fval
  have K10 := hide k10
  have T10 : Hid (Below W.heap.size W w10) := hide (below_call T9.out k10)
  clear k10
  go_wp2_with fail
  refine (great_mkv (B := W.heap.size) 46 38 #[] w10 (fun w' hB _ => .lit 46 81 38 (by decide) T10.out.size hB (enters_of Try.func46 (by kernel_rfl) rfl) of10_any)).mono ?_
  rintro r w11 ⟨g11, rfl, o11, k11⟩
  have D11 := hide o11
  clear o11
  have K11 := hide k11
  have T11 : Hid (Below W.heap.size W w11) := hide (below_call T10.out k11)
  clear k11
  go_wp2_with fail
  refine (great_mkv (B := W.heap.size) 47 39 #[] w11 (fun w' hB _ => .lit 47 81 39 (by decide) T11.out.size hB (enters_of Try.func47 (by kernel_rfl) rfl) of11_any)).mono ?_
  rintro r w12 ⟨g12, rfl, o12, k12⟩
  have D12 := hide o12
  clear o12
  have K12 := hide k12
  have T12 : Hid (Below W.heap.size W w12) := hide (below_call T11.out k12)
  clear k12
  go_wp2_with fail
  refine (length_mkv (B := W.heap.size) 49 4 #[] w12 (fun w' hB _ => .lit 49 85 4 (by decide) T12.out.size hB (enters_of Try.func49 (by kernel_rfl) rfl) of12_any)).mono ?_
  rintro r w13 ⟨g13, rfl, o13, k13⟩
  have D13 := hide o13
  clear o13
  have K13 := hide k13
  have T13 : Hid (Below W.heap.size W w13) := hide (below_call T12.out k13)
  clear k13
  go_wp2_with fail
  refine (length_mkv (B := W.heap.size) 50 6 #[] w13 (fun w' hB _ => .lit 50 85 6 (by decide) T13.out.size hB (enters_of Try.func50 (by kernel_rfl) rfl) of13_any)).mono ?_
  rintro r w14 ⟨g14, rfl, o14, k14⟩
  have D14 := hide o14
  clear o14
  have K14 := hide k14
  have T14 : Hid (Below W.heap.size W w14) := hide (below_call T13.out k14)
  clear k14
  go_wp2_with fail
  refine (length_mkv (B := W.heap.size) 51 8 #[] w14 (fun w' hB _ => .lit 51 85 8 (by decide) T14.out.size hB (enters_of Try.func51 (by kernel_rfl) rfl) of14_any)).mono ?_
  rintro r w15 ⟨g15, rfl, o15, k15⟩
  have D15 := hide o15
  clear o15
  have K15 := hide k15
  have T15 : Hid (Below W.heap.size W w15) := hide (below_call T14.out k15)
  clear k15
  go_wp2_with fail
  refine (length_mkv (B := W.heap.size) 52 10 #[] w15 (fun w' hB _ => .lit 52 85 10 (by decide) T15.out.size hB (enters_of Try.func52 (by kernel_rfl) rfl) of15_any)).mono ?_
  rintro r w16 ⟨g16, rfl, o16, k16⟩
  have D16 := hide o16
  clear o16
  have K16 := hide k16
  have T16 : Hid (Below W.heap.size W w16) := hide (below_call T15.out k16)
  clear k16
  go_wp2_with fail
  refine (length_mkv (B := W.heap.size) 53 12 #[] w16 (fun w' hB _ => .lit 53 85 12 (by decide) T16.out.size hB (enters_of Try.func53 (by kernel_rfl) rfl) of16_any)).mono ?_
  rintro r w17 ⟨g17, rfl, o17, k17⟩
  have D17 := hide o17
  clear o17
  have K17 := hide k17
  have T17 : Hid (Below W.heap.size W w17) := hide (below_call T16.out k17)
  clear k17
  go_wp2_with fail
  refine (length_mkv (B := W.heap.size) 54 14 #[] w17 (fun w' hB _ => .lit 54 85 14 (by decide) T17.out.size hB (enters_of Try.func54 (by kernel_rfl) rfl) of17_any)).mono ?_
  rintro r w18 ⟨g18, rfl, o18, k18⟩
  have D18 := hide o18
  clear o18
  have K18 := hide k18
  have T18 : Hid (Below W.heap.size W w18) := hide (below_call T17.out k18)
  clear k18
  go_wp2_with fail
  refine (length_mkv (B := W.heap.size) 55 40 #[] w18 (fun w' hB _ => .lit 55 85 40 (by decide) T18.out.size hB (enters_of Try.func55 (by kernel_rfl) rfl) of18_any)).mono ?_
  rintro r w19 ⟨g19, rfl, o19, k19⟩
  have D19 := hide o19
  clear o19
  have K19 := hide k19
  have T19 : Hid (Below W.heap.size W w19) := hide (below_call T18.out k19)
  clear k19
  have Z19 := hide (Below.refl w19.heap.size w19)
  have Z18 : Hid (Below w18.heap.size w18 w19) := hide (below_call K19.out Z19.out)
  have Z17 : Hid (Below w17.heap.size w17 w19) := hide (below_call K18.out Z18.out)
  have Z16 : Hid (Below w16.heap.size w16 w19) := hide (below_call K17.out Z17.out)
  have Z15 : Hid (Below w15.heap.size w15 w19) := hide (below_call K16.out Z16.out)
  have Z14 : Hid (Below w14.heap.size w14 w19) := hide (below_call K15.out Z15.out)
  have Z13 : Hid (Below w13.heap.size w13 w19) := hide (below_call K14.out Z14.out)
  have Z12 : Hid (Below w12.heap.size w12 w19) := hide (below_call K13.out Z13.out)
  have Z11 : Hid (Below w11.heap.size w11 w19) := hide (below_call K12.out Z12.out)
  have Z10 : Hid (Below w10.heap.size w10 w19) := hide (below_call K11.out Z11.out)
  have Z9 : Hid (Below w9.heap.size w9 w19) := hide (below_call K10.out Z10.out)
  have Z8 : Hid (Below w8.heap.size w8 w19) := hide (below_call K9.out Z9.out)
  have Z7 : Hid (Below w7.heap.size w7 w19) := hide (below_call K8.out Z8.out)
  have Z6 : Hid (Below w6.heap.size w6 w19) := hide (below_call K7.out Z7.out)
  have Z5 : Hid (Below w5.heap.size w5 w19) := hide (below_call K6.out Z6.out)
  have Z4 : Hid (Below w4.heap.size w4 w19) := hide (below_call K5.out Z5.out)
  have Z3 : Hid (Below w3.heap.size w3 w19) := hide (below_call K4.out Z4.out)
  have Z2 : Hid (Below w2.heap.size w2 w19) := hide (below_call K3.out Z3.out)
  have Z1 : Hid (Below w1.heap.size w1 w19) := hide (below_call K2.out Z2.out)
  obtain ⟨ls, hls⟩ : ∃ ls, ls = [[fn1 64 g1, fn0 65, fn1 66 g1], [fn1 64 g2, fn0 65, fn1 66 g2], [fn1 67 g3, fn1 68 g3, fn1 69 g3], [fn1 67 g4, fn1 68 g4, fn1 69 g4], [fn1 67 g5, fn1 68 g5, fn1 69 g5], [fn1 67 g6, fn1 68 g6, fn1 69 g6], [fn1 67 g7, fn1 68 g7, fn1 69 g7], [fn1 67 g8, fn1 68 g8, fn1 69 g8], [fn1 71 g9, fn1 72 g9, fn1 73 g9], [fn0 74, fn0 75, fn0 76], [fn1 71 g11, fn1 72 g11, fn1 73 g11], [fn1 71 g12, fn1 72 g12, fn1 73 g12], [fn1 77 g13, fn1 78 g13, fn1 79 g13], [fn1 77 g14, fn1 78 g14, fn1 79 g14], [fn1 77 g15, fn1 78 g15, fn1 79 g15], [fn1 77 g16, fn1 78 g16, fn1 79 g16], [fn1 77 g17, fn1 78 g17, fn1 79 g17], [fn1 77 g18, fn1 78 g18, fn1 79 g18], [fn1 77 g19, fn1 78 g19, fn1 79 g19]] := ⟨_, rfl⟩
  have L19 : Hid (FL w19 W.heap.size (FT.take 19) ls) := hide (by
    rw [hls]
    refine ⟨⟨g1, D1.out.below Z1.out, rfl⟩, ⟨g2, D2.out.below Z2.out, rfl⟩, ⟨g3, D3.out.below Z3.out, rfl⟩, ⟨g4, D4.out.below Z4.out, rfl⟩, ⟨g5, D5.out.below Z5.out, rfl⟩, ⟨g6, D6.out.below Z6.out, rfl⟩, ⟨g7, D7.out.below Z7.out, rfl⟩, ⟨g8, D8.out.below Z8.out, rfl⟩, ⟨g9, D9.out.below Z9.out, rfl⟩, rfl, ⟨g11, D11.out.below Z11.out, rfl⟩, ⟨g12, D12.out.below Z12.out, rfl⟩, ⟨g13, D13.out.below Z13.out, rfl⟩, ⟨g14, D14.out.below Z14.out, rfl⟩, ⟨g15, D15.out.below Z15.out, rfl⟩, ⟨g16, D16.out.below Z16.out, rfl⟩, ⟨g17, D17.out.below Z17.out, rfl⟩, ⟨g18, D18.out.below Z18.out, rfl⟩, ⟨g19, D19.out.below Z19.out, rfl⟩, trivial⟩)
  have HLS := hide hls
  clear hls Z1 K1 D1 Z2 K2 D2 Z3 K3 D3 Z4 K4 D4 Z5 K5 D5 Z6 K6 D6 Z7 K7 D7 Z8 K8 D8 Z9 K9 D9 Z10 K10 Z11 K11 D11 Z12 K12 D12 Z13 K13 D13 Z14 K14 D14 Z15 K15 D15 Z16 K16 D16 Z17 K17 D17 Z18 K18 D18 Z19 K19 D19 T0 T1 T2 T3 T4 T5 T6 T7 T8 T9 T10 T11 T12 T13 T14 T15 T16 T17 T18
  obtain ⟨w20, hw20⟩ : ∃ w20, w20 = w19.alloc (.cells #[.func (.func 64) #[] #[.pointer (some ⟨g1, 0, none⟩)], .func (.func 65) #[] #[], .func (.func 66) #[] #[.pointer (some ⟨g1, 0, none⟩)], .func (.func 64) #[] #[.pointer (some ⟨g2, 0, none⟩)], .func (.func 65) #[] #[], .func (.func 66) #[] #[.pointer (some ⟨g2, 0, none⟩)], .func (.func 67) #[] #[.pointer (some ⟨g3, 0, none⟩)], .func (.func 68) #[] #[.pointer (some ⟨g3, 0, none⟩)], .func (.func 69) #[] #[.pointer (some ⟨g3, 0, none⟩)], .func (.func 67) #[] #[.pointer (some ⟨g4, 0, none⟩)], .func (.func 68) #[] #[.pointer (some ⟨g4, 0, none⟩)], .func (.func 69) #[] #[.pointer (some ⟨g4, 0, none⟩)], .func (.func 67) #[] #[.pointer (some ⟨g5, 0, none⟩)], .func (.func 68) #[] #[.pointer (some ⟨g5, 0, none⟩)], .func (.func 69) #[] #[.pointer (some ⟨g5, 0, none⟩)], .func (.func 67) #[] #[.pointer (some ⟨g6, 0, none⟩)], .func (.func 68) #[] #[.pointer (some ⟨g6, 0, none⟩)], .func (.func 69) #[] #[.pointer (some ⟨g6, 0, none⟩)], .func (.func 67) #[] #[.pointer (some ⟨g7, 0, none⟩)], .func (.func 68) #[] #[.pointer (some ⟨g7, 0, none⟩)], .func (.func 69) #[] #[.pointer (some ⟨g7, 0, none⟩)], .func (.func 67) #[] #[.pointer (some ⟨g8, 0, none⟩)], .func (.func 68) #[] #[.pointer (some ⟨g8, 0, none⟩)], .func (.func 69) #[] #[.pointer (some ⟨g8, 0, none⟩)], .func (.func 71) #[] #[.pointer (some ⟨g9, 0, none⟩)], .func (.func 72) #[] #[.pointer (some ⟨g9, 0, none⟩)], .func (.func 73) #[] #[.pointer (some ⟨g9, 0, none⟩)], .func (.func 74) #[] #[], .func (.func 75) #[] #[], .func (.func 76) #[] #[], .func (.func 71) #[] #[.pointer (some ⟨g11, 0, none⟩)], .func (.func 72) #[] #[.pointer (some ⟨g11, 0, none⟩)], .func (.func 73) #[] #[.pointer (some ⟨g11, 0, none⟩)], .func (.func 71) #[] #[.pointer (some ⟨g12, 0, none⟩)], .func (.func 72) #[] #[.pointer (some ⟨g12, 0, none⟩)], .func (.func 73) #[] #[.pointer (some ⟨g12, 0, none⟩)], .func (.func 77) #[] #[.pointer (some ⟨g13, 0, none⟩)], .func (.func 78) #[] #[.pointer (some ⟨g13, 0, none⟩)], .func (.func 79) #[] #[.pointer (some ⟨g13, 0, none⟩)], .func (.func 77) #[] #[.pointer (some ⟨g14, 0, none⟩)], .func (.func 78) #[] #[.pointer (some ⟨g14, 0, none⟩)], .func (.func 79) #[] #[.pointer (some ⟨g14, 0, none⟩)], .func (.func 77) #[] #[.pointer (some ⟨g15, 0, none⟩)], .func (.func 78) #[] #[.pointer (some ⟨g15, 0, none⟩)], .func (.func 79) #[] #[.pointer (some ⟨g15, 0, none⟩)], .func (.func 77) #[] #[.pointer (some ⟨g16, 0, none⟩)], .func (.func 78) #[] #[.pointer (some ⟨g16, 0, none⟩)], .func (.func 79) #[] #[.pointer (some ⟨g16, 0, none⟩)], .func (.func 77) #[] #[.pointer (some ⟨g17, 0, none⟩)], .func (.func 78) #[] #[.pointer (some ⟨g17, 0, none⟩)], .func (.func 79) #[] #[.pointer (some ⟨g17, 0, none⟩)], .func (.func 77) #[] #[.pointer (some ⟨g18, 0, none⟩)], .func (.func 78) #[] #[.pointer (some ⟨g18, 0, none⟩)], .func (.func 79) #[] #[.pointer (some ⟨g18, 0, none⟩)], .func (.func 77) #[] #[.pointer (some ⟨g19, 0, none⟩)], .func (.func 78) #[] #[.pointer (some ⟨g19, 0, none⟩)], .func (.func 79) #[] #[.pointer (some ⟨g19, 0, none⟩)]] 61) := ⟨_, rfl⟩
  have hfl : ls.flatten.toArray = #[.func (.func 64) #[] #[.pointer (some ⟨g1, 0, none⟩)], .func (.func 65) #[] #[], .func (.func 66) #[] #[.pointer (some ⟨g1, 0, none⟩)], .func (.func 64) #[] #[.pointer (some ⟨g2, 0, none⟩)], .func (.func 65) #[] #[], .func (.func 66) #[] #[.pointer (some ⟨g2, 0, none⟩)], .func (.func 67) #[] #[.pointer (some ⟨g3, 0, none⟩)], .func (.func 68) #[] #[.pointer (some ⟨g3, 0, none⟩)], .func (.func 69) #[] #[.pointer (some ⟨g3, 0, none⟩)], .func (.func 67) #[] #[.pointer (some ⟨g4, 0, none⟩)], .func (.func 68) #[] #[.pointer (some ⟨g4, 0, none⟩)], .func (.func 69) #[] #[.pointer (some ⟨g4, 0, none⟩)], .func (.func 67) #[] #[.pointer (some ⟨g5, 0, none⟩)], .func (.func 68) #[] #[.pointer (some ⟨g5, 0, none⟩)], .func (.func 69) #[] #[.pointer (some ⟨g5, 0, none⟩)], .func (.func 67) #[] #[.pointer (some ⟨g6, 0, none⟩)], .func (.func 68) #[] #[.pointer (some ⟨g6, 0, none⟩)], .func (.func 69) #[] #[.pointer (some ⟨g6, 0, none⟩)], .func (.func 67) #[] #[.pointer (some ⟨g7, 0, none⟩)], .func (.func 68) #[] #[.pointer (some ⟨g7, 0, none⟩)], .func (.func 69) #[] #[.pointer (some ⟨g7, 0, none⟩)], .func (.func 67) #[] #[.pointer (some ⟨g8, 0, none⟩)], .func (.func 68) #[] #[.pointer (some ⟨g8, 0, none⟩)], .func (.func 69) #[] #[.pointer (some ⟨g8, 0, none⟩)], .func (.func 71) #[] #[.pointer (some ⟨g9, 0, none⟩)], .func (.func 72) #[] #[.pointer (some ⟨g9, 0, none⟩)], .func (.func 73) #[] #[.pointer (some ⟨g9, 0, none⟩)], .func (.func 74) #[] #[], .func (.func 75) #[] #[], .func (.func 76) #[] #[], .func (.func 71) #[] #[.pointer (some ⟨g11, 0, none⟩)], .func (.func 72) #[] #[.pointer (some ⟨g11, 0, none⟩)], .func (.func 73) #[] #[.pointer (some ⟨g11, 0, none⟩)], .func (.func 71) #[] #[.pointer (some ⟨g12, 0, none⟩)], .func (.func 72) #[] #[.pointer (some ⟨g12, 0, none⟩)], .func (.func 73) #[] #[.pointer (some ⟨g12, 0, none⟩)], .func (.func 77) #[] #[.pointer (some ⟨g13, 0, none⟩)], .func (.func 78) #[] #[.pointer (some ⟨g13, 0, none⟩)], .func (.func 79) #[] #[.pointer (some ⟨g13, 0, none⟩)], .func (.func 77) #[] #[.pointer (some ⟨g14, 0, none⟩)], .func (.func 78) #[] #[.pointer (some ⟨g14, 0, none⟩)], .func (.func 79) #[] #[.pointer (some ⟨g14, 0, none⟩)], .func (.func 77) #[] #[.pointer (some ⟨g15, 0, none⟩)], .func (.func 78) #[] #[.pointer (some ⟨g15, 0, none⟩)], .func (.func 79) #[] #[.pointer (some ⟨g15, 0, none⟩)], .func (.func 77) #[] #[.pointer (some ⟨g16, 0, none⟩)], .func (.func 78) #[] #[.pointer (some ⟨g16, 0, none⟩)], .func (.func 79) #[] #[.pointer (some ⟨g16, 0, none⟩)], .func (.func 77) #[] #[.pointer (some ⟨g17, 0, none⟩)], .func (.func 78) #[] #[.pointer (some ⟨g17, 0, none⟩)], .func (.func 79) #[] #[.pointer (some ⟨g17, 0, none⟩)], .func (.func 77) #[] #[.pointer (some ⟨g18, 0, none⟩)], .func (.func 78) #[] #[.pointer (some ⟨g18, 0, none⟩)], .func (.func 79) #[] #[.pointer (some ⟨g18, 0, none⟩)], .func (.func 77) #[] #[.pointer (some ⟨g19, 0, none⟩)], .func (.func 78) #[] #[.pointer (some ⟨g19, 0, none⟩)], .func (.func 79) #[] #[.pointer (some ⟨g19, 0, none⟩)]] := by rw [HLS.out]; rfl
  have HO : Hid (w20.ownsRow W.heap.size 61 3 (.slice (some ⟨w19.heap.size, 0, none⟩) 19 19) 19 ls.flatten) := hide (by
    rw [hw20, ← hfl]
    have := World.ownsRow_lit (base := W.heap.size) (e := 61) (size := 3) w19 ls.flatten.toArray 19 T19.out.size (by decide) (by rw [hfl]; rfl)
    simpa using this)
  have TB : Hid (Below W.heap.size W w20) := hide (by rw [hw20]; exact T19.out.alloc T19.out.size _)
  have HL : Hid (FL w20 W.heap.size (FT.take 19) ls) := hide (L19.out.below (by rw [hw20]; exact (Below.refl _ _).alloc (Nat.le_refl _) _))
  have H3 : Hid (∀ l ∈ ls, l.length = 3) := hide (by rw [HLS.out]; simp)
  have H1 : Hid (∀ l ∈ ls, ∀ z ∈ l, z.oneCell' = true) := hide (by rw [HLS.out]; simp [fn1, fn0, Value.oneCell'])
  clear hfl HLS T19 L19
  have HW := hide hw20
  clear hw20
  go_upto_region 2 with fail
  rw [← HW.out]
  clear HW
  have E : Hid (19 = 19 + 0) := hide rfl
  go_wp2_with fail

  go_loopw [1, 25] (fun s1 s25 wr => ∃ (k : Nat) (ls : List (List Value)) (a : Option Addr) (cap : Nat), k ≤ 4 ∧ s25 = .int .i64 k ∧ s1 = .slice a (19 + k) cap ∧ wr.ownsRow W.heap.size 61 3 s1 (19 + k) ls.flatten ∧ FL wr W.heap.size (FT.take (19 + k)) ls ∧ (∀ l ∈ ls, l.length = 3) ∧ (∀ l ∈ ls, ∀ z ∈ l, z.oneCell' = true) ∧ Below W.heap.size W wr) (fun _ s25 _ => 4 - (intOf s25).toNat)
  case atStart => exact ⟨0, ls, _, _, by omega, rfl, rfl, HO.out, HL.out, H3.out, H1.out, TB.out⟩
  case round =>
    clear HO HL H3 H1 TB
    obtain ⟨k, ls, a, cap, hk, rfl, rfl, ho, hL, h3, h1, hb⟩ := hrel
    have HO := hide ho
    have HL := hide hL
    have H3 := hide h3
    have H1 := hide h1
    have TB := hide hb
    clear ho hL h3 h1 hb
    by_cases hlt : k < 4
    · have BK : Hid (Blk (wr.alloc (.cells #[.int .i64 k] 3)) wr.heap.size 3 #[.int .i64 k]) := hide (Blk.new wr 3 _)
      have T5 : Hid (Below W.heap.size W (wr.alloc (.cells #[.int .i64 k] 3))) := hide (TB.out.alloc TB.out.size _)
      have T5r : Hid (Below wr.heap.size wr (wr.alloc (.cells #[.int .i64 k] 3))) := hide ((Below.refl _ _).alloc (Nat.le_refl _) _)
      have hftk : Hid (FT.take (19 + (k + 1)) = FT.take (19 + k) ++ [(4, 16 + 2 * k)]) := hide (by
        have : k = 0 ∨ k = 1 ∨ k = 2 ∨ k = 3 := by omega
        rcases this with rfl | rfl | rfl | rfl <;> rfl)
      go_wp2_with fail
      refine (length_mkv (B := W.heap.size) 56 (16 + 2 * k) #[.pointer (some ⟨wr.heap.size, 0, none⟩)] (wr.alloc (.cells #[.int .i64 k] 3)) (fun w' hB hb => .bound 56 85 _ wr.heap.size k (by decide) T5.out.size TB.out.size hB (BK.out.below hb BK.out.lt) (enters_of Try.func56 (by kernel_rfl) rfl) (fun b o w hc => of19_any wr.heap.size k b o w hlt hc))).mono ?_
      rintro r w6 ⟨g, rfl, o6, k6⟩
      have O6 := hide o6
      have T6r : Hid (Below wr.heap.size wr w6) := hide (below_call T5r.out k6)
      have T6 : Hid (Below W.heap.size W w6) := hide (below_call T5.out k6)
      clear o6 k6 BK T5 T5r
      have HR7 := hide (rowS_lit (sz := 3) w6 #[.func (.func 77) #[] #[.pointer (some ⟨g, 0, none⟩)], .func (.func 78) #[] #[.pointer (some ⟨g, 0, none⟩)], .func (.func 79) #[] #[.pointer (some ⟨g, 0, none⟩)]] 61 [[fn1 77 g, fn1 78 g, fn1 79 g]] (by decide) (by simp [fn1]) rfl (by simp [maxLen]))
      have HO7 := hide (own_below (own_below HO.out T6r.out) ((Below.refl w6.heap.size w6).alloc (Nat.le_refl _) (.cells #[.func (.func 77) #[] #[.pointer (some ⟨g, 0, none⟩)], .func (.func 78) #[] #[.pointer (some ⟨g, 0, none⟩)], .func (.func 79) #[] #[.pointer (some ⟨g, 0, none⟩)]] 61)))
      have T7 := hide (T6.out.alloc T6.out.size (.cells #[.func (.func 77) #[] #[.pointer (some ⟨g, 0, none⟩)], .func (.func 78) #[] #[.pointer (some ⟨g, 0, none⟩)], .func (.func 79) #[] #[.pointer (some ⟨g, 0, none⟩)]] 61))
      have T7r := hide (T6r.out.alloc T6r.out.size (.cells #[.func (.func 77) #[] #[.pointer (some ⟨g, 0, none⟩)], .func (.func 78) #[] #[.pointer (some ⟨g, 0, none⟩)], .func (.func 79) #[] #[.pointer (some ⟨g, 0, none⟩)]] 61))
      go_wp2_with (at_builtin; refine wpList_append_rows rfl _ _ 54 rfl W.heap.size 61 i0 (.agg #[.nilFunc, .nilFunc, .nilFunc]) 3 24 Try.underlying54 hi hz0 hz1 hz2 rfl (by decide) _ _ _ rfl HO7.out (some ⟨w6.heap.size, 0, none⟩) 1 1 _ rfl HR7.out rfl (by simp) (by simp [fn1, Value.oneCell']) ?c1 ?c2 T7.out.size ?_)
      case c1 => unfold maxLen; omega
      case c2 => omega
      intro v' w9 hown' hgrow _
      have LL := hide (FL.grown hgrow (own_type HO7.out) (FL.add (fv_length (O6.out.below ((Below.refl w6.heap.size w6).alloc (Nat.le_refl _) _))) (FL.below (FL.below HL.out T6r.out) ((Below.refl w6.heap.size w6).alloc (Nat.le_refl _) _))))
      rw [← hftk.out] at LL
      have TT := hide (below_grown (a := W) T7.out hgrow (own_ge HO7.out))
      have hflat : ls.flatten ++ [fn1 77 g, fn1 78 g, fn1 79 g] = (ls ++ [[fn1 77 g, fn1 78 g, fn1 79 g]]).flatten := by simp
      rw [hflat] at hown'
      have OO := hide hown'
      have G3 : Hid (∀ l ∈ ls ++ [[fn1 77 g, fn1 78 g, fn1 79 g]], l.length = 3) := hide (by
        intro l hl
        rcases List.mem_append.1 hl with h | h
        · exact H3.out l h
        · simp at h; rw [h]; rfl)
      have G1 : Hid (∀ l ∈ ls ++ [[fn1 77 g, fn1 78 g, fn1 79 g]], ∀ z ∈ l, z.oneCell' = true) := hide (by
        intro l hl
        rcases List.mem_append.1 hl with h | h
        · exact H1.out l h
        · simp at h; rw [h]; intro z hz; simp [fn1] at hz; rcases hz with rfl | rfl | rfl <;> rfl)
      obtain ⟨a9, c9, rfl, _⟩ := own_rowS G3.out (by decide) hown'
      clear hown' hgrow hflat HO7 HR7 T7 T7r T6 T6r HL HO H3 H1 TB O6 hftk
      go_wp2_with fail
      go_roundw
      case rel => exact ⟨k + 1, _, a9, c9, hlt, by go_num, rfl, OO.out, LL.out, G3.out, G1.out, TT.out⟩
      case measure => simp [intOf] <;> omega
    · have E' : Hid (19 + k = 23 + 0) := hide (by omega)
      go_wp2_with fail
      clear hk hlt
      have E := E'
      go_loopw [1, 34] (fun s1 s25 wr => ∃ (k : Nat) (ls : List (List Value)) (a : Option Addr) (cap : Nat), k ≤ 4 ∧ s25 = .int .i64 k ∧ s1 = .slice a (23 + k) cap ∧ wr.ownsRow W.heap.size 61 3 s1 (23 + k) ls.flatten ∧ FL wr W.heap.size (FT.take (23 + k)) ls ∧ (∀ l ∈ ls, l.length = 3) ∧ (∀ l ∈ ls, ∀ z ∈ l, z.oneCell' = true) ∧ Below W.heap.size W wr) (fun _ s25 _ => 4 - (intOf s25).toNat)
      case atStart => exact ⟨0, ls, _, _, by omega, rfl, by rw [← E.out], by rw [← E.out]; exact HO.out, by rw [← E.out]; exact HL.out, H3.out, H1.out, TB.out⟩
      case round =>
        clear HO HL H3 H1 TB
        obtain ⟨k, ls, a, cap, hk, rfl, rfl, ho, hL, h3, h1, hb⟩ := hrel
        have HO := hide ho
        have HL := hide hL
        have H3 := hide h3
        have H1 := hide h1
        have TB := hide hb
        clear ho hL h3 h1 hb
        by_cases hlt : k < 4
        · have BK : Hid (Blk (wr.alloc (.cells #[.int .i64 k] 3)) wr.heap.size 3 #[.int .i64 k]) := hide (Blk.new wr 3 _)
          have T5 : Hid (Below W.heap.size W (wr.alloc (.cells #[.int .i64 k] 3))) := hide (TB.out.alloc TB.out.size _)
          have T5r : Hid (Below wr.heap.size wr (wr.alloc (.cells #[.int .i64 k] 3))) := hide ((Below.refl _ _).alloc (Nat.le_refl _) _)
          have hftk : Hid (FT.take (23 + (k + 1)) = FT.take (23 + k) ++ [(2, 24 + 1 * k)]) := hide (by
            have : k = 0 ∨ k = 1 ∨ k = 2 ∨ k = 3 := by omega
            rcases this with rfl | rfl | rfl | rfl <;> rfl)
          go_wp2_with fail
          refine (great_mkv (B := W.heap.size) 57 (24 + 1 * k) #[.pointer (some ⟨wr.heap.size, 0, none⟩)] (wr.alloc (.cells #[.int .i64 k] 3)) (fun w' hB hb => .bound 57 81 _ wr.heap.size k (by decide) T5.out.size TB.out.size hB (BK.out.below hb BK.out.lt) (enters_of Try.func57 (by kernel_rfl) rfl) (fun b o w hc => of20_any wr.heap.size k b o w hlt hc))).mono ?_
          rintro r w6 ⟨g, rfl, o6, k6⟩
          have O6 := hide o6
          have T6r : Hid (Below wr.heap.size wr w6) := hide (below_call T5r.out k6)
          have T6 : Hid (Below W.heap.size W w6) := hide (below_call T5.out k6)
          clear o6 k6 BK T5 T5r
          have HR7 := hide (rowS_lit (sz := 3) w6 #[.func (.func 71) #[] #[.pointer (some ⟨g, 0, none⟩)], .func (.func 72) #[] #[.pointer (some ⟨g, 0, none⟩)], .func (.func 73) #[] #[.pointer (some ⟨g, 0, none⟩)]] 61 [[fn1 71 g, fn1 72 g, fn1 73 g]] (by decide) (by simp [fn1]) rfl (by simp [maxLen]))
          have HO7 := hide (own_below (own_below HO.out T6r.out) ((Below.refl w6.heap.size w6).alloc (Nat.le_refl _) (.cells #[.func (.func 71) #[] #[.pointer (some ⟨g, 0, none⟩)], .func (.func 72) #[] #[.pointer (some ⟨g, 0, none⟩)], .func (.func 73) #[] #[.pointer (some ⟨g, 0, none⟩)]] 61)))
          have T7 := hide (T6.out.alloc T6.out.size (.cells #[.func (.func 71) #[] #[.pointer (some ⟨g, 0, none⟩)], .func (.func 72) #[] #[.pointer (some ⟨g, 0, none⟩)], .func (.func 73) #[] #[.pointer (some ⟨g, 0, none⟩)]] 61))
          have T7r := hide (T6r.out.alloc T6r.out.size (.cells #[.func (.func 71) #[] #[.pointer (some ⟨g, 0, none⟩)], .func (.func 72) #[] #[.pointer (some ⟨g, 0, none⟩)], .func (.func 73) #[] #[.pointer (some ⟨g, 0, none⟩)]] 61))
          go_wp2_with (at_builtin; refine wpList_append_rows rfl _ _ 54 rfl W.heap.size 61 i0 (.agg #[.nilFunc, .nilFunc, .nilFunc]) 3 24 Try.underlying54 hi hz0 hz1 hz2 rfl (by decide) _ _ _ rfl HO7.out (some ⟨w6.heap.size, 0, none⟩) 1 1 _ rfl HR7.out rfl (by simp) (by simp [fn1, Value.oneCell']) ?c1 ?c2 T7.out.size ?_)
          case c1 => unfold maxLen; omega
          case c2 => omega
          intro v' w9 hown' hgrow _
          have LL := hide (FL.grown hgrow (own_type HO7.out) (FL.add (fv_great (O6.out.below ((Below.refl w6.heap.size w6).alloc (Nat.le_refl _) _))) (FL.below (FL.below HL.out T6r.out) ((Below.refl w6.heap.size w6).alloc (Nat.le_refl _) _))))
          rw [← hftk.out] at LL
          have TT := hide (below_grown (a := W) T7.out hgrow (own_ge HO7.out))
          have hflat : ls.flatten ++ [fn1 71 g, fn1 72 g, fn1 73 g] = (ls ++ [[fn1 71 g, fn1 72 g, fn1 73 g]]).flatten := by simp
          rw [hflat] at hown'
          have OO := hide hown'
          have G3 : Hid (∀ l ∈ ls ++ [[fn1 71 g, fn1 72 g, fn1 73 g]], l.length = 3) := hide (by
            intro l hl
            rcases List.mem_append.1 hl with h | h
            · exact H3.out l h
            · simp at h; rw [h]; rfl)
          have G1 : Hid (∀ l ∈ ls ++ [[fn1 71 g, fn1 72 g, fn1 73 g]], ∀ z ∈ l, z.oneCell' = true) := hide (by
            intro l hl
            rcases List.mem_append.1 hl with h | h
            · exact H1.out l h
            · simp at h; rw [h]; intro z hz; simp [fn1] at hz; rcases hz with rfl | rfl | rfl <;> rfl)
          obtain ⟨a9, c9, rfl, _⟩ := own_rowS G3.out (by decide) hown'
          clear hown' hgrow hflat HO7 HR7 T7 T7r T6 T6r HL HO H3 H1 TB O6 hftk
          go_wp2_with fail
          go_roundw
          case rel => exact ⟨k + 1, _, a9, c9, hlt, by go_num, rfl, OO.out, LL.out, G3.out, G1.out, TT.out⟩
          case measure => simp [intOf] <;> omega
        · have E' : Hid (23 + k = 27 + 0) := hide (by omega)
          go_wp2_with fail
          clear hk hlt
          have E := E'
          go_loopw [1, 43] (fun s1 s25 wr => ∃ (k : Nat) (ls : List (List Value)) (a : Option Addr) (cap : Nat), k ≤ 4 ∧ s25 = .int .i64 k ∧ s1 = .slice a (27 + k) cap ∧ wr.ownsRow W.heap.size 61 3 s1 (27 + k) ls.flatten ∧ FL wr W.heap.size (FT.take (27 + k)) ls ∧ (∀ l ∈ ls, l.length = 3) ∧ (∀ l ∈ ls, ∀ z ∈ l, z.oneCell' = true) ∧ Below W.heap.size W wr) (fun _ s25 _ => 4 - (intOf s25).toNat)
          case atStart => exact ⟨0, ls, _, _, by omega, rfl, by rw [← E.out], by rw [← E.out]; exact HO.out, by rw [← E.out]; exact HL.out, H3.out, H1.out, TB.out⟩
          case round =>
            clear HO HL H3 H1 TB
            obtain ⟨k, ls, a, cap, hk, rfl, rfl, ho, hL, h3, h1, hb⟩ := hrel
            have HO := hide ho
            have HL := hide hL
            have H3 := hide h3
            have H1 := hide h1
            have TB := hide hb
            clear ho hL h3 h1 hb
            by_cases hlt : k < 4
            · have BK : Hid (Blk (wr.alloc (.cells #[.int .i64 k] 3)) wr.heap.size 3 #[.int .i64 k]) := hide (Blk.new wr 3 _)
              have T5 : Hid (Below W.heap.size W (wr.alloc (.cells #[.int .i64 k] 3))) := hide (TB.out.alloc TB.out.size _)
              have T5r : Hid (Below wr.heap.size wr (wr.alloc (.cells #[.int .i64 k] 3))) := hide ((Below.refl _ _).alloc (Nat.le_refl _) _)
              have hftk : Hid (FT.take (27 + (k + 1)) = FT.take (27 + k) ++ [(2, 28 + 1 * k)]) := hide (by
                have : k = 0 ∨ k = 1 ∨ k = 2 ∨ k = 3 := by omega
                rcases this with rfl | rfl | rfl | rfl <;> rfl)
              go_wp2_with fail
              refine (great_mkv (B := W.heap.size) 58 (28 + 1 * k) #[.pointer (some ⟨wr.heap.size, 0, none⟩)] (wr.alloc (.cells #[.int .i64 k] 3)) (fun w' hB hb => .bound 58 81 _ wr.heap.size k (by decide) T5.out.size TB.out.size hB (BK.out.below hb BK.out.lt) (enters_of Try.func58 (by kernel_rfl) rfl) (fun b o w hc => of21_any wr.heap.size k b o w hlt hc))).mono ?_
              rintro r w6 ⟨g, rfl, o6, k6⟩
              have O6 := hide o6
              have T6r : Hid (Below wr.heap.size wr w6) := hide (below_call T5r.out k6)
              have T6 : Hid (Below W.heap.size W w6) := hide (below_call T5.out k6)
              clear o6 k6 BK T5 T5r
              have HR7 := hide (rowS_lit (sz := 3) w6 #[.func (.func 71) #[] #[.pointer (some ⟨g, 0, none⟩)], .func (.func 72) #[] #[.pointer (some ⟨g, 0, none⟩)], .func (.func 73) #[] #[.pointer (some ⟨g, 0, none⟩)]] 61 [[fn1 71 g, fn1 72 g, fn1 73 g]] (by decide) (by simp [fn1]) rfl (by simp [maxLen]))
              have HO7 := hide (own_below (own_below HO.out T6r.out) ((Below.refl w6.heap.size w6).alloc (Nat.le_refl _) (.cells #[.func (.func 71) #[] #[.pointer (some ⟨g, 0, none⟩)], .func (.func 72) #[] #[.pointer (some ⟨g, 0, none⟩)], .func (.func 73) #[] #[.pointer (some ⟨g, 0, none⟩)]] 61)))
              have T7 := hide (T6.out.alloc T6.out.size (.cells #[.func (.func 71) #[] #[.pointer (some ⟨g, 0, none⟩)], .func (.func 72) #[] #[.pointer (some ⟨g, 0, none⟩)], .func (.func 73) #[] #[.pointer (some ⟨g, 0, none⟩)]] 61))
              have T7r := hide (T6r.out.alloc T6r.out.size (.cells #[.func (.func 71) #[] #[.pointer (some ⟨g, 0, none⟩)], .func (.func 72) #[] #[.pointer (some ⟨g, 0, none⟩)], .func (.func 73) #[] #[.pointer (some ⟨g, 0, none⟩)]] 61))
              go_wp2_with (at_builtin; refine wpList_append_rows rfl _ _ 54 rfl W.heap.size 61 i0 (.agg #[.nilFunc, .nilFunc, .nilFunc]) 3 24 Try.underlying54 hi hz0 hz1 hz2 rfl (by decide) _ _ _ rfl HO7.out (some ⟨w6.heap.size, 0, none⟩) 1 1 _ rfl HR7.out rfl (by simp) (by simp [fn1, Value.oneCell']) ?c1 ?c2 T7.out.size ?_)
              case c1 => unfold maxLen; omega
              case c2 => omega
              intro v' w9 hown' hgrow _
              have LL := hide (FL.grown hgrow (own_type HO7.out) (FL.add (fv_great (O6.out.below ((Below.refl w6.heap.size w6).alloc (Nat.le_refl _) _))) (FL.below (FL.below HL.out T6r.out) ((Below.refl w6.heap.size w6).alloc (Nat.le_refl _) _))))
              rw [← hftk.out] at LL
              have TT := hide (below_grown (a := W) T7.out hgrow (own_ge HO7.out))
              have hflat : ls.flatten ++ [fn1 71 g, fn1 72 g, fn1 73 g] = (ls ++ [[fn1 71 g, fn1 72 g, fn1 73 g]]).flatten := by simp
              rw [hflat] at hown'
              have OO := hide hown'
              have G3 : Hid (∀ l ∈ ls ++ [[fn1 71 g, fn1 72 g, fn1 73 g]], l.length = 3) := hide (by
                intro l hl
                rcases List.mem_append.1 hl with h | h
                · exact H3.out l h
                · simp at h; rw [h]; rfl)
              have G1 : Hid (∀ l ∈ ls ++ [[fn1 71 g, fn1 72 g, fn1 73 g]], ∀ z ∈ l, z.oneCell' = true) := hide (by
                intro l hl
                rcases List.mem_append.1 hl with h | h
                · exact H1.out l h
                · simp at h; rw [h]; intro z hz; simp [fn1] at hz; rcases hz with rfl | rfl | rfl <;> rfl)
              obtain ⟨a9, c9, rfl, _⟩ := own_rowS G3.out (by decide) hown'
              clear hown' hgrow hflat HO7 HR7 T7 T7r T6 T6r HL HO H3 H1 TB O6 hftk
              go_wp2_with fail
              go_roundw
              case rel => exact ⟨k + 1, _, a9, c9, hlt, by go_num, rfl, OO.out, LL.out, G3.out, G1.out, TT.out⟩
              case measure => simp [intOf] <;> omega
            · have E' : Hid (27 + k = 31 + 0) := hide (by omega)
              go_wp2_with fail
              clear hk hlt
              have E := E'
              refine (units_mk wr).mono ?_
              rintro r w6 ⟨rfl, k6⟩
              unfold fval
              have T6r := hide k6
              have T6 : Hid (Below W.heap.size W w6) := hide (below_call TB.out k6)
              clear k6
              have HR7 := hide (rowS_lit (sz := 3) w6 #[.func (.func 80) #[] #[], .func (.func 81) #[] #[], .func (.func 82) #[] #[]] 61 [[fn0 80, fn0 81, fn0 82]] (by decide) (by simp [fn0]) rfl (by simp [maxLen]))
              have HO7 := hide (own_below (own_below HO.out T6r.out) ((Below.refl w6.heap.size w6).alloc (Nat.le_refl _) (.cells #[.func (.func 80) #[] #[], .func (.func 81) #[] #[], .func (.func 82) #[] #[]] 61)))
              have T7 := hide (T6.out.alloc T6.out.size (.cells #[.func (.func 80) #[] #[], .func (.func 81) #[] #[], .func (.func 82) #[] #[]] 61))
              have hkk : k ≤ 4 := by have := E.out; omega
              go_wp2_with (at_builtin; refine wpList_append_rows rfl _ _ 54 rfl W.heap.size 61 i0 (.agg #[.nilFunc, .nilFunc, .nilFunc]) 3 24 Try.underlying54 hi hz0 hz1 hz2 rfl (by decide) _ _ _ rfl HO7.out (some ⟨w6.heap.size, 0, none⟩) 1 1 _ rfl HR7.out rfl (by simp [fn0]) (by simp [fn0, Value.oneCell']) ?c1 ?c2 T7.out.size ?_)
              case c1 => unfold maxLen; omega
              case c2 => omega
              intro v' w9 hown' hgrow _
              have LL := hide (FL.grown hgrow (own_type HO7.out) (FL.add (ko := (5, 42)) (l := [fn0 80, fn0 81, fn0 82]) rfl (FL.below (FL.below HL.out T6r.out) ((Below.refl w6.heap.size w6).alloc (Nat.le_refl _) _))))
              have hk4 : 27 + k = 31 := E.out
              rw [hk4] at LL hown'
              have TT := hide (below_grown (a := W) T7.out hgrow (own_ge HO7.out))
              have hflat : ls.flatten ++ [fn0 80, fn0 81, fn0 82] = (ls ++ [[fn0 80, fn0 81, fn0 82]]).flatten := by simp
              rw [hflat] at hown'
              have G3 : Hid (∀ l ∈ ls ++ [[fn0 80, fn0 81, fn0 82]], l.length = 3) := hide (by
                intro l hl
                rcases List.mem_append.1 hl with h | h
                · exact H3.out l h
                · simp at h; rw [h]; rfl)
              have HG := hide hown'
              obtain ⟨a9, c9, rfl, _⟩ := own_rowS G3.out (by decide) hown'
              clear hown' hgrow hflat HO7 HR7 T7 T6 T6r HL HO H3 H1 TB hkk hk4 E
              go_wp2_with fail
              go_returns
              exact ⟨a9, c9, rfl, ⟨_, HG.out, LL.out, G3.out⟩, TT.out⟩
end Go.Proofs.Ytmngndmcidbakaa
