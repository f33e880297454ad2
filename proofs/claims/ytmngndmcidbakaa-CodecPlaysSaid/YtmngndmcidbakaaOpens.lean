/- A tree that came in. (Printed by gen_open.py.) -/
import Derived.Test.YtmngndmcidbakaaOpenS
import Derived.Test.YtmngndmcidbakaaZL
import Derived.OpenShut
import Derived.SizedLaws
namespace Go.Proofs.Ytmngndmcidbakaa
open Go.ChangeShapes Go.WideShapes Go.ChangeAt Go.RowKit Go.Deep
theorem i64_of {x : Int} (h : (Lit.int .i64 x).wf = true) : I64 x := by unfold I64; simpa [Lit.wf, IntKind.min, IntKind.max, IntKind.signed, IntKind.bits] using h
theorem u16_of {x : Int} (h : (Lit.int .u16 x).wf = true) : U16 x := by unfold U16; simpa [Lit.wf, IntKind.min, IntKind.max, IntKind.signed, IntKind.bits] using h
theorem flag_cell (b : Bool) : ∃ f : Int, (f = 0 ∨ f = 1) ∧ Value.bool b = .bool (f != 0) := by
  cases b
  · exact ⟨0, .inl rfl, rfl⟩
  · exact ⟨1, .inr rfl, rfl⟩
theorem row_one {w : World} {a : Option Addr} {l : List Int} {f : Int → Value} (h : RowS w a 1 (l.map fun x => [f x])) : Row w a (l.map f) := by
  refine ⟨by have := h.1; simpa using this, fun hp => ?_⟩
  rw [List.length_map] at hp
  obtain ⟨b, o, ha, hb, hc⟩ := h.2 (by simpa using hp)
  refine ⟨b, o, ha, hb, fun i hi => ?_⟩
  rw [List.length_map] at hi
  have := hc i (by simpa using hi) 0 (by simp)
  rw [show o + i * 1 + 0 = o + i from by omega] at this
  rw [this]
  simp
section
variable {H : Type} {enc : TypeId × Value → H} {w : World} {held : Bool}
theorem open_len {cs : List Value} {fuel : Nat} {y : DataW H × List MemPlace} (hf : DataW.trod enc Try.prog w 0 (fun _ => true) held fuel 44 cs = some y) : ∃ x n : Int, cs = [.int .u8 x, .int .i64 n] ∧ Sm x ∧ I64 n := by
  obtain ⟨hl, hok⟩ := leaves_ok 5 44 [.int .u8, .int .i64] (by kernel_rfl) hf
  match cs, hl with
  | [c0, c1], _ =>
    obtain ⟨x0, rfl, h0⟩ := hok 0 (by simp) (by simp)
    obtain ⟨x1, rfl, h1⟩ := hok 1 (by simp) (by simp)
    exact ⟨x0, x1, rfl, u8_of h0, i64_of h1⟩
theorem open_i64 {cs : List Value} {fuel : Nat} {y : DataW H × List MemPlace} (hf : DataW.trod enc Try.prog w 0 (fun _ => true) held fuel 2 cs = some y) : ∃ n : Int, cs = [.int .i64 n] ∧ I64 n := by
  obtain ⟨x, e, _, hw⟩ := DataW.trod_int Try.underlying2 hf
  exact ⟨x, e, i64_of hw⟩
theorem open_arr {e t n : Nat} {sz : Nat} {cs : List Value} {fuel : Nat} {y : DataW H × List MemPlace} (ht : Try.prog.underlying t = some (.array n e)) (hE : Try.prog.cellsOf e = sz) (hf : DataW.trod enc Try.prog w 0 (fun _ => true) held fuel t cs = some y) :
    ∀ i, i < n → ∃ m z, DataW.trod enc Try.prog w 0 (fun _ => true) held m e ((cs.drop (i * sz)).take sz) = some z := by
  obtain ⟨xs, m, _, _, _, hxl, hx⟩ := DataW.trod_array ht hf
  intro i hi
  have := hx i hi
  rw [hE, List.getElem?_eq_getElem (by omega)] at this
  exact ⟨m, _, this⟩
theorem open_units {cs : List Value} {fuel : Nat} {y : DataW H × List MemPlace} (hf : DataW.trod enc Try.prog w 0 (fun _ => true) held fuel 47 cs = some y) : ∃ (uv : Value) (us : List Int), cs = [uv] ∧ UR w uv us ∧ okF 5 us := by
  obtain ⟨a, l, c, e, hr, hg, hl, hm⟩ := open_rows_c (sz := 1) (fun x : Int => [.int .u16 x]) U16 Try.underlying47 (by kernel_rfl) (by decide) (fun n cs' y ht hl => by
    obtain ⟨x, e, _, hw⟩ := DataW.trod_int Try.underlying92 ht
    exact ⟨x, e, u16_of hw⟩) hf
  exact ⟨_, l, e, ⟨a, c, rfl, row_one hr, hl, hm⟩, hg, by unfold maxLen at hm; omega⟩
set_option maxRecDepth 100000 in
theorem open_style {cs : List Value} {fuel : Nat} {y : DataW H × List MemPlace} (hf : DataW.trod enc Try.prog w 0 (fun _ => true) held fuel 49 cs = some y) : ∃ (L : List (List Int)) (uv : Value), cs = SC (gof L) uv ∧ okS KD L ∧ UR w uv (L.getD 31 []) := by
  obtain ⟨hl, hfl⟩ := open_fields_c Try.underlying49 hf
  have hl : cs.length = 43 := hl.trans (by kernel_rfl)
  match cs, hl with
  | c0 :: c1 :: c2 :: c3 :: c4 :: c5 :: c6 :: c7 :: c8 :: c9 :: c10 :: c11 :: c12 :: c13 :: c14 :: c15 :: c16 :: c17 :: c18 :: c19 :: c20 :: c21 :: c22 :: c23 :: c24 :: c25 :: c26 :: c27 :: c28 :: c29 :: c30 :: c31 :: c32 :: c33 :: c34 :: c35 :: c36 :: c37 :: c38 :: c39 :: c40 :: c41 :: c42 :: [], _ =>
    obtain ⟨n0, z0, h0⟩ := hfl 0 _ rfl
    simp only [List.getElem_toArray, List.getElem_cons_zero, List.getElem_cons_succ, show Try.prog.cellsOf 5 = 1 from by kernel_rfl, List.drop_zero, List.drop_succ_cons, List.take_succ_cons, List.take_zero] at h0
    obtain ⟨x0, e0, _, w0⟩ := DataW.trod_int Try.underlying5 h0
    have w0 : Sm x0 := u8_of w0
    simp only [List.cons.injEq, and_true] at e0; subst e0
    obtain ⟨n1, z1, h1⟩ := hfl 1 _ rfl
    simp only [List.getElem_toArray, List.getElem_cons_zero, List.getElem_cons_succ, show Try.prog.cellsOf 4 = 1 from by kernel_rfl, List.drop_zero, List.drop_succ_cons, List.take_succ_cons, List.take_zero] at h1
    obtain ⟨b1, e1, _⟩ := DataW.trod_bool Try.underlying4 h1
    obtain ⟨x1, w1, f1⟩ := flag_cell b1
    rw [f1] at e1
    simp only [List.cons.injEq, and_true] at e1; subst e1
    obtain ⟨n2, z2, h2⟩ := hfl 2 _ rfl
    simp only [List.getElem_toArray, List.getElem_cons_zero, List.getElem_cons_succ, show Try.prog.cellsOf 5 = 1 from by kernel_rfl, List.drop_zero, List.drop_succ_cons, List.take_succ_cons, List.take_zero] at h2
    obtain ⟨x2, e2, _, w2⟩ := DataW.trod_int Try.underlying5 h2
    have w2 : Sm x2 := u8_of w2
    simp only [List.cons.injEq, and_true] at e2; subst e2
    obtain ⟨n3, z3, h3⟩ := hfl 3 _ rfl
    simp only [List.getElem_toArray, List.getElem_cons_zero, List.getElem_cons_succ, show Try.prog.cellsOf 5 = 1 from by kernel_rfl, List.drop_zero, List.drop_succ_cons, List.take_succ_cons, List.take_zero] at h3
    obtain ⟨x3, e3, _, w3⟩ := DataW.trod_int Try.underlying5 h3
    have w3 : Sm x3 := u8_of w3
    simp only [List.cons.injEq, and_true] at e3; subst e3
    obtain ⟨n4, z4, h4⟩ := hfl 4 _ rfl
    simp only [List.getElem_toArray, List.getElem_cons_zero, List.getElem_cons_succ, show Try.prog.cellsOf 44 = 2 from by kernel_rfl, List.drop_zero, List.drop_succ_cons, List.take_succ_cons, List.take_zero] at h4
    obtain ⟨x4, x5, e4, w4, w5⟩ := open_len h4
    simp only [List.cons.injEq, and_true] at e4; obtain ⟨e4, e5⟩ := e4; subst e4 e5
    obtain ⟨n5, z5, h5⟩ := hfl 5 _ rfl
    simp only [List.getElem_toArray, List.getElem_cons_zero, List.getElem_cons_succ, show Try.prog.cellsOf 44 = 2 from by kernel_rfl, List.drop_zero, List.drop_succ_cons, List.take_succ_cons, List.take_zero] at h5
    obtain ⟨x6, x7, e6, w6, w7⟩ := open_len h5
    simp only [List.cons.injEq, and_true] at e6; obtain ⟨e6, e7⟩ := e6; subst e6 e7
    obtain ⟨n6, z6, h6⟩ := hfl 6 _ rfl
    simp only [List.getElem_toArray, List.getElem_cons_zero, List.getElem_cons_succ, show Try.prog.cellsOf 44 = 2 from by kernel_rfl, List.drop_zero, List.drop_succ_cons, List.take_succ_cons, List.take_zero] at h6
    obtain ⟨x8, x9, e8, w8, w9⟩ := open_len h6
    simp only [List.cons.injEq, and_true] at e8; obtain ⟨e8, e9⟩ := e8; subst e8 e9
    obtain ⟨n7, z7, h7⟩ := hfl 7 _ rfl
    simp only [List.getElem_toArray, List.getElem_cons_zero, List.getElem_cons_succ, show Try.prog.cellsOf 44 = 2 from by kernel_rfl, List.drop_zero, List.drop_succ_cons, List.take_succ_cons, List.take_zero] at h7
    obtain ⟨x10, x11, e10, w10, w11⟩ := open_len h7
    simp only [List.cons.injEq, and_true] at e10; obtain ⟨e10, e11⟩ := e10; subst e10 e11
    obtain ⟨n8, z8, h8⟩ := hfl 8 _ rfl
    simp only [List.getElem_toArray, List.getElem_cons_zero, List.getElem_cons_succ, show Try.prog.cellsOf 44 = 2 from by kernel_rfl, List.drop_zero, List.drop_succ_cons, List.take_succ_cons, List.take_zero] at h8
    obtain ⟨x12, x13, e12, w12, w13⟩ := open_len h8
    simp only [List.cons.injEq, and_true] at e12; obtain ⟨e12, e13⟩ := e12; subst e12 e13
    obtain ⟨n9, z9, h9⟩ := hfl 9 _ rfl
    simp only [List.getElem_toArray, List.getElem_cons_zero, List.getElem_cons_succ, show Try.prog.cellsOf 44 = 2 from by kernel_rfl, List.drop_zero, List.drop_succ_cons, List.take_succ_cons, List.take_zero] at h9
    obtain ⟨x14, x15, e14, w14, w15⟩ := open_len h9
    simp only [List.cons.injEq, and_true] at e14; obtain ⟨e14, e15⟩ := e14; subst e14 e15
    obtain ⟨n10, z10, h10⟩ := hfl 10 _ rfl
    simp only [List.getElem_toArray, List.getElem_cons_zero, List.getElem_cons_succ, show Try.prog.cellsOf 45 = 8 from by kernel_rfl, List.drop_zero, List.drop_succ_cons, List.take_succ_cons, List.take_zero] at h10
    obtain ⟨m16, y16, g16⟩ := open_arr Try.underlying45 (by kernel_rfl : Try.prog.cellsOf 44 = 2) h10 0 (by decide)
    simp only [Nat.reduceMul, Nat.zero_mul, List.drop_zero, List.drop_succ_cons, List.take_succ_cons, List.take_zero] at g16
    obtain ⟨x16, x17, e16, w16, w17⟩ := open_len g16
    simp only [List.cons.injEq, and_true] at e16; obtain ⟨e16, e17⟩ := e16; subst e16 e17
    obtain ⟨m18, y18, g18⟩ := open_arr Try.underlying45 (by kernel_rfl : Try.prog.cellsOf 44 = 2) h10 1 (by decide)
    simp only [Nat.reduceMul, Nat.zero_mul, List.drop_zero, List.drop_succ_cons, List.take_succ_cons, List.take_zero] at g18
    obtain ⟨x18, x19, e18, w18, w19⟩ := open_len g18
    simp only [List.cons.injEq, and_true] at e18; obtain ⟨e18, e19⟩ := e18; subst e18 e19
    obtain ⟨m20, y20, g20⟩ := open_arr Try.underlying45 (by kernel_rfl : Try.prog.cellsOf 44 = 2) h10 2 (by decide)
    simp only [Nat.reduceMul, Nat.zero_mul, List.drop_zero, List.drop_succ_cons, List.take_succ_cons, List.take_zero] at g20
    obtain ⟨x20, x21, e20, w20, w21⟩ := open_len g20
    simp only [List.cons.injEq, and_true] at e20; obtain ⟨e20, e21⟩ := e20; subst e20 e21
    obtain ⟨m22, y22, g22⟩ := open_arr Try.underlying45 (by kernel_rfl : Try.prog.cellsOf 44 = 2) h10 3 (by decide)
    simp only [Nat.reduceMul, Nat.zero_mul, List.drop_zero, List.drop_succ_cons, List.take_succ_cons, List.take_zero] at g22
    obtain ⟨x22, x23, e22, w22, w23⟩ := open_len g22
    simp only [List.cons.injEq, and_true] at e22; obtain ⟨e22, e23⟩ := e22; subst e22 e23
    obtain ⟨n11, z11, h11⟩ := hfl 11 _ rfl
    simp only [List.getElem_toArray, List.getElem_cons_zero, List.getElem_cons_succ, show Try.prog.cellsOf 46 = 4 from by kernel_rfl, List.drop_zero, List.drop_succ_cons, List.take_succ_cons, List.take_zero] at h11
    obtain ⟨m24, y24, g24⟩ := open_arr Try.underlying46 (by kernel_rfl : Try.prog.cellsOf 2 = 1) h11 0 (by decide)
    simp only [Nat.reduceMul, Nat.zero_mul, List.drop_zero, List.drop_succ_cons, List.take_succ_cons, List.take_zero] at g24
    obtain ⟨x24, e24, w24⟩ := open_i64 g24
    simp only [List.cons.injEq, and_true] at e24; subst e24
    obtain ⟨m25, y25, g25⟩ := open_arr Try.underlying46 (by kernel_rfl : Try.prog.cellsOf 2 = 1) h11 1 (by decide)
    simp only [Nat.reduceMul, Nat.zero_mul, List.drop_zero, List.drop_succ_cons, List.take_succ_cons, List.take_zero] at g25
    obtain ⟨x25, e25, w25⟩ := open_i64 g25
    simp only [List.cons.injEq, and_true] at e25; subst e25
    obtain ⟨m26, y26, g26⟩ := open_arr Try.underlying46 (by kernel_rfl : Try.prog.cellsOf 2 = 1) h11 2 (by decide)
    simp only [Nat.reduceMul, Nat.zero_mul, List.drop_zero, List.drop_succ_cons, List.take_succ_cons, List.take_zero] at g26
    obtain ⟨x26, e26, w26⟩ := open_i64 g26
    simp only [List.cons.injEq, and_true] at e26; subst e26
    obtain ⟨m27, y27, g27⟩ := open_arr Try.underlying46 (by kernel_rfl : Try.prog.cellsOf 2 = 1) h11 3 (by decide)
    simp only [Nat.reduceMul, Nat.zero_mul, List.drop_zero, List.drop_succ_cons, List.take_succ_cons, List.take_zero] at g27
    obtain ⟨x27, e27, w27⟩ := open_i64 g27
    simp only [List.cons.injEq, and_true] at e27; subst e27
    obtain ⟨n12, z12, h12⟩ := hfl 12 _ rfl
    simp only [List.getElem_toArray, List.getElem_cons_zero, List.getElem_cons_succ, show Try.prog.cellsOf 46 = 4 from by kernel_rfl, List.drop_zero, List.drop_succ_cons, List.take_succ_cons, List.take_zero] at h12
    obtain ⟨m28, y28, g28⟩ := open_arr Try.underlying46 (by kernel_rfl : Try.prog.cellsOf 2 = 1) h12 0 (by decide)
    simp only [Nat.reduceMul, Nat.zero_mul, List.drop_zero, List.drop_succ_cons, List.take_succ_cons, List.take_zero] at g28
    obtain ⟨x28, e28, w28⟩ := open_i64 g28
    simp only [List.cons.injEq, and_true] at e28; subst e28
    obtain ⟨m29, y29, g29⟩ := open_arr Try.underlying46 (by kernel_rfl : Try.prog.cellsOf 2 = 1) h12 1 (by decide)
    simp only [Nat.reduceMul, Nat.zero_mul, List.drop_zero, List.drop_succ_cons, List.take_succ_cons, List.take_zero] at g29
    obtain ⟨x29, e29, w29⟩ := open_i64 g29
    simp only [List.cons.injEq, and_true] at e29; subst e29
    obtain ⟨m30, y30, g30⟩ := open_arr Try.underlying46 (by kernel_rfl : Try.prog.cellsOf 2 = 1) h12 2 (by decide)
    simp only [Nat.reduceMul, Nat.zero_mul, List.drop_zero, List.drop_succ_cons, List.take_succ_cons, List.take_zero] at g30
    obtain ⟨x30, e30, w30⟩ := open_i64 g30
    simp only [List.cons.injEq, and_true] at e30; subst e30
    obtain ⟨m31, y31, g31⟩ := open_arr Try.underlying46 (by kernel_rfl : Try.prog.cellsOf 2 = 1) h12 3 (by decide)
    simp only [Nat.reduceMul, Nat.zero_mul, List.drop_zero, List.drop_succ_cons, List.take_succ_cons, List.take_zero] at g31
    obtain ⟨x31, e31, w31⟩ := open_i64 g31
    simp only [List.cons.injEq, and_true] at e31; subst e31
    obtain ⟨n13, z13, h13⟩ := hfl 13 _ rfl
    simp only [List.getElem_toArray, List.getElem_cons_zero, List.getElem_cons_succ, show Try.prog.cellsOf 5 = 1 from by kernel_rfl, List.drop_zero, List.drop_succ_cons, List.take_succ_cons, List.take_zero] at h13
    obtain ⟨x32, e32, _, w32⟩ := DataW.trod_int Try.underlying5 h13
    have w32 : Sm x32 := u8_of w32
    simp only [List.cons.injEq, and_true] at e32; subst e32
    obtain ⟨n14, z14, h14⟩ := hfl 14 _ rfl
    simp only [List.getElem_toArray, List.getElem_cons_zero, List.getElem_cons_succ, show Try.prog.cellsOf 2 = 1 from by kernel_rfl, List.drop_zero, List.drop_succ_cons, List.take_succ_cons, List.take_zero] at h14
    obtain ⟨x33, e33, _, w33⟩ := DataW.trod_int Try.underlying2 h14
    have w33 : I64 x33 := i64_of w33
    simp only [List.cons.injEq, and_true] at e33; subst e33
    obtain ⟨n15, z15, h15⟩ := hfl 15 _ rfl
    simp only [List.getElem_toArray, List.getElem_cons_zero, List.getElem_cons_succ, show Try.prog.cellsOf 4 = 1 from by kernel_rfl, List.drop_zero, List.drop_succ_cons, List.take_succ_cons, List.take_zero] at h15
    obtain ⟨b34, e34, _⟩ := DataW.trod_bool Try.underlying4 h15
    obtain ⟨x34, w34, f34⟩ := flag_cell b34
    rw [f34] at e34
    simp only [List.cons.injEq, and_true] at e34; subst e34
    obtain ⟨n16, z16, h16⟩ := hfl 16 _ rfl
    simp only [List.getElem_toArray, List.getElem_cons_zero, List.getElem_cons_succ, show Try.prog.cellsOf 5 = 1 from by kernel_rfl, List.drop_zero, List.drop_succ_cons, List.take_succ_cons, List.take_zero] at h16
    obtain ⟨x35, e35, _, w35⟩ := DataW.trod_int Try.underlying5 h16
    have w35 : Sm x35 := u8_of w35
    simp only [List.cons.injEq, and_true] at e35; subst e35
    obtain ⟨n17, z17, h17⟩ := hfl 17 _ rfl
    simp only [List.getElem_toArray, List.getElem_cons_zero, List.getElem_cons_succ, show Try.prog.cellsOf 5 = 1 from by kernel_rfl, List.drop_zero, List.drop_succ_cons, List.take_succ_cons, List.take_zero] at h17
    obtain ⟨x36, e36, _, w36⟩ := DataW.trod_int Try.underlying5 h17
    have w36 : Sm x36 := u8_of w36
    simp only [List.cons.injEq, and_true] at e36; subst e36
    obtain ⟨n18, z18, h18⟩ := hfl 18 _ rfl
    simp only [List.getElem_toArray, List.getElem_cons_zero, List.getElem_cons_succ, show Try.prog.cellsOf 3 = 1 from by kernel_rfl, List.drop_zero, List.drop_succ_cons, List.take_succ_cons, List.take_zero] at h18
    obtain ⟨x37, e37, _, w37⟩ := DataW.trod_int Try.underlying3 h18
    have w37 : I64 x37 := i64_of w37
    simp only [List.cons.injEq, and_true] at e37; subst e37
    obtain ⟨n19, z19, h19⟩ := hfl 19 _ rfl
    simp only [List.getElem_toArray, List.getElem_cons_zero, List.getElem_cons_succ, show Try.prog.cellsOf 2 = 1 from by kernel_rfl, List.drop_zero, List.drop_succ_cons, List.take_succ_cons, List.take_zero] at h19
    obtain ⟨x38, e38, _, w38⟩ := DataW.trod_int Try.underlying2 h19
    have w38 : I64 x38 := i64_of w38
    simp only [List.cons.injEq, and_true] at e38; subst e38
    obtain ⟨n20, z20, h20⟩ := hfl 20 _ rfl
    simp only [List.getElem_toArray, List.getElem_cons_zero, List.getElem_cons_succ, show Try.prog.cellsOf 2 = 1 from by kernel_rfl, List.drop_zero, List.drop_succ_cons, List.take_succ_cons, List.take_zero] at h20
    obtain ⟨x39, e39, _, w39⟩ := DataW.trod_int Try.underlying2 h20
    have w39 : I64 x39 := i64_of w39
    simp only [List.cons.injEq, and_true] at e39; subst e39
    obtain ⟨n21, z21, h21⟩ := hfl 21 _ rfl
    simp only [List.getElem_toArray, List.getElem_cons_zero, List.getElem_cons_succ, show Try.prog.cellsOf 44 = 2 from by kernel_rfl, List.drop_zero, List.drop_succ_cons, List.take_succ_cons, List.take_zero] at h21
    obtain ⟨x40, x41, e40, w40, w41⟩ := open_len h21
    simp only [List.cons.injEq, and_true] at e40; obtain ⟨e40, e41⟩ := e40; subst e40 e41
    obtain ⟨n22, z22, h22⟩ := hfl 22 _ rfl
    simp only [List.getElem_toArray, List.getElem_cons_zero, List.getElem_cons_succ, show Try.prog.cellsOf 47 = 1 from by kernel_rfl, List.drop_zero, List.drop_succ_cons, List.take_succ_cons, List.take_zero] at h22
    obtain ⟨uv, us, e42, ur, uok⟩ := open_units h22
    simp only [List.cons.injEq, and_true] at e42; subst e42
    exact ⟨[[x1], [x34], [x0], [x2], [x3], [x32], [x35], [x36], [x33], [x37], [x38], [x39], [x4, x5], [x6, x7], [x8, x9], [x10, x11], [x12, x13], [x14, x15], [x40, x41], [x16, x17], [x18, x19], [x20, x21], [x22, x23], [x24], [x25], [x26], [x27], [x28], [x29], [x30], [x31], us], c42, rfl, ⟨(w1.elim (fun h => .inl (by rw [h])) (fun h => .inr (by rw [h]))), (w34.elim (fun h => .inl (by rw [h])) (fun h => .inr (by rw [h]))), ⟨x0, rfl, w0⟩, ⟨x2, rfl, w2⟩, ⟨x3, rfl, w3⟩, ⟨x32, rfl, w32⟩, ⟨x35, rfl, w35⟩, ⟨x36, rfl, w36⟩, ⟨x33, rfl, w33⟩, ⟨x37, rfl, w37⟩, ⟨x38, rfl, w38⟩, ⟨x39, rfl, w39⟩, ⟨x4, x5, rfl, w4, w5⟩, ⟨x6, x7, rfl, w6, w7⟩, ⟨x8, x9, rfl, w8, w9⟩, ⟨x10, x11, rfl, w10, w11⟩, ⟨x12, x13, rfl, w12, w13⟩, ⟨x14, x15, rfl, w14, w15⟩, ⟨x40, x41, rfl, w40, w41⟩, ⟨x16, x17, rfl, w16, w17⟩, ⟨x18, x19, rfl, w18, w19⟩, ⟨x20, x21, rfl, w20, w21⟩, ⟨x22, x23, rfl, w22, w23⟩, ⟨x24, rfl, w24⟩, ⟨x25, rfl, w25⟩, ⟨x26, rfl, w26⟩, ⟨x27, rfl, w27⟩, ⟨x28, rfl, w28⟩, ⟨x29, rfl, w29⟩, ⟨x30, rfl, w30⟩, ⟨x31, rfl, w31⟩, uok, trivial⟩, ur⟩
theorem open_nodes {cs : List Value} {fuel : Nat} {y : DataW H × List MemPlace} (hf : DataW.trod enc Try.prog w 0 (fun _ => true) held fuel 32 cs = some y) :
    ∃ (a : Option Addr) (ns : List Nd) (c : Nat), cs = [.slice a ns.length c] ∧ NRow w a ns ∧ (∀ n ∈ ns, okN n) ∧ ns.length ≤ c ∧ c ≤ maxLen := by
  obtain ⟨a, l, c, e, hr, hg, hl, hm⟩ := open_rows_c (sz := 44) (fun x : Nd × Value => ncell x.1 x.2) (fun x => okN x.1 ∧ UR w x.2 (x.1.2.getD 31 [])) Try.underlying32 (by kernel_rfl) (by decide) (fun n cs' y ht hl => by
    obtain ⟨_, hfl⟩ := open_fields_c Try.underlying51 ht
    obtain ⟨n0, z0, h0⟩ := hfl 0 _ rfl
    obtain ⟨n1, z1, h1⟩ := hfl 1 _ rfl
    simp only [List.getElem_toArray, List.getElem_cons_zero, List.getElem_cons_succ, show Try.prog.cellsOf 3 = 1 from by kernel_rfl, show Try.prog.cellsOf 49 = 43 from by kernel_rfl, List.drop_zero] at h0 h1
    match cs', hl with
    | p :: q, hl =>
      simp only [List.take_succ_cons, List.take_zero, List.drop_succ_cons, List.drop_zero] at h0 h1
      obtain ⟨x, e0, _, hw⟩ := DataW.trod_int Try.underlying3 h0
      simp only [List.cons.injEq, and_true] at e0
      subst e0
      rw [List.take_of_length_le (by simp at hl; omega)] at h1
      obtain ⟨L, uv, hL, ok, ur⟩ := open_style h1
      exact ⟨((x, L), uv), by rw [hL]; rfl, ⟨i64_of hw, ok⟩, ur⟩) hf
  have hlen : (l.map (·.1)).length = l.length := by simp
  refine ⟨a, l.map (·.1), c, by rw [hlen]; exact e, ⟨by rw [hlen]; have := hr.1; simpa using this, fun hp => ?_⟩, fun n hn => ?_, by rw [hlen]; exact hl, hm⟩
  · rw [hlen] at hp
    obtain ⟨b, o, ha, hb, hc⟩ := hr.2 (by simpa using hp)
    refine ⟨b, o, ha, hb, fun i hi => ?_⟩
    rw [hlen] at hi
    have hcell := hc i (by simpa using hi)
    simp only [List.getElem_map] at hcell ⊢
    have hgi := hg l[i] (List.getElem_mem hi)
    refine ⟨by have := hcell 0 (by rw [ncell_len]; decide); rw [Nat.add_zero] at this; exact this, hb, l[i].2, fun j hj => ?_, hgi.2⟩
    have hj2 : j < (SC (gof l[i].1.2) l[i].2).length := hj
    have := hcell (j + 1) (by rw [ncell_len]; omega)
    rw [show o + i * 44 + 1 + j = o + i * 44 + (j + 1) from by omega, this, List.getElem?_eq_getElem hj2]
    rfl
  · obtain ⟨x, hx, rfl⟩ := List.mem_map.1 hn
    exact (hg x hx).1
theorem open_advs {cs : List Value} {fuel : Nat} {y : DataW H × List MemPlace} (hf : DataW.trod enc Try.prog w 0 (fun _ => true) held fuel 33 cs = some y) :
    ∃ (a : Option Addr) (l : List Int) (c : Nat), cs = [.slice a l.length c] ∧ Row w a (l.map (.int .i64)) ∧ (∀ x ∈ l, I64 x) ∧ l.length ≤ c ∧ c ≤ maxLen := by
  obtain ⟨a, l, c, e, hr, hg, hl, hm⟩ := open_rows_c (sz := 1) (fun x : Int => [.int .i64 x]) I64 Try.underlying33 (by kernel_rfl) (by decide) (fun n cs' y ht hl => open_i64 ht) hf
  exact ⟨a, l, c, e, row_one hr, hg, hl, hm⟩
theorem slice_weight {t e : TypeId} {cs : List Value} {fuel : Nat} {y : DataW H × List MemPlace} {a : Option Addr} {n c : Nat} (ht : Try.prog.underlying t = some (.slice e)) (hf : DataW.trod enc Try.prog w 0 (fun _ => true) held fuel t cs = some y) (hcs : cs = [.slice a n c])
    (hw : ∀ k ∈ y.1.weights Try.prog t, k ≤ reachBytes) : c * Try.prog.bytesOf e ≤ reachBytes := by
  rcases open_slice ht hf with ⟨h1, h2⟩ | ⟨x, len, c', m, n', D, Pl, h1, _, hl, hm, hmm, h2, _⟩
  · rw [hcs] at h1
    simp only [List.cons.injEq, Value.slice.injEq, and_true] at h1
    rw [h1.2.2]
    simp
  · rw [hcs] at h1
    simp only [List.cons.injEq, Value.slice.injEq, and_true] at h1
    have hmc : m = c' := by simpa using hmm
    subst h2
    have := hw ((len + (m - len)) * Try.prog.bytesOf e) (by simp [DataW.weights, ht])
    rw [h1.2.2]
    rwa [show len + (m - len) = c' from by omega] at this
theorem open_tree {v : Value} {d : DataW H} {p : List MemPlace} {B : Nat} (hv : Value.okWide Try.prog w .any B 35 v) (h : DataW.Trod enc Try.prog w 0 (fun _ => true) held 35 v d p)
    (hw : ∀ k ∈ d.weights Try.prog 35, k ≤ reachBytes) : ∃ T : Tr, TrV w v T ∧ T.nodes.length ≤ 1000000000000000 ∧ T.adv.length ≤ 1000000000000000000 := by
  obtain ⟨cs, rfl, _⟩ := okWide_struct Try.underlying35 hv
  obtain ⟨l⟩ := cs
  obtain ⟨fuel, hf⟩ := h
  have hf' : DataW.trod enc Try.prog w 0 (fun _ => true) held fuel 35 l = some (d, p) := hf
  obtain ⟨xs, m, _, hd, hlen, hxl, hx⟩ := DataW.trod_struct Try.underlying35 hf'
  have hlen : l.length = 3 := hlen.trans (by kernel_rfl)
  simp only [Prod.mk.injEq] at hd
  have hx0 := hx 0 _ rfl
  have hx1 := hx 1 _ rfl
  have hx2 := hx 2 _ rfl
  have hxl : xs.length = 3 := hxl
  match l, hlen, xs, hxl with
  | [c0, c1, c2], _, [y0, y1, y2], _ =>
    simp only [List.getElem_toArray, List.getElem_cons_zero, List.getElem_cons_succ, show Try.prog.cellsOf 32 = 1 from by kernel_rfl, show Try.prog.cellsOf 33 = 1 from by kernel_rfl, show Try.prog.cellsOf 2 = 1 from by kernel_rfl, List.drop_zero, List.drop_succ_cons, List.take_succ_cons, List.take_zero, List.getElem?_cons_zero, List.getElem?_cons_succ] at hx0 hx1 hx2
    obtain ⟨na, ns, nc, e0, r0, g0, l0, m0⟩ := open_nodes hx0
    obtain ⟨aa, av, ac, e1, r1, g1, l1, m1⟩ := open_advs hx1
    obtain ⟨vw, e2, g2⟩ := open_i64 hx2
    have hmem : ∀ (j : Nat) (t : TypeId) (x : DataW H × List MemPlace), [32, 33, 2][j]? = some t → [y0, y1, y2][j]? = some x → ∀ k ∈ x.1.weights Try.prog t, k ≤ reachBytes := fun j t x h1 h2 k hk => by
      refine hw k ?_
      rw [hd.1]
      unfold DataW.weights
      rw [Try.underlying35]
      exact DataW.weights_mem_each (j := j) (by exact h1) (by rw [List.getElem?_map, h2]; rfl) k hk
    have w0 := slice_weight Try.underlying32 hx0 e0 (hmem 0 _ _ rfl rfl)
    have w1 := slice_weight Try.underlying33 hx1 e1 (hmem 1 _ _ rfl rfl)
    rw [show Try.prog.bytesOf 51 = 328 from by kernel_rfl] at w0
    rw [show Try.prog.bytesOf 2 = 8 from by kernel_rfl] at w1
    have hrb := reachBytes_lt
    simp only [List.cons.injEq, and_true] at e0 e1 e2
    subst e0 e1 e2
    refine ⟨⟨vw, av, ns⟩, ⟨na, nc, aa, ac, rfl, r0, r1, ⟨g2, g1, ?_, g0, ?_⟩, l0, m0, l1, m1⟩, ?_, ?_⟩
    · unfold maxLen at m1; dsimp only; omega
    · unfold maxLen at m0; dsimp only; omega
    · dsimp only; omega
    · dsimp only; omega
end
end Go.Proofs.Ytmngndmcidbakaa
