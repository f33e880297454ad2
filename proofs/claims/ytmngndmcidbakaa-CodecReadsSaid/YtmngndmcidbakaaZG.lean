/- The comparisons of two styles' fields. (Printed by gen_cmp.py.) -/
import Derived.Test.YtmngndmcidbakaaZF
namespace Go.Proofs.Ytmngndmcidbakaa
open Go.RowKit
theorem eqI (x0 x1 x2 x3 y0 y1 y2 y3 : Int) (w : World) : (Op.equalIn 10000 46 (.agg #[.int .i64 x0, .int .i64 x1, .int .i64 x2, .int .i64 x3]) (.agg #[.int .i64 y0, .int .i64 y1, .int .i64 y2, .int .i64 y3])).run Try.prog w = .ok (x0 == y0 && (x1 == y1 && (x2 == y2 && x3 == y3))) w := by
  rw [Op.equalIn]
  rw [Sem.run_bind, run_underlying Try.underlying46 w, Result.andThen_ok]
  dsimp only
  go_simp
  cases h0 : (x0 == y0) with
  | false => simp [List.range'_succ, go_sem, h0]
  | true =>
    cases h1 : (x1 == y1) with
    | false => simp [List.range'_succ, go_sem, h0, h1]
    | true =>
      cases h2 : (x2 == y2) with
      | false => simp [List.range'_succ, go_sem, h0, h1, h2]
      | true =>
        cases h3 : (x3 == y3) with
        | false => simp [List.range'_succ, go_sem, h0, h1, h2, h3]
        | true => simp [List.range'_succ, go_sem, h0, h1, h2, h3]
theorem eqL (d : Nat) (x0 x1 y0 y1 : Int) (w : World) : (Op.equalIn (d + 1 + 1) 44 (.agg #[.int .u8 x0, .int .i64 x1]) (.agg #[.int .u8 y0, .int .i64 y1])).run Try.prog w = .ok (x0 == y0 && x1 == y1) w := by
  cases h0 : (x0 == y0) <;> cases h1 : (x1 == y1) <;> simp [go_sem, h0, h1]
theorem eqA (x0 x1 x2 x3 x4 x5 x6 x7 y0 y1 y2 y3 y4 y5 y6 y7 : Int) (w : World) : (Op.equalIn 10000 45 (.agg #[.int .u8 x0, .int .i64 x1, .int .u8 x2, .int .i64 x3, .int .u8 x4, .int .i64 x5, .int .u8 x6, .int .i64 x7]) (.agg #[.int .u8 y0, .int .i64 y1, .int .u8 y2, .int .i64 y3, .int .u8 y4, .int .i64 y5, .int .u8 y6, .int .i64 y7])).run Try.prog w = .ok ((x0 == y0 && x1 == y1) && ((x2 == y2 && x3 == y3) && ((x4 == y4 && x5 == y5) && (x6 == y6 && x7 == y7)))) w := by
  rw [Op.equalIn]
  rw [Sem.run_bind, run_underlying Try.underlying45 w, Result.andThen_ok]
  dsimp only
  simp [List.range'_succ, go_sem, part]
  (repeat' split) <;> simp_all
theorem cmp0 {w : World} {ga gb : Nat} {a0 b0 : Int} (hx0 : w.cell? ⟨ga, 0, none⟩ = some (.int .u8 a0)) (hy0 : w.cell? ⟨gb, 0, none⟩ = some (.int .u8 b0)) : Cmp w ga gb 0 5 (a0 == b0) := by
  refine ⟨.pointer (some ⟨ga, 0, none⟩), .pointer (some ⟨gb, 0, none⟩), .int .u8 a0, .int .u8 b0, ?_, ?_, ?_, ?_, ?_⟩
  · intro ev o h1 h2
    unfold execOp
    rw [h1]
    go_simp
  · intro ev o h1 h2
    unfold execOp
    rw [h1]
    go_simp
  · intro ev o s h1 h2
    unfold execOp
    rw [h1]
    go_simp
  · intro ev o s h1 h2
    unfold execOp
    rw [h1]
    go_simp
  · intro ev o s t h1 h2 h3
    unfold execOp
    rw [h1]
    go_simp
theorem cmp1 {w : World} {ga gb : Nat} {a1 b1 : Bool} (hx1 : w.cell? ⟨ga, 1, none⟩ = some (.bool a1)) (hy1 : w.cell? ⟨gb, 1, none⟩ = some (.bool b1)) : Cmp w ga gb 1 4 (a1 == b1) := by
  refine ⟨.pointer (some ⟨ga, 1, none⟩), .pointer (some ⟨gb, 1, none⟩), .bool a1, .bool b1, ?_, ?_, ?_, ?_, ?_⟩
  · intro ev o h1 h2
    unfold execOp
    rw [h1]
    go_simp
  · intro ev o h1 h2
    unfold execOp
    rw [h1]
    go_simp
  · intro ev o s h1 h2
    unfold execOp
    rw [h1]
    go_simp
  · intro ev o s h1 h2
    unfold execOp
    rw [h1]
    go_simp
  · intro ev o s t h1 h2 h3
    unfold execOp
    rw [h1]
    go_simp
theorem cmp2 {w : World} {ga gb : Nat} {a2 b2 : Int} (hx2 : w.cell? ⟨ga, 2, none⟩ = some (.int .u8 a2)) (hy2 : w.cell? ⟨gb, 2, none⟩ = some (.int .u8 b2)) : Cmp w ga gb 2 5 (a2 == b2) := by
  refine ⟨.pointer (some ⟨ga, 2, none⟩), .pointer (some ⟨gb, 2, none⟩), .int .u8 a2, .int .u8 b2, ?_, ?_, ?_, ?_, ?_⟩
  · intro ev o h1 h2
    unfold execOp
    rw [h1]
    go_simp
  · intro ev o h1 h2
    unfold execOp
    rw [h1]
    go_simp
  · intro ev o s h1 h2
    unfold execOp
    rw [h1]
    go_simp
  · intro ev o s h1 h2
    unfold execOp
    rw [h1]
    go_simp
  · intro ev o s t h1 h2 h3
    unfold execOp
    rw [h1]
    go_simp
theorem cmp3 {w : World} {ga gb : Nat} {a3 b3 : Int} (hx3 : w.cell? ⟨ga, 3, none⟩ = some (.int .u8 a3)) (hy3 : w.cell? ⟨gb, 3, none⟩ = some (.int .u8 b3)) : Cmp w ga gb 3 5 (a3 == b3) := by
  refine ⟨.pointer (some ⟨ga, 3, none⟩), .pointer (some ⟨gb, 3, none⟩), .int .u8 a3, .int .u8 b3, ?_, ?_, ?_, ?_, ?_⟩
  · intro ev o h1 h2
    unfold execOp
    rw [h1]
    go_simp
  · intro ev o h1 h2
    unfold execOp
    rw [h1]
    go_simp
  · intro ev o s h1 h2
    unfold execOp
    rw [h1]
    go_simp
  · intro ev o s h1 h2
    unfold execOp
    rw [h1]
    go_simp
  · intro ev o s t h1 h2 h3
    unfold execOp
    rw [h1]
    go_simp
theorem cmp4 {w : World} {ga gb : Nat} {a4 b4 a5 b5 : Int} (hx4 : w.cell? ⟨ga, 4, none⟩ = some (.int .u8 a4)) (hy4 : w.cell? ⟨gb, 4, none⟩ = some (.int .u8 b4)) (hx5 : w.cell? ⟨ga, 5, none⟩ = some (.int .i64 a5)) (hy5 : w.cell? ⟨gb, 5, none⟩ = some (.int .i64 b5)) : Cmp w ga gb 4 44 (a4 == b4 && a5 == b5) := by
  refine ⟨.pointer (some ⟨ga, 4, none⟩), .pointer (some ⟨gb, 4, none⟩), .agg #[.int .u8 a4, .int .i64 a5], .agg #[.int .u8 b4, .int .i64 b5], ?_, ?_, ?_, ?_, ?_⟩
  · intro ev o h1 h2
    unfold execOp
    rw [h1]
    go_simp
  · intro ev o h1 h2
    unfold execOp
    rw [h1]
    go_simp
  · intro ev o s h1 h2
    unfold execOp
    rw [h1]
    go_simp
  · intro ev o s h1 h2
    unfold execOp
    rw [h1]
    go_simp
  · intro ev o s t h1 h2 h3
    unfold execOp
    rw [h1]
    cases z0 : (a4 == b4) <;> cases z1 : (a5 == b5) <;> go_simp
theorem cmp5 {w : World} {ga gb : Nat} {a6 b6 a7 b7 : Int} (hx6 : w.cell? ⟨ga, 6, none⟩ = some (.int .u8 a6)) (hy6 : w.cell? ⟨gb, 6, none⟩ = some (.int .u8 b6)) (hx7 : w.cell? ⟨ga, 7, none⟩ = some (.int .i64 a7)) (hy7 : w.cell? ⟨gb, 7, none⟩ = some (.int .i64 b7)) : Cmp w ga gb 5 44 (a6 == b6 && a7 == b7) := by
  refine ⟨.pointer (some ⟨ga, 6, none⟩), .pointer (some ⟨gb, 6, none⟩), .agg #[.int .u8 a6, .int .i64 a7], .agg #[.int .u8 b6, .int .i64 b7], ?_, ?_, ?_, ?_, ?_⟩
  · intro ev o h1 h2
    unfold execOp
    rw [h1]
    go_simp
  · intro ev o h1 h2
    unfold execOp
    rw [h1]
    go_simp
  · intro ev o s h1 h2
    unfold execOp
    rw [h1]
    go_simp
  · intro ev o s h1 h2
    unfold execOp
    rw [h1]
    go_simp
  · intro ev o s t h1 h2 h3
    unfold execOp
    rw [h1]
    cases z0 : (a6 == b6) <;> cases z1 : (a7 == b7) <;> go_simp
theorem cmp6 {w : World} {ga gb : Nat} {a8 b8 a9 b9 : Int} (hx8 : w.cell? ⟨ga, 8, none⟩ = some (.int .u8 a8)) (hy8 : w.cell? ⟨gb, 8, none⟩ = some (.int .u8 b8)) (hx9 : w.cell? ⟨ga, 9, none⟩ = some (.int .i64 a9)) (hy9 : w.cell? ⟨gb, 9, none⟩ = some (.int .i64 b9)) : Cmp w ga gb 6 44 (a8 == b8 && a9 == b9) := by
  refine ⟨.pointer (some ⟨ga, 8, none⟩), .pointer (some ⟨gb, 8, none⟩), .agg #[.int .u8 a8, .int .i64 a9], .agg #[.int .u8 b8, .int .i64 b9], ?_, ?_, ?_, ?_, ?_⟩
  · intro ev o h1 h2
    unfold execOp
    rw [h1]
    go_simp
  · intro ev o h1 h2
    unfold execOp
    rw [h1]
    go_simp
  · intro ev o s h1 h2
    unfold execOp
    rw [h1]
    go_simp
  · intro ev o s h1 h2
    unfold execOp
    rw [h1]
    go_simp
  · intro ev o s t h1 h2 h3
    unfold execOp
    rw [h1]
    cases z0 : (a8 == b8) <;> cases z1 : (a9 == b9) <;> go_simp
theorem cmp7 {w : World} {ga gb : Nat} {a10 b10 a11 b11 : Int} (hx10 : w.cell? ⟨ga, 10, none⟩ = some (.int .u8 a10)) (hy10 : w.cell? ⟨gb, 10, none⟩ = some (.int .u8 b10)) (hx11 : w.cell? ⟨ga, 11, none⟩ = some (.int .i64 a11)) (hy11 : w.cell? ⟨gb, 11, none⟩ = some (.int .i64 b11)) : Cmp w ga gb 7 44 (a10 == b10 && a11 == b11) := by
  refine ⟨.pointer (some ⟨ga, 10, none⟩), .pointer (some ⟨gb, 10, none⟩), .agg #[.int .u8 a10, .int .i64 a11], .agg #[.int .u8 b10, .int .i64 b11], ?_, ?_, ?_, ?_, ?_⟩
  · intro ev o h1 h2
    unfold execOp
    rw [h1]
    go_simp
  · intro ev o h1 h2
    unfold execOp
    rw [h1]
    go_simp
  · intro ev o s h1 h2
    unfold execOp
    rw [h1]
    go_simp
  · intro ev o s h1 h2
    unfold execOp
    rw [h1]
    go_simp
  · intro ev o s t h1 h2 h3
    unfold execOp
    rw [h1]
    cases z0 : (a10 == b10) <;> cases z1 : (a11 == b11) <;> go_simp
theorem cmp8 {w : World} {ga gb : Nat} {a12 b12 a13 b13 : Int} (hx12 : w.cell? ⟨ga, 12, none⟩ = some (.int .u8 a12)) (hy12 : w.cell? ⟨gb, 12, none⟩ = some (.int .u8 b12)) (hx13 : w.cell? ⟨ga, 13, none⟩ = some (.int .i64 a13)) (hy13 : w.cell? ⟨gb, 13, none⟩ = some (.int .i64 b13)) : Cmp w ga gb 8 44 (a12 == b12 && a13 == b13) := by
  refine ⟨.pointer (some ⟨ga, 12, none⟩), .pointer (some ⟨gb, 12, none⟩), .agg #[.int .u8 a12, .int .i64 a13], .agg #[.int .u8 b12, .int .i64 b13], ?_, ?_, ?_, ?_, ?_⟩
  · intro ev o h1 h2
    unfold execOp
    rw [h1]
    go_simp
  · intro ev o h1 h2
    unfold execOp
    rw [h1]
    go_simp
  · intro ev o s h1 h2
    unfold execOp
    rw [h1]
    go_simp
  · intro ev o s h1 h2
    unfold execOp
    rw [h1]
    go_simp
  · intro ev o s t h1 h2 h3
    unfold execOp
    rw [h1]
    cases z0 : (a12 == b12) <;> cases z1 : (a13 == b13) <;> go_simp
theorem cmp9 {w : World} {ga gb : Nat} {a14 b14 a15 b15 : Int} (hx14 : w.cell? ⟨ga, 14, none⟩ = some (.int .u8 a14)) (hy14 : w.cell? ⟨gb, 14, none⟩ = some (.int .u8 b14)) (hx15 : w.cell? ⟨ga, 15, none⟩ = some (.int .i64 a15)) (hy15 : w.cell? ⟨gb, 15, none⟩ = some (.int .i64 b15)) : Cmp w ga gb 9 44 (a14 == b14 && a15 == b15) := by
  refine ⟨.pointer (some ⟨ga, 14, none⟩), .pointer (some ⟨gb, 14, none⟩), .agg #[.int .u8 a14, .int .i64 a15], .agg #[.int .u8 b14, .int .i64 b15], ?_, ?_, ?_, ?_, ?_⟩
  · intro ev o h1 h2
    unfold execOp
    rw [h1]
    go_simp
  · intro ev o h1 h2
    unfold execOp
    rw [h1]
    go_simp
  · intro ev o s h1 h2
    unfold execOp
    rw [h1]
    go_simp
  · intro ev o s h1 h2
    unfold execOp
    rw [h1]
    go_simp
  · intro ev o s t h1 h2 h3
    unfold execOp
    rw [h1]
    cases z0 : (a14 == b14) <;> cases z1 : (a15 == b15) <;> go_simp
theorem cmp10 {w : World} {ga gb : Nat} {a16 b16 a17 b17 a18 b18 a19 b19 a20 b20 a21 b21 a22 b22 a23 b23 : Int} (hx16 : w.cell? ⟨ga, 16, none⟩ = some (.int .u8 a16)) (hy16 : w.cell? ⟨gb, 16, none⟩ = some (.int .u8 b16)) (hx17 : w.cell? ⟨ga, 17, none⟩ = some (.int .i64 a17)) (hy17 : w.cell? ⟨gb, 17, none⟩ = some (.int .i64 b17)) (hx18 : w.cell? ⟨ga, 18, none⟩ = some (.int .u8 a18)) (hy18 : w.cell? ⟨gb, 18, none⟩ = some (.int .u8 b18)) (hx19 : w.cell? ⟨ga, 19, none⟩ = some (.int .i64 a19)) (hy19 : w.cell? ⟨gb, 19, none⟩ = some (.int .i64 b19)) (hx20 : w.cell? ⟨ga, 20, none⟩ = some (.int .u8 a20)) (hy20 : w.cell? ⟨gb, 20, none⟩ = some (.int .u8 b20)) (hx21 : w.cell? ⟨ga, 21, none⟩ = some (.int .i64 a21)) (hy21 : w.cell? ⟨gb, 21, none⟩ = some (.int .i64 b21)) (hx22 : w.cell? ⟨ga, 22, none⟩ = some (.int .u8 a22)) (hy22 : w.cell? ⟨gb, 22, none⟩ = some (.int .u8 b22)) (hx23 : w.cell? ⟨ga, 23, none⟩ = some (.int .i64 a23)) (hy23 : w.cell? ⟨gb, 23, none⟩ = some (.int .i64 b23)) : Cmp w ga gb 10 45 ((a16 == b16 && a17 == b17) && ((a18 == b18 && a19 == b19) && ((a20 == b20 && a21 == b21) && (a22 == b22 && a23 == b23)))) := by
  refine ⟨.pointer (some ⟨ga, 16, none⟩), .pointer (some ⟨gb, 16, none⟩), .agg #[.int .u8 a16, .int .i64 a17, .int .u8 a18, .int .i64 a19, .int .u8 a20, .int .i64 a21, .int .u8 a22, .int .i64 a23], .agg #[.int .u8 b16, .int .i64 b17, .int .u8 b18, .int .i64 b19, .int .u8 b20, .int .i64 b21, .int .u8 b22, .int .i64 b23], ?_, ?_, ?_, ?_, ?_⟩
  · intro ev o h1 h2
    unfold execOp
    rw [h1]
    go_simp
  · intro ev o h1 h2
    unfold execOp
    rw [h1]
    go_simp
  · intro ev o s h1 h2
    unfold execOp
    rw [h1]
    go_simp
  · intro ev o s h1 h2
    unfold execOp
    rw [h1]
    go_simp
  · intro ev o s t h1 h2 h3
    unfold execOp
    rw [h1]
    have := eqA a16 a17 a18 a19 a20 a21 a22 a23 b16 b17 b18 b19 b20 b21 b22 b23 w
    go_simp
theorem cmp11 {w : World} {ga gb : Nat} {a24 b24 a25 b25 a26 b26 a27 b27 : Int} (hx24 : w.cell? ⟨ga, 24, none⟩ = some (.int .i64 a24)) (hy24 : w.cell? ⟨gb, 24, none⟩ = some (.int .i64 b24)) (hx25 : w.cell? ⟨ga, 25, none⟩ = some (.int .i64 a25)) (hy25 : w.cell? ⟨gb, 25, none⟩ = some (.int .i64 b25)) (hx26 : w.cell? ⟨ga, 26, none⟩ = some (.int .i64 a26)) (hy26 : w.cell? ⟨gb, 26, none⟩ = some (.int .i64 b26)) (hx27 : w.cell? ⟨ga, 27, none⟩ = some (.int .i64 a27)) (hy27 : w.cell? ⟨gb, 27, none⟩ = some (.int .i64 b27)) : Cmp w ga gb 11 46 (a24 == b24 && (a25 == b25 && (a26 == b26 && a27 == b27))) := by
  refine ⟨.pointer (some ⟨ga, 24, none⟩), .pointer (some ⟨gb, 24, none⟩), .agg #[.int .i64 a24, .int .i64 a25, .int .i64 a26, .int .i64 a27], .agg #[.int .i64 b24, .int .i64 b25, .int .i64 b26, .int .i64 b27], ?_, ?_, ?_, ?_, ?_⟩
  · intro ev o h1 h2
    unfold execOp
    rw [h1]
    go_simp
  · intro ev o h1 h2
    unfold execOp
    rw [h1]
    go_simp
  · intro ev o s h1 h2
    unfold execOp
    rw [h1]
    go_simp
  · intro ev o s h1 h2
    unfold execOp
    rw [h1]
    go_simp
  · intro ev o s t h1 h2 h3
    unfold execOp
    rw [h1]
    have := eqI a24 a25 a26 a27 b24 b25 b26 b27 w
    go_simp
theorem cmp12 {w : World} {ga gb : Nat} {a28 b28 a29 b29 a30 b30 a31 b31 : Int} (hx28 : w.cell? ⟨ga, 28, none⟩ = some (.int .i64 a28)) (hy28 : w.cell? ⟨gb, 28, none⟩ = some (.int .i64 b28)) (hx29 : w.cell? ⟨ga, 29, none⟩ = some (.int .i64 a29)) (hy29 : w.cell? ⟨gb, 29, none⟩ = some (.int .i64 b29)) (hx30 : w.cell? ⟨ga, 30, none⟩ = some (.int .i64 a30)) (hy30 : w.cell? ⟨gb, 30, none⟩ = some (.int .i64 b30)) (hx31 : w.cell? ⟨ga, 31, none⟩ = some (.int .i64 a31)) (hy31 : w.cell? ⟨gb, 31, none⟩ = some (.int .i64 b31)) : Cmp w ga gb 12 46 (a28 == b28 && (a29 == b29 && (a30 == b30 && a31 == b31))) := by
  refine ⟨.pointer (some ⟨ga, 28, none⟩), .pointer (some ⟨gb, 28, none⟩), .agg #[.int .i64 a28, .int .i64 a29, .int .i64 a30, .int .i64 a31], .agg #[.int .i64 b28, .int .i64 b29, .int .i64 b30, .int .i64 b31], ?_, ?_, ?_, ?_, ?_⟩
  · intro ev o h1 h2
    unfold execOp
    rw [h1]
    go_simp
  · intro ev o h1 h2
    unfold execOp
    rw [h1]
    go_simp
  · intro ev o s h1 h2
    unfold execOp
    rw [h1]
    go_simp
  · intro ev o s h1 h2
    unfold execOp
    rw [h1]
    go_simp
  · intro ev o s t h1 h2 h3
    unfold execOp
    rw [h1]
    have := eqI a28 a29 a30 a31 b28 b29 b30 b31 w
    go_simp
theorem cmp13 {w : World} {ga gb : Nat} {a32 b32 : Int} (hx32 : w.cell? ⟨ga, 32, none⟩ = some (.int .u8 a32)) (hy32 : w.cell? ⟨gb, 32, none⟩ = some (.int .u8 b32)) : Cmp w ga gb 13 5 (a32 == b32) := by
  refine ⟨.pointer (some ⟨ga, 32, none⟩), .pointer (some ⟨gb, 32, none⟩), .int .u8 a32, .int .u8 b32, ?_, ?_, ?_, ?_, ?_⟩
  · intro ev o h1 h2
    unfold execOp
    rw [h1]
    go_simp
  · intro ev o h1 h2
    unfold execOp
    rw [h1]
    go_simp
  · intro ev o s h1 h2
    unfold execOp
    rw [h1]
    go_simp
  · intro ev o s h1 h2
    unfold execOp
    rw [h1]
    go_simp
  · intro ev o s t h1 h2 h3
    unfold execOp
    rw [h1]
    go_simp
theorem cmp14 {w : World} {ga gb : Nat} {a33 b33 : Int} (hx33 : w.cell? ⟨ga, 33, none⟩ = some (.int .i64 a33)) (hy33 : w.cell? ⟨gb, 33, none⟩ = some (.int .i64 b33)) : Cmp w ga gb 14 2 (a33 == b33) := by
  refine ⟨.pointer (some ⟨ga, 33, none⟩), .pointer (some ⟨gb, 33, none⟩), .int .i64 a33, .int .i64 b33, ?_, ?_, ?_, ?_, ?_⟩
  · intro ev o h1 h2
    unfold execOp
    rw [h1]
    go_simp
  · intro ev o h1 h2
    unfold execOp
    rw [h1]
    go_simp
  · intro ev o s h1 h2
    unfold execOp
    rw [h1]
    go_simp
  · intro ev o s h1 h2
    unfold execOp
    rw [h1]
    go_simp
  · intro ev o s t h1 h2 h3
    unfold execOp
    rw [h1]
    go_simp
theorem cmp15 {w : World} {ga gb : Nat} {a34 b34 : Bool} (hx34 : w.cell? ⟨ga, 34, none⟩ = some (.bool a34)) (hy34 : w.cell? ⟨gb, 34, none⟩ = some (.bool b34)) : Cmp w ga gb 15 4 (a34 == b34) := by
  refine ⟨.pointer (some ⟨ga, 34, none⟩), .pointer (some ⟨gb, 34, none⟩), .bool a34, .bool b34, ?_, ?_, ?_, ?_, ?_⟩
  · intro ev o h1 h2
    unfold execOp
    rw [h1]
    go_simp
  · intro ev o h1 h2
    unfold execOp
    rw [h1]
    go_simp
  · intro ev o s h1 h2
    unfold execOp
    rw [h1]
    go_simp
  · intro ev o s h1 h2
    unfold execOp
    rw [h1]
    go_simp
  · intro ev o s t h1 h2 h3
    unfold execOp
    rw [h1]
    go_simp
theorem cmp16 {w : World} {ga gb : Nat} {a35 b35 : Int} (hx35 : w.cell? ⟨ga, 35, none⟩ = some (.int .u8 a35)) (hy35 : w.cell? ⟨gb, 35, none⟩ = some (.int .u8 b35)) : Cmp w ga gb 16 5 (a35 == b35) := by
  refine ⟨.pointer (some ⟨ga, 35, none⟩), .pointer (some ⟨gb, 35, none⟩), .int .u8 a35, .int .u8 b35, ?_, ?_, ?_, ?_, ?_⟩
  · intro ev o h1 h2
    unfold execOp
    rw [h1]
    go_simp
  · intro ev o h1 h2
    unfold execOp
    rw [h1]
    go_simp
  · intro ev o s h1 h2
    unfold execOp
    rw [h1]
    go_simp
  · intro ev o s h1 h2
    unfold execOp
    rw [h1]
    go_simp
  · intro ev o s t h1 h2 h3
    unfold execOp
    rw [h1]
    go_simp
theorem cmp17 {w : World} {ga gb : Nat} {a36 b36 : Int} (hx36 : w.cell? ⟨ga, 36, none⟩ = some (.int .u8 a36)) (hy36 : w.cell? ⟨gb, 36, none⟩ = some (.int .u8 b36)) : Cmp w ga gb 17 5 (a36 == b36) := by
  refine ⟨.pointer (some ⟨ga, 36, none⟩), .pointer (some ⟨gb, 36, none⟩), .int .u8 a36, .int .u8 b36, ?_, ?_, ?_, ?_, ?_⟩
  · intro ev o h1 h2
    unfold execOp
    rw [h1]
    go_simp
  · intro ev o h1 h2
    unfold execOp
    rw [h1]
    go_simp
  · intro ev o s h1 h2
    unfold execOp
    rw [h1]
    go_simp
  · intro ev o s h1 h2
    unfold execOp
    rw [h1]
    go_simp
  · intro ev o s t h1 h2 h3
    unfold execOp
    rw [h1]
    go_simp
theorem cmp18 {w : World} {ga gb : Nat} {a37 b37 : Int} (hx37 : w.cell? ⟨ga, 37, none⟩ = some (.int .i64 a37)) (hy37 : w.cell? ⟨gb, 37, none⟩ = some (.int .i64 b37)) : Cmp w ga gb 18 3 (a37 == b37) := by
  refine ⟨.pointer (some ⟨ga, 37, none⟩), .pointer (some ⟨gb, 37, none⟩), .int .i64 a37, .int .i64 b37, ?_, ?_, ?_, ?_, ?_⟩
  · intro ev o h1 h2
    unfold execOp
    rw [h1]
    go_simp
  · intro ev o h1 h2
    unfold execOp
    rw [h1]
    go_simp
  · intro ev o s h1 h2
    unfold execOp
    rw [h1]
    go_simp
  · intro ev o s h1 h2
    unfold execOp
    rw [h1]
    go_simp
  · intro ev o s t h1 h2 h3
    unfold execOp
    rw [h1]
    go_simp
theorem cmp19 {w : World} {ga gb : Nat} {a38 b38 : Int} (hx38 : w.cell? ⟨ga, 38, none⟩ = some (.int .i64 a38)) (hy38 : w.cell? ⟨gb, 38, none⟩ = some (.int .i64 b38)) : Cmp w ga gb 19 2 (a38 == b38) := by
  refine ⟨.pointer (some ⟨ga, 38, none⟩), .pointer (some ⟨gb, 38, none⟩), .int .i64 a38, .int .i64 b38, ?_, ?_, ?_, ?_, ?_⟩
  · intro ev o h1 h2
    unfold execOp
    rw [h1]
    go_simp
  · intro ev o h1 h2
    unfold execOp
    rw [h1]
    go_simp
  · intro ev o s h1 h2
    unfold execOp
    rw [h1]
    go_simp
  · intro ev o s h1 h2
    unfold execOp
    rw [h1]
    go_simp
  · intro ev o s t h1 h2 h3
    unfold execOp
    rw [h1]
    go_simp
theorem cmp20 {w : World} {ga gb : Nat} {a39 b39 : Int} (hx39 : w.cell? ⟨ga, 39, none⟩ = some (.int .i64 a39)) (hy39 : w.cell? ⟨gb, 39, none⟩ = some (.int .i64 b39)) : Cmp w ga gb 20 2 (a39 == b39) := by
  refine ⟨.pointer (some ⟨ga, 39, none⟩), .pointer (some ⟨gb, 39, none⟩), .int .i64 a39, .int .i64 b39, ?_, ?_, ?_, ?_, ?_⟩
  · intro ev o h1 h2
    unfold execOp
    rw [h1]
    go_simp
  · intro ev o h1 h2
    unfold execOp
    rw [h1]
    go_simp
  · intro ev o s h1 h2
    unfold execOp
    rw [h1]
    go_simp
  · intro ev o s h1 h2
    unfold execOp
    rw [h1]
    go_simp
  · intro ev o s t h1 h2 h3
    unfold execOp
    rw [h1]
    go_simp
theorem cmp21 {w : World} {ga gb : Nat} {a40 b40 a41 b41 : Int} (hx40 : w.cell? ⟨ga, 40, none⟩ = some (.int .u8 a40)) (hy40 : w.cell? ⟨gb, 40, none⟩ = some (.int .u8 b40)) (hx41 : w.cell? ⟨ga, 41, none⟩ = some (.int .i64 a41)) (hy41 : w.cell? ⟨gb, 41, none⟩ = some (.int .i64 b41)) : Cmp w ga gb 21 44 (a40 == b40 && a41 == b41) := by
  refine ⟨.pointer (some ⟨ga, 40, none⟩), .pointer (some ⟨gb, 40, none⟩), .agg #[.int .u8 a40, .int .i64 a41], .agg #[.int .u8 b40, .int .i64 b41], ?_, ?_, ?_, ?_, ?_⟩
  · intro ev o h1 h2
    unfold execOp
    rw [h1]
    go_simp
  · intro ev o h1 h2
    unfold execOp
    rw [h1]
    go_simp
  · intro ev o s h1 h2
    unfold execOp
    rw [h1]
    go_simp
  · intro ev o s h1 h2
    unfold execOp
    rw [h1]
    go_simp
  · intro ev o s t h1 h2 h3
    unfold execOp
    rw [h1]
    cases z0 : (a40 == b40) <;> cases z1 : (a41 == b41) <;> go_simp
end Go.Proofs.Ytmngndmcidbakaa
