/- Slices of floats, of sizes, and what is asked, as they came in. -/
import Derived.Test.YtdckhheinpfbjaaLeaf
import Derived.Test.YtdckhheinpfbjaaFPlays
namespace Go.Proofs.Ytdckhheinpfbjaa
open Go.ChangeShapes Go.WideShapes Go.ChangeAt Go.RowKit Go.Deep

theorem u8_of {x : Int} (h : (Lit.int .u8 x).wf = true) : 0 ≤ x ∧ x ≤ 255 := by simpa [Lit.wf, IntKind.min, IntKind.max, IntKind.signed, IntKind.bits] using h
theorem u16_of {x : Int} (h : (Lit.int .u16 x).wf = true) : 0 ≤ x ∧ x ≤ 65535 := by simpa [Lit.wf, IntKind.min, IntKind.max, IntKind.signed, IntKind.bits] using h
theorem i64_of {x : Int} (h : (Lit.int .i64 x).wf = true) : -9223372036854775808 ≤ x ∧ x ≤ 9223372036854775807 := by simpa [Lit.wf, IntKind.min, IntKind.max, IntKind.signed, IntKind.bits] using h
/-- Sizes of floats that are placed. -/
structure Siz where
  right : Bool
  w : Int
  h : Int
  y : Int
def scell (s : Siz) : List Value := [.bool s.right, .int .u16 s.w, .int .u16 s.h, .int .u16 s.y]
structure SizOk (s : Siz) : Prop where
  w : 0 ≤ s.w ∧ s.w ≤ 65535
  h : 0 ≤ s.h ∧ s.h ≤ 65535
  y : 0 ≤ s.y ∧ s.y ≤ 65535

theorem open_struct_row_34 {H : Type} {enc : TypeId × Value → H} {w : World} {held : Bool} {v : Value} {d : DataW H} {p : List MemPlace} {B : Nat}
    (hv : Value.okWide Try.prog w .any B 22 v) (h : DataW.Trod enc Try.prog w 0 (fun _ => true) held 22 v d p) :
    ∃ (a : Option Addr) (l : List Flt) (c : Nat), v = .slice a l.length c ∧ FRow w a l ∧ (∀ f ∈ l, 0 ≤ f.s ∧ f.s ≤ 255) ∧ l.length ≤ c ∧ c ≤ maxLen := by
  refine open_rows fcell (fun f => 0 ≤ f.s ∧ f.s ≤ 255) Try.underlying22 (by kernel_rfl) (by decide) (fun n cs' y ht hl => ?_) hv h
  obtain ⟨_, hok⟩ := leaves_ok 5 34 [.int .u8, .int .i64, .int .i64, .int .i64, .int .i64] (by kernel_rfl) ht
  match cs', hl with
  | [c0, c1, c2, c3, c4], _ =>
    obtain ⟨x0, rfl, h0⟩ := hok 0 (by simp) (by simp)
    obtain ⟨x1, rfl, _⟩ := hok 1 (by simp) (by simp)
    obtain ⟨x2, rfl, _⟩ := hok 2 (by simp) (by simp)
    obtain ⟨x3, rfl, _⟩ := hok 3 (by simp) (by simp)
    obtain ⟨x4, rfl, _⟩ := hok 4 (by simp) (by simp)
    exact ⟨⟨x0, x1, x2, x3, x4⟩, rfl, u8_of h0⟩
theorem open_struct_row_41 {H : Type} {enc : TypeId × Value → H} {w : World} {held : Bool} {v : Value} {d : DataW H} {p : List MemPlace} {B : Nat}
    (hv : Value.okWide Try.prog w .any B 38 v) (h : DataW.Trod enc Try.prog w 0 (fun _ => true) held 38 v d p) :
    ∃ (a : Option Addr) (l : List Siz) (c : Nat), v = .slice a l.length c ∧ RowS w a 4 (l.map scell) ∧ (∀ f ∈ l, SizOk f) ∧ l.length ≤ c ∧ c ≤ maxLen := by
  refine open_rows scell SizOk Try.underlying38 (by kernel_rfl) (by decide) (fun n cs' y ht hl => ?_) hv h
  obtain ⟨_, hok⟩ := leaves_ok 5 41 [.bool, .int .u16, .int .u16, .int .u16] (by kernel_rfl) ht
  match cs', hl with
  | [c0, c1, c2, c3], _ =>
    obtain ⟨x0, rfl⟩ := hok 0 (by simp) (by simp)
    obtain ⟨x1, rfl, h1⟩ := hok 1 (by simp) (by simp)
    obtain ⟨x2, rfl, h2⟩ := hok 2 (by simp) (by simp)
    obtain ⟨x3, rfl, h3⟩ := hok 3 (by simp) (by simp)
    exact ⟨⟨x0, x1, x2, x3⟩, rfl, u16_of h1, u16_of h2, u16_of h3⟩
theorem open_struct_val_24 {H : Type} {enc : TypeId × Value → H} {w : World} {held : Bool} {v : Value} {d : DataW H} {p : List MemPlace} {B : Nat}
    (hv : Value.okWide Try.prog w .any B 24 v) (h : DataW.Trod enc Try.prog w 0 (fun _ => true) held 24 v d p) :
    ∃ k : AskD, v = .agg #[.int .u8 k.s, .int .i64 k.y, .int .i64 k.w, .int .i64 k.h, .int .i64 k.a, .int .i64 k.b] ∧ 0 ≤ k.s ∧ k.s ≤ 255 := by
  obtain ⟨cs, rfl, hl, hok⟩ := open_val 5 [.int .u8, .int .i64, .int .i64, .int .i64, .int .i64, .int .i64] Try.underlying24 (by kernel_rfl) hv h
  match cs, hl with
  | [c0, c1, c2, c3, c4, c5], _ =>
    obtain ⟨x0, rfl, h0⟩ := hok 0 (by simp) (by simp)
    obtain ⟨x1, rfl, _⟩ := hok 1 (by simp) (by simp)
    obtain ⟨x2, rfl, _⟩ := hok 2 (by simp) (by simp)
    obtain ⟨x3, rfl, _⟩ := hok 3 (by simp) (by simp)
    obtain ⟨x4, rfl, _⟩ := hok 4 (by simp) (by simp)
    obtain ⟨x5, rfl, _⟩ := hok 5 (by simp) (by simp)
    exact ⟨⟨x0, x1, x2, x3, x4, x5⟩, rfl, u8_of h0⟩
theorem open_struct_val_41 {H : Type} {enc : TypeId × Value → H} {w : World} {held : Bool} {v : Value} {d : DataW H} {p : List MemPlace} {B : Nat}
    (hv : Value.okWide Try.prog w .any B 41 v) (h : DataW.Trod enc Try.prog w 0 (fun _ => true) held 41 v d p) :
    ∃ k : Siz, v = .agg #[.bool k.right, .int .u16 k.w, .int .u16 k.h, .int .u16 k.y] ∧ SizOk k := by
  obtain ⟨cs, rfl, hl, hok⟩ := open_val 5 [.bool, .int .u16, .int .u16, .int .u16] Try.underlying41 (by kernel_rfl) hv h
  match cs, hl with
  | [c0, c1, c2, c3], _ =>
    obtain ⟨x0, rfl⟩ := hok 0 (by simp) (by simp)
    obtain ⟨x1, rfl, h1⟩ := hok 1 (by simp) (by simp)
    obtain ⟨x2, rfl, h2⟩ := hok 2 (by simp) (by simp)
    obtain ⟨x3, rfl, h3⟩ := hok 3 (by simp) (by simp)
    exact ⟨⟨x0, x1, x2, x3⟩, rfl, u16_of h1, u16_of h2, u16_of h3⟩
end Go.Proofs.Ytdckhheinpfbjaa
