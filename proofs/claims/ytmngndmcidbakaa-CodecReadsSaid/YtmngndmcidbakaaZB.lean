/- Walk: Read: the doors. -/
import Derived.Test.YtmngndmcidbakaaZA
namespace Go.Proofs.Ytmngndmcidbakaa
open Go.RowKit
/-- What Read gives. -/
def RDP (w : World) (o : Option Tr) (r : Ending) (w' : World) : Prop :=
  Below w.heap.size w w' ∧ match o with
  | some T => ∃ v, r = .returned (.tuple #[v, .int .i64 0]) ∧ TrV w' v T
  | none => r = .returned (.tuple #[.agg #[.slice none 0 0, .slice none 0 0, .int .i64 0], .int .i64 5])
theorem below_fresh {a w w' : World} {fs : List Nat} (h : Below a.heap.size a w) (hf : Foot fs w w') (hs : ∀ x ∈ fs, a.heap.size ≤ x) : Below a.heap.size a w' := below_foot h hf hs
theorem door_panic {w wX : World} {t1 t2 t3 : Value} {tmps : Array Value} {o : Option Tr} (ho : o = none) (hk : PE w wX #[t1, t2, t3]) (h2 : tmps.getD 2 undef = .pointer (some ⟨w.heap.size, 0, none⟩)) (h3 : tmps.getD 3 undef = .pointer (some ⟨w.heap.size + 1, 0, none⟩)) :
    bodyPostD Try.prog Try.f18 (RDP w o) (.panic CH) { tmps := tmps, defers := [{ target := .fn (.func 24) #[.pointer (some ⟨w.heap.size, 0, none⟩), .pointer (some ⟨w.heap.size + 1, 0, none⟩)], args := #[] }] } wX := by
  subst ho
  have h2 : tmps[2]?.getD undef = .pointer (some ⟨w.heap.size, 0, none⟩) := by simpa using h2
  have h3 : tmps[3]?.getD undef = .pointer (some ⟨w.heap.size + 1, 0, none⟩) := by simpa using h3
  refine leaves_cons (f := 24) (args := #[.pointer (some ⟨w.heap.size, 0, none⟩), .pointer (some ⟨w.heap.size + 1, 0, none⟩)]) (by simp) (by simp [go_sem]) ?_
  refine (catch_panicking w.heap.size (w.heap.size + 1) _ _ [] _ _ _ _ _ hk.1 hk.2.1 (by simp)).mono ?_
  rintro e u' w3 ⟨rfl, rfl, hB3, hE3, hF3⟩
  have x0 : w3.cell? ⟨w.heap.size, 0, none⟩ = some (.slice none 0 0) := hB3.cell 0
  have x1 : w3.cell? ⟨w.heap.size, 1, none⟩ = some (.slice none 0 0) := hB3.cell 1
  have x2 : w3.cell? ⟨w.heap.size, 2, none⟩ = some (.int .i64 0) := hB3.cell 2
  have x3 : w3.cell? ⟨w.heap.size + 1, 0, none⟩ = some (.int .i64 5) := hE3.cell 0
  have hbel : Below w.heap.size w w3 := below_foot hk.2.2 hF3 (by simp)
  simp [Leaves, settle, results, Try.results24, Try.results18, go_sem, h2, h3, x0, x1, x2, x3]
  exact ⟨hbel, rfl⟩
theorem door_ret {w wX : World} {t1 t2 t3 : Value} {tmps : Array Value} {o : Option Tr} {T : Tr} (ho : o = some T) (hk : PE w wX #[t1, t2, t3]) (hT : TrV wX (.agg #[t1, t2, t3]) T) (h2 : tmps.getD 2 undef = .pointer (some ⟨w.heap.size, 0, none⟩)) (h3 : tmps.getD 3 undef = .pointer (some ⟨w.heap.size + 1, 0, none⟩)) :
    bodyPostD Try.prog Try.f18 (RDP w o) .ret { tmps := tmps, defers := [{ target := .fn (.func 24) #[.pointer (some ⟨w.heap.size, 0, none⟩), .pointer (some ⟨w.heap.size + 1, 0, none⟩)], args := #[] }] } wX := by
  subst ho
  have h2 : tmps[2]?.getD undef = .pointer (some ⟨w.heap.size, 0, none⟩) := by simpa using h2
  have h3 : tmps[3]?.getD undef = .pointer (some ⟨w.heap.size + 1, 0, none⟩) := by simpa using h3
  refine leaves_cons (f := 24) (args := #[.pointer (some ⟨w.heap.size, 0, none⟩), .pointer (some ⟨w.heap.size + 1, 0, none⟩)]) (by simp) (by simp [go_sem]) ?_
  refine (catch_idle w.heap.size (w.heap.size + 1) wX).mono ?_
  rintro e u' w3 ⟨rfl, rfl, rfl⟩
  have x0 : w3.cell? ⟨w.heap.size, 0, none⟩ = some t1 := hk.1.cell 0
  have x1 : w3.cell? ⟨w.heap.size, 1, none⟩ = some t2 := hk.1.cell 1
  have x2 : w3.cell? ⟨w.heap.size, 2, none⟩ = some t3 := hk.1.cell 2
  have x3 : w3.cell? ⟨w.heap.size + 1, 0, none⟩ = some (.int .i64 0) := hk.2.1.cell 0
  simp [Leaves, settle, results, Try.results24, Try.results18, go_sem, h2, h3, x0, x1, x2, x3]
  exact ⟨hk.2.2, _, rfl, hT⟩
end Go.Proofs.Ytmngndmcidbakaa
