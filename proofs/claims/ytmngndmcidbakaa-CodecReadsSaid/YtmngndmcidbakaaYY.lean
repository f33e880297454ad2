/- Walk: the deferred function of Read. -/
import Derived.Test.YtmngndmcidbakaaYX
import Derived.Defers
import Derived.Recover
import Derived.Laws.Pointers
namespace Go.Proofs.Ytmngndmcidbakaa
open Go.RowKit
/-- What the deferred function leaves where the reader has panicked. -/
def CW (tb eb : Nat) (w w' : World) : Prop := Blk w' tb 35 #[.slice none 0 0, .slice none 0 0, .int .i64 0] ∧ Blk w' eb 25 #[.int .i64 5] ∧ Foot [tb, eb] w w'
theorem catch_panicking (tb eb : Nat) (u : TypeId) (pv : Value) (older : List PanicEntry) (w : World) (t1 t2 t3 e1 : Value) (ht : Blk w tb 35 #[t1, t2, t3]) (he : Blk w eb 25 #[e1]) (hne : tb ≠ eb) :
    CallsD Try.prog 24 #[.pointer (some ⟨tb, 0, none⟩), .pointer (some ⟨eb, 0, none⟩)] (.panicking ({ v := .iface u pv, recovered := false } :: older)) w fun e u' w' =>
      e = .returned (.tuple #[]) ∧ u' = .panicking ({ v := .iface u pv, recovered := true } :: older) ∧ CW tb eb w w' := by
  have c0 : w.cell? ⟨tb, 0, none⟩ = some t1 := ht.cell 0
  have c1 : w.cell? ⟨tb, 1, none⟩ = some t2 := ht.cell 1
  have c2 : w.cell? ⟨tb, 2, none⟩ = some t3 := ht.cell 2
  have c3 : w.cell? ⟨eb, 0, none⟩ = some e1 := he.cell 0
  have f0 := ht.frozen 0
  have f1 := ht.frozen 1
  have f2 := ht.frozen 2
  have f3 := he.frozen 0
  refine callsD_of_wpS Try.func24 rfl fun c₀ cs hu => ?_
  apply wpS_seq
  apply wpS_region
  simp [wpOpsS, go_sem, recoverD, hu, Try.ntmps24, Exit.thenS]
  refine wpS_cond (t := true) (by simp [Act.eval, Array.replicate]) ?_
  simp only [if_true]
  apply wpS_region
  simp [wpOpsS, go_sem, c0, c1, c2, c3, f0, f1, f2, f3, bodyPostS, results, Try.results24]
  refine ⟨?_, ?_, ?_⟩
  · have := (((ht.set_ 0 (.slice none 0 0)).set_ 1 (.slice none 0 0)).set_ 2 (.int .i64 0)).far (p := ⟨eb, 0, none⟩) hne (.int .i64 5)
    simpa using this
  · have := (((he.far (p := ⟨tb, 0, none⟩) (Ne.symm hne) (.slice none 0 0)).far (p := ⟨tb, 1, none⟩) (Ne.symm hne) (.slice none 0 0)).far (p := ⟨tb, 2, none⟩) (Ne.symm hne) (.int .i64 0)).set_ 0 (.int .i64 5)
    simpa using this
  · exact ((((Foot.refl [tb, eb] w).setCell (.inl (by simp)) _).setCell (.inl (by simp)) _).setCell (.inl (by simp)) _).setCell (.inl (by simp)) _
theorem catch_idle (tb eb : Nat) (w : World) :
    CallsD Try.prog 24 #[.pointer (some ⟨tb, 0, none⟩), .pointer (some ⟨eb, 0, none⟩)] .returning w fun e u' w' => e = .returned (.tuple #[]) ∧ u' = .returning ∧ w' = w := by
  refine callsD_of_wpS Try.func24 rfl fun c₀ cs hu => ?_
  apply wpS_seq
  apply wpS_region
  simp [wpOpsS, go_sem, recoverD, hu, Try.ntmps24, Exit.thenS]
  refine wpS_cond (t := false) (by simp [Act.eval, Array.replicate]) ?_
  simp only [Bool.false_eq_true, if_false]
  refine wpS_of_wp (wp_skip ?_)
  cases c₀
  simp_all [bodyPostS, results, Try.results24]
end Go.Proofs.Ytmngndmcidbakaa
