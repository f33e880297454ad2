/- Field k's take, any kind. -/
import Derived.Test.YtmngndmcidbakaaYV
namespace Go.Proofs.Ytmngndmcidbakaa
open Go.RowKit
theorem gof_set {L : List (List Int)} {k : Nat} (v : List Int) (hk : k < L.length) (k' j : Nat) : gof (L.set k v) k' j = if k' = k then v.getD j 0 else gof L k' j := by
  unfold gof
  by_cases h : k' = k
  · subst h; simp [hk]
  · have e : (L.set k v).getD k' [] = L.getD k' [] := by rw [List.getD_eq_getElem?_getD, List.getElem?_set, if_neg (fun e => h e.symm), List.getD_eq_getElem?_getD]
    rw [e, if_neg h]
theorem OF_only : ∀ i, i < 43 → kd (OF.getD i (0, 0)).1 ≠ 4 → i = off (OF.getD i (0, 0)).1 := by decide
theorem OF_only4 : ∀ i, i < 43 → kd (OF.getD i (0, 0)).1 = 4 → (i = off (OF.getD i (0, 0)).1 ∧ (OF.getD i (0, 0)).2 = 0) ∨ (i = off (OF.getD i (0, 0)).1 + 1 ∧ (OF.getD i (0, 0)).2 = 1) := by decide
theorem SC_put {L : List (List Int)} {uv : Value} {k : Nat} (v : List Int) (hk : k < 32) (hL : L.length = 32) (h4 : kd k ≠ 4) (h5 : kd k ≠ 5) : (SC (gof L) uv).set (off k) (cv (kd k) 0 (v.getD 0 0) uv) = SC (gof (L.set k v)) uv := by
  apply List.ext_getElem?
  intro i
  unfold SC
  rw [List.getElem?_set, List.getElem?_map, List.getElem?_map]
  by_cases hi : off k = i
  · subst hi
    have hlt := (List.getElem?_eq_some_iff.1 (OF_off k hk)).1
    rw [if_pos rfl, if_pos (by simpa using hlt), OF_off k hk]
    simp [gof_set v (by omega : k < L.length)]
  · rw [if_neg hi]
    cases e : OF[i]? with
    | none => rfl
    | some p =>
      obtain ⟨k', j'⟩ := p
      have hlt : i < 43 := (List.getElem?_eq_some_iff.1 e).1
      have hg : OF.getD i (0, 0) = (k', j') := by rw [List.getD_eq_getElem?_getD, e]; rfl
      have hne : k' ≠ k := by
        rintro rfl
        have := OF_only i hlt (by rw [hg]; exact h4)
        rw [hg] at this
        exact hi this.symm
      simp [gof_set v (by omega : k < L.length), hne]
theorem SC_put4 {L : List (List Int)} {uv : Value} {k : Nat} (v : List Int) (hk : k < 32) (hL : L.length = 32) (h4 : kd k = 4) : ((SC (gof L) uv).set (off k) (.int .u8 (v.getD 0 0))).set (off k + 1) (.int .i64 (v.getD 1 0)) = SC (gof (L.set k v)) uv := by
  apply List.ext_getElem?
  intro i
  unfold SC
  rw [List.getElem?_set, List.getElem?_set, List.getElem?_map, List.getElem?_map]
  have hlt1 := (List.getElem?_eq_some_iff.1 (OF_off1 k hk h4)).1
  have hlt := (List.getElem?_eq_some_iff.1 (OF_off k hk)).1
  by_cases h1 : off k + 1 = i
  · subst h1
    rw [if_pos rfl, if_pos (by simpa using hlt1), OF_off1 k hk h4]
    simp [gof_set v (by omega : k < L.length), h4, cv]
  · rw [if_neg h1]
    by_cases hi : off k = i
    · subst hi
      rw [if_pos rfl, if_pos (by simpa using hlt), OF_off k hk]
      simp [gof_set v (by omega : k < L.length), h4, cv]
    · rw [if_neg hi]
      cases e : OF[i]? with
      | none => rfl
      | some p =>
        obtain ⟨k', j'⟩ := p
        have hlti : i < 43 := (List.getElem?_eq_some_iff.1 e).1
        have hg : OF.getD i (0, 0) = (k', j') := by rw [List.getD_eq_getElem?_getD, e]; rfl
        have hne : k' ≠ k := by
          rintro rfl
          rcases OF_only4 i hlti (by rw [hg]; exact h4) with ⟨h, _⟩ | ⟨h, _⟩ <;> rw [hg] at h
          · exact hi h.symm
          · exact h1 h.symm
        simp [gof_set v (by omega : k < L.length), hne]
theorem SC_put5 {L : List (List Int)} {uv : Value} (v : List Int) (hL : L.length = 32) : SC (gof (L.set 31 v)) uv = SC (gof L) uv := by
  apply List.ext_getElem?
  intro i
  unfold SC
  rw [List.getElem?_map, List.getElem?_map]
  cases e : OF[i]? with
  | none => rfl
  | some p =>
    obtain ⟨k', j'⟩ := p
    by_cases h : k' = 31
    · subst h; simp [cv, show kd 31 = 5 from rfl]
    · simp [gof_set v (by omega : 31 < L.length), h]
/-- What field k's take does at a style. -/
def TF (W0 : World) (rb : Nat) (ra : Option Addr) (rc : Nat) (b : List Int) (sb : Nat) (L : List (List Int)) (k : Nat) (W : World) (o : Option (List Int × List Int)) (r : Ending) (w' : World) : Prop :=
  match o with
  | some (v, q) => r = .returned (.tuple #[]) ∧ Rd W0 w' rb ra rc b q ∧ Foot [rb, sb] W w' ∧ ∃ uv, Blk w' sb 49 (SC (gof (L.set k v)) uv).toArray ∧ UO w' W.heap.size uv ((L.set k v).getD 31 []) ∧ (k < 31 → uv = .slice none 0 0)
  | none => r = .panicked CH ∧ Below W0.heap.size W0 w'
theorem getD_set_ne {L : List (List Int)} {k : Nat} (v : List Int) (h : k < 31) : (L.set k v).getD 31 [] = L.getD 31 [] := by
  rw [List.getD_eq_getElem?_getD, List.getElem?_set, if_neg (by omega), List.getD_eq_getElem?_getD]
theorem TF.of_tk {W0 W : World} {rb rc sb k : Nat} {ra : Option Addr} {b : List Int} {L : List (List Int)} {o : Option (List Int × List Int)} {f : List Int → Array Value} {r : Ending} {w' : World} (hk : k < 31) (h31 : L.getD 31 [] = []) (h : TK W0 rb ra rc b sb W (o.map fun p => (f p.1, p.2)) r w')
    (hf : ∀ v q, o = some (v, q) → f v = (SC (gof (L.set k v)) (.slice none 0 0)).toArray) : TF W0 rb ra rc b sb L k W o r w' := by
  cases o with
  | none => exact h
  | some p =>
    obtain ⟨v, q⟩ := p
    obtain ⟨h1, h2, h3, h4⟩ := h
    rw [hf v q rfl] at h3
    refine ⟨h1, h2, h4, _, h3, ?_, fun _ => rfl⟩
    rw [getD_set_ne v hk, h31]
    exact World.ownsRow_nil _ _ _ _
theorem kd31 : ∀ k, k < 32 → kd k ≠ 5 → k < 31 := by decide
theorem field_take {W0 W : World} {rb rc sb B k : Nat} {ra : Option Addr} {b rest : List Int} {v0 v1 v2 : Value} {L : List (List Int)} (hk : k < 32) (hf : FV W B (kd k, off k) [v0, v1, v2]) (h : Rd W0 W rb ra rc b rest) (hs : Blk W sb 49 (SC (gof L) (.slice none 0 0)).toArray) (hb : W0.heap.size ≤ sb) (hne : sb ≠ rb) (hL : L.length = 32) (h31 : L.getD 31 [] = []) :
    Fn1 v2 fun K caps => Calls Try.prog K (#[.pointer (some ⟨rb, 0, none⟩), .pointer (some ⟨sb, 0, none⟩)] ++ caps) W (TF W0 rb ra rc b sb L k W (decF (kd k) rest)) := by
  have c0 := SC_off (gof L) (.slice none 0 0) hk
  rcases kd_six k hk with e | e | e | e | ⟨e, e'⟩ | ⟨e, e', rfl⟩
  · have hk1 := kd31 k hk (by omega)
    have hp := fun v => SC_put (uv := .slice none 0 0) v hk hL (by omega) (by omega)
    rw [e] at hf c0 hp ⊢
    unfold FV at hf
    obtain ⟨g, hg, hl⟩ := hf
    simp only [List.cons.injEq, and_true] at hl
    obtain ⟨rfl, rfl, rfl⟩ := hl
    refine ⟨66, #[.pointer (some ⟨g, 0, none⟩)], rfl, enters_of Try.func66 (by kernel_rfl) rfl, ?_⟩
    refine (flag_take h hs hb hne hg (by simpa [cv] using c0)).mono fun r w' ht => ?_
    refine TF.of_tk (f := fun v => ((SC (gof L) (.slice none 0 0)).toArray.setIfInBounds (off k) (.bool true))) hk1 h31 (o := some ([1], rest)) ht fun v q he => ?_
    simp only [Option.some.injEq, Prod.mk.injEq] at he
    obtain ⟨rfl, rfl⟩ := he
    rw [List.setIfInBounds_toArray, ← hp]
    rfl
  · have hk1 := kd31 k hk (by omega)
    have hp := fun v => SC_put (uv := .slice none 0 0) v hk hL (by omega) (by omega)
    rw [e] at hf c0 hp ⊢
    unfold FV at hf
    obtain ⟨g, hg, hl⟩ := hf
    simp only [List.cons.injEq, and_true] at hl
    obtain ⟨rfl, rfl, rfl⟩ := hl
    refine ⟨69, #[.pointer (some ⟨g, 0, none⟩)], rfl, enters_of Try.func69 (by kernel_rfl) rfl, ?_⟩
    refine (small_take h hs hb hne hg (by simpa [cv] using c0)).mono fun r w' ht => ?_
    refine TF.of_tk (f := fun v => ((SC (gof L) (.slice none 0 0)).toArray.setIfInBounds (off k) (.int .u8 (v.getD 0 0)))) hk1 h31 ht fun v q he => ?_
    rw [List.setIfInBounds_toArray, ← hp]
    rfl
  · have hk1 := kd31 k hk (by omega)
    have hp := fun v => SC_put (uv := .slice none 0 0) v hk hL (by omega) (by omega)
    rw [e] at hf c0 hp ⊢
    unfold FV at hf
    obtain ⟨g, hg, hl⟩ := hf
    simp only [List.cons.injEq, and_true] at hl
    obtain ⟨rfl, rfl, rfl⟩ := hl
    refine ⟨73, #[.pointer (some ⟨g, 0, none⟩)], rfl, enters_of Try.func73 (by kernel_rfl) rfl, ?_⟩
    refine (great_take h hs hb hne hg (by simpa [cv] using c0)).mono fun r w' ht => ?_
    refine TF.of_tk (f := fun v => ((SC (gof L) (.slice none 0 0)).toArray.setIfInBounds (off k) (.int .i64 (v.getD 0 0)))) hk1 h31 ht fun v q he => ?_
    rw [List.setIfInBounds_toArray, ← hp]
    rfl
  · have hk1 := kd31 k hk (by omega)
    have hp := fun v => SC_put4 (uv := .slice none 0 0) v hk hL e
    have c1 := SC_off1 (gof L) (.slice none 0 0) hk e
    rw [e] at hf c0 ⊢
    unfold FV at hf
    obtain ⟨g, hg, hl⟩ := hf
    simp only [List.cons.injEq, and_true] at hl
    obtain ⟨rfl, rfl, rfl⟩ := hl
    refine ⟨79, #[.pointer (some ⟨g, 0, none⟩)], rfl, enters_of Try.func79 (by kernel_rfl) rfl, ?_⟩
    refine (length_take h hs hb hne hg (by simpa [cv] using c0) (by simpa using c1)).mono fun r w' ht => ?_
    refine TF.of_tk (f := fun v => (((SC (gof L) (.slice none 0 0)).toArray.setIfInBounds (off k) (.int .u8 (v.getD 0 0))).setIfInBounds (off k + 1) (.int .i64 (v.getD 1 0)))) hk1 h31 ht fun v q he => ?_
    rw [List.setIfInBounds_toArray, List.setIfInBounds_toArray, hp]
  · have hk1 := kd31 k hk (by omega)
    have hp := fun v => SC_put (uv := .slice none 0 0) v hk hL (by omega) (by omega)
    rw [e, e'] at hf c0 hp
    rw [e]
    unfold FV at hf
    simp only [List.cons.injEq, and_true] at hf
    obtain ⟨rfl, rfl, rfl⟩ := hf
    refine ⟨76, #[], rfl, enters_of Try.func76 (by kernel_rfl) rfl, ?_⟩
    refine (order_take h hs hb hne (by simpa [cv] using c0)).mono fun r w' ht => ?_
    refine TF.of_tk (f := fun v => ((SC (gof L) (.slice none 0 0)).toArray.setIfInBounds 37 (.int .i64 (v.getD 0 0)))) hk1 h31 ht fun v q he => ?_
    rw [List.setIfInBounds_toArray, ← hp]
    rfl
  · rw [e] at hf ⊢
    unfold FV at hf
    simp only [List.cons.injEq, and_true] at hf
    obtain ⟨rfl, rfl, rfl⟩ := hf
    refine ⟨82, #[], rfl, enters_of Try.func82 (by kernel_rfl) rfl, ?_⟩
    refine (units_take h hs hb hne (by rw [List.getElem?_toArray]; rfl)).mono fun r w' ht => ?_
    cases ho : decF 5 rest with
    | none => rw [ho] at ht; exact ht
    | some p =>
      obtain ⟨v, q⟩ := p
      rw [ho] at ht
      obtain ⟨h1, h2, h3, uv, h4, h5⟩ := ht
      refine ⟨h1, h2, h3, uv, ?_, ?_, fun h => absurd h (by omega)⟩
      · rw [SC_put5 v hL, ← SC_units (uv := .slice none 0 0) uv, ← List.setIfInBounds_toArray]
        exact h4
      · rw [List.getD_eq_getElem?_getD, List.getElem?_set, if_pos rfl, if_pos (by omega)]
        exact h5
end Go.Proofs.Ytmngndmcidbakaa
