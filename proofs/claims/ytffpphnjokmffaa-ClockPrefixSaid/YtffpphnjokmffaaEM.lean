/- The plain law of ClockPrefix. -/
import Derived.Test.YtffpphnjokmffaaEE
namespace Go.Proofs.Ytffpphnjokmffaa
open Go.RowKit Go.Maps

theorem gl_take {l : List Ev} {k i : Nat} (h : i < k) : gl (l.take k) i = gl l i := by
  unfold gl
  rw [List.getD_eq_getElem?_getD, List.getD_eq_getElem?_getD, List.getElem?_take, if_pos h]
theorem stamp_take {l : List Ev} {k j : Nat} (h : j < k) (w : Int) : stamp (gl (l.take k)) j w = stamp (gl l) j w := stamp_congr w j (fun i hi => gl_take (by omega))
theorem racy_take {l : List Ev} {k i j : Nat} (h : j < k) : Racy (gl (l.take k)) i j ↔ Racy (gl l) i j := racy_congr (fun i hi => gl_take (by omega))
theorem pre_race {l : List Ev} {k a b c d : Nat} {is so : Bool} (hk : k ≤ l.length) (h : RaceIs (gl l) l.length a b is) (h' : RaceIs (gl (l.take k)) k c d so) : (so = true → is = true ∧ a = c ∧ b = d) ∧ (is = true → b < k → so = true) := by
  refine ⟨fun hs => ?_, fun hi hb => ?_⟩
  · rcases h' with ⟨_, h1, h2, h3, h4⟩ | ⟨h0, _⟩
    · have hr : RaceIs (gl l) l.length c d true := .inl ⟨rfl, by omega, (racy_take h1).1 h2, fun j' hj i' hr => h3 j' hj i' ((racy_take (by omega)).2 hr), fun i' hi hr => h4 i' hi ((racy_take h1).2 hr)⟩
      obtain ⟨e1, e2, e3⟩ := h.uniq hr
      exact ⟨e3, e1, e2⟩
    · rw [hs] at h0; cases h0
  · rcases h' with ⟨h0, _⟩ | ⟨_, _, _, h4⟩
    · exact h0
    · rcases h with ⟨_, _, h2, _⟩ | ⟨h0, _⟩
      · exact absurd ((racy_take hb).2 h2) (h4 b hb a)
      · rw [hi] at h0; cases h0
theorem LogOk.take {n : Int} {l : List Ev} {k : Nat} (h : LogOk n l) : LogOk n (l.take k) := ⟨h.nb, by have := h.lb; rw [List.length_take]; omega, fun x hx => h.ev x (List.mem_of_mem_take hx)⟩
theorem ERow.take {w : World} {a : Option Addr} {l : List Ev} {k : Nat} (h : ERow w a l) : ERow w a (l.take k) := by
  refine ⟨by have := h.len; rw [List.length_map, List.length_take]; omega, fun hp => ?_⟩
  have hp2 : 0 < (l.map ecell).length := by rw [List.length_map, List.length_take] at hp; rw [List.length_map]; omega
  obtain ⟨b, off, ha, hb, hc⟩ := h.2 hp2
  refine ⟨b, off, ha, hb, fun i hi j hj => ?_⟩
  simp only [List.map_take, List.getElem_take] at hi hj ⊢
  exact hc i (by rw [List.length_take] at hi; omega) j hj
end Go.Proofs.Ytffpphnjokmffaa
