/- Nodes in a row of their own. -/
import Derived.Test.YtmngndmcidbakaaZB
namespace Go.Proofs.Ytmngndmcidbakaa
open Go.RowKit
def NL (W : World) (B : Nat) : List Nd → List (List Value) → Prop
  | [], [] => True
  | n :: ns, l :: ls => (∃ uv, l = ncell n uv ∧ UO W B uv (n.2.getD 31 [])) ∧ NL W B ns ls
  | _, _ => False
theorem NL.keeps {W W' : World} {B : Nat} (hk : Keeps W W') : ∀ {ns : List Nd} {ls : List (List Value)}, NL W B ns ls → NL W' B ns ls
  | [], [], _ => trivial
  | _ :: _, _ :: _, ⟨⟨uv, h1, h2⟩, h3⟩ => ⟨⟨uv, h1, h2.keeps hk⟩, NL.keeps hk h3⟩
  | [], _ :: _, h => h.elim
  | _ :: _, [], h => h.elim
theorem NL.app {W : World} {B : Nat} : ∀ {ns ns' : List Nd} {ls ls' : List (List Value)}, NL W B ns ls → NL W B ns' ls' → NL W B (ns ++ ns') (ls ++ ls')
  | [], _, [], _, _, h => h
  | _ :: _, _, _ :: _, _, ⟨h1, h2⟩, h => ⟨h1, NL.app h2 h⟩
  | [], _, _ :: _, _, h, _ => h.elim
  | _ :: _, _, [], _, h, _ => h.elim
theorem NL.len {W : World} {B : Nat} : ∀ {ns : List Nd} {ls : List (List Value)}, NL W B ns ls → ls.length = ns.length
  | [], [], _ => rfl
  | _ :: _, _ :: _, ⟨_, h⟩ => by simp [NL.len h]
  | [], _ :: _, h => h.elim
  | _ :: _, [], h => h.elim
theorem NL.get {W : World} {B : Nat} : ∀ {ns : List Nd} {ls : List (List Value)}, NL W B ns ls → ∀ i (h : i < ns.length) (h' : i < ls.length), ∃ uv, ls[i] = ncell ns[i] uv ∧ UO W B uv (ns[i].2.getD 31 [])
  | _ :: _, _ :: _, ⟨h, _⟩, 0, _, _ => h
  | _ :: _, _ :: _, ⟨_, h⟩, i + 1, h1, h2 => NL.get h i (by simpa using h1) (by simpa using h2)
  | [], _, _, _, h, _ => absurd h (by simp)
  | _ :: _, [], h, _, _, _ => h.elim
theorem ncell_len (n : Nd) (uv : Value) : (ncell n uv).length = 44 := rfl
theorem NL.each {W : World} {B : Nat} : ∀ {ns : List Nd} {ls : List (List Value)}, NL W B ns ls → ∀ l ∈ ls, l.length = 44
  | _ :: _, _ :: _, ⟨⟨uv, h, _⟩, h2⟩, l, hl => by
    rcases List.mem_cons.1 hl with rfl | hl
    · rw [h]; rfl
    · exact NL.each h2 l hl
  | [], [], _, l, hl => absurd hl (by simp)
  | [], _ :: _, h, _, _ => h.elim
  | _ :: _, [], h, _, _ => h.elim
theorem UO.ur {W : World} {B : Nat} {uv : Value} {us : List Int} (h : UO W B uv us) : UR W uv us := by
  obtain ⟨a, cap, h1, h2, h3, h4, h5⟩ := own_row h
  exact ⟨a, cap, h1, h5, h2, h3⟩
/-- The nodes lie in a row of their own. -/
def NO (W : World) (B : Nat) (v : Value) (ns : List Nd) : Prop := ∃ ls, NL W B ns ls ∧ W.ownsRow B 51 44 v ns.length ls.flatten
theorem NO.foot {W W' : World} {B : Nat} {v : Value} {ns : List Nd} {fs : List Nat} (h : NO W B v ns) (hf : Foot fs W W') (hk : Keeps W W') (hn : ∀ k, v.ownBlock = some k → k ∉ fs) : NO W' B v ns := by
  obtain ⟨ls, h1, h2⟩ := h
  exact ⟨ls, h1.keeps hk, own_foot h2 hf hn⟩
theorem NO.below {W W' : World} {B : Nat} {v : Value} {ns : List Nd} (h : NO W B v ns) (hb : Below W.heap.size W W') : NO W' B v ns := h.foot (Foot.of_below [] hb) (Keeps.of_below hb) (by simp)
theorem NO.row {W : World} {B : Nat} {v : Value} {ns : List Nd} (h : NO W B v ns) : ∃ a cap, v = .slice a ns.length cap ∧ NRow W a ns ∧ ns.length ≤ cap ∧ cap ≤ maxLen := by
  obtain ⟨ls, h1, h2⟩ := h
  have hlen := h1.len
  obtain ⟨a, cap, e, h3, h4, _, h5, _⟩ := own_rowS h1.each (by decide) h2
  refine ⟨a, cap, e, ⟨by unfold maxLen at h4; omega, fun hp => ?_⟩, h3, h4⟩
  obtain ⟨b, o, ha, hb, hc⟩ := h5.2 (by omega)
  refine ⟨b, o, ha, hb, fun i hi => ?_⟩
  have hil : i < ls.length := by omega
  obtain ⟨uv, hq, hu⟩ := h1.get i hi hil
  have hcell : ∀ j v', (ncell ns[i] uv)[j]? = some v' → W.cell? ⟨b, o + i * 44 + j, none⟩ = some v' := fun j v' hv => by
    obtain ⟨hj, hv⟩ := List.getElem?_eq_some_iff.1 hv
    have := hc i hil j (by rw [hq]; exact hj)
    rw [this, ← hv]
    congr 1
    simp [hq]
  refine ⟨hcell 0 _ rfl, hb, uv, fun j hj => ?_, hu.ur⟩
  have hjl : j < (SC (gof ns[i].2) uv).length := hj
  rw [List.getElem?_eq_getElem hjl, show o + i * 44 + 1 + j = o + i * 44 + (j + 1) from by omega]
  exact hcell (j + 1) _ (by unfold ncell; rw [List.getElem?_cons_succ, List.getElem?_eq_getElem hjl])
theorem there_blk {w : World} {g : Nat} {t : TypeId} {cs : Array Value} (h : Blk w g t cs) {o n : Nat} (hn : o + n ≤ cs.size) : w.there g o n := fun j hj => by
  rw [h.cell, Array.getElem?_eq_getElem (by omega)]
  exact ⟨rfl, h.frozen _⟩
theorem Foot.setCells {fs : List Nat} {a : World} {g : Nat} (hg : g ∈ fs ∨ a.heap.size ≤ g) : ∀ (vs : List Value) (o : Nat) (w : World), Foot fs a w → Foot fs a (w.setCells g o vs)
  | [], _, _, h => h
  | v :: vs, o, w, h => by
    rw [World.setCells]
    exact Foot.setCells hg vs (o + 1) _ (h.setCell (p := ⟨g, o, none⟩) hg v)
/-- A node's block, once its style has come in. -/
theorem node_range {w : World} {g : Nat} {t : TypeId} {cs : Array Value} {pa : Int} {L : List (List Int)} {uv : Value} (h : Blk w g t cs) (h0 : cs[0]? = some (.int .i64 pa)) (hs : cs.size = 44) :
    (w.setCells g 1 (SC (gof L) uv)).rangeAt g 0 (ncell (pa, L) uv) := by
  intro j v hv
  cases j with
  | zero =>
    rw [World.cell?_setCells_out g _ 1 w ⟨g, 0 + 0, none⟩ (fun _ _ => .inl (by simp))]
    rw [h.cell, h0]
    exact hv
  | succ j =>
    have hv : (SC (gof L) uv)[j]? = some v := hv
    obtain ⟨hj, hv⟩ := List.getElem?_eq_some_iff.1 hv
    have hj' : j < 43 := hj
    have := World.cell?_setCells_in g (SC (gof L) uv) 1 w (fun i hi => by
      have hi' : i < 43 := hi
      rw [h.cell, Array.getElem?_eq_getElem (by omega)]; rfl) j hj
    rw [show 0 + (j + 1) = 1 + j from by omega, this, hv]
theorem ncell_one (n : Nd) {uv : Value} (h : uv.oneCell' = true) : ∀ v ∈ ncell n uv, v.oneCell' = true := by
  intro v hv
  rcases List.mem_cons.1 hv with rfl | hv
  · rfl
  · exact Array.all_eq_true_iff_forall_mem.1 (SC_one (gof n.2) h) v (by simpa using hv)
theorem nd_size (n : Nd) (uv : Value) : (Try.prog.info? 51).map (·.size) = some (ncell n uv).length := by
  have h : (Try.prog.info? 51).map (·.size) = some 44 := by kernel_rfl
  exact h
end Go.Proofs.Ytmngndmcidbakaa
