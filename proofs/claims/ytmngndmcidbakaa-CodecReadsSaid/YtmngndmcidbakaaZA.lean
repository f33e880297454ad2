/- The state of Read: the reader, the tree's block, the error's block. -/
import Derived.Test.YtmngndmcidbakaaYY
import Derived.Deep.MidRow
namespace Go.Proofs.Ytmngndmcidbakaa
open Go.RowKit
structure RS (w W : World) (rb : Nat) (ra : Option Addr) (rc : Nat) (b : List Int) (c : Array Value) (rest : List Int) : Prop where
  ex : ∃ W0, Rd W0 W rb ra rc b rest ∧ Blk W0 w.heap.size 35 c ∧ Blk W0 (w.heap.size + 1) 25 #[.int .i64 0] ∧ Below w.heap.size w W0 ∧ W0.heap.size = w.heap.size + 2
  row : BRow w ra b
/-- Where Read has come to: the named results' blocks. -/
def PE (w w' : World) (c : Array Value) : Prop := Blk w' w.heap.size 35 c ∧ Blk w' (w.heap.size + 1) 25 #[.int .i64 0] ∧ Below w.heap.size w w'
section
variable {w W W' : World} {rb rc : Nat} {ra : Option Addr} {b rest : List Int} {c : Array Value}
theorem RS.pe (h : RS w W rb ra rc b c rest) : PE w W c := by
  obtain ⟨W0, h1, h2, h3, h4, h5⟩ := h.ex
  exact ⟨h2.below h1.bel h2.lt, h3.below h1.bel h3.lt, h4.trans (h1.bel.mono h4.size)⟩
theorem RS.rb_ge (h : RS w W rb ra rc b c rest) : w.heap.size + 2 ≤ rb := by
  obtain ⟨W0, h1, h2, h3, h4, h5⟩ := h.ex
  have := h1.ge; omega
theorem RS.rb_blk (h : RS w W rb ra rc b c rest) : Blk W rb 64 #[.slice ra b.length rc, .int .i64 ((b.length - rest.length : Nat) : Int)] := by
  obtain ⟨W0, h1, _⟩ := h.ex
  exact h1.blk
theorem RS.below (h : RS w W rb ra rc b c rest) (hb : Below W.heap.size W W') : RS w W' rb ra rc b c rest := by
  obtain ⟨W0, h1, h2, h3, h4, h5⟩ := h.ex
  exact ⟨⟨W0, h1.below hb, h2, h3, h4, h5⟩, h.row⟩
theorem RS.foot {fs : List Nat} (h : RS w W rb ra rc b c rest) (hf : Foot fs W W') (hs : ∀ x ∈ fs, w.heap.size + 2 ≤ x) (hn : rb ∉ fs) : RS w W' rb ra rc b c rest := by
  obtain ⟨W0, h1, h2, h3, h4, h5⟩ := h.ex
  exact ⟨⟨W0, h1.foot hf (fun x hx => by rw [h5]; exact hs x hx) hn, h2, h3, h4, h5⟩, h.row⟩
theorem RS.write (h : RS w W rb ra rc b c rest) (i : Nat) (v : Value) : RS w (W.setCell ⟨w.heap.size, i, none⟩ v) rb ra rc b (c.setIfInBounds i v) rest := by
  obtain ⟨W0, h1, h2, h3, h4, h5⟩ := h.ex
  have hrb := h1.ge
  have k4 : Below w.heap.size w (W0.setCell ⟨w.heap.size, i, none⟩ v) := h4.setCell (p := ⟨w.heap.size, i, none⟩) (Nat.le_refl _) v
  have hs0 : (W0.setCell ⟨w.heap.size, i, none⟩ v).heap.size = W0.heap.size := by simp [World.setCell]
  refine ⟨⟨W0.setCell ⟨w.heap.size, i, none⟩ v, ⟨h.row.below k4, ?_, ?_, by rw [hs0]; exact hrb, h1.suf, h1.bts, h1.len, h1.cap, h1.cap2⟩, h2.set_ i v, h3.far (p := ⟨w.heap.size, i, none⟩) (by simp) v, k4, by rw [hs0]; exact h5⟩, h.row⟩
  · rw [hs0]
    refine ⟨h1.bel.os, h1.bel.tape, h1.bel.output, by simpa [World.setCell] using h1.bel.size, fun k hk => ?_⟩
    simp only [World.setCell, Array.getElem?_modify]
    rw [h1.bel.block k hk]
  · exact h1.blk.far (p := ⟨w.heap.size, i, none⟩) (by simp; omega) v
end
/-- What a reader's function does in Read. -/
def RQ {α : Type} (w : World) (rb : Nat) (ra : Option Addr) (rc : Nat) (b : List Int) (c : Array Value) (W : World) (o : Option (α × List Int)) (val : α → Value) (r : Ending) (w' : World) : Prop :=
  match o with
  | some (x, rest) => r = .returned (val x) ∧ RS w w' rb ra rc b c rest ∧ Foot [rb] W w'
  | none => r = .panicked CH ∧ PE w w' c
theorem rs_call {α : Type} {w W : World} {rb rc : Nat} {ra : Option Addr} {b rest : List Int} {c : Array Value} {o : Option (α × List Int)} {val : α → Value} {K : FuncId} {args : Array Value}
    (h : RS w W rb ra rc b c rest) (hc : ∀ W0, Rd W0 W rb ra rc b rest → Calls Try.prog K args W (RP W0 rb ra rc b W o val)) : Calls Try.prog K args W (RQ w rb ra rc b c W o val) := by
  obtain ⟨W0, h1, h2, h3, h4, h5⟩ := h.ex
  refine (hc W0 h1).mono fun r w' hr => ?_
  cases o with
  | none => exact ⟨hr.1, h2.below hr.2 h2.lt, h3.below hr.2 h3.lt, h4.trans (hr.2.mono h4.size)⟩
  | some p => exact ⟨hr.1, ⟨⟨W0, hr.2.1, h2, h3, h4, h5⟩, h.row⟩, hr.2.2⟩
/-- What the reader's style does in Read. -/
def SQ (w : World) (rb : Nat) (ra : Option Addr) (rc : Nat) (b : List Int) (c : Array Value) (W : World) (o : Option (List (List Int) × List Int)) (r : Ending) (w' : World) : Prop :=
  match o with
  | some (L, q) => L.length = 32 ∧ ∃ uv, r = .returned (.agg (SC (gof L) uv).toArray) ∧ RS w w' rb ra rc b c q ∧ Foot [rb] W w' ∧ UO w' W.heap.size uv (L.getD 31 [])
  | none => r = .panicked CH ∧ PE w w' c
theorem rs_style {w W : World} {rb rc B fc : Nat} {ra fa : Option Addr} {b rest : List Int} {c : Array Value} (h : RS w W rb ra rc b c rest) (hf : Fs W B fa fc) :
    Calls Try.prog 28 #[.pointer (some ⟨rb, 0, none⟩), .slice fa 32 fc] W (SQ w rb ra rc b c W (rdF KD 1 rest)) := by
  obtain ⟨W0, h1, h2, h3, h4, h5⟩ := h.ex
  refine (style_ok h1 hf).mono fun r w' hr => ?_
  cases e : rdF KD 1 rest with
  | none =>
    rw [e] at hr
    exact ⟨hr.1, h2.below hr.2 h2.lt, h3.below hr.2 h3.lt, h4.trans (hr.2.mono h4.size)⟩
  | some p =>
    rw [e] at hr
    obtain ⟨hl, uv, k1, k2, k3, k4⟩ := hr
    exact ⟨hl, uv, k1, ⟨⟨W0, k2, h2, h3, h4, h5⟩, h.row⟩, k3, k4⟩
theorem own_foot {W W' : World} {B : Nat} {e : TypeId} {sz n : Nat} {v : Value} {xs : List Value} {fs : List Nat} (h : W.ownsRow B e sz v n xs) (hf : Foot fs W W') (hn : ∀ k, v.ownBlock = some k → k ∉ fs) : W'.ownsRow B e sz v n xs := ⟨h.1, by
  rcases h.2 with h | ⟨g, cap', cur, e1, e2, e3, e4⟩
  · exact .inl h
  · exact .inr ⟨g, cap', cur, e1, e2, (hf.block g (heap_lt e3) (hn g (by rw [e1]; rfl))).trans e3, e4⟩⟩
/-- Advances in a row of their own. -/
def AO (W : World) (B : Nat) (v : Value) (xs : List Int) : Prop := W.ownsRow B 2 1 v xs.length (xs.map (.int .i64))
theorem AO.keeps {W W' : World} {B : Nat} {v : Value} {us : List Int} (h : AO W B v us) (hk : Keeps W W') : AO W' B v us := ⟨h.1, by
  rcases h.2 with h | ⟨g, cap', cur, e1, e2, e3, e4⟩
  · exact .inl h
  · exact .inr ⟨g, cap', cur, e1, e2, hk.2 _ _ _ _ e3 (by decide), e4⟩⟩
end Go.Proofs.Ytmngndmcidbakaa
