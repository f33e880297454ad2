/- Walk: the deferred function of Read. The state of Read: the reader, the tree's block, the error's block. Walk: Read: the doors. Nodes in a row of their own. A node as a slice literal. -/
import Derived.Test.YtmngndmcidbakaaYX
import Derived.Defers
import Derived.Recover
import Derived.Laws.Pointers
import Derived.Deep.MidRow
import Derived.Great.BuildSlice
namespace Go.Proofs.Ytmngndmcidbakaa
open Go.RowKit
/-- What the deferred function leaves where the reader has panicked. -/
def CW (tb eb : Nat) (w w' : World) : Prop := Blk w' tb 35 #[.slice none 0 0, .slice none 0 0, .int .i64 0] ∧ Blk w' eb 25 #[.int .i64 5] ∧ Foot [tb, eb] w w'
theorem catch_panicking (tb eb : Nat) (u : TypeId) (pv : Value) (older : List PanicEntry) (w : World) (t1 t2 t3 e1 : Value) (ht : Blk w tb 35 #[t1, t2, t3]) (he : Blk w eb 25 #[e1]) (hne : tb ≠ eb) :
    CallsD Try.prog 24 #[.pointer (some ⟨tb, 0, none⟩), .pointer (some ⟨eb, 0, none⟩)] (.panicking ({ v := .iface u pv, recovered := false } :: older)) w fun e u' w' =>
      e = .returned (.tuple #[]) ∧ u' = .panicking ({ v := .iface u pv, recovered := true } :: older) ∧ CW tb eb w w' := by
  have c0 : w.cell? ⟨tb, 0, none⟩ = some t1 := ht.cell 0
  have c1 : w.cell? ⟨tb, 1, none⟩ = some t2 := ht.cell 1
  have c2 : w.cell? ⟨tb, 2, none⟩ = some t3 := ht.cell 2
  have c3 : w.cell? ⟨eb, 0, none⟩ = some e1 := he.cell 0
  have f0 := ht.frozen 0
  have f1 := ht.frozen 1
  have f2 := ht.frozen 2
  have f3 := he.frozen 0
  refine callsD_of_wpS Try.func24 rfl fun c₀ cs hu => ?_
  apply wpS_seq
  apply wpS_region
  simp [wpOpsS, go_sem, recoverD, hu, Try.ntmps24, Exit.thenS]
  refine wpS_cond (t := true) (by simp [Act.eval, Array.replicate]) ?_
  simp only [if_true]
  apply wpS_region
  simp [wpOpsS, go_sem, c0, c1, c2, c3, f0, f1, f2, f3, bodyPostS, results, Try.results24]
  refine ⟨?_, ?_, ?_⟩
  · have := (((ht.set_ 0 (.slice none 0 0)).set_ 1 (.slice none 0 0)).set_ 2 (.int .i64 0)).far (p := ⟨eb, 0, none⟩) hne (.int .i64 5)
    simpa using this
  · have := (((he.far (p := ⟨tb, 0, none⟩) (Ne.symm hne) (.slice none 0 0)).far (p := ⟨tb, 1, none⟩) (Ne.symm hne) (.slice none 0 0)).far (p := ⟨tb, 2, none⟩) (Ne.symm hne) (.int .i64 0)).set_ 0 (.int .i64 5)
    simpa using this
  · exact ((((Foot.refl [tb, eb] w).setCell (.inl (by simp)) _).setCell (.inl (by simp)) _).setCell (.inl (by simp)) _).setCell (.inl (by simp)) _
theorem catch_idle (tb eb : Nat) (w : World) :
    CallsD Try.prog 24 #[.pointer (some ⟨tb, 0, none⟩), .pointer (some ⟨eb, 0, none⟩)] .returning w fun e u' w' => e = .returned (.tuple #[]) ∧ u' = .returning ∧ w' = w := by
  refine callsD_of_wpS Try.func24 rfl fun c₀ cs hu => ?_
  apply wpS_seq
  apply wpS_region
  simp [wpOpsS, go_sem, recoverD, hu, Try.ntmps24, Exit.thenS]
  refine wpS_cond (t := false) (by simp [Act.eval, Array.replicate]) ?_
  simp only [Bool.false_eq_true, if_false]
  refine wpS_of_wp (wp_skip ?_)
  cases c₀
  simp_all [bodyPostS, results, Try.results24]
structure RS (w W : World) (rb : Nat) (ra : Option Addr) (rc : Nat) (b : List Int) (c : Array Value) (rest : List Int) : Prop where
  ex : ∃ W0, Rd W0 W rb ra rc b rest ∧ Blk W0 w.heap.size 35 c ∧ Blk W0 (w.heap.size + 1) 25 #[.int .i64 0] ∧ Below w.heap.size w W0 ∧ W0.heap.size = w.heap.size + 2
  row : BRow w ra b
/-- Where Read has come to: the named results' blocks. -/
def PE (w w' : World) (c : Array Value) : Prop := Blk w' w.heap.size 35 c ∧ Blk w' (w.heap.size + 1) 25 #[.int .i64 0] ∧ Below w.heap.size w w'
section
variable {w W W' : World} {rb rc : Nat} {ra : Option Addr} {b rest : List Int} {c : Array Value}
theorem RS.pe (h : RS w W rb ra rc b c rest) : PE w W c := by
  obtain ⟨W0, h1, h2, h3, h4, h5⟩ := h.ex
  exact ⟨h2.below h1.bel h2.lt, h3.below h1.bel h3.lt, h4.trans (h1.bel.mono h4.size)⟩
theorem RS.rb_ge (h : RS w W rb ra rc b c rest) : w.heap.size + 2 ≤ rb := by
  obtain ⟨W0, h1, h2, h3, h4, h5⟩ := h.ex
  have := h1.ge; omega
theorem RS.rb_blk (h : RS w W rb ra rc b c rest) : Blk W rb 64 #[.slice ra b.length rc, .int .i64 ((b.length - rest.length : Nat) : Int)] := by
  obtain ⟨W0, h1, _⟩ := h.ex
  exact h1.blk
theorem RS.below (h : RS w W rb ra rc b c rest) (hb : Below W.heap.size W W') : RS w W' rb ra rc b c rest := by
  obtain ⟨W0, h1, h2, h3, h4, h5⟩ := h.ex
  exact ⟨⟨W0, h1.below hb, h2, h3, h4, h5⟩, h.row⟩
theorem RS.foot {fs : List Nat} (h : RS w W rb ra rc b c rest) (hf : Foot fs W W') (hs : ∀ x ∈ fs, w.heap.size + 2 ≤ x) (hn : rb ∉ fs) : RS w W' rb ra rc b c rest := by
  obtain ⟨W0, h1, h2, h3, h4, h5⟩ := h.ex
  exact ⟨⟨W0, h1.foot hf (fun x hx => by rw [h5]; exact hs x hx) hn, h2, h3, h4, h5⟩, h.row⟩
theorem RS.write (h : RS w W rb ra rc b c rest) (i : Nat) (v : Value) : RS w (W.setCell ⟨w.heap.size, i, none⟩ v) rb ra rc b (c.setIfInBounds i v) rest := by
  obtain ⟨W0, h1, h2, h3, h4, h5⟩ := h.ex
  have hrb := h1.ge
  have k4 : Below w.heap.size w (W0.setCell ⟨w.heap.size, i, none⟩ v) := h4.setCell (p := ⟨w.heap.size, i, none⟩) (Nat.le_refl _) v
  have hs0 : (W0.setCell ⟨w.heap.size, i, none⟩ v).heap.size = W0.heap.size := by simp [World.setCell]
  refine ⟨⟨W0.setCell ⟨w.heap.size, i, none⟩ v, ⟨h.row.below k4, ?_, ?_, by rw [hs0]; exact hrb, h1.suf, h1.bts, h1.len, h1.cap, h1.cap2⟩, h2.set_ i v, h3.far (p := ⟨w.heap.size, i, none⟩) (by simp) v, k4, by rw [hs0]; exact h5⟩, h.row⟩
  · rw [hs0]
    refine ⟨h1.bel.os, h1.bel.tape, h1.bel.output, by simpa [World.setCell] using h1.bel.size, fun k hk => ?_⟩
    simp only [World.setCell, Array.getElem?_modify]
    rw [h1.bel.block k hk]
  · exact h1.blk.far (p := ⟨w.heap.size, i, none⟩) (by simp; omega) v
end
/-- What a reader's function does in Read. -/
def RQ {α : Type} (w : World) (rb : Nat) (ra : Option Addr) (rc : Nat) (b : List Int) (c : Array Value) (W : World) (o : Option (α × List Int)) (val : α → Value) (r : Ending) (w' : World) : Prop :=
  match o with
  | some (x, rest) => r = .returned (val x) ∧ RS w w' rb ra rc b c rest ∧ Foot [rb] W w'
  | none => r = .panicked CH ∧ PE w w' c
theorem rs_call {α : Type} {w W : World} {rb rc : Nat} {ra : Option Addr} {b rest : List Int} {c : Array Value} {o : Option (α × List Int)} {val : α → Value} {K : FuncId} {args : Array Value}
    (h : RS w W rb ra rc b c rest) (hc : ∀ W0, Rd W0 W rb ra rc b rest → Calls Try.prog K args W (RP W0 rb ra rc b W o val)) : Calls Try.prog K args W (RQ w rb ra rc b c W o val) := by
  obtain ⟨W0, h1, h2, h3, h4, h5⟩ := h.ex
  refine (hc W0 h1).mono fun r w' hr => ?_
  cases o with
  | none => exact ⟨hr.1, h2.below hr.2 h2.lt, h3.below hr.2 h3.lt, h4.trans (hr.2.mono h4.size)⟩
  | some p => exact ⟨hr.1, ⟨⟨W0, hr.2.1, h2, h3, h4, h5⟩, h.row⟩, hr.2.2⟩
/-- What the reader's style does in Read. -/
def SQ (w : World) (rb : Nat) (ra : Option Addr) (rc : Nat) (b : List Int) (c : Array Value) (W : World) (o : Option (List (List Int) × List Int)) (r : Ending) (w' : World) : Prop :=
  match o with
  | some (L, q) => L.length = 32 ∧ ∃ uv, r = .returned (.agg (SC (gof L) uv).toArray) ∧ RS w w' rb ra rc b c q ∧ Foot [rb] W w' ∧ UO w' W.heap.size uv (L.getD 31 [])
  | none => r = .panicked CH ∧ PE w w' c
theorem rs_style {w W : World} {rb rc B fc : Nat} {ra fa : Option Addr} {b rest : List Int} {c : Array Value} (h : RS w W rb ra rc b c rest) (hf : Fs W B fa fc) :
    Calls Try.prog 28 #[.pointer (some ⟨rb, 0, none⟩), .slice fa 32 fc] W (SQ w rb ra rc b c W (rdF KD 1 rest)) := by
  obtain ⟨W0, h1, h2, h3, h4, h5⟩ := h.ex
  refine (style_ok h1 hf).mono fun r w' hr => ?_
  cases e : rdF KD 1 rest with
  | none =>
    rw [e] at hr
    exact ⟨hr.1, h2.below hr.2 h2.lt, h3.below hr.2 h3.lt, h4.trans (hr.2.mono h4.size)⟩
  | some p =>
    rw [e] at hr
    obtain ⟨hl, uv, k1, k2, k3, k4⟩ := hr
    exact ⟨hl, uv, k1, ⟨⟨W0, k2, h2, h3, h4, h5⟩, h.row⟩, k3, k4⟩
theorem own_foot {W W' : World} {B : Nat} {e : TypeId} {sz n : Nat} {v : Value} {xs : List Value} {fs : List Nat} (h : W.ownsRow B e sz v n xs) (hf : Foot fs W W') (hn : ∀ k, v.ownBlock = some k → k ∉ fs) : W'.ownsRow B e sz v n xs := ⟨h.1, by
  rcases h.2 with h | ⟨g, cap', cur, e1, e2, e3, e4⟩
  · exact .inl h
  · exact .inr ⟨g, cap', cur, e1, e2, (hf.block g (heap_lt e3) (hn g (by rw [e1]; rfl))).trans e3, e4⟩⟩
/-- Advances in a row of their own. -/
def AO (W : World) (B : Nat) (v : Value) (xs : List Int) : Prop := W.ownsRow B 2 1 v xs.length (xs.map (.int .i64))
theorem AO.keeps {W W' : World} {B : Nat} {v : Value} {us : List Int} (h : AO W B v us) (hk : Keeps W W') : AO W' B v us := ⟨h.1, by
  rcases h.2 with h | ⟨g, cap', cur, e1, e2, e3, e4⟩
  · exact .inl h
  · exact .inr ⟨g, cap', cur, e1, e2, hk.2 _ _ _ _ e3 (by decide), e4⟩⟩
/-- What Read gives. -/
def RDP (w : World) (o : Option Tr) (r : Ending) (w' : World) : Prop :=
  Below w.heap.size w w' ∧ match o with
  | some T => ∃ v, r = .returned (.tuple #[v, .int .i64 0]) ∧ TrV w' v T
  | none => r = .returned (.tuple #[.agg #[.slice none 0 0, .slice none 0 0, .int .i64 0], .int .i64 5])
theorem below_fresh {a w w' : World} {fs : List Nat} (h : Below a.heap.size a w) (hf : Foot fs w w') (hs : ∀ x ∈ fs, a.heap.size ≤ x) : Below a.heap.size a w' := below_foot h hf hs
theorem door_panic {w wX : World} {t1 t2 t3 : Value} {tmps : Array Value} {o : Option Tr} (ho : o = none) (hk : PE w wX #[t1, t2, t3]) (h2 : tmps.getD 2 undef = .pointer (some ⟨w.heap.size, 0, none⟩)) (h3 : tmps.getD 3 undef = .pointer (some ⟨w.heap.size + 1, 0, none⟩)) :
    bodyPostD Try.prog Try.f18 (RDP w o) (.panic CH) { tmps := tmps, defers := [{ target := .fn (.func 24) #[.pointer (some ⟨w.heap.size, 0, none⟩), .pointer (some ⟨w.heap.size + 1, 0, none⟩)], args := #[] }] } wX := by
  subst ho
  have h2 : tmps[2]?.getD undef = .pointer (some ⟨w.heap.size, 0, none⟩) := by simpa using h2
  have h3 : tmps[3]?.getD undef = .pointer (some ⟨w.heap.size + 1, 0, none⟩) := by simpa using h3
  refine leaves_cons (f := 24) (args := #[.pointer (some ⟨w.heap.size, 0, none⟩), .pointer (some ⟨w.heap.size + 1, 0, none⟩)]) (by simp) (by simp [go_sem]) ?_
  refine (catch_panicking w.heap.size (w.heap.size + 1) _ _ [] _ _ _ _ _ hk.1 hk.2.1 (by simp)).mono ?_
  rintro e u' w3 ⟨rfl, rfl, hB3, hE3, hF3⟩
  have x0 : w3.cell? ⟨w.heap.size, 0, none⟩ = some (.slice none 0 0) := hB3.cell 0
  have x1 : w3.cell? ⟨w.heap.size, 1, none⟩ = some (.slice none 0 0) := hB3.cell 1
  have x2 : w3.cell? ⟨w.heap.size, 2, none⟩ = some (.int .i64 0) := hB3.cell 2
  have x3 : w3.cell? ⟨w.heap.size + 1, 0, none⟩ = some (.int .i64 5) := hE3.cell 0
  have hbel : Below w.heap.size w w3 := below_foot hk.2.2 hF3 (by simp)
  simp [Leaves, settle, results, Try.results24, Try.results18, go_sem, h2, h3, x0, x1, x2, x3]
  exact ⟨hbel, rfl⟩
theorem door_ret {w wX : World} {t1 t2 t3 : Value} {tmps : Array Value} {o : Option Tr} {T : Tr} (ho : o = some T) (hk : PE w wX #[t1, t2, t3]) (hT : TrV wX (.agg #[t1, t2, t3]) T) (h2 : tmps.getD 2 undef = .pointer (some ⟨w.heap.size, 0, none⟩)) (h3 : tmps.getD 3 undef = .pointer (some ⟨w.heap.size + 1, 0, none⟩)) :
    bodyPostD Try.prog Try.f18 (RDP w o) .ret { tmps := tmps, defers := [{ target := .fn (.func 24) #[.pointer (some ⟨w.heap.size, 0, none⟩), .pointer (some ⟨w.heap.size + 1, 0, none⟩)], args := #[] }] } wX := by
  subst ho
  have h2 : tmps[2]?.getD undef = .pointer (some ⟨w.heap.size, 0, none⟩) := by simpa using h2
  have h3 : tmps[3]?.getD undef = .pointer (some ⟨w.heap.size + 1, 0, none⟩) := by simpa using h3
  refine leaves_cons (f := 24) (args := #[.pointer (some ⟨w.heap.size, 0, none⟩), .pointer (some ⟨w.heap.size + 1, 0, none⟩)]) (by simp) (by simp [go_sem]) ?_
  refine (catch_idle w.heap.size (w.heap.size + 1) wX).mono ?_
  rintro e u' w3 ⟨rfl, rfl, rfl⟩
  have x0 : w3.cell? ⟨w.heap.size, 0, none⟩ = some t1 := hk.1.cell 0
  have x1 : w3.cell? ⟨w.heap.size, 1, none⟩ = some t2 := hk.1.cell 1
  have x2 : w3.cell? ⟨w.heap.size, 2, none⟩ = some t3 := hk.1.cell 2
  have x3 : w3.cell? ⟨w.heap.size + 1, 0, none⟩ = some (.int .i64 0) := hk.2.1.cell 0
  simp [Leaves, settle, results, Try.results24, Try.results18, go_sem, h2, h3, x0, x1, x2, x3]
  exact ⟨hk.2.2, _, rfl, hT⟩
def NL (W : World) (B : Nat) : List Nd → List (List Value) → Prop
  | [], [] => True
  | n :: ns, l :: ls => (∃ uv, l = ncell n uv ∧ UO W B uv (n.2.getD 31 [])) ∧ NL W B ns ls
  | _, _ => False
theorem NL.keeps {W W' : World} {B : Nat} (hk : Keeps W W') : ∀ {ns : List Nd} {ls : List (List Value)}, NL W B ns ls → NL W' B ns ls
  | [], [], _ => trivial
  | _ :: _, _ :: _, ⟨⟨uv, h1, h2⟩, h3⟩ => ⟨⟨uv, h1, h2.keeps hk⟩, NL.keeps hk h3⟩
  | [], _ :: _, h => h.elim
  | _ :: _, [], h => h.elim
theorem NL.app {W : World} {B : Nat} : ∀ {ns ns' : List Nd} {ls ls' : List (List Value)}, NL W B ns ls → NL W B ns' ls' → NL W B (ns ++ ns') (ls ++ ls')
  | [], _, [], _, _, h => h
  | _ :: _, _, _ :: _, _, ⟨h1, h2⟩, h => ⟨h1, NL.app h2 h⟩
  | [], _, _ :: _, _, h, _ => h.elim
  | _ :: _, _, [], _, h, _ => h.elim
theorem NL.len {W : World} {B : Nat} : ∀ {ns : List Nd} {ls : List (List Value)}, NL W B ns ls → ls.length = ns.length
  | [], [], _ => rfl
  | _ :: _, _ :: _, ⟨_, h⟩ => by simp [NL.len h]
  | [], _ :: _, h => h.elim
  | _ :: _, [], h => h.elim
theorem NL.get {W : World} {B : Nat} : ∀ {ns : List Nd} {ls : List (List Value)}, NL W B ns ls → ∀ i (h : i < ns.length) (h' : i < ls.length), ∃ uv, ls[i] = ncell ns[i] uv ∧ UO W B uv (ns[i].2.getD 31 [])
  | _ :: _, _ :: _, ⟨h, _⟩, 0, _, _ => h
  | _ :: _, _ :: _, ⟨_, h⟩, i + 1, h1, h2 => NL.get h i (by simpa using h1) (by simpa using h2)
  | [], _, _, _, h, _ => absurd h (by simp)
  | _ :: _, [], h, _, _, _ => h.elim
theorem ncell_len (n : Nd) (uv : Value) : (ncell n uv).length = 44 := rfl
theorem NL.each {W : World} {B : Nat} : ∀ {ns : List Nd} {ls : List (List Value)}, NL W B ns ls → ∀ l ∈ ls, l.length = 44
  | _ :: _, _ :: _, ⟨⟨uv, h, _⟩, h2⟩, l, hl => by
    rcases List.mem_cons.1 hl with rfl | hl
    · rw [h]; rfl
    · exact NL.each h2 l hl
  | [], [], _, l, hl => absurd hl (by simp)
  | [], _ :: _, h, _, _ => h.elim
  | _ :: _, [], h, _, _ => h.elim
theorem UO.ur {W : World} {B : Nat} {uv : Value} {us : List Int} (h : UO W B uv us) : UR W uv us := by
  obtain ⟨a, cap, h1, h2, h3, h4, h5⟩ := own_row h
  exact ⟨a, cap, h1, h5, h2, h3⟩
/-- The nodes lie in a row of their own. -/
def NO (W : World) (B : Nat) (v : Value) (ns : List Nd) : Prop := ∃ ls, NL W B ns ls ∧ W.ownsRow B 51 44 v ns.length ls.flatten
theorem NO.foot {W W' : World} {B : Nat} {v : Value} {ns : List Nd} {fs : List Nat} (h : NO W B v ns) (hf : Foot fs W W') (hk : Keeps W W') (hn : ∀ k, v.ownBlock = some k → k ∉ fs) : NO W' B v ns := by
  obtain ⟨ls, h1, h2⟩ := h
  exact ⟨ls, h1.keeps hk, own_foot h2 hf hn⟩
theorem NO.below {W W' : World} {B : Nat} {v : Value} {ns : List Nd} (h : NO W B v ns) (hb : Below W.heap.size W W') : NO W' B v ns := h.foot (Foot.of_below [] hb) (Keeps.of_below hb) (by simp)
theorem NO.row {W : World} {B : Nat} {v : Value} {ns : List Nd} (h : NO W B v ns) : ∃ a cap, v = .slice a ns.length cap ∧ NRow W a ns ∧ ns.length ≤ cap ∧ cap ≤ maxLen := by
  obtain ⟨ls, h1, h2⟩ := h
  have hlen := h1.len
  obtain ⟨a, cap, e, h3, h4, _, h5, _⟩ := own_rowS h1.each (by decide) h2
  refine ⟨a, cap, e, ⟨by unfold maxLen at h4; omega, fun hp => ?_⟩, h3, h4⟩
  obtain ⟨b, o, ha, hb, hc⟩ := h5.2 (by omega)
  refine ⟨b, o, ha, hb, fun i hi => ?_⟩
  have hil : i < ls.length := by omega
  obtain ⟨uv, hq, hu⟩ := h1.get i hi hil
  have hcell : ∀ j v', (ncell ns[i] uv)[j]? = some v' → W.cell? ⟨b, o + i * 44 + j, none⟩ = some v' := fun j v' hv => by
    obtain ⟨hj, hv⟩ := List.getElem?_eq_some_iff.1 hv
    have := hc i hil j (by rw [hq]; exact hj)
    rw [this, ← hv]
    congr 1
    simp [hq]
  refine ⟨hcell 0 _ rfl, hb, uv, fun j hj => ?_, hu.ur⟩
  have hjl : j < (SC (gof ns[i].2) uv).length := hj
  rw [List.getElem?_eq_getElem hjl, show o + i * 44 + 1 + j = o + i * 44 + (j + 1) from by omega]
  exact hcell (j + 1) _ (by unfold ncell; rw [List.getElem?_cons_succ, List.getElem?_eq_getElem hjl])
theorem there_blk {w : World} {g : Nat} {t : TypeId} {cs : Array Value} (h : Blk w g t cs) {o n : Nat} (hn : o + n ≤ cs.size) : w.there g o n := fun j hj => by
  rw [h.cell, Array.getElem?_eq_getElem (by omega)]
  exact ⟨rfl, h.frozen _⟩
theorem Foot.setCells {fs : List Nat} {a : World} {g : Nat} (hg : g ∈ fs ∨ a.heap.size ≤ g) : ∀ (vs : List Value) (o : Nat) (w : World), Foot fs a w → Foot fs a (w.setCells g o vs)
  | [], _, _, h => h
  | v :: vs, o, w, h => by
    rw [World.setCells]
    exact Foot.setCells hg vs (o + 1) _ (h.setCell (p := ⟨g, o, none⟩) hg v)
/-- A node's block, once its style has come in. -/
theorem node_range {w : World} {g : Nat} {t : TypeId} {cs : Array Value} {pa : Int} {L : List (List Int)} {uv : Value} (h : Blk w g t cs) (h0 : cs[0]? = some (.int .i64 pa)) (hs : cs.size = 44) :
    (w.setCells g 1 (SC (gof L) uv)).rangeAt g 0 (ncell (pa, L) uv) := by
  intro j v hv
  cases j with
  | zero =>
    rw [World.cell?_setCells_out g _ 1 w ⟨g, 0 + 0, none⟩ (fun _ _ => .inl (by simp))]
    rw [h.cell, h0]
    exact hv
  | succ j =>
    have hv : (SC (gof L) uv)[j]? = some v := hv
    obtain ⟨hj, hv⟩ := List.getElem?_eq_some_iff.1 hv
    have hj' : j < 43 := hj
    have := World.cell?_setCells_in g (SC (gof L) uv) 1 w (fun i hi => by
      have hi' : i < 43 := hi
      rw [h.cell, Array.getElem?_eq_getElem (by omega)]; rfl) j hj
    rw [show 0 + (j + 1) = 1 + j from by omega, this, hv]
theorem ncell_one (n : Nd) {uv : Value} (h : uv.oneCell' = true) : ∀ v ∈ ncell n uv, v.oneCell' = true := by
  intro v hv
  rcases List.mem_cons.1 hv with rfl | hv
  · rfl
  · exact Array.all_eq_true_iff_forall_mem.1 (SC_one (gof n.2) h) v (by simpa using hv)
theorem nd_size (n : Nd) (uv : Value) : (Try.prog.info? 51).map (·.size) = some (ncell n uv).length := by
  have h : (Try.prog.info? 51).map (·.size) = some 44 := by kernel_rfl
  exact h
theorem info51 : (Try.prog.info? 51).map (fun i => (i.zero, i.size, i.bytes)) = some (some (.agg (ncell (0, KD.map zv) (.slice none 0 0)).toArray), 44, 328) := by kernel_rfl
theorem fold_put : ∀ (cs : List Value) (k : Nat) (z : Array Value), k + cs.length ≤ z.size → ∀ i, ((cs.zipIdx k).foldl (fun a x => a.setIfInBounds (0 * 44 + x.2) x.1) z)[i]? = if k ≤ i ∧ i < k + cs.length then cs[i - k]? else z[i]?
  | [], k, z, _, i => by
    rw [if_neg (by simp only [List.length_nil]; omega)]; rfl
  | v :: cs, k, z, h, i => by
    rw [List.length_cons] at h
    rw [List.zipIdx_cons, List.foldl_cons, fold_put cs (k + 1) _ (by rw [Array.size_setIfInBounds]; omega) i, List.length_cons]
    by_cases h1 : k + 1 ≤ i ∧ i < k + 1 + cs.length
    · rw [if_pos h1, if_pos (by omega), show i - k = (i - (k + 1)) + 1 from by omega, List.getElem?_cons_succ]
    · rw [if_neg h1, Array.getElem?_setIfInBounds]
      by_cases h2 : 0 * 44 + k = i
      · rw [if_pos h2, if_pos (by omega), if_pos (by omega), show i - k = 0 from by omega]; rfl
      · rw [if_neg h2, if_neg (by omega)]
theorem fill_list (c : List Value) (hcl : c.length = 44) (z : Array Value) (hz : z.size = 44) : Instr.fill (fun i => some (i * 44, 44)) z [(0, .agg c.toArray)] = some c.toArray := by
  simp only [Instr.fill]
  have hc : (Value.agg c.toArray).cells = c.toArray := rfl
  have hs : c.toArray.size = 44 := hcl
  rw [hc, if_neg (by rw [hs, hz]; decide)]
  refine congrArg some ?_
  rw [show c.toArray.zipIdx = (c.zipIdx).toArray from by simp, List.foldl_toArray]
  apply Array.ext_getElem?
  intro i
  rw [fold_put _ 0 z (by omega) i]
  by_cases h : i < 44
  · rw [if_pos (by omega)]; simp
  · rw [if_neg (by omega), Array.getElem?_eq_none (by omega), Array.getElem?_eq_none (by omega)]
theorem fill51 (n : Nd) (uv : Value) (z : Array Value) (hz : z.size = 44) : Instr.fill (fun i => some (i * 44, 44)) z [(0, .agg (ncell n uv).toArray)] = some (ncell n uv).toArray := fill_list _ (ncell_len n uv) z hz
theorem wpList_node {ops : Array Oper} {rest : List Oper} {o : Oper} {a : Act} {w : World} {Q : Exit → Act → World → Prop} (hg : o.guard = none) (x : Operand) (ho : o.op = .buildSlice 32 1 #[(0, x)]) (n : Nd) (uv : Value) (hx : a.eval x = .agg (ncell n uv).toArray)
    (h : wpList Try.prog ops Q rest (a.put o.dst (.slice (some ⟨w.heap.size, 0, none⟩) 1 1)) (w.alloc (.cells (ncell n uv).toArray 51))) : wpList Try.prog ops Q (o :: rest) a w := by
  obtain ⟨i0, hi, hz0, hz1, hz2⟩ := info_parts info51
  refine wpList_buildSlice hg 32 51 1 _ ho (ncell n uv).toArray i0 _ Try.underlying32 hi hz0 (by rw [hz1]; decide) (by rw [hz1]; decide) ?_ h
  rw [hz1]
  have := fill51 n uv ((Array.range (1 * 44)).map fun x => (Value.agg (ncell (0, KD.map zv) (.slice none 0 0)).toArray).cells[x % (Value.agg (ncell (0, KD.map zv) (.slice none 0 0)).toArray).cells.size]!) (by simp)
  simpa [hx] using this
end Go.Proofs.Ytmngndmcidbakaa
