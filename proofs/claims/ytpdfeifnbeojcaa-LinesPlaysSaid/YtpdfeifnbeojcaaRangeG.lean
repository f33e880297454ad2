/- A range over a function whose body always goes on: the iterator tells, at each of its calls of yield, what holds of the value that it hands over (G), and at its end what holds of all (E). -/
import Derived.Test.YtpdfeifnbeojcaaFootB
import Derived.RangeFuncNested
namespace Go.Proofs.Ytpdfeifnbeojcaa
open Go.RowKit

/-- The iterator's contract. -/
def Feeds {α : Type} (n : Nat) (P : Program) (g : Nat) (lb : Array Value) (encs : α → Array Value) (G : List α → α → World → Prop) (E : List α → World → Prop) (Kp : List α → World → World → Prop) (w0 : World) : Prop :=
  ∀ (l : Nat) (J : List α → World → Prop) (W : World), Below w0.heap.size w0 W → AbidesFrom W.heap.size J →
    (∀ pre x W1, J pre W1 → G pre x W1 → YieldAt Fence.wide (n - 1) P l (encs x) W1 fun e W' => e = .returned (.bool true) ∧ J (pre ++ [x]) W' ∧ Kp pre W1 W') →
    J [] W → CallsIn Fence.wide n P g (#[.func (.yield l) #[] #[]] ++ lb) W fun e W' => (∃ v, e = .returned v) ∧ ∃ xs, J xs W' ∧ E xs W'

/-- What a body that goes on leaves. -/
def goes {α : Type} (Kp : List α → World → World → Prop) (I : List α → World → Prop) (pre : List α) (x : α) (W : World) : Exit → Act → World → Prop :=
  fun e _ W' => e = .normal ∧ KeepsOthers W W' ∧ Kp pre W W' ∧ I (pre ++ [x]) W'

section
variable {P : Program} {α : Type}
/-- The two blocks of the loop's own. -/
structure Bk (r : LoopState → Loop) (b : Nat) (s : LoopState) (W : World) : Prop where
  lp : W.heap[b + 1]? = some (.loop (r s))
  df : W.heap[b]? = some (.deferred (some []))
theorem Bk.put {r : LoopState → Loop} {b : Nat} {s s' : LoopState} {W : World} (h : Bk r b s W) : Bk r b s' (W.putObj (b + 1) (.loop (r s'))) :=
  ⟨World.putObj_heap_same (Array.getElem?_eq_some_iff.1 h.lp).1, (World.putObj_heap_other (by omega)).trans h.df⟩
theorem Bk.kept {r : LoopState → Loop} {b : Nat} {s : LoopState} {W W' : World} (h : Bk r b s W) (k : KeepsOthers W W') : Bk r b s W' := ⟨k.same _ _ h.lp rfl, k.same _ _ h.df rfl⟩

theorem range_feeds {n : Nat} {g : Operand} {ps : Array Tmp} {assign body : Code} {Q : Exit → Act → World → Prop} {a : Act} {w : World} {gf : Nat} {lb : Array Value} {encs : α → Array Value}
    {G : List α → α → World → Prop} {E : List α → World → Prop} {Kp : List α → World → World → Prop} (hg : a.eval g = .func (.func gf) #[] lb) (eg : ∀ args w, (callFunc gf args).run P w = .ok (.enter gf args) w)
    (hf : Feeds (n - 1) P gf lb encs G E Kp w) (hps : ∀ x, (encs x).size = ps.size) (hKt : ∀ {pre : List α} {A B C : World}, Kp pre A B → Kp pre B C → Kp pre A C)
    (hK : ∀ (pre : List α) (W : World) (l : Nat) (o o' : Obj), w.heap.size ≤ l → W.heap[l]? = some o → o.isCells = false → Kp pre W (W.putObj l o'))
    (hG : ∀ pre x (W : World) (l : Nat) (o o' : Obj), w.heap.size ≤ l → W.heap[l]? = some o → o.isCells = false → G pre x W → G pre x (W.putObj l o'))
    (hE : ∀ xs (W : World) (l : Nat) (o o' : Obj), w.heap.size ≤ l → W.heap[l]? = some o → o.isCells = false → E xs W → E xs (W.putObj l o'))
    (I : List α → World → Prop) (hI : OwnFrom w.heap.size I) (h0 : I [] w) (a₁ : α → Act)
    (hassign : ∀ (l : Nat) (x : α) (W : World) (K : Act → World → Prop), K (a₁ x) W →
      assign.wpIn (Fence.wide.inRound l) (n - 1 - 1) P (Exit.then K (fun _ _ _ => False)) { tmps := (ps.zip (encs x)).foldl (fun t (p, v) => t.setIfInBounds p v) a.tmps, defers := [] } W)
    (hbody : ∀ (l : Nat) (pre : List α) (x : α) (W : World), I pre W → G pre x W → body.wpIn (Fence.wide.inRound l) (n - 1 - 1) P (goes Kp I pre x W) (a₁ x) W)
    (hdone : ∀ (D : Nat) (xs : List α) (W : World), w.heap.size ≤ D → I xs W → E xs W → W.heap[D]? = some (.deferred (some [])) → Q .normal { a with defers := { target := .collected D, args := #[] } :: a.defers } W) :
    (Code.rangeFunc g ps assign body).wpIn Fence.wide n P Q a w := by
  refine wpIn_rangeFunc (fun fn _ => ?_)
  obtain ⟨r, hr⟩ : ∃ r : LoopState → Loop, r = fun s => { state := s, pending := none, fn, tmps := a.tmps, params := ps, assign, body, defers := w.heap.size } := ⟨_, rfl⟩
  have hrp : ∀ s, (r s).params = ps := fun s => by rw [hr]
  obtain ⟨W1, hW1⟩ : ∃ W1, W1 = (w.alloc (.deferred (some []))).alloc (.loop (r .ready)) := ⟨_, rfl⟩
  have hB : Bk r w.heap.size .ready W1 := by
    rw [hW1]
    refine ⟨?_, (Below.heap_alloc _ _ _ (by simp)).trans (World.alloc_heap_new w _)⟩
    have := World.alloc_heap_new (w.alloc (.deferred (some []))) (.loop (r .ready))
    rwa [World.size_alloc] at this
  have hsz : W1.heap.size = w.heap.size + 2 := by rw [hW1]; simp
  have hI1 : I [] W1 := by rw [hW1]; exact hI.alloc _ (hI.alloc _ h0)
  refine ⟨w.heap.size + 1, [{ target := .collected w.heap.size, args := #[] }], W1, { target := .fn (.func gf) lb, args := #[.func (.yield (w.heap.size + 1)) #[] #[]] }, W1, gf,
    #[.func (.yield (w.heap.size + 1)) #[] #[]] ++ lb, W1, ?_, ?_, fun _ _ => trivial, ?_, (fun h => (by cases h)), ?_⟩
  · rw [hW1, hr]; exact run_enterLoop_outer _ _ _ _ _
  · simp only [resolve, hg]
    simp [go_sem]
  · simp [invoke, go_sem, eg]
  refine (hf (w.heap.size + 1) (fun pre W => I pre W ∧ Bk r w.heap.size .ready W) W1 (by rw [hW1]; exact ((Below.refl _ w).alloc (Nat.le_refl _) _).alloc (by simp) _) ?_ ?_ ⟨hI1, hB⟩).mono ?_
  · -- the iterator's own walks
    intro s A B row hs hg' hrow
    have hrow' : ∀ q, row = some q → ∃ o : Obj, A.heap[q]? = some o ∧ o.isWalk = true := fun q e => (hrow q e).2
    exact ⟨hI s A B row hs.1 hg' (fun q e => by obtain ⟨h1, o, h2, h3⟩ := hrow q e; exact ⟨by omega, o, h2, Obj.not_cells_of_walk h3⟩),
      (grownBy_keeps hg' hrow' hs.2.lp rfl).trans hs.2.lp, (grownBy_keeps hg' hrow' hs.2.df rfl).trans hs.2.df⟩
  · -- a round
    rintro pre x W ⟨hi, hb⟩ hgx
    have hy := run_yield (P := P) (args := encs x) hb.lp (by rw [hrp]; exact hps x)
    rw [hr] at hy
    refine ⟨fn, _, assign, body, hy, roundIn_of_wpIn trivial (hassign _ x W _ ⟨W.putObj (w.heap.size + 1) (.loop (r .busy)), ?_, ?_⟩)⟩
    · have := run_beginRound (P := P) hb.lp (by rw [hr])
      rw [hr] at this ⊢
      exact this
    · have hb2 : Bk r w.heap.size .busy (W.putObj (w.heap.size + 1) (.loop (r .busy))) := hb.put
      refine wpIn_mono (hbody _ pre x _ (hI.putObj _ hi (by omega) hb.lp rfl) (hG _ _ _ _ _ _ (by omega) hb.lp rfl hgx)) ?_
      rintro e a3 W3 ⟨rfl, hk3, hp3, hi3⟩
      have hb3 := hb2.kept hk3
      have hend := run_endRound (P := P) none hb3.lp
      refine ⟨_, W3.putObj (w.heap.size + 1) (.loop (r .ready)), ?_, rfl, ⟨hI.putObj _ hi3 (by omega) hb3.lp rfl, hb3.put⟩, hKt (hKt (hK _ _ _ _ _ (by omega) hb.lp rfl) hp3) (hK _ _ _ _ _ (by omega) hb3.lp rfl)⟩
      rw [hr] at hend ⊢
      exact hend
  · -- behind the iterator
    rintro e W2 ⟨⟨v, rfl⟩, xs, ⟨hi, hb⟩, he⟩
    refine ⟨none, W2.putObj (w.heap.size + 1) (.loop (r .exhausted)), ?_, ?_⟩
    · have := run_endLoop (P := P) hb.lp (by rw [hr]; simp)
      rw [hr] at this ⊢
      exact this
    · exact hdone w.heap.size xs _ (Nat.le_refl _) (hI.putObj _ hi (by omega) hb.lp rfl) (hE _ _ _ _ _ (by omega) hb.lp rfl he) ((World.putObj_heap_other (by omega)).trans hb.df)
/-- The same where the round's variable lies in a block of its own (ob x), made by the assignment. -/
theorem range_feeds_box {n : Nat} {g : Operand} {ps : Array Tmp} {assign body : Code} {Q : Exit → Act → World → Prop} {a : Act} {w : World} {gf : Nat} {lb : Array Value} {encs : α → Array Value}
    {G : List α → α → World → Prop} {E : List α → World → Prop} {Kp : List α → World → World → Prop} (hg : a.eval g = .func (.func gf) #[] lb) (eg : ∀ args w, (callFunc gf args).run P w = .ok (.enter gf args) w)
    (hf : Feeds (n - 1) P gf lb encs G E Kp w) (hps : ∀ x, (encs x).size = ps.size) (hKt : ∀ {pre : List α} {A B C : World}, Kp pre A B → Kp pre B C → Kp pre A C)
    (hK : ∀ (pre : List α) (W : World) (l : Nat) (o o' : Obj), w.heap.size ≤ l → W.heap[l]? = some o → o.isCells = false → Kp pre W (W.putObj l o'))
    (hE : ∀ xs (W : World) (l : Nat) (o o' : Obj), w.heap.size ≤ l → W.heap[l]? = some o → o.isCells = false → E xs W → E xs (W.putObj l o'))
    (I : List α → World → Prop) (hI : OwnFrom w.heap.size I) (h0 : I [] w) (a₁ : α → Nat → Act) (ob : α → Obj) (hKa : ∀ (pre : List α) (x : α) (W : World), w.heap.size ≤ W.heap.size → Kp pre W (W.alloc (ob x)))
    (hassign : ∀ (l : Nat) (x : α) (W : World) (K : Act → World → Prop), K (a₁ x W.heap.size) (W.alloc (ob x)) →
      assign.wpIn (Fence.wide.inRound l) (n - 1 - 1) P (Exit.then K (fun _ _ _ => False)) { tmps := (ps.zip (encs x)).foldl (fun t (p, v) => t.setIfInBounds p v) a.tmps, defers := [] } W)
    (hbody : ∀ (l : Nat) (pre : List α) (x : α) (W : World) (q : Nat) (o o' : Obj), I pre W → G pre x W → w.heap.size ≤ q → W.heap[q]? = some o → o.isCells = false → body.wpIn (Fence.wide.inRound l) (n - 1 - 1) P (goes Kp I pre x ((W.alloc (ob x)).putObj q o')) (a₁ x W.heap.size) ((W.alloc (ob x)).putObj q o'))
    (hdone : ∀ (D : Nat) (xs : List α) (W : World), w.heap.size ≤ D → I xs W → E xs W → W.heap[D]? = some (.deferred (some [])) → Q .normal { a with defers := { target := .collected D, args := #[] } :: a.defers } W) :
    (Code.rangeFunc g ps assign body).wpIn Fence.wide n P Q a w := by
  refine wpIn_rangeFunc (fun fn _ => ?_)
  obtain ⟨r, hr⟩ : ∃ r : LoopState → Loop, r = fun s => { state := s, pending := none, fn, tmps := a.tmps, params := ps, assign, body, defers := w.heap.size } := ⟨_, rfl⟩
  have hrp : ∀ s, (r s).params = ps := fun s => by rw [hr]
  obtain ⟨W1, hW1⟩ : ∃ W1, W1 = (w.alloc (.deferred (some []))).alloc (.loop (r .ready)) := ⟨_, rfl⟩
  have hB : Bk r w.heap.size .ready W1 := by
    rw [hW1]
    refine ⟨?_, (Below.heap_alloc _ _ _ (by simp)).trans (World.alloc_heap_new w _)⟩
    have := World.alloc_heap_new (w.alloc (.deferred (some []))) (.loop (r .ready))
    rwa [World.size_alloc] at this
  have hsz : W1.heap.size = w.heap.size + 2 := by rw [hW1]; simp
  have hI1 : I [] W1 := by rw [hW1]; exact hI.alloc _ (hI.alloc _ h0)
  refine ⟨w.heap.size + 1, [{ target := .collected w.heap.size, args := #[] }], W1, { target := .fn (.func gf) lb, args := #[.func (.yield (w.heap.size + 1)) #[] #[]] }, W1, gf,
    #[.func (.yield (w.heap.size + 1)) #[] #[]] ++ lb, W1, ?_, ?_, fun _ _ => trivial, ?_, (fun h => (by cases h)), ?_⟩
  · rw [hW1, hr]; exact run_enterLoop_outer _ _ _ _ _
  · simp only [resolve, hg]
    simp [go_sem]
  · simp [invoke, go_sem, eg]
  refine (hf (w.heap.size + 1) (fun pre W => I pre W ∧ Bk r w.heap.size .ready W) W1 (by rw [hW1]; exact ((Below.refl _ w).alloc (Nat.le_refl _) _).alloc (by simp) _) ?_ ?_ ⟨hI1, hB⟩).mono ?_
  · -- the iterator's own walks
    intro s A B row hs hg' hrow
    have hrow' : ∀ q, row = some q → ∃ o : Obj, A.heap[q]? = some o ∧ o.isWalk = true := fun q e => (hrow q e).2
    exact ⟨hI s A B row hs.1 hg' (fun q e => by obtain ⟨h1, o, h2, h3⟩ := hrow q e; exact ⟨by omega, o, h2, Obj.not_cells_of_walk h3⟩),
      (grownBy_keeps hg' hrow' hs.2.lp rfl).trans hs.2.lp, (grownBy_keeps hg' hrow' hs.2.df rfl).trans hs.2.df⟩
  · -- a round
    rintro pre x W ⟨hi, hb⟩ hgx
    have hy := run_yield (P := P) (args := encs x) hb.lp (by rw [hrp]; exact hps x)
    rw [hr] at hy
    have hba : Bk r w.heap.size .ready (W.alloc (ob x)) := ⟨(Below.heap_alloc _ _ _ (Array.getElem?_eq_some_iff.1 hb.lp).1).trans hb.lp, (Below.heap_alloc _ _ _ (Array.getElem?_eq_some_iff.1 hb.df).1).trans hb.df⟩
    have hwW : w.heap.size ≤ W.heap.size := by have := (Array.getElem?_eq_some_iff.1 hb.df).1; omega
    refine ⟨fn, _, assign, body, hy, roundIn_of_wpIn trivial (hassign _ x W _ ⟨(W.alloc (ob x)).putObj (w.heap.size + 1) (.loop (r .busy)), ?_, ?_⟩)⟩
    · have := run_beginRound (P := P) hba.lp (by rw [hr])
      rw [hr] at this ⊢
      exact this
    · have hb2 : Bk r w.heap.size .busy ((W.alloc (ob x)).putObj (w.heap.size + 1) (.loop (r .busy))) := hba.put
      refine wpIn_mono (hbody _ pre x W (w.heap.size + 1) _ _ hi hgx (by omega) hb.lp rfl) ?_
      rintro e a3 W3 ⟨rfl, hk3, hp3, hi3⟩
      have hb3 := hb2.kept hk3
      have hend := run_endRound (P := P) none hb3.lp
      refine ⟨_, W3.putObj (w.heap.size + 1) (.loop (r .ready)), ?_, rfl, ⟨hI.putObj _ hi3 (by omega) hb3.lp rfl, hb3.put⟩, hKt (hKt (hKt (hKa pre x W hwW) (hK _ _ _ _ _ (by omega) hba.lp rfl)) hp3) (hK _ _ _ _ _ (by omega) hb3.lp rfl)⟩
      rw [hr] at hend ⊢
      exact hend
  · -- behind the iterator
    rintro e W2 ⟨⟨v, rfl⟩, xs, ⟨hi, hb⟩, he⟩
    refine ⟨none, W2.putObj (w.heap.size + 1) (.loop (r .exhausted)), ?_, ?_⟩
    · have := run_endLoop (P := P) hb.lp (by rw [hr]; simp)
      rw [hr] at this ⊢
      exact this
    · exact hdone w.heap.size xs _ (Nat.le_refl _) (hI.putObj _ hi (by omega) hb.lp rfl) (hE _ _ _ _ _ (by omega) hb.lp rfl he) ((World.putObj_heap_other (by omega)).trans hb.df)
end
end Go.Proofs.Ytpdfeifnbeojcaa
