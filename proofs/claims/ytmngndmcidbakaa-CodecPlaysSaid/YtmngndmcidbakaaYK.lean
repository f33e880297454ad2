/- Walks: what a field's three functions are. -/
import Derived.Test.YtmngndmcidbakaaYJ
namespace Go.Proofs.Ytmngndmcidbakaa
open Go.RowKit
/-- The types of the variables that the fields' functions have captured. -/
def OT : List TypeId := [75, 78, 81, 85]
/-- The closure in block g, of blocks from B on, hands back a style's place moved on by 'off'. -/
inductive OfV (W : World) (B g : Nat) : Nat → Prop
  | lit (K t off : Nat) (ht : t ∈ OT) (hg : B ≤ g) (h : Blk W g t #[.func (.func K) #[] #[]]) (e : ∀ args w, (callFunc K args).run Try.prog w = .ok (.enter K args) w)
      (c : ∀ b o w, Calls Try.prog K #[.pointer (some ⟨b, o, none⟩)] w (MvPost off b o w)) : OfV W B g off
  | bound (K t off gk : Nat) (j : Nat) (ht : t ∈ OT) (hg : B ≤ g) (hk : B ≤ gk) (h : Blk W g t #[.func (.func K) #[] #[.pointer (some ⟨gk, 0, none⟩)]]) (hj : Blk W gk 3 #[.int .i64 j]) (e : ∀ args w, (callFunc K args).run Try.prog w = .ok (.enter K args) w)
      (c : ∀ b o w, w.cell? ⟨gk, 0, none⟩ = some (.int .i64 j) → Calls Try.prog K #[.pointer (some ⟨b, o, none⟩), .pointer (some ⟨gk, 0, none⟩)] w (MvPost off b o w)) : OfV W B g off
/-- The blocks from B to n are as they were. -/
def Fr (B n : Nat) (W W' : World) : Prop := ∀ b, B ≤ b → b < n → W'.heap[b]? = W.heap[b]?
theorem OfV.fr {W W' : World} {B g off n : Nat} (h : OfV W B g off) (hn : W.heap.size ≤ n) (f : Fr B n W W') : OfV W' B g off := by
  cases h with
  | lit K t off ht hg h e c => exact .lit K t off ht hg ((f g hg (Nat.lt_of_lt_of_le h.lt hn)).trans h) e c
  | bound K t off gk j ht hg hk h hj e c => exact .bound K t off gk j ht hg hk ((f g hg (Nat.lt_of_lt_of_le h.lt hn)).trans h) ((f gk hk (Nat.lt_of_lt_of_le hj.lt hn)).trans hj) e c
theorem OfV.below {W W' : World} {B g off : Nat} (h : OfV W B g off) (hb : Below W.heap.size W W') : OfV W' B g off := h.fr (Nat.le_refl _) fun b _ h2 => hb.block b h2
theorem OfV.mono {W : World} {B B' g off : Nat} (h : OfV W B g off) (hb : B' ≤ B) : OfV W B' g off := by
  cases h with
  | lit K t off ht hg h e c => exact .lit K t off ht (Nat.le_trans hb hg) h e c
  | bound K t off gk j ht hg hk h hj e c => exact .bound K t off gk j ht (Nat.le_trans hb hg) (Nat.le_trans hb hk) h hj e c
/-- A row of fields grows: what the closures are stays. -/
theorem OfV.grown {W W' : World} {B g off : Nat} {row : Option Nat} (h : OfV W B g off) (hg' : W.grownBy W' row) (hr : ∀ k, row = some k → ∃ cs z, W.heap[k]? = some (.cells cs 61 z)) : OfV W' B g off := by
  have key : ∀ g' t cs, Blk W g' t cs → t ≠ 61 → Blk W' g' t cs := fun g' t cs hb ht => (hg'.block g' hb.lt (fun e => by
    obtain ⟨cs', z, h'⟩ := hr g' e.symm
    unfold Blk at hb
    rw [hb] at h'
    injection h' with h'
    injection h' with _ h' _
    exact ht h')).trans hb
  cases h with
  | lit K t off ht hg h e c => exact .lit K t off ht hg (key _ _ _ h (fun e => by subst e; revert ht; decide)) e c
  | bound K t off gk j ht hg hk h hj e c => exact .bound K t off gk j ht hg hk (key _ _ _ h (fun e => by subst e; revert ht; decide)) (key _ _ _ hj (by decide)) e c
theorem OfV.at_ {W : World} {B g off : Nat} (h : OfV W B g off) (b o : Nat) : OfAt W g off b o := by
  cases h with
  | lit K t off ht hg h e c => exact ⟨K, #[], h.cell 0, e, c b o W⟩
  | bound K t off gk j ht hg hk h hj e c => exact ⟨K, #[.pointer (some ⟨gk, 0, none⟩)], h.cell 0, e, c b o W (hj.cell 0)⟩
def fn1 (K g : Nat) : Value := .func (.func K) #[] #[.pointer (some ⟨g, 0, none⟩)]
def fn0 (K : Nat) : Value := .func (.func K) #[] #[]
/-- A field's three functions, by kind (0 flag, 1 small, 2 great, 3 order, 4 length, else units) and place. -/
def FV (W : World) (B : Nat) (ko : Nat × Nat) (l : List Value) : Prop :=
  match ko.1 with
  | 0 => ∃ g, OfV W B g ko.2 ∧ l = [fn1 64 g, fn0 65, fn1 66 g]
  | 1 => ∃ g, OfV W B g ko.2 ∧ l = [fn1 67 g, fn1 68 g, fn1 69 g]
  | 2 => ∃ g, OfV W B g ko.2 ∧ l = [fn1 71 g, fn1 72 g, fn1 73 g]
  | 3 => l = [fn0 74, fn0 75, fn0 76]
  | 4 => ∃ g, OfV W B g ko.2 ∧ l = [fn1 77 g, fn1 78 g, fn1 79 g]
  | _ => l = [fn0 80, fn0 81, fn0 82]
theorem FV.fr {W W' : World} {B n : Nat} {ko : Nat × Nat} {l : List Value} (h : FV W B ko l) (hn : W.heap.size ≤ n) (f : Fr B n W W') : FV W' B ko l := by
  unfold FV at h ⊢
  split at h <;> (try exact h) <;> (obtain ⟨g, h1, h2⟩ := h; exact ⟨g, h1.fr hn f, h2⟩)
theorem FV.below {W W' : World} {B : Nat} {ko : Nat × Nat} {l : List Value} (h : FV W B ko l) (hb : Below W.heap.size W W') : FV W' B ko l := h.fr (Nat.le_refl _) fun b _ h2 => hb.block b h2
theorem FV.grown {W W' : World} {B : Nat} {row : Option Nat} {ko : Nat × Nat} {l : List Value} (h : FV W B ko l) (hg' : W.grownBy W' row) (hr : ∀ k, row = some k → ∃ cs z, W.heap[k]? = some (.cells cs 61 z)) : FV W' B ko l := by
  unfold FV at h ⊢
  split at h <;> (try exact h) <;> (obtain ⟨g, h1, h2⟩ := h; exact ⟨g, h1.grown hg' hr, h2⟩)
/-- The fields, from number 1 on: kind and place. -/
def FT : List (Nat × Nat) := [(0, 1), (0, 34), (1, 0), (1, 2), (1, 3), (1, 32), (1, 35), (1, 36), (2, 33), (3, 37), (2, 38), (2, 39), (4, 4), (4, 6), (4, 8), (4, 10), (4, 12), (4, 14), (4, 40),
  (4, 16), (4, 18), (4, 20), (4, 22), (2, 24), (2, 25), (2, 26), (2, 27), (2, 28), (2, 29), (2, 30), (2, 31), (5, 42)]
/-- The first fields' functions. -/
def FL (W : World) (B : Nat) : List (Nat × Nat) → List (List Value) → Prop
  | [], [] => True
  | k :: ks, l :: ls => FV W B k l ∧ FL W B ks ls
  | _, _ => False
theorem FL.fr {W W' : World} {B n : Nat} (hn : W.heap.size ≤ n) (f : Fr B n W W') : ∀ {ks : List (Nat × Nat)} {ls : List (List Value)}, FL W B ks ls → FL W' B ks ls
  | [], [], _ => trivial
  | _ :: _, _ :: _, h => ⟨h.1.fr hn f, FL.fr hn f h.2⟩
  | [], _ :: _, h => h.elim
  | _ :: _, [], h => h.elim
theorem FL.grown {W W' : World} {B : Nat} {row : Option Nat} (hg' : W.grownBy W' row) (hr : ∀ k, row = some k → ∃ cs z, W.heap[k]? = some (.cells cs 61 z)) : ∀ {ks : List (Nat × Nat)} {ls : List (List Value)}, FL W B ks ls → FL W' B ks ls
  | [], [], _ => trivial
  | _ :: _, _ :: _, h => ⟨h.1.grown hg' hr, FL.grown hg' hr h.2⟩
  | [], _ :: _, h => h.elim
  | _ :: _, [], h => h.elim
theorem own_type {W : World} {B : Nat} {e : TypeId} {sz n : Nat} {v : Value} {xs : List Value} (h : W.ownsRow B e sz v n xs) : ∀ k, v.ownBlock = some k → ∃ cs z, W.heap[k]? = some (.cells cs e z) := by
  intro k hk
  rcases h.2 with ⟨rfl, _⟩ | ⟨g, cap, cur, rfl, _, hh, _⟩
  · simp [Value.ownBlock] at hk
  · simp [Value.ownBlock] at hk; subst hk; exact ⟨_, _, hh⟩
theorem FL.below {W W' : World} {B : Nat} {ks : List (Nat × Nat)} {ls : List (List Value)} (h : FL W B ks ls) (hb : Below W.heap.size W W') : FL W' B ks ls := h.fr (Nat.le_refl _) fun b _ h2 => hb.block b h2
theorem FL.add {W : World} {B : Nat} {ko : Nat × Nat} {l : List Value} (h1 : FV W B ko l) : ∀ {ks : List (Nat × Nat)} {ls : List (List Value)}, FL W B ks ls → FL W B (ks ++ [ko]) (ls ++ [l])
  | [], [], _ => ⟨h1, trivial⟩
  | _ :: _, _ :: _, h => ⟨h.1, FL.add h1 h.2⟩
  | [], _ :: _, h => h.elim
  | _ :: _, [], h => h.elim
theorem FL.len {W : World} {B : Nat} : ∀ {ks : List (Nat × Nat)} {ls : List (List Value)}, FL W B ks ls → ls.length = ks.length
  | [], [], _ => rfl
  | _ :: _, _ :: _, h => by simp [FL.len h.2]
  | [], _ :: _, h => h.elim
  | _ :: _, [], h => h.elim
theorem FL.get {W : World} {B : Nat} : ∀ {ks : List (Nat × Nat)} {ls : List (List Value)}, FL W B ks ls → ∀ i (h1 : i < ks.length) (h2 : i < ls.length), FV W B ks[i] ls[i]
  | [], [], _, i, h1, _ => by simp at h1
  | _ :: _, _ :: _, h, 0, _, _ => h.1
  | _ :: _, _ :: _, h, i + 1, h1, h2 => FL.get h.2 i (by simpa using h1) (by simpa using h2)
  | [], _ :: _, h, _, _, _ => h.elim
  | _ :: _, [], h, _, _, _ => h.elim
variable {B : Nat}
theorem flag_mkv (K off : Nat) (caps : Array Value) (W : World) (hof : ∀ w', Blk w' W.heap.size 75 #[.func (.func K) #[] caps] → Below W.heap.size W w' → OfV w' B W.heap.size off) : Calls Try.prog 33 #[.func (.func K) #[] caps] W fun r w' =>
    ∃ g, r = .returned (.agg #[.func (.func 64) #[] #[.pointer (some ⟨g, 0, none⟩)], .func (.func 65) #[] #[], .func (.func 66) #[] #[.pointer (some ⟨g, 0, none⟩)]]) ∧ OfV w' B g off ∧ Below W.heap.size W w' := by
  refine (flag_mk K caps W).mono ?_
  rintro r w' ⟨rfl, hB, hb⟩
  exact ⟨W.heap.size, rfl, hof w' hB hb, hb⟩
theorem small_mkv (K off : Nat) (caps : Array Value) (W : World) (hof : ∀ w', Blk w' W.heap.size 78 #[.func (.func K) #[] caps] → Below W.heap.size W w' → OfV w' B W.heap.size off) : Calls Try.prog 36 #[.func (.func K) #[] caps] W fun r w' =>
    ∃ g, r = .returned (.agg #[.func (.func 67) #[] #[.pointer (some ⟨g, 0, none⟩)], .func (.func 68) #[] #[.pointer (some ⟨g, 0, none⟩)], .func (.func 69) #[] #[.pointer (some ⟨g, 0, none⟩)]]) ∧ OfV w' B g off ∧ Below W.heap.size W w' := by
  refine (small_mk K caps W).mono ?_
  rintro r w' ⟨rfl, hB, hb⟩
  exact ⟨W.heap.size, rfl, hof w' hB hb, hb⟩
theorem great_mkv (K off : Nat) (caps : Array Value) (W : World) (hof : ∀ w', Blk w' W.heap.size 81 #[.func (.func K) #[] caps] → Below W.heap.size W w' → OfV w' B W.heap.size off) : Calls Try.prog 43 #[.func (.func K) #[] caps] W fun r w' =>
    ∃ g, r = .returned (.agg #[.func (.func 71) #[] #[.pointer (some ⟨g, 0, none⟩)], .func (.func 72) #[] #[.pointer (some ⟨g, 0, none⟩)], .func (.func 73) #[] #[.pointer (some ⟨g, 0, none⟩)]]) ∧ OfV w' B g off ∧ Below W.heap.size W w' := by
  refine (great_mk K caps W).mono ?_
  rintro r w' ⟨rfl, hB, hb⟩
  exact ⟨W.heap.size, rfl, hof w' hB hb, hb⟩
theorem length_mkv (K off : Nat) (caps : Array Value) (W : World) (hof : ∀ w', Blk w' W.heap.size 85 #[.func (.func K) #[] caps] → Below W.heap.size W w' → OfV w' B W.heap.size off) : Calls Try.prog 48 #[.func (.func K) #[] caps] W fun r w' =>
    ∃ g, r = .returned (.agg #[.func (.func 77) #[] #[.pointer (some ⟨g, 0, none⟩)], .func (.func 78) #[] #[.pointer (some ⟨g, 0, none⟩)], .func (.func 79) #[] #[.pointer (some ⟨g, 0, none⟩)]]) ∧ OfV w' B g off ∧ Below W.heap.size W w' := by
  refine (length_mk K caps W).mono ?_
  rintro r w' ⟨rfl, hB, hb⟩
  exact ⟨W.heap.size, rfl, hof w' hB hb, hb⟩
end Go.Proofs.Ytmngndmcidbakaa
