/- Rows of elements of sz cells each: flat lists, rows of the call's own, append of such. -/
import Derived.Test.YtmngndmcidbakaaApp
namespace Go.Proofs.Ytmngndmcidbakaa
open Go.RowKit

theorem flat_len {sz : Nat} : ∀ (L : List (List Value)), (∀ x ∈ L, x.length = sz) → L.flatten.length = L.length * sz
  | [], _ => by simp
  | a :: L, h => by
    rw [List.flatten_cons, List.length_append, flat_len L (fun x hx => h x (List.mem_cons_of_mem _ hx)), h a List.mem_cons_self, List.length_cons, Nat.add_mul, Nat.one_mul, Nat.add_comm]
theorem flat_get {sz : Nat} : ∀ (L : List (List Value)), (∀ x ∈ L, x.length = sz) → ∀ i (hi : i < L.length) j (hj : j < L[i].length), L.flatten[i * sz + j]? = some L[i][j]
  | [], _, i, hi, _, _ => absurd hi (by simp)
  | a :: L, h, 0, _, j, hj => by
    rw [List.flatten_cons, Nat.zero_mul, Nat.zero_add, List.getElem?_append_left (show j < a.length from hj)]
    exact List.getElem?_eq_getElem hj
  | a :: L, h, i + 1, hi, j, hj => by
    have ha := h a List.mem_cons_self
    rw [List.flatten_cons, Nat.add_mul, Nat.one_mul, List.getElem?_append_right (by omega), show i * sz + sz + j - a.length = i * sz + j from by omega]
    exact flat_get L (fun x hx => h x (List.mem_cons_of_mem _ hx)) i (by simpa using hi) j hj
theorem flat_one {L : List (List Value)} (h1 : ∀ u ∈ L, ∀ z ∈ u, z.oneCell' = true) : ∀ z ∈ L.flatten, z.oneCell' = true := by
  intro z hz
  rw [List.mem_flatten] at hz
  obtain ⟨u, hu, hz⟩ := hz
  exact h1 u hu z hz
theorem add_eq (b off j : Nat) : (⟨b, off, none⟩ : Addr).add j = ⟨b, off + j, none⟩ := by
  unfold Addr.add
  by_cases h : j = 0 <;> simp [h]
theorem RowS.flat {w : World} {b off sz : Nat} {L : List (List Value)} (hsz : 0 < sz) (hl : ∀ x ∈ L, x.length = sz) (hc : ∀ i (h : i < L.length) j (hj : j < L[i].length), w.cell? ⟨b, off + i * sz + j, none⟩ = some L[i][j]) :
    ∀ k u, L.flatten[k]? = some u → w.cell? ((⟨b, off, none⟩ : Addr).add k) = some u := by
  intro k u hu
  have hk : k < L.length * sz := by rw [← flat_len L hl]; exact (List.getElem?_eq_some_iff.1 hu).1
  have hi : k / sz < L.length := Nat.div_lt_of_lt_mul (by rw [Nat.mul_comm]; exact hk)
  have hj : k % sz < sz := Nat.mod_lt _ hsz
  have hlen := hl L[k / sz] (List.getElem_mem hi)
  have e : k / sz * sz + k % sz = k := by rw [Nat.mul_comm]; exact Nat.div_add_mod k sz
  have h1 := flat_get L hl (k / sz) hi (k % sz) (by omega)
  rw [e, hu] at h1
  injection h1 with h1
  rw [h1, add_eq, ← hc (k / sz) hi (k % sz) (by omega), show off + k / sz * sz + k % sz = off + k from by omega]

theorem own_rowS {w : World} {base sz n : Nat} {e : TypeId} {v : Value} {L : List (List Value)} (hl : ∀ x ∈ L, x.length = sz) (hsz : 0 < sz) (h : w.ownsRow base e sz v n L.flatten) :
    ∃ a cap, v = .slice a n cap ∧ n ≤ cap ∧ cap ≤ maxLen ∧ L.length = n ∧ RowS w a sz L ∧ (a = none ∨ ∃ g, a = some ⟨g, 0, none⟩ ∧ base ≤ g ∧ g < w.heap.size ∧ ∀ o, w.frozen? ⟨g, o, none⟩ = false) := by
  have hlen := h.1
  rw [flat_len L hl] at hlen
  have hLn : L.length = n := Nat.eq_of_mul_eq_mul_right hsz hlen
  rcases h.2 with ⟨rfl, rfl⟩ | ⟨g, cap, cur, rfl, hbg, hh, hnc, hcap, _, htake⟩
  · have : L = [] := List.eq_nil_of_length_eq_zero hLn
    subst this
    exact ⟨none, 0, rfl, by omega, by simp, rfl, ⟨by simp, fun h => by simp at h⟩, .inl rfl⟩
  · have hg : g < w.heap.size := by
      rcases Nat.lt_or_ge g w.heap.size with h1 | h1
      · exact h1
      · rw [Array.getElem?_eq_none h1] at hh; cases hh
    refine ⟨some ⟨g, 0, none⟩, cap, rfl, hnc, hcap, hLn, ⟨by rw [hLn]; unfold maxLen at hcap; omega, fun _ => ⟨g, 0, rfl, hg, fun i hi j hj => ?_⟩⟩, .inr ⟨g, rfl, hbg, hg, fun o => (show Blk w g e cur from hh).frozen o⟩⟩
    have := h.cells (g := g) rfl (i * sz + j) _ (flat_get L hl i hi j hj)
    rw [add_eq] at this
    rw [show 0 + i * sz + j = 0 + (i * sz + j) from by omega]
    exact this

theorem run_append_nilS {P : Program} {w : World} (base : Nat) (t ty e : TypeId) (i : TypeInfo) (size : Nat) (ht : P.underlying t = some (.slice e)) (hi : P.info? e = some i)
    (v : Value) (n : Nat) (xs : List Value) (hown : w.ownsRow base e size v n xs) (c : Nat) : (Builtin.append_ #[t, t] ty #[v, .slice none 0 c]).run P w = .ok v w :=
  run_append_nil base t ty e i size ht hi v n xs hown c

theorem wpList_append_rows {P : Program} {w : World} {ops : Array Oper} {rest : List Oper} {o : Oper} {a : Act} {Q : Exit → Act → World → Prop} (hgd : o.guard = none) (s x : Operand) (t : TypeId)
    (ho : o.op = .call { callee := .builtin .append, args := #[s, x], argTypes := #[t, t] })
    (base : Nat) (e : TypeId) (i : TypeInfo) (z : Value) (size bytes : Nat) (ht : P.underlying t = some (.slice e)) (hi : P.info? e = some i) (hz : i.zero = some z)
    (hsize : i.size = size) (hby : i.bytes = bytes) (hzs : z.cells.size = size) (hsz : 0 < size)
    (v : Value) (n : Nat) (xs : List Value) (hs : a.eval s = v) (hown : w.ownsRow base e size v n xs)
    (A : Option Addr) (m c : Nat) (L : List (List Value)) (hx : a.eval x = .slice A m c) (hr : RowS w A size L) (hm : L.length = m) (hl : ∀ u ∈ L, u.length = size) (h1 : ∀ u ∈ L, ∀ q ∈ u, q.oneCell' = true)
    (h63 : n + m ≤ maxLen) (hbytes : (n + m) * bytes ≤ 140737488355328) (hbase : base ≤ w.heap.size)
    (h : ∀ v' w', w'.ownsRow base e size v' (n + m) (xs ++ L.flatten) → w.grownBy w' v.ownBlock → (v' = .slice none 0 0 ↔ v = .slice none 0 0 ∧ m = 0) → wpList P ops Q rest (a.put o.dst v') w') : wpList P ops Q (o :: rest) a w := by
  cases A with
  | none =>
    have hnil : L = [] := by
      rcases Nat.eq_zero_or_pos L.length with h0 | h0
      · exact List.eq_nil_of_length_eq_zero h0
      · obtain ⟨b, off, hh, _⟩ := hr.2 h0
        cases hh
    subst hnil
    obtain rfl : m = 0 := by simpa using hm.symm
    refine wpList_plain hgd fun K hK => ?_
    have hrun := run_append_nilS (P := P) (w := w) base t o.type e i size ht hi v n xs hown c
    unfold Oper.wp
    simp only [execOp, ho, resolve, invoke, builtin, Sem.run_bind, Sem.run_pure, Result.andThen_ok, List.map_toArray, List.map_cons, List.map_nil, hs, hx, hrun]
    exact hK _ _ (h v w (by simpa using hown) (World.grownBy.refl w _) (by simp))
  | some ad =>
    refine wpList_append_own w hgd s x t ho base e i z size bytes ht hi hz hsize hby hzs hsz v n xs hs hown ad m c L.flatten hx (by rw [flat_len L hl, hm]) (fun j u hu => ?_) (flat_one h1) h63 hbytes hbase h
    have hj : j < L.flatten.length := (List.getElem?_eq_some_iff.1 hu).1
    rw [flat_len L hl] at hj
    obtain ⟨b, off, hh, _, hc⟩ := hr.2 (by rcases Nat.eq_zero_or_pos L.length with h0 | h0; (rw [h0] at hj; omega); exact h0)
    injection hh with hh
    subst hh
    exact RowS.flat hsz hl hc j u hu
theorem RowS.mono_len {w : World} {a : Option Addr} {sz : Nat} {L : List (List Value)} (h : RowS w a sz L) : L.length ≤ 9223372036854775807 := h.1
theorem RowS.at_ {w : World} {a : Option Addr} {sz : Nat} {L : List (List Value)} (h : RowS w a sz L) (hp : 0 < L.length) : ∃ b off, a = some ⟨b, off, none⟩ ∧ b < w.heap.size ∧ ∀ i (hi : i < L.length) j (hj : j < L[i].length), w.cell? ⟨b, off + i * sz + j, none⟩ = some L[i][j] := h.2 hp
/-- A row that stands alone in a block from 'base' on. -/
def RowG (w : World) (a : Option Addr) (sz base : Nat) (L : List (List Value)) : Prop :=
  RowS w a sz L ∧ ((a = none ∧ L = []) ∨ ∃ g, a = some ⟨g, 0, none⟩ ∧ base ≤ g ∧ g < w.heap.size ∧ ∀ o, w.frozen? ⟨g, o, none⟩ = false)
theorem RowG.keep {w w' : World} {a : Option Addr} {sz base : Nat} {L : List (List Value)} (h : RowG w a sz base L) (hs : w.heap.size ≤ w'.heap.size) (hb : ∀ k, base ≤ k → k < w.heap.size → w'.heap[k]? = w.heap[k]?) : RowG w' a sz base L := by
  obtain ⟨h1, h2⟩ := h
  rcases h2 with ⟨ha, hL⟩ | ⟨g, ha, hg, hlt, hf⟩
  · subst hL
    exact ⟨⟨by simp, fun h => by simp at h⟩, .inl ⟨ha, rfl⟩⟩
  · refine ⟨⟨h1.1, fun hp => ?_⟩, .inr ⟨g, ha, hg, by omega, fun o => ?_⟩⟩
    · obtain ⟨b, off, hab, hblt, hc⟩ := h1.2 hp
      rw [ha] at hab
      obtain ⟨rfl, rfl⟩ : g = b ∧ 0 = off := by simpa using hab
      exact ⟨g, 0, ha, by omega, fun i hi j hj => (World.cell?_of_block (w := w) (a := ⟨g, 0 + i * sz + j, none⟩) (hb g hg hlt)).trans (hc i hi j hj)⟩
    · rw [← hf o]; unfold World.frozen?; rw [hb g hg hlt]
theorem RowG.below {w w' : World} {a : Option Addr} {sz base : Nat} {L : List (List Value)} (h : RowG w a sz base L) (hb : Below w.heap.size w w') : RowG w' a sz base L :=
  h.keep hb.size fun k _ hk => hb.block k hk
theorem own_rowG {w : World} {base sz n : Nat} {e : TypeId} {v : Value} {L : List (List Value)} (hl : ∀ x ∈ L, x.length = sz) (hsz : 0 < sz) (h : w.ownsRow base e sz v n L.flatten) :
    ∃ a cap, v = .slice a n cap ∧ n ≤ cap ∧ cap ≤ maxLen ∧ L.length = n ∧ RowG w a sz base L := by
  obtain ⟨a, cap, rfl, h1, h2, h3, h4, h5⟩ := own_rowS hl hsz h
  refine ⟨a, cap, rfl, h1, h2, h3, h4, ?_⟩
  rcases h5 with rfl | ⟨g, rfl, h6⟩
  · left
    refine ⟨rfl, ?_⟩
    rcases Nat.eq_zero_or_pos L.length with h0 | h0
    · exact List.eq_nil_of_length_eq_zero h0
    · obtain ⟨b, off, hh, _⟩ := h4.2 h0
      cases hh
  · exact .inr ⟨g, rfl, h6⟩
theorem RowG.mono {w : World} {a : Option Addr} {sz base base' : Nat} {L : List (List Value)} (h : RowG w a sz base L) (hb : base' ≤ base) : RowG w a sz base' L := by
  obtain ⟨h1, h2⟩ := h
  refine ⟨h1, ?_⟩
  rcases h2 with h2 | ⟨g, ha, hg, h3⟩
  · exact .inl h2
  · exact .inr ⟨g, ha, by omega, h3⟩
/-- One element's cells, boxed alone. -/
theorem Blk.one {w : World} {g : Nat} {t : TypeId} {cs : Array Value} (h : Blk w g t cs) : ∀ j u, cs.toList[j]? = some u → w.cell? ((⟨g, 0, none⟩ : Addr).add j) = some u := h.news
end Go.Proofs.Ytmngndmcidbakaa
