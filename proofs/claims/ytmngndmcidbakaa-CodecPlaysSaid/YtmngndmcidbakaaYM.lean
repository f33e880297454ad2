/- How styles, nodes and trees lie in memory; what keeps the fields' functions. -/
import Derived.Test.YtmngndmcidbakaaYL
import Derived.Test.YtmngndmcidbakaaPn
import Derived.Test.YtmngndmcidbakaaFoot
namespace Go.Proofs.Ytmngndmcidbakaa
open Go.RowKit
/-- Of each of a style's cells: the field, the part of it. -/
def OF : List (Nat × Nat) := [(2,0),(0,0),(3,0),(4,0),(12,0),(12,1),(13,0),(13,1),(14,0),(14,1),(15,0),(15,1),(16,0),(16,1),(17,0),(17,1),(19,0),(19,1),(20,0),(20,1),(21,0),(21,1),(22,0),(22,1),(23,0),(24,0),(25,0),(26,0),(27,0),(28,0),(29,0),(30,0),(5,0),(8,0),(1,0),(6,0),(7,0),(9,0),(10,0),(11,0),(18,0),(18,1),(31,0)]
def kd (k : Nat) : Nat := KD.getD k 9
def off (k : Nat) : Nat := (FT.getD k (9, 0)).2
def cv (κ j : Nat) (x : Int) (uv : Value) : Value :=
  match κ, j with
  | 0, _ => .bool (x != 0)
  | 1, _ => .int .u8 x
  | 4, 0 => .int .u8 x
  | 5, _ => uv
  | _, _ => .int .i64 x
def SC (g : Nat → Nat → Int) (uv : Value) : List Value := OF.map fun p => cv (kd p.1) p.2 (g p.1 p.2) uv
def gof (L : List (List Int)) (k j : Nat) : Int := (L.getD k []).getD j 0
theorem SC_len (g : Nat → Nat → Int) (uv : Value) : (SC g uv).length = 43 := rfl
theorem FT_kd : ∀ k, k < 32 → FT[k]? = some (kd k, off k) := by decide
theorem OF_off : ∀ k, k < 32 → OF[off k]? = some (k, 0) := by decide
theorem OF_off1 : ∀ k, k < 32 → kd k = 4 → OF[off k + 1]? = some (k, 1) := by decide
theorem SC_off (g : Nat → Nat → Int) (uv : Value) {k : Nat} (h : k < 32) : (SC g uv)[off k]? = some (cv (kd k) 0 (g k 0) uv) := by
  unfold SC; rw [List.getElem?_map, OF_off k h]; rfl
theorem SC_off1 (g : Nat → Nat → Int) (uv : Value) {k : Nat} (h : k < 32) (h4 : kd k = 4) : (SC g uv)[off k + 1]? = some (.int .i64 (g k 1)) := by
  unfold SC; rw [List.getElem?_map, OF_off1 k h h4]; simp [h4, cv]
/-- A style's cells with one part of one field set. -/
def gset (g : Nat → Nat → Int) (k j : Nat) (x : Int) : Nat → Nat → Int := fun k' j' => if k' = k ∧ j' = j then x else g k' j'
theorem OF_nodup : OF.Nodup := by decide
theorem SC_set {g : Nat → Nat → Int} {uv : Value} {o k j : Nat} (x : Int) (h : OF[o]? = some (k, j)) (h5 : kd k ≠ 5) : (SC g uv).set o (cv (kd k) j x uv) = SC (gset g k j x) uv := by
  apply List.ext_getElem?
  intro i
  unfold SC
  rw [List.getElem?_set, List.getElem?_map, List.getElem?_map]
  by_cases hi : o = i
  · subst hi
    have hlt := (List.getElem?_eq_some_iff.1 h).1
    rw [if_pos rfl, if_pos (by simpa using hlt), h]
    simp [gset]
  · rw [if_neg hi]
    cases e : OF[i]? with
    | none => rfl
    | some p =>
      have hne : p ≠ (k, j) := by
        rintro rfl
        exact hi ((List.getElem?_inj (List.getElem?_eq_some_iff.1 h).1 OF_nodup).1 (h.trans e.symm))
      obtain ⟨k', j'⟩ := p
      have hne' : ¬ (k' = k ∧ j' = j) := fun ⟨h1, h2⟩ => hne (by rw [h1, h2])
      simp [gset, hne']
theorem SC_units {g : Nat → Nat → Int} {uv : Value} (uv' : Value) : (SC g uv).set 42 uv' = SC g uv' := rfl
/-- A slice of units. -/
def UR (W : World) (uv : Value) (us : List Int) : Prop := ∃ ua uc, uv = .slice ua us.length uc ∧ Row W ua (us.map (.int .u16)) ∧ us.length ≤ uc ∧ uc ≤ maxLen
theorem UR.below {W W' : World} {uv : Value} {us : List Int} (h : UR W uv us) (hb : Below W.heap.size W W') : UR W' uv us := by
  obtain ⟨ua, uc, h1, h2, h3⟩ := h; exact ⟨ua, uc, h1, h2.below hb, h3⟩
/-- A style at a place. -/
def StAt (W : World) (b o : Nat) (L : List (List Int)) : Prop :=
  b < W.heap.size ∧ ∃ uv, (∀ j, j < 43 → W.cell? ⟨b, o + j, none⟩ = (SC (gof L) uv)[j]?) ∧ UR W uv (L.getD 31 [])
theorem StAt.below {W W' : World} {b o : Nat} {L : List (List Int)} (h : StAt W b o L) (hb : Below W.heap.size W W') : StAt W' b o L := by
  obtain ⟨h1, uv, h2, h3⟩ := h
  exact ⟨Nat.lt_of_lt_of_le h1 hb.size, uv, fun j hj => (hb.cell (p := ⟨b, o + j, none⟩) h1).trans (h2 j hj), h3.below hb⟩
def ncell (n : Nd) (uv : Value) : List Value := .int .i64 n.1 :: SC (gof n.2) uv
def NdAt (W : World) (b o : Nat) (n : Nd) : Prop := W.cell? ⟨b, o, none⟩ = some (.int .i64 n.1) ∧ StAt W b (o + 1) n.2
theorem NdAt.below {W W' : World} {b o : Nat} {n : Nd} (h : NdAt W b o n) (hb : Below W.heap.size W W') : NdAt W' b o n := ⟨(hb.cell (p := ⟨b, o, none⟩) h.2.1).trans h.1, h.2.below hb⟩
def NRow (W : World) (a : Option Addr) (ns : List Nd) : Prop :=
  ns.length ≤ 9223372036854775807 ∧ (0 < ns.length → ∃ b off, a = some ⟨b, off, none⟩ ∧ b < W.heap.size ∧ ∀ i (h : i < ns.length), NdAt W b (off + i * 44) ns[i])
theorem NRow.below {W W' : World} {a : Option Addr} {ns : List Nd} (h : NRow W a ns) (hb : Below W.heap.size W W') : NRow W' a ns :=
  ⟨h.1, fun hp => by
    obtain ⟨b, off, ha, hlt, hc⟩ := h.2 hp
    exact ⟨b, off, ha, Nat.lt_of_lt_of_le hlt hb.size, fun i hi => (hc i hi).below hb⟩⟩
/-- A tree's value. -/
def TrV (W : World) (v : Value) (T : Tr) : Prop := ∃ na nc aa ac, v = .agg #[.slice na T.nodes.length nc, .slice aa T.adv.length ac, .int .i64 T.view] ∧ NRow W na T.nodes ∧ Row W aa (T.adv.map (.int .i64)) ∧ okT T ∧ T.nodes.length ≤ nc ∧ nc ≤ maxLen ∧ T.adv.length ≤ ac ∧ ac ≤ maxLen
theorem TrV.below {W W' : World} {v : Value} {T : Tr} (h : TrV W v T) (hb : Below W.heap.size W W') : TrV W' v T := by
  obtain ⟨na, nc, aa, ac, h1, h2, h3, h4⟩ := h; exact ⟨na, nc, aa, ac, h1, h2.below hb, h3.below hb, h4⟩
/-- The types of the blocks that hold the fields. -/
def FixT : List TypeId := [61, 75, 78, 81, 85, 3, 2, 92]
/-- Blocks of these types are as they were. -/
def Keeps (W W' : World) : Prop := W.heap.size ≤ W'.heap.size ∧ ∀ (k : Nat) cs t z, W.heap[k]? = some (Obj.cells cs t z) → t ∈ FixT → W'.heap[k]? = some (Obj.cells cs t z)
theorem heap_lt {W : World} {k : Nat} {x : Obj} (h : W.heap[k]? = some x) : k < W.heap.size := by
  rcases Nat.lt_or_ge k W.heap.size with h1 | h1
  · exact h1
  · rw [Array.getElem?_eq_none h1] at h; cases h
theorem Keeps.refl (W : World) : Keeps W W := ⟨Nat.le_refl _, fun _ _ _ _ h _ => h⟩
theorem Keeps.trans {a b c : World} (h : Keeps a b) (k : Keeps b c) : Keeps a c := ⟨Nat.le_trans h.1 k.1, fun x cs t z h1 h2 => k.2 x cs t z (h.2 x cs t z h1 h2) h2⟩
theorem Keeps.of_below {W W' : World} (h : Below W.heap.size W W') : Keeps W W' := ⟨h.size, fun k _ _ _ h1 _ => (h.block k (heap_lt h1)).trans h1⟩
theorem Keeps.drew {a w : World} (h : Keeps a w) : Keeps a w.drew := h
theorem Keeps.drewN {a w : World} (h : Keeps a w) (q : Nat) : Keeps a (w.drewN q) := h
theorem Keeps.alloc {a w : World} (h : Keeps a w) (o : Obj) : Keeps a (w.alloc o) := h.trans (Keeps.of_below ((Below.refl _ _).alloc (Nat.le_refl _) o))
theorem Keeps.of_grown {W W' : World} {B : Nat} {e : TypeId} {sz n : Nat} {v : Value} {xs : List Value} (ho : W.ownsRow B e sz v n xs) (he : e ∉ FixT) (h : W.grownBy W' v.ownBlock) : Keeps W W' := by
  refine ⟨h.size, fun k cs t z h1 h2 => (h.block k (heap_lt h1) (fun ek => ?_)).trans h1⟩
  obtain ⟨cs', z', h'⟩ := own_type ho k ek.symm
  rw [h1] at h'
  injection h' with h'
  injection h' with _ h' _
  exact he (h' ▸ h2)
theorem Keeps.setCell {a w : World} (h : Keeps a w) {g i : Nat} {t : TypeId} {cs : Array Value} (hg : Blk w g t cs) (ht : t ∉ FixT) (u : Value) : Keeps a (w.setCell ⟨g, i, none⟩ u) := by
  refine h.trans ⟨by simp [World.setCell], fun k cs' t' z h1 h2 => ?_⟩
  have hne : k ≠ g := by
    rintro rfl
    unfold Blk at hg
    rw [h1] at hg
    injection hg with hg
    injection hg with _ hg _
    exact ht (hg ▸ h2)
  exact (Below.heap_setCell w ⟨g, i, none⟩ u k hne).trans h1
theorem Keeps.of_foot {W W' : World} {fs : List Nat} (h : Foot fs W W') (ht : ∀ k ∈ fs, ∃ t cs, Blk W k t cs ∧ t ∉ FixT) : Keeps W W' := by
  refine ⟨h.size, fun k cs t z h1 h2 => (h.block k (heap_lt h1) (fun hk => ?_)).trans h1⟩
  obtain ⟨t', cs', hb, ht'⟩ := ht k hk
  unfold Blk at hb
  rw [h1] at hb
  injection hb with hb
  injection hb with _ hb _
  exact ht' (hb ▸ h2)
theorem OfV.keeps {W W' : World} {B g o : Nat} (h : OfV W B g o) (hk : Keeps W W') : OfV W' B g o := by
  have key : ∀ t, t ∈ OT → t ∈ FixT := by decide
  cases h with
  | lit K t off ht hg h e c => exact .lit K t _ ht hg (hk.2 _ _ _ _ h (key t ht)) e c
  | bound K t off gk j ht hg hk' h hj e c => exact .bound K t _ gk j ht hg hk' (hk.2 _ _ _ _ h (key t ht)) (hk.2 _ _ _ _ hj (by decide)) e c
theorem FV.keeps {W W' : World} {B : Nat} {ko : Nat × Nat} {l : List Value} (h : FV W B ko l) (hk : Keeps W W') : FV W' B ko l := by
  unfold FV at h ⊢
  split at h <;> (try exact h) <;> (obtain ⟨g, h1, h2⟩ := h; exact ⟨g, h1.keeps hk, h2⟩)
theorem FL.keeps {W W' : World} {B : Nat} (hk : Keeps W W') : ∀ {ks : List (Nat × Nat)} {ls : List (List Value)}, FL W B ks ls → FL W' B ks ls
  | [], [], _ => trivial
  | _ :: _, _ :: _, h => ⟨h.1.keeps hk, FL.keeps hk h.2⟩
  | [], _ :: _, h => h.elim
  | _ :: _, [], h => h.elim
theorem Fs.keeps {W W' : World} {B : Nat} {a : Option Addr} {cap : Nat} (h : Fs W B a cap) (hk : Keeps W W') : Fs W' B a cap := by
  obtain ⟨ls, h1, h2, h3⟩ := h
  refine ⟨ls, ⟨h1.1, ?_⟩, h2.keeps hk, h3⟩
  rcases h1.2 with h | ⟨g, cap', cur, e1, e2, e3, e4⟩
  · exact .inl h
  · exact .inr ⟨g, cap', cur, e1, e2, hk.2 _ _ _ _ e3 (by decide), e4⟩
/-- Field k's three functions. -/
theorem Fs.at_ {W : World} {B : Nat} {a : Option Addr} {cap : Nat} (h : Fs W B a cap) : ∃ g, a = some ⟨g, 0, none⟩ ∧ g < W.heap.size ∧ 32 ≤ cap ∧ cap ≤ maxLen ∧ ∀ k, k < 32 → ∃ v0 v1 v2, FV W B (kd k, off k) [v0, v1, v2] ∧ W.cell? ⟨g, k * 3, none⟩ = some v0 ∧ W.cell? ⟨g, k * 3 + 1, none⟩ = some v1 ∧ W.cell? ⟨g, k * 3 + 2, none⟩ = some v2 := by
  obtain ⟨ls, h1, h2, h3⟩ := h
  have hlen := h2.len
  obtain ⟨a', cap', e, h4, h5, h6, h7, h8⟩ := own_rowS h3 (by decide) h1
  simp only [Value.slice.injEq] at e
  obtain ⟨rfl, _, rfl⟩ := e
  obtain ⟨b, o, ha, hb, hc⟩ := h7.2 (by omega)
  rcases h8 with h8 | ⟨g, h8, _⟩
  · rw [h8] at ha; cases ha
  · rw [h8] at ha
    simp only [Option.some.injEq, Addr.mk.injEq, and_true] at ha
    obtain ⟨rfl, rfl⟩ := ha
    refine ⟨g, h8, hb, h4, h5, fun k hk => ?_⟩
    have hkl : k < ls.length := by omega
    have hl := h3 _ (List.getElem_mem hkl)
    have hv := h2.get k (by show k < 32; exact hk) hkl
    have hft := FT_kd k hk
    rw [List.getElem?_eq_getElem (by show k < 32; exact hk)] at hft
    injection hft with hft
    rw [hft] at hv
    have c0 := hc k hkl 0 (by omega)
    have c1 := hc k hkl 1 (by omega)
    have c2 := hc k hkl 2 (by omega)
    obtain ⟨v0, v1, v2, hq⟩ : ∃ v0 v1 v2, ls[k] = [v0, v1, v2] := by
      clear c0 c1 c2
      generalize ls[k] = q at hl
      match q, hl with
      | [v0, v1, v2], _ => exact ⟨v0, v1, v2, rfl⟩
    refine ⟨v0, v1, v2, by rw [← hq]; exact hv, ?_, ?_, ?_⟩
    · rw [show k * 3 = 0 + k * 3 + 0 from by omega, c0]; simp [hq]
    · rw [show k * 3 + 1 = 0 + k * 3 + 1 from by omega, c1]; simp [hq]
    · rw [show k * 3 + 2 = 0 + k * 3 + 2 from by omega, c2]; simp [hq]
end Go.Proofs.Ytmngndmcidbakaa
