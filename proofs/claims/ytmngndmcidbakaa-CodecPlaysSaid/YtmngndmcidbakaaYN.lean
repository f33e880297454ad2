/- What field k's functions do at a style. -/
import Derived.Test.YtmngndmcidbakaaYM
namespace Go.Proofs.Ytmngndmcidbakaa
open Go.RowKit
theorem okS_at : ∀ {ks : List Nat} {L : List (List Int)}, okS ks L → ∀ k, k < ks.length → okF (ks.getD k 9) (L.getD k [])
  | [], _, _, k, hk => absurd hk (by simp)
  | _ :: _, [], h, _, _ => h.elim
  | κ :: ks, v :: L, h, 0, _ => h.1
  | κ :: ks, v :: L, h, k + 1, hk => by
    have := okS_at h.2 k (by simpa using hk)
    simpa using this
theorem okS_len : ∀ {ks : List Nat} {L : List (List Int)}, okS ks L → L.length = ks.length
  | [], [], _ => rfl
  | _ :: _, [], h => h.elim
  | [], _ :: _, h => h.elim
  | _ :: _, _ :: _, h => by simp [okS_len h.2]
theorem kd_six : ∀ k, k < 32 → kd k = 0 ∨ kd k = 1 ∨ kd k = 2 ∨ kd k = 4 ∨ (kd k = 3 ∧ off k = 37) ∨ (kd k = 5 ∧ off k = 42 ∧ k = 31) := by decide
theorem StAt.c0 {W : World} {b o : Nat} {L : List (List Int)} (h : StAt W b o L) {k : Nat} (hk : k < 32) (h5 : kd k ≠ 5) : W.cell? ⟨b, o + off k, none⟩ = some (cv (kd k) 0 (gof L k 0) (.bool false)) := by
  obtain ⟨_, uv, h2, _⟩ := h
  have hlt : off k < 43 := (List.getElem?_eq_some_iff.1 (OF_off k hk)).1
  rw [h2 _ hlt, SC_off _ _ hk]
  congr 1
  unfold cv
  split <;> first | rfl | (exact absurd (by assumption) h5)
theorem StAt.c1 {W : World} {b o : Nat} {L : List (List Int)} (h : StAt W b o L) {k : Nat} (hk : k < 32) (h4 : kd k = 4) : W.cell? ⟨b, o + off k + 1, none⟩ = some (.int .i64 (gof L k 1)) := by
  obtain ⟨_, uv, h2, _⟩ := h
  have hlt : off k + 1 < 43 := (List.getElem?_eq_some_iff.1 (OF_off1 k hk h4)).1
  rw [show o + off k + 1 = o + (off k + 1) from by omega, h2 _ hlt, SC_off1 _ _ hk h4]
theorem StAt.c5 {W : World} {b o : Nat} {L : List (List Int)} (h : StAt W b o L) : ∃ ua uc, W.cell? ⟨b, o + 42, none⟩ = some (.slice ua (L.getD 31 []).length uc) ∧ Row W ua ((L.getD 31 []).map (.int .u16)) := by
  obtain ⟨_, uv, h2, ua, uc, rfl, h3, _⟩ := h
  exact ⟨ua, uc, (h2 42 (by omega)).trans rfl, h3⟩
/-- A function value that is called. -/
def Fn1 (v : Value) (P : FuncId → Array Value → Prop) : Prop := ∃ K caps, v = .func (.func K) #[] caps ∧ (∀ args w, (callFunc K args).run Try.prog w = .ok (.enter K args) w) ∧ P K caps
theorem FV.one {W : World} {B : Nat} {ko : Nat × Nat} {v0 v1 v2 : Value} (h : FV W B ko [v0, v1, v2]) : (∃ K c, v0 = .func (.func K) #[] c) ∧ (∃ K c, v1 = .func (.func K) #[] c) ∧ ∃ K c, v2 = .func (.func K) #[] c := by
  unfold FV at h
  split at h
  · obtain ⟨g, _, h⟩ := h; simp only [List.cons.injEq, and_true] at h; obtain ⟨rfl, rfl, rfl⟩ := h; exact ⟨⟨_, _, rfl⟩, ⟨_, _, rfl⟩, ⟨_, _, rfl⟩⟩
  · obtain ⟨g, _, h⟩ := h; simp only [List.cons.injEq, and_true] at h; obtain ⟨rfl, rfl, rfl⟩ := h; exact ⟨⟨_, _, rfl⟩, ⟨_, _, rfl⟩, ⟨_, _, rfl⟩⟩
  · obtain ⟨g, _, h⟩ := h; simp only [List.cons.injEq, and_true] at h; obtain ⟨rfl, rfl, rfl⟩ := h; exact ⟨⟨_, _, rfl⟩, ⟨_, _, rfl⟩, ⟨_, _, rfl⟩⟩
  · simp only [List.cons.injEq, and_true] at h; obtain ⟨rfl, rfl, rfl⟩ := h; exact ⟨⟨_, _, rfl⟩, ⟨_, _, rfl⟩, ⟨_, _, rfl⟩⟩
  · obtain ⟨g, _, h⟩ := h; simp only [List.cons.injEq, and_true] at h; obtain ⟨rfl, rfl, rfl⟩ := h; exact ⟨⟨_, _, rfl⟩, ⟨_, _, rfl⟩, ⟨_, _, rfl⟩⟩
  · simp only [List.cons.injEq, and_true] at h; obtain ⟨rfl, rfl, rfl⟩ := h; exact ⟨⟨_, _, rfl⟩, ⟨_, _, rfl⟩, ⟨_, _, rfl⟩⟩
theorem Fn1.same {K : FuncId} {caps : Array Value} {P : FuncId → Array Value → Prop} (h : Fn1 (.func (.func K) #[] caps) P) : (∀ args w, (callFunc K args).run Try.prog w = .ok (.enter K args) w) ∧ P K caps := by
  obtain ⟨K', c', h1, h2, h3⟩ := h
  simp only [Value.func.injEq, Fn.func.injEq, true_and] at h1
  obtain ⟨rfl, rfl⟩ := h1
  exact ⟨h2, h3⟩
theorem field_has {W : World} {B k b o : Nat} {v0 v1 v2 : Value} {L : List (List Int)} (hk : k < 32) (hf : FV W B (kd k, off k) [v0, v1, v2]) (hs : StAt W b o L) (hL : okS KD L) (hu : (L.getD 31 []).length ≤ 10000000) :
    Fn1 v0 fun K caps => Calls Try.prog K (#[.pointer (some ⟨b, o, none⟩)] ++ caps) W (BqPost (decide (L.getD k [] ≠ zv (kd k))) W) := by
  have hok := okS_at hL k hk
  change okF (kd k) _ at hok
  rcases kd_six k hk with h | h | h | h | ⟨h, h'⟩ | ⟨h, h', rfl⟩
  · have c0 := hs.c0 hk (by omega)
    rw [h] at hf hok c0 ⊢
    unfold FV at hf
    obtain ⟨g, hg, hl⟩ := hf
    simp only [List.cons.injEq, and_true] at hl
    obtain ⟨rfl, rfl, rfl⟩ := hl
    refine ⟨64, #[.pointer (some ⟨g, 0, none⟩)], rfl, enters_of Try.func64 (by kernel_rfl) rfl, ?_⟩
    have := flag_has g (off k) b o _ W (hg.at_ b o) c0
    have e : (gof L k 0 != 0) = decide (L.getD k [] ≠ zv 0) := by
      unfold gof
      rcases hok with h | h <;> rw [h] <;> rfl
    rw [← e]; exact this
  · have c0 := hs.c0 hk (by omega)
    rw [h] at hf hok c0 ⊢
    unfold FV at hf
    obtain ⟨g, hg, hl⟩ := hf
    simp only [List.cons.injEq, and_true] at hl
    obtain ⟨rfl, rfl, rfl⟩ := hl
    refine ⟨67, #[.pointer (some ⟨g, 0, none⟩)], rfl, enters_of Try.func67 (by kernel_rfl) rfl, ?_⟩
    have := small_has g (off k) b o _ W (hg.at_ b o) c0
    have e : (gof L k 0 != 0) = decide (L.getD k [] ≠ zv 1) := by
      unfold gof
      obtain ⟨x, hx, _⟩ := hok
      rw [hx]
      by_cases h0 : x = 0
      · subst h0; rfl
      · have : ([x] : List Int) ≠ zv 1 := fun e => h0 (by simpa [zv] using e)
        simp [h0, this]
    rw [← e]; exact this
  · have c0 := hs.c0 hk (by omega)
    rw [h] at hf hok c0 ⊢
    unfold FV at hf
    obtain ⟨g, hg, hl⟩ := hf
    simp only [List.cons.injEq, and_true] at hl
    obtain ⟨rfl, rfl, rfl⟩ := hl
    refine ⟨71, #[.pointer (some ⟨g, 0, none⟩)], rfl, enters_of Try.func71 (by kernel_rfl) rfl, ?_⟩
    have := great_has g (off k) b o _ W (hg.at_ b o) c0
    have e : (gof L k 0 != 0) = decide (L.getD k [] ≠ zv 2) := by
      unfold gof
      obtain ⟨x, hx, _⟩ := hok
      rw [hx]
      by_cases h0 : x = 0
      · subst h0; rfl
      · have : ([x] : List Int) ≠ zv 2 := fun e => h0 (by simpa [zv] using e)
        simp [h0, this]
    rw [← e]; exact this
  · have c0 := hs.c0 hk (by omega)
    have c1 := hs.c1 hk h
    rw [h] at hf hok c0 ⊢
    unfold FV at hf
    obtain ⟨g, hg, hl⟩ := hf
    simp only [List.cons.injEq, and_true] at hl
    obtain ⟨rfl, rfl, rfl⟩ := hl
    refine ⟨77, #[.pointer (some ⟨g, 0, none⟩)], rfl, enters_of Try.func77 (by kernel_rfl) rfl, ?_⟩
    have := length_has g (off k) b o _ _ W (hg.at_ b o) c0 c1
    have e : (gof L k 0 != 0 || gof L k 1 != 0) = decide (L.getD k [] ≠ zv 4) := by
      unfold gof
      obtain ⟨x, n, hx, _⟩ := hok
      rw [hx]
      by_cases h0 : x = 0 <;> by_cases h1 : n = 0 <;> simp [h0, h1, zv]
    rw [← e]; exact this
  · have c0 := hs.c0 hk (by omega)
    rw [h] at hf hok c0 ⊢
    rw [h'] at c0
    unfold FV at hf
    simp only [List.cons.injEq, and_true] at hf
    obtain ⟨rfl, rfl, rfl⟩ := hf
    refine ⟨74, #[], rfl, enters_of Try.func74 (by kernel_rfl) rfl, ?_⟩
    have := order_has b o _ W c0
    have e : (gof L k 0 != 0) = decide (L.getD k [] ≠ zv 3) := by
      unfold gof
      obtain ⟨x, hx, _⟩ := hok
      rw [hx]
      by_cases h0 : x = 0
      · subst h0; rfl
      · have : ([x] : List Int) ≠ zv 3 := fun e => h0 (by simpa [zv] using e)
        simp [h0, this]
    rw [← e]; exact this
  · obtain ⟨ua, uc, c0, hr⟩ := hs.c5
    rw [h] at hf hok ⊢
    unfold FV at hf
    simp only [List.cons.injEq, and_true] at hf
    obtain ⟨rfl, rfl, rfl⟩ := hf
    refine ⟨80, #[], rfl, enters_of Try.func80 (by kernel_rfl) rfl, ?_⟩
    have := units_has b o ua _ uc W c0 (by omega)
    have e : decide ((L.getD 31 []).length ≠ 0) = decide (L.getD 31 [] ≠ zv 5) := by
      apply decide_eq_decide.2
      constructor
      · intro h e; exact h (by rw [e]; rfl)
      · intro h e; exact h (List.eq_nil_of_length_eq_zero e)
    rw [← e]; exact this
theorem field_put {W0 W : World} {B k b o : Nat} {v0 v1 v2 : Value} {L : List (List Int)} (hk : k < 32) (hf : FV W B (kd k, off k) [v0, v1, v2]) (hs0 : StAt W0 b o L) (hb : Below W0.heap.size W0 W) (hL : okS KD L) (hu : (L.getD 31 []).length ≤ 10000000) (hz : L.getD k [] ≠ zv (kd k)) :
    Fn1 v1 fun K caps => ∀ (cur : List Int) (a : Option Addr) (cap : Nat), BOwn W W0.heap.size (.slice a cur.length cap) cur → cur.length ≤ 80000000 →
      Calls Try.prog K (#[.slice a cur.length cap, .pointer (some ⟨b, o, none⟩)] ++ caps) W (AppPost W0.heap.size (.slice a cur.length cap) (cur ++ encF (kd k) (L.getD k [])) W) := by
  have hok := okS_at hL k hk
  change okF (kd k) _ at hok
  have hs := hs0.below hb
  have hbl := hs0.1
  have hne : ∀ (cur : List Int) (a : Option Addr) (cap q : Nat), BOwn W W0.heap.size (.slice a cur.length cap) cur → q < W0.heap.size → (Value.slice a cur.length cap).ownBlock ≠ some q := fun cur a cap q h hq e => by
    have := own_ge h q e; omega
  rcases kd_six k hk with h | h | h | h | ⟨h, h'⟩ | ⟨h, h', rfl⟩
  · have c0 := hs.c0 hk (by omega)
    rw [h] at hf hok c0 ⊢
    unfold FV at hf
    obtain ⟨g, hg, hl⟩ := hf
    simp only [List.cons.injEq, and_true] at hl
    obtain ⟨rfl, rfl, rfl⟩ := hl
    refine ⟨65, #[], rfl, enters_of Try.func65 (by kernel_rfl) rfl, fun cur a cap ho hl => ?_⟩
    exact flag_put W0.heap.size cur a cap b o W ho
  · have c0 := hs.c0 hk (by omega)
    rw [h] at hf hok c0 ⊢
    unfold FV at hf
    obtain ⟨g, hg, hl⟩ := hf
    simp only [List.cons.injEq, and_true] at hl
    obtain ⟨rfl, rfl, rfl⟩ := hl
    refine ⟨68, #[.pointer (some ⟨g, 0, none⟩)], rfl, enters_of Try.func68 (by kernel_rfl) rfl, fun cur a cap ho hl => ?_⟩
    obtain ⟨x, hx, hx2⟩ := hok
    have e : gof L k 0 = x := by unfold gof; rw [hx]; rfl
    rw [e] at c0
    rw [hx]
    exact small_put W0.heap.size cur a cap g (off k) b o x W ho hb.size (by omega) (hg.at_ b o) c0 hx2
  · have c0 := hs.c0 hk (by omega)
    rw [h] at hf hok c0 ⊢
    unfold FV at hf
    obtain ⟨g, hg, hl⟩ := hf
    simp only [List.cons.injEq, and_true] at hl
    obtain ⟨rfl, rfl, rfl⟩ := hl
    refine ⟨72, #[.pointer (some ⟨g, 0, none⟩)], rfl, enters_of Try.func72 (by kernel_rfl) rfl, fun cur a cap ho hl => ?_⟩
    obtain ⟨x, hx, hx2⟩ := hok
    have e : gof L k 0 = x := by unfold gof; rw [hx]; rfl
    rw [e] at c0
    rw [hx]
    exact great_put W0.heap.size cur a cap g (off k) b o x W ho hb.size (by omega) (hg.at_ b o) c0 hx2
  · have c0 := hs.c0 hk (by omega)
    have c1 := hs.c1 hk h
    rw [h] at hf hok c0 ⊢
    unfold FV at hf
    obtain ⟨g, hg, hl⟩ := hf
    simp only [List.cons.injEq, and_true] at hl
    obtain ⟨rfl, rfl, rfl⟩ := hl
    refine ⟨78, #[.pointer (some ⟨g, 0, none⟩)], rfl, enters_of Try.func78 (by kernel_rfl) rfl, fun cur a cap ho hl => ?_⟩
    obtain ⟨x, n, hx, hx2, hn2⟩ := hok
    have e : gof L k 0 = x := by unfold gof; rw [hx]; rfl
    have e1 : gof L k 1 = n := by unfold gof; rw [hx]; rfl
    rw [e] at c0
    rw [e1] at c1
    rw [hx]
    have := length_put W0.heap.size cur a cap g (off k) b o x n W ho hb.size (by omega) (hg.at_ b o) c0 c1 hs.1 (hne cur a cap b ho hbl) hx2 hn2
    rw [List.append_assoc] at this
    exact this
  · have c0 := hs.c0 hk (by omega)
    rw [h] at hf hok c0 ⊢
    rw [h'] at c0
    unfold FV at hf
    simp only [List.cons.injEq, and_true] at hf
    obtain ⟨rfl, rfl, rfl⟩ := hf
    refine ⟨75, #[], rfl, enters_of Try.func75 (by kernel_rfl) rfl, fun cur a cap ho hl => ?_⟩
    obtain ⟨x, hx, hx2⟩ := hok
    have e : gof L k 0 = x := by unfold gof; rw [hx]; rfl
    rw [e] at c0
    rw [hx]
    exact order_put W0.heap.size cur a cap b o x W ho hb.size (by omega) c0 hx2
  · obtain ⟨ua, uc, c0, hr⟩ := hs0.c5
    have c0' := (hb.cell (p := ⟨b, o + 42, none⟩) hbl).trans c0
    rw [h] at hf hok ⊢
    unfold FV at hf
    simp only [List.cons.injEq, and_true] at hf
    obtain ⟨rfl, rfl, rfl⟩ := hf
    refine ⟨81, #[], rfl, enters_of Try.func81 (by kernel_rfl) rfl, fun cur a cap ho hl => ?_⟩
    have := units_put W0.heap.size cur a cap b o ua _ uc W ho hb.size (by omega) c0' hs.1 (hne cur a cap b ho hbl) (hr.below hb) hu hok.1 (fun q o' hq => by
      by_cases h0 : 0 < (L.getD 31 []).length
      · obtain ⟨q', o'', h1, h2, _⟩ := hr.2 (by rw [List.length_map]; exact h0)
        rw [hq] at h1
        simp only [Option.some.injEq, Addr.mk.injEq, and_true] at h1
        obtain ⟨rfl, rfl⟩ := h1
        exact hne cur a cap q ho h2
      · exact absurd (List.eq_nil_of_length_eq_zero (show (L.getD 31 []).length = 0 by omega)) (fun e => hz (by rw [h]; exact e)))
    rw [List.append_assoc] at this
    exact this
end Go.Proofs.Ytmngndmcidbakaa
