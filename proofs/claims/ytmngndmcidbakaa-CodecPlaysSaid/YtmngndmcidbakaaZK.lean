/- Walk: Vast; how long a tree's bytes are. -/
import Derived.Test.YtmngndmcidbakaaZI
namespace Go.Proofs.Ytmngndmcidbakaa
open Go.RowKit
theorem encF_le {κ : Nat} {v : List Int} (h : okF κ v) : (encF κ v).length ≤ 18 + 2 * v.length ∧ (κ ≠ 5 → v.length ≤ 2) := by
  rcases kcase κ with e | e | e | e | ⟨k0, k1, k4, k5⟩
  · subst e
    have : encF 0 v = [] := rfl
    rw [this]
    rcases h with rfl | rfl <;> simp
  · subst e
    obtain ⟨x, rfl, hx⟩ := h
    have : encF 1 [x] = num x := rfl
    have h9 := (num_len (n := x) ⟨by have := hx.1; omega, by have := hx.2; omega⟩).1
    rw [this]
    exact ⟨by simp; omega, fun _ => by simp⟩
  · subst e
    obtain ⟨x, n, rfl, hx, hn⟩ := h
    have : encF 4 [x, n] = num x ++ num n := rfl
    have h9 := (num_len (n := x) ⟨by have := hx.1; omega, by have := hx.2; omega⟩).1
    have h8 := (num_len (n := n) hn).1
    rw [this, List.length_append]
    exact ⟨by simp; omega, fun _ => by simp⟩
  · subst e
    have : encF 5 v = num v.length ++ uBytes v := rfl
    have h9 := (num_len (n := (v.length : Int)) ⟨by omega, by have := h.2; omega⟩).1
    rw [this, List.length_append, uBytes_len]
    exact ⟨by omega, fun h => absurd rfl h⟩
  · rw [okF_o k0 k1 k4 k5] at h
    obtain ⟨x, rfl, hx⟩ := h
    rw [encF_o k0 k4 k5]
    have h9 := (num_len (n := x) hx).1
    exact ⟨by simp; omega, fun _ => by simp⟩
theorem wrF_le : ∀ {ks : List Nat} {k : Nat} {vs : List (List Int)}, okS ks vs → (wrF ks k vs).length ≤ 1 + (vs.map fun v => 19 + 2 * v.length).sum
  | [], k, [], _ => by simp [wrF]
  | [], _, _ :: _, h => h.elim
  | _ :: _, _, [], h => h.elim
  | κ :: ks, k, v :: vs, h => by
    have ih := wrF_le (k := k + 1) h.2
    have h1 := (encF_le h.1).1
    unfold wrF
    rw [List.length_append, List.map_cons, List.sum_cons]
    split
    · simp; omega
    · rw [List.length_cons]; omega
theorem sum_le : ∀ {ks : List Nat} {vs : List (List Int)}, (∀ κ ∈ ks, κ ≠ 5) → okS (ks ++ [5]) vs → (vs.map fun v => 19 + 2 * v.length).sum ≤ 23 * ks.length + 19 + 2 * (vs.getD ks.length []).length
  | [], [v], _, _ => by simp
  | [], [], _, h => h.elim
  | [], _ :: _ :: _, _, h => h.2.elim
  | κ :: ks, v :: vs, hk, h => by
    have ih := sum_le (fun x hx => hk x (List.mem_cons_of_mem _ hx)) h.2
    have h1 := (encF_le h.1).2 (hk κ (by simp))
    rw [List.map_cons, List.sum_cons, List.length_cons]
    simp only [List.getD_cons_succ]
    omega
  | _ :: _, [], _, h => h.elim
theorem style_len {L : List (List Int)} (h : okS KD L) : (wrF KD 1 L).length ≤ 800 + 2 * (L.getD 31 []).length := by
  have h1 := wrF_le (k := 1) h
  have h2 := sum_le (ks := KD.take 31) (vs := L) (by decide) h
  have h3 : (KD.take 31).length = 31 := rfl
  rw [h3] at h2
  omega
def vsum (l : List Nd) : Nat := (l.map fun n => min (n.2.getD 31 []).length 5000).sum
theorem vsum_succ {l : List Nd} {i : Nat} (h : i < l.length) : vsum (l.take (i + 1)) = vsum (l.take i) + min (l[i].2.getD 31 []).length 5000 := by
  unfold vsum
  rw [List.take_succ_eq_append_getElem h, List.map_append, List.sum_append]
  simp
theorem vsum_le (l : List Nd) (i : Nat) : vsum (l.take i) ≤ 5000 * i := by
  unfold vsum
  induction l generalizing i with
  | nil => simp
  | cons x l ih =>
    cases i with
    | zero => simp
    | succ i => have := ih i; simp only [List.take_succ_cons, List.map_cons, List.sum_cons]; omega
theorem adv_le {l : List Int} (h : ∀ a ∈ l, I64 a) : (l.map num).flatten.length ≤ 9 * l.length := by
  induction l with
  | nil => simp
  | cons x l ih =>
    have h1 := (num_len (h x (by simp))).1
    have := ih (fun a ha => h a (by simp [ha]))
    simp only [List.map_cons, List.flatten_cons, List.length_append, List.length_cons]; omega
theorem nodes_le {l : List Nd} (h : ∀ n ∈ l, okN n) (hv : vsum l < 5000) : (l.map wrN).flatten.length ≤ 809 * l.length + 2 * vsum l := by
  induction l with
  | nil => simp
  | cons x l ih =>
    have h1 := (num_len (h x (by simp)).1).1
    have h2 := style_len (h x (by simp)).2
    have hs : vsum (x :: l) = min (x.2.getD 31 []).length 5000 + vsum l := by unfold vsum; rw [List.map_cons, List.sum_cons]
    rw [hs] at hv ⊢
    have := ih (fun a ha => h a (by simp [ha])) (by omega)
    simp only [List.map_cons, List.flatten_cons, List.length_append, List.length_cons]
    have e : (wrN x).length = (num x.1).length + (wrF KD 1 x.2).length := by unfold wrN; rw [List.length_append]
    omega
theorem small_wr {T : Tr} (ok : okT T) (h : T.nodes.length + T.adv.length + vsum T.nodes ≤ 5000) : (wrT T).length ≤ 10000000 := by
  unfold wrT
  simp only [List.length_append]
  have h1 := (num_len ok.view).1
  have h2 := (num_len (n := (T.adv.length : Int)) ⟨by omega, by omega⟩).1
  have h3 := (num_len (n := (T.nodes.length : Int)) ⟨by omega, by omega⟩).1
  have h4 := adv_le ok.adv
  by_cases h0 : T.nodes = []
  · have h5 : (T.nodes.map wrN).flatten.length = 0 := by rw [h0]; rfl
    omega
  · have : 0 < T.nodes.length := List.length_pos_iff.2 h0
    have h5 := nodes_le ok.nodes (by omega)
    omega
set_option maxRecDepth 100000 in
set_option maxHeartbeats 4000000 in
theorem vast_any (v : Value) (T : Tr) (w : World) (hT : TrV w v T) (hz1 : T.nodes.length ≤ 1000000000000000) (hz2 : T.adv.length ≤ 1000000000000000000) :
    Calls Try.prog 15 #[v] w fun r w' => ∃ x : Bool, r = .returned (.bool x) ∧ Below w.heap.size w w' ∧ (x = false → (wrT T).length ≤ 10000000) := by
  obtain ⟨na, nc, aa, ac, rfl, hn1, ha1, ok1, hnc, hnc2, hac, hac2⟩ := hT
  obtain ⟨W1, hW1⟩ : ∃ W1, W1 = w.alloc (.cells #[.slice na T.nodes.length nc, .slice aa T.adv.length ac, .int .i64 T.view] 35) := ⟨_, rfl⟩
  have k1 : Below w.heap.size w W1 := by rw [hW1]; exact (Below.refl _ _).alloc (Nat.le_refl _) _
  have BA : Blk W1 w.heap.size 35 #[.slice na T.nodes.length nc, .slice aa T.adv.length ac, .int .i64 T.view] := by rw [hW1]; exact Blk.new w _ _
  have N1 := hide (hn1.below k1)
  have K1 := hide k1
  have HW1 := hide hW1
  have OK := hide ok1
  obtain ⟨ga, hga⟩ : ∃ ga, ga = w.heap.size := ⟨_, rfl⟩
  have HGA := hide hga
  rw [← hga] at BA
  have BA := hide BA
  clear hn1 ha1 ok1 hW1 k1 hga
  go_enter Try.func15, Try.ntmps15
  go_upto_region 1 with fail
  rw [← HW1.out, ← HGA.out]
  have c0 : W1.cell? ⟨ga, 0, none⟩ = some (.slice na T.nodes.length nc) := BA.out.cell 0
  have c1 : W1.cell? ⟨ga, 1, none⟩ = some (.slice aa T.adv.length ac) := BA.out.cell 1
  go_wp2_with fail
  clear c0 c1
  go_loopw [3, 4] (fun s3 s4 wr => ∃ i N : Nat, i ≤ T.nodes.length ∧ s4 = .int .i64 i ∧ s3 = .int .i64 N ∧ Hid (N = T.nodes.length + T.adv.length + vsum (T.nodes.take i)) ∧ ∃ q, wr = W1.drewN q) (fun _ s4 _ => T.nodes.length - (intOf s4).toNat)
  case atStart => exact ⟨0, T.nodes.length + T.adv.length, Nat.zero_le _, rfl, by go_num, hide (by simp [vsum]), 0, rfl⟩
  case round =>
    obtain ⟨i, N, hi, rfl, rfl, hN, q, rfl⟩ := hrel
    have c0 : (W1.drewN q).cell? ⟨ga, 0, none⟩ = some (.slice na T.nodes.length nc) := BA.out.cell 0
    have hNb : N ≤ 9000000000000000000 := by
      rw [hN.out]
      have := vsum_le T.nodes i
      omega
    by_cases hlt : i < T.nodes.length
    · by_cases h5 : N ≤ 5000
      · obtain ⟨b1, o1, e1, hb1, hn1⟩ := N1.out.2 (by omega)
        subst e1
        obtain ⟨_, hst⟩ := hn1 i hlt
        obtain ⟨ua, uc, x0, hu⟩ := hst.c5
        have hul := hu.1
        rw [List.length_map] at hul
        have HV := hide (vsum_succ hlt)
        have x0 : (W1.drewN q).cell? ⟨b1, o1 + i * 44 + 1 + 42, none⟩ = _ := x0
        clear hn1 hst hu
        generalize (T.nodes[i].2.getD 31 []).length = u at x0 hul HV
        have d1 : decide ((N : Int) ≤ 5000) = true := by rw [decide_eq_true_eq]; omega
        have d2 : decide ((i : Int) < (T.nodes.length : Int)) = true := by rw [decide_eq_true_eq]; omega
        have HN : Hid (N + min u 5000 = T.nodes.length + T.adv.length + vsum (T.nodes.take (i + 1))) := hide (by rw [HV.out, hN.out]; omega)
        have hval : Value.int IntKind.i64 ((N : Int) + if 5000 < (u : Int) then 5000 else (u : Int)) = .int .i64 ((N + min u 5000 : Nat) : Int) := by
          congr 1
          split <;> omega
        clear HV hN
        go_wp2_with fail
        go_roundw
        case rel => exact ⟨i + 1, N + min u 5000, hlt, by go_num, hval, HN, q, rfl⟩
        case measure => simp [intOf]; omega
      · have d1 : decide ((N : Int) ≤ 5000) = false := by rw [decide_eq_false_iff_not]; omega
        have d2 : decide ((i : Int) < (T.nodes.length : Int)) = true := by rw [decide_eq_true_eq]; omega
        have d3 : decide (5000 < (N : Int)) = true := by rw [decide_eq_true_eq]; omega
        go_wp2_with fail
        go_returns
        exact ⟨_, rfl, below_drewN K1.out q, fun h => by cases h⟩
    · obtain rfl : i = T.nodes.length := by omega
      have HF : Hid (N ≤ 5000 → (wrT T).length ≤ 10000000) := hide (fun h => small_wr OK.out (by have := hN.out; rw [List.take_length] at this; omega))
      by_cases h5 : N ≤ 5000
      · have d3 : decide (5000 < (N : Int)) = false := by rw [decide_eq_false_iff_not]; omega
        go_wp2_with fail
        go_returns
        exact ⟨_, rfl, below_drewN K1.out q, fun _ => HF.out h5⟩
      · have d3 : decide (5000 < (N : Int)) = true := by rw [decide_eq_true_eq]; omega
        go_wp2_with fail
        go_returns
        exact ⟨_, rfl, below_drewN K1.out q, fun h => by cases h⟩
end Go.Proofs.Ytmngndmcidbakaa
