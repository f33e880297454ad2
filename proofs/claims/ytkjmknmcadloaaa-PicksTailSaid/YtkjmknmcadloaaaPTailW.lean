/- The walk of PicksTail. -/
import Derived.Test.YtkjmknmcadloaaaTailLaw
namespace Go.Proofs.Ytkjmknmcadloaaa
open Go.RowKit

@[go_sem high] theorem run_max2 {P : Program} {w : World} (ts : Array TypeId) (t : TypeId) (k k' : IntKind) (x y : Int) : (Builtin.max_ ts t #[.int k x, .int k' y]).run P w = .ok (.int k (max x y)) w := by
  rw [run_max_int2]
  congr 2
  simp only [Int.max_def]
  split <;> split <;> omega
def NQ (gs : Nat) (a : Option Addr) (c : Nat) (l : List Pk) (n : Int) (m base : Nat) (p : Pk) (w : World) (r : Ending) (w' : World) : Prop :=
  r = .returned (.agg #[.int .i64 p.w, .int .i64 p.v]) ∧ Scr w' gs a c l n (m + 1) base ∧ Foot [gs] w w'
theorem next_is {p : Pk} (gs : Nat) (a : Option Addr) (c : Nat) (l : List Pk) (n : Int) (m base : Nat) (w : World) (hp : at_ l n m = p) (h : Scr w gs a c l n m base) (hl : ∀ p ∈ l, PkOk p) (hn : 1 ≤ n) (hn2 : n ≤ 64) (hl2 : l.length ≤ 1000000) (hm : m ≤ 1000000) :
    Calls Try.prog 11 #[.pointer (some ⟨gs, 0, none⟩)] w (NQ gs a c l n m base p w) := by subst hp; exact next_any gs a c l n m base w h hl hn hn2 hl2 hm
theorem Scr.belowB {w w' : World} {gs : Nat} {a : Option Addr} {c : Nat} {l : List Pk} {n : Int} {m base B : Nat} (h : Scr w gs a c l n m base) (hb : Below B w w') (hg : gs < B) (ha : ∀ b off, a = some ⟨b, off, none⟩ → 0 < l.length → b < B) : Scr w' gs a c l n m base :=
  ⟨h.box.below hb hg, ⟨h.row.1, fun hp => by
    obtain ⟨b, off, e, hlt, hc⟩ := h.row.2 hp
    exact ⟨b, off, e, Nat.lt_of_lt_of_le hlt hb.size, fun i hi j hj => (hb.cell (p := ⟨b, off + i * 2 + j, none⟩) (ha b off e (by simpa using hp))).trans (hc i hi j hj)⟩⟩, h.blk⟩
theorem Scr.far {w : World} {gs : Nat} {a : Option Addr} {c : Nat} {l : List Pk} {n : Int} {m base g o : Nat} (h : Scr w gs a c l n m base) (hg : gs ≠ g) (ha : ∀ b off, a = some ⟨b, off, none⟩ → 0 < l.length → b ≠ g) (u : Value) : Scr (w.setCell ⟨g, o, none⟩ u) gs a c l n m base :=
  ⟨h.box.far (p := ⟨g, o, none⟩) hg u, ⟨h.row.1, fun hp => by
    obtain ⟨b, off, e, hlt, hc⟩ := h.row.2 hp
    refine ⟨b, off, e, by simpa using hlt, fun i hi j hj => ?_⟩
    rw [← hc i hi j hj]
    have := Below.heap_setCell w ⟨g, o, none⟩ u b (by simpa using ha b off e (by simpa using hp))
    simp only [World.cell?, this]⟩, h.blk⟩
def mets (n i : Nat) : List Value := (List.range n).map fun j => .bool (decide (j < i))
theorem mets_zero (n : Nat) : mets n 0 = List.replicate n (.bool false) := by
  apply List.ext_getElem (by simp [mets]); intro i h1 h2; simp [mets]
theorem mets_get {n i j : Nat} (h : j < n) : (mets n i).toArray[j]? = some (.bool (decide (j < i))) := by simp [mets, h]
theorem mets_set {n i : Nat} : (mets n i).toArray.setIfInBounds i (.bool true) = (mets n (i + 1)).toArray := by
  apply Array.toList_inj.1
  simp only [Array.toList_setIfInBounds]
  apply List.ext_getElem (by simp [mets])
  intro k h1 h2
  simp only [mets, List.getElem_set, List.getElem_map, List.getElem_range]
  by_cases e : i = k
  · subst e; simp
  · rw [if_neg e]; congr 1; by_cases h : k < i <;> simp <;> omega
theorem own_blk_ne {w : World} {base g n sz : Nat} {t e : TypeId} {cs : Array Value} {v : Value} {xs : List Value} (h : w.ownsRow base e sz v n xs) (hb : Blk w g t cs) (ht : t ≠ e) : some g ≠ v.ownBlock := by
  intro hg
  rcases h.2 with ⟨rfl, _⟩ | ⟨g', cap, cur, rfl, _, hh, _⟩
  · simp [Value.ownBlock] at hg
  · simp [Value.ownBlock] at hg
    subst hg
    have h' : w.heap[g]? = some (.cells cs t (0, 0)) := hb
    rw [h'] at hh
    cases hh
    exact ht rfl
theorem own_foot {w w' : World} {base n sz g : Nat} {e : TypeId} {v : Value} {xs : List Value} (h : w.ownsRow base e sz v n xs) (hf : Foot [g] w w') (hne : some g ≠ v.ownBlock) : w'.ownsRow base e sz v n xs :=
  h.kept (row := some g) ⟨hf.os, hf.tape, hf.output, hf.size, fun k hk hn => hf.block k hk (by simp; exact fun e => hn (by rw [e]))⟩ (.inr (Ne.symm hne))
/-- All that a round of the tail knows. -/
structure TR (w W : World) (gs gr B : Nat) (a : Option Addr) (c : Nat) (l : List Pk) (n sk NN q base : Nat) (v : Value) : Prop where
  scr : Scr W gs a c l n (l.length + (n * sk + q)) base
  rob : Blk W gr 3 (ints (vints NN (fun j => (rb n sk q j : Int)))).toArray
  own : W.ownsRow B 29 2 v q ((tls n sk q).map pcell).flatten
  bel : Below w.heap.size w W
  size : B ≤ W.heap.size

theorem info4 : (Try.prog.info? 4).map (fun i => (i.zero, i.size, i.bytes)) = some (some (.bool false), 1, 1) := by kernel_rfl
set_option maxHeartbeats 4000000 in
set_option maxRecDepth 100000 in
theorem walk_PicksTail (w : World) (a0 : Option Addr) (l : List Pk) (cap : Nat) (hr : PRow w a0 l) (hl : ∀ p ∈ l, PkOk p) (hcap : l.length ≤ cap) (hm : cap ≤ maxLen) (wk : Int) (wwk : (Lit.int .u8 wk).wf = true) (sk0 : Int) (wsk : (Lit.int .u8 sk0).wf = true) :
    Calls Try.prog 5 #[.slice a0 l.length cap, .int .u8 wk, .int .u8 sk0] w fun e w' => e = .returned (.bool true) ∧ Below w.heap.size w w' := by
  have HL := hide hl
  obtain ⟨m0, m1⟩ := u8_of wwk
  obtain ⟨s0, s1⟩ := u8_of wsk
  clear wwk wsk hl
  by_cases hlen : l.length ≤ 500
  · obtain ⟨n, hn, hn1, hn2⟩ : ∃ n : Nat, 1 + wk % 12 = (n : Int) ∧ 1 ≤ n ∧ n ≤ 12 := ⟨(1 + wk % 12).toNat, by omega, by omega, by omega⟩
    obtain ⟨sk, hsk, hsk9⟩ : ∃ sk : Nat, sk0 % 9 = (sk : Int) ∧ sk < 9 := ⟨(sk0 % 9).toNat, by omega, by omega⟩
    obtain ⟨K, hK⟩ : ∃ K, K = n * sk := ⟨_, rfl⟩
    have hK9 : K ≤ 96 := by rw [hK]; exact Nat.le_trans (Nat.mul_le_mul hn2 (show sk ≤ 8 by omega)) (by decide)
    have hKI : (n : Int) * (sk : Int) = (K : Int) := by rw [hK]; rfl
    have HSK := hide hsk
    have HK := hide hK
    have HKI := hide hKI
    clear hsk hK hKI
    go_enter Try.func5, Try.ntmps5
    go_wp2_with fail
    have HN := hide hn
    clear hn
    refine (new_any a0 l cap n w hr (by omega) (by omega) (by omega)).mono ?_
    rintro r w2 ⟨gs, a, c, rfl, S2, hgs, G2, k2⟩
    have S2 := hide S2
    have t2 := hide k2
    clear k2 G2
    go_wp2
    go_loopw [10] (fun i wr => ∃ k : Nat, k ≤ l.length ∧ i = .int .i64 k ∧ Scr wr gs a c l n k w.heap.size ∧ Below w.heap.size w wr) (fun i _ => l.length - (intOf i).toNat)
    case atStart => exact ⟨0, by omega, rfl, S2.out, t2.out⟩
    case round =>
      obtain ⟨k, hk, rfl, hS, hB⟩ := hrel
      have hS := hide hS
      have hB := hide hB
      by_cases hkl : k < l.length
      · have HA : at_ l n k = means l[k] n := by unfold at_; rw [dif_pos hkl]
        obtain ⟨r1, r2, r3, r4, r5⟩ := means_rng (p := l[k]) (n := n) (by omega)
        rw [← HA] at r1 r2 r3 r4 r5
        obtain ⟨p, hp⟩ : ∃ p, at_ l n k = p := ⟨_, rfl⟩
        rw [hp] at r1 r2 r3 r4 r5
        have HP := hide hp
        have hne : n ≤ 1 ∨ (1 < n ∧ (p.v == p.w) = false) := by
          by_cases h : n ≤ 1
          · exact .inl h
          · exact .inr ⟨by omega, by simpa using r5 (by omega)⟩
        clear HA hp r5
        go_wp2_with fail
        refine (next_is gs a c l n k w.heap.size _ HP.out hS.out HL.out (by omega) (by omega) (by omega) (by omega)).mono ?_
        rintro r w3 ⟨rfl, hS3, hF3⟩
        have a1 : Below w3.heap.size w3 (w3.alloc (.cells #[.int .i64 p.w, .int .i64 p.v] 29)) := (Below.refl _ _).alloc (Nat.le_refl _) _
        have hS4 := hide (hS3.below a1)
        have t4 := hide (below_call (w := w) (below_foot hB.out hF3 (by simpa using hgs)) a1)
        clear hS3 hF3 a1
        rcases hne with hne | ⟨hne, hvw⟩
        · have b1 : decide (1 < (n : Int)) = false := by simp; omega
          go_wp2
          go_roundw
          case rel => exact ⟨k + 1, by omega, by go_num, hS4.out, t4.out⟩
          case measure => simp [intOf]; omega
        · go_wp2
          go_roundw
          case rel => exact ⟨k + 1, by omega, by go_num, hS4.out, t4.out⟩
          case measure => simp [intOf]; omega
      · obtain rfl : k = l.length := by omega
        have hsk := HSK.out
        have hKI := HKI.out
        go_wp2
        go_loopw [12] (fun i wr => ∃ k : Nat, k ≤ K ∧ i = .int .i64 k ∧ Scr wr gs a c l n (l.length + k) w.heap.size ∧ Below w.heap.size w wr) (fun i _ => K - (intOf i).toNat)
        case atStart => exact ⟨0, by omega, rfl, hS.out, hB.out⟩
        case round =>
          obtain ⟨k, hk, rfl, hS, hB⟩ := hrel
          have hS := hide hS
          have hB := hide hB
          by_cases hkl : k < K
          · go_wp2_with fail
            refine (next_any gs a c l n (l.length + k) w.heap.size _ hS.out HL.out (by omega) (by omega) (by omega) (by omega)).mono ?_
            rintro r w3 ⟨rfl, hS3, hF3⟩
            have hS4 := hide hS3
            have t4 := hide (below_foot hB.out hF3 (by simpa using hgs))
            clear hS3 hF3
            go_wp2
            go_roundw
            case rel => exact ⟨k + 1, by omega, by go_num, hS4.out, t4.out⟩
            case measure => simp [intOf]; omega
          · obtain rfl : k = K := by omega
            obtain ⟨NN, hNN⟩ : ∃ NN, NN = n * n := ⟨_, rfl⟩
            have hNb : NN ≤ 144 := by rw [hNN]; exact Nat.mul_le_mul hn2 hn2
            have hNI : (n : Int) * (n : Int) = (NN : Int) := by rw [hNN]; rfl
            have HNN := hide hNN
            obtain ⟨T, hT⟩ : ∃ T : Nat, max 1 ((n : Int) - 1) = (T : Int) := ⟨max 1 (n - 1), by omega⟩
            have hTb : T ≤ 11 ∧ (n ≤ 1 ∧ T = 1 ∨ 1 < n ∧ T = n - 1) := by omega
            have HT := hide hT
            have HTb := hide hTb.2
            have hT1 := hTb.1
            obtain ⟨i3, hi3, hz30, hz31, hz32⟩ := info_parts info3
            have hmk := fun W => run_make1 (P := Try.prog) 35 3 Try.underlying35 hi3 hz30 hz31 rfl hz32 NN (by omega) (by omega) W
            clear hNN hT hTb
            go_wp2
            clear hmk hNI hsk hKI
            have B0 := Blk.new wr 3 (Array.replicate NN (.int .i64 0))
            obtain ⟨W0, hW0⟩ : ∃ W0, W0 = wr.alloc (.cells (Array.replicate NN (.int .i64 0)) 3) := ⟨_, rfl⟩
            rw [← hW0] at B0 ⊢
            obtain ⟨gr, hgr⟩ : ∃ gr, gr = wr.heap.size := ⟨_, rfl⟩
            rw [← hgr] at B0 ⊢
            have b0 : Below wr.heap.size wr W0 := by rw [hW0]; exact (Below.refl _ _).alloc (Nat.le_refl _) _
            have hWs : W0.heap.size = gr + 1 := by rw [hW0, hgr]; simp
            have hgsr : gs < gr := by rw [hgr]; exact hS.out.box.lt
            have hwr : w.heap.size ≤ gr := by rw [hgr]; exact hB.out.size
            have hab : Hid (∀ b off, a = some ⟨b, off, none⟩ → 0 < l.length → b < gr) := hide (fun b off e hp => by
              obtain ⟨b', off', e', hlt, _⟩ := p_at hS.out.row hp
              rw [e] at e'
              obtain ⟨rfl, rfl⟩ : b = b' ∧ off = off' := by simpa using e'
              rw [hgr]; exact hlt)
            have R0 : Hid (TR w W0 gs gr (gr + 1) a c l n sk NN 0 w.heap.size (.slice none 0 0)) := hide ⟨by
                have := hS.out.below b0
                rw [HK.out] at this
                exact this, by
                have e : (ints (vints NN (fun j => (rb n sk 0 j : Int)))).toArray = Array.replicate NN (Value.int .i64 0) := by
                  apply Array.toList_inj.1
                  apply List.ext_getElem
                  · simp [ints, vints]
                  · intro i h1 h2
                    simp [ints, vints, rb]
                rw [e]; exact B0, World.ownsRow_nil _ _ _ _, below_call hB.out b0, by omega⟩
            have HWS := hide hWs
            clear hW0 hgr b0 B0 hWs hS hB
            obtain ⟨i29, hi29, hz290, hz291, hz292⟩ := info_parts info29
            obtain ⟨i4, hi4, hz40, hz41, hz42⟩ := info_parts info4
            have hT := HT.out
            go_loopw [14, 15] (fun v t W => ∃ t' : Nat, t' ≤ T ∧ t = .int .i64 t' ∧ TR w W gs gr (gr + 1) a c l n sk NN (n * t') w.heap.size v) (fun _ t _ => T - (intOf t).toNat)
            case atStart => exact ⟨0, by omega, rfl, R0.out⟩
            case round =>
              obtain ⟨tt, htt, rfl, hR⟩ := hrel
              have hR := hide hR
              by_cases htT : tt < T
              · have hmk := fun W => run_make1 (P := Try.prog) 36 4 Try.underlying36 hi4 hz40 hz41 rfl hz42 n (by omega) (by omega) W
                go_wp2
                clear hmk
                have M0 := Blk.new wr 4 (Array.replicate n (.bool false))
                obtain ⟨gm, hgm⟩ : ∃ gm, gm = wr.heap.size := ⟨_, rfl⟩
                obtain ⟨W1, hW1⟩ : ∃ W1, W1 = wr.alloc (.cells (Array.replicate n (.bool false)) 4) := ⟨_, rfl⟩
                have b1 : Below wr.heap.size wr W1 := by rw [hW1]; exact (Below.refl _ _).alloc (Nat.le_refl _) _
                rw [← hW1, ← hgm] at M0
                rw [← hgm, ← hW1]
                have R1 : Hid (TR w W1 gs gr (gr + 1) a c l n sk NN (n * tt) w.heap.size _) := hide ⟨hR.out.scr.below b1, hR.out.rob.below b1 hR.out.rob.lt, own_below hR.out.own b1, below_call hR.out.bel b1, Nat.le_trans hR.out.size b1.size⟩
                have M1 : Hid (Blk W1 gm 4 (mets n 0).toArray) := hide (by rw [mets_zero]; simpa using M0)
                have hgmr : gr + 1 ≤ gm := by rw [hgm]; exact hR.out.size
                clear hgm hW1 b1 M0 hR
                go_loopw [14, 17] (fun v i W => ∃ i' : Nat, i' ≤ n ∧ i = .int .i64 i' ∧ TR w W gs gr (gr + 1) a c l n sk NN (n * tt + i') w.heap.size v ∧ Blk W gm 4 (mets n i').toArray) (fun _ i _ => n - (intOf i).toNat)
                case atStart => exact ⟨0, by omega, rfl, R1.out, M1.out⟩
                case round =>
                  clear R1 M1
                  obtain ⟨i, hin, rfl, hR, hM⟩ := hrel
                  have hR := hide hR
                  have hM := hide hM
                  by_cases hi : i < n
                  · obtain ⟨v, hv⟩ : ∃ v, v = vic n (sk + tt) i := ⟨_, rfl⟩
                    have hvn : v < n := by rw [hv]; exact vic_lt hn1
                    have HP : Hid (at_ l n (l.length + (n * sk + (n * tt + i))) = ⟨(i : Int), (v : Int)⟩) := hide (by
                      rw [show n * sk + (n * tt + i) = n * (sk + tt) + i from by rw [Nat.mul_add]; omega, at_tl hn1 hi, hv]; rfl)
                    have hqb : n * tt + i ≤ 200 := by
                      have : n * tt ≤ 12 * 11 := Nat.mul_le_mul hn2 (by omega)
                      omega
                    have hqk : n * sk ≤ 96 := by have := HK.out; omega
                    have e1 : (n * tt + i) % n = i := by rw [Nat.mul_add_mod, Nat.mod_eq_of_lt hi]
                    have e2 : (n * tt + i) / n = tt := by rw [Nat.mul_add_div (by omega), Nat.div_eq_of_lt hi, Nat.add_zero]
                    obtain ⟨j, hj⟩ : ∃ j, j = i * n + v := ⟨_, rfl⟩
                    have hjN : j < NN := by
                      rw [HNN.out, hj]
                      have : (i + 1) * n ≤ n * n := Nat.mul_le_mul_right _ hi
                      rw [Nat.add_mul, Nat.one_mul] at this
                      omega
                    have hjI : (i : Int) * (n : Int) + (v : Int) = (j : Int) := by rw [hj]; rfl
                    have HRB : Hid (rb n sk (n * tt + i + 1) = bump (rb n sk (n * tt + i)) j) := hide (by
                      show bump (rb n sk (n * tt + i)) ((n * tt + i) % n * n + vic n (sk + (n * tt + i) / n) ((n * tt + i) % n)) = _
                      rw [e1, e2, hj, hv])
                    have HTL : Hid (tls n sk (n * tt + i + 1) = tls n sk (n * tt + i) ++ [⟨(i : Int), (v : Int)⟩]) := hide (by
                      show tls n sk (n * tt + i) ++ [tlp n (sk + (n * tt + i) / n) ((n * tt + i) % n)] = _
                      rw [e1, e2, hv]; rfl)
                    have hyb := rb_le n sk j (n * tt + i)
                    obtain ⟨q, hq⟩ : ∃ q, q = n * tt + i := ⟨_, rfl⟩
                    rw [← hq] at hR HP HRB HTL hyb hqb
                    have HQ := hide hq
                    clear e1 e2 hj hv hq
                    go_wp2_with fail
                    refine (next_is gs a c l n (l.length + (n * sk + q)) w.heap.size _ HP.out hR.out.scr HL.out (by omega) (by omega) (by omega) (by omega)).mono ?_
                    rintro r W3 ⟨rfl, hS3, hF3⟩
                    have a1 : Below W3.heap.size W3 (W3.alloc (.cells #[.int .i64 i, .int .i64 v] 29)) := (Below.refl _ _).alloc (Nat.le_refl _) _
                    have hgs3 : gs ≠ gm := by omega
                    have hgr3 : gr ≠ gm := by omega
                    have hgg : gs ≠ gr := by omega
                    obtain ⟨y, hy⟩ : ∃ y, y = rb n sk q j := ⟨_, rfl⟩
                    rw [← hy] at hyb
                    -- at W3
                    have O3 := own_foot hR.out.own hF3 (own_blk_ne hR.out.own hR.out.scr.box (by decide))
                    have Q3 := hR.out.rob.foot hF3 (by simp; omega)
                    have M3 := hM.out.foot hF3 (by simp; omega)
                    have t3 := below_foot hR.out.bel hF3 (by simpa using hgs)
                    have z3 := hR.out.size
                    have z4 := hF3.size
                    have x0 := blk_int Q3 (i := j) (by rw [vints_len]; exact hjN)
                    rw [vints_get, ← hy] at x0
                    have x1 := M3.cell i
                    rw [mets_get hi] at x1
                    have x2 := M3.frozen i
                    have x3 := Q3.frozen j
                    have hdi : decide (i < i) = false := by simp
                    rw [hdi] at x1
                    -- behind the two stores
                    have S5 := hS3.far (o := i) hgs3 (fun b off e hp => by have := hab.out b off e hp; omega) (.bool true)
                    have S6 := S5.far (g := gr) (o := j) hgg (fun b off e hp => by have := hab.out b off e hp; omega) (.int .i64 ((y : Int) + 1))
                    have M5 : Blk (W3.setCell ⟨gm, i, none⟩ (.bool true)) gm 4 (mets n (i + 1)).toArray := by rw [← mets_set]; exact M3.set_ i (.bool true)
                    have M6 := M5.far (p := ⟨gr, j, none⟩) (by show gm ≠ gr; omega) (.int .i64 ((y : Int) + 1))
                    have Q5 := Q3.far (p := ⟨gm, i, none⟩) hgr3 (.bool true)
                    have Q6 := blk_int_set Q5 j ((y : Int) + 1)
                    rw [vints_set (f' := fun j => (rb n sk (q + 1) j : Int)) (by rw [HRB.out, hy]; unfold bump; rw [if_pos rfl]; rfl) (fun k hk => by rw [HRB.out]; unfold bump; rw [if_neg hk])] at Q6
                    have O5 := own_foot O3 ((Foot.refl [gm] W3).setCell (p := ⟨gm, i, none⟩) (.inl (by simp)) (.bool true)) (own_blk_ne O3 M3 (by decide))
                    have O6 := own_foot O5 ((Foot.refl [gr] _).setCell (p := ⟨gr, j, none⟩) (.inl (by simp)) (.int .i64 ((y : Int) + 1))) (own_blk_ne O5 Q5 (by decide))
                    have t6 := (t3.setCell (p := ⟨gm, i, none⟩) (by show w.heap.size ≤ gm; omega) (.bool true)).setCell (p := ⟨gr, j, none⟩) hwr (.int .i64 ((y : Int) + 1))
                    -- behind the new slice
                    obtain ⟨W6, hW6⟩ : ∃ W6, W6 = (W3.setCell ⟨gm, i, none⟩ (.bool true)).setCell ⟨gr, j, none⟩ (.int .i64 ((y : Int) + 1)) := ⟨_, rfl⟩
                    have z6 : W6.heap.size = W3.heap.size := by rw [hW6]; simp
                    rw [← hW6] at S6 M6 Q6 O6 t6
                    have a7 : Below W6.heap.size W6 ((W6.alloc (.cells #[.int .i64 i, .int .i64 v] 29)).alloc (.cells #[.int .i64 i, .int .i64 v] 29)) := ((Below.refl _ _).alloc (Nat.le_refl _) _).alloc (by simp) _
                    have N7 := hide (Blk.new (W6.alloc (.cells #[.int .i64 i, .int .i64 v] 29)) 29 #[.int .i64 i, .int .i64 v])
                    have S7 := hide (S6.below a7)
                    have M7 := hide (M6.below a7 M6.lt)
                    have Q7 := hide (Q6.below a7 Q6.lt)
                    have O7 := hide (own_below O6 a7)
                    have t7 := hide (below_call (w := w) t6 a7)
                    have z8 := hide a7.size
                    have HW6 := hide hW6
                    have HZ6 := hide z6
                    have hg3 : gm < W3.heap.size := M3.lt
                    have hg4 : gr < W3.heap.size := Q3.lt
                    clear hS3 hF3 a1 O3 Q3 M3 t3 S5 S6 M5 M6 Q5 Q6 O5 O6 t6 a7 hW6 hdi hy hR hM z6
                    have N7' := N7.out
                    rw [World.size_alloc, HZ6.out] at N7'
                    have N8 := hide N7'
                    rw [HW6.out] at N8 O7
                    clear N7'
                    go_wp2_with (at_builtin; refine wpList_append_own _ rfl _ _ 22 rfl (gr + 1) 29 i29 (.agg #[.int .i64 0, .int .i64 0]) 2 16 Try.underlying22 hi29 hz290 hz291 hz292 rfl (by decide) _ _ _ rfl O7.out ⟨W3.heap.size + 1, 0, none⟩ 1 1 [.int .i64 i, .int .i64 v] rfl rfl ?c1 ?c2 ?c3 ?c4 ?c5 ?_)
                    case c1 => exact N8.out.news
                    case c2 => intro z hz; simp at hz; rcases hz with rfl | rfl <;> rfl
                    case c3 => unfold maxLen; omega
                    case c4 => omega
                    case c5 => simp; omega
                    intro v' W8 hown' hgrow _
                    rw [← HW6.out] at hgrow O7
                    have O8 : Hid (W8.ownsRow (gr + 1) 29 2 v' (q + 1) ((tls n sk (q + 1)).map pcell).flatten) := hide (by
                      rw [HTL.out]; simpa [pcell] using hown')
                    have z9 := z8.out
                    have B8 : Below (gr + 1) _ W8 := (Below.refl (gr + 1) _).grown hgrow (by have := HZ6.out; omega) (own_ge O7.out)
                    have R8 : Hid (TR w W8 gs gr (gr + 1) a c l n sk NN (n * tt + (i + 1)) w.heap.size v') := hide (by
                      rw [← Nat.add_assoc, ← HQ.out]
                      exact ⟨S7.out.belowB B8 (by omega) (fun b off e hp => by have := hab.out b off e hp; omega), (hgrow.block gr Q7.out.lt (own_blk_ne O7.out Q7.out (by decide))).trans Q7.out, O8.out, below_grown (a := w) t7.out hgrow (fun k hk => by have := own_ge O7.out k hk; omega), Nat.le_trans (by have := HZ6.out; omega) hgrow.size⟩)
                    have M8 : Hid (Blk W8 gm 4 (mets n (i + 1)).toArray) := hide ((hgrow.block gm M7.out.lt (own_blk_ne O7.out M7.out (by decide))).trans M7.out)
                    clear hown' hgrow B8 z9
                    go_wp2
                    go_roundw
                    case rel => exact ⟨i + 1, hi, by go_num, R8.out, M8.out⟩
                    case measure => simp [intOf]; omega
                  · obtain rfl : i = n := by omega
                    go_wp2
                    go_roundw
                    case rel => exact ⟨tt + 1, htT, by go_num, by rw [Nat.mul_succ]; exact hR.out⟩
                    case measure => simp [intOf]; omega
              · obtain rfl : tt = T := by omega
                obtain ⟨a8, c8, hv8, hc8, hm8, hn8, R8, _⟩ := own_rowS (pcell_len _) (by decide) hR.out.own
                have Q8 := hide hR.out.rob
                have t8 := hide hR.out.bel
                have R8 := hide R8
                have hq8 : n * tt ≤ 132 := Nat.mul_le_mul hn2 hT1
                have HF : Hid (fairI (tls n sk (n * tt)) n n = true) := hide (by rw [fairI_ok hn1 (by omega) hn1]; exact tls_fair hn1 sk _)
                have HLn : Hid ((tls n sk (n * tt)).length = n * tt) := hide (tls_len n sk _)
                have HO := hide (tls_ok (n := n) hn1 (by omega) sk (n * tt))
                subst hv8
                obtain ⟨q, hq⟩ : ∃ q, q = n * tt := ⟨_, rfl⟩
                rw [← hq] at Q8 R8 HF HLn HO hq8 hc8 ⊢
                have HRV : Hid (∀ x y, x < n → y < n → x * n + y < NN ∧ (1 < n → rb n sk q (x * n + y) = if x = y then 0 else 1)) := hide (fun x y hx hy => by
                  refine ⟨?_, fun h1 => ?_⟩
                  · rw [HNN.out]
                    have : (x + 1) * n ≤ n * n := Nat.mul_le_mul_right _ hx
                    rw [Nat.add_mul, Nat.one_mul] at this
                    omega
                  · rw [hq, rb_robs hn1 hx hy]
                    have hTT : tt = n - 1 := by have := HTb.out; omega
                    rw [hTT]
                    exact robs_all n (by omega) (by omega) sk hsk9 x hx y hy)
                unfold maxLen at hm8
                clear hq hR hn8
                go_wp2
                go_loop [19] (fun xv => ∃ x : Nat, x ≤ n ∧ xv = .int .i64 x) (fun xv => n - (intOf xv).toNat)
                case atStart => exact ⟨0, by omega, rfl⟩
                case round =>
                  obtain ⟨x, hx, rfl⟩ := hrel
                  by_cases hxn : x < n
                  · go_wp2
                    go_loop [20] (fun yv => ∃ y : Nat, y ≤ n ∧ yv = .int .i64 y) (fun yv => n - (intOf yv).toNat)
                    case atStart => exact ⟨0, by omega, rfl⟩
                    case round =>
                      obtain ⟨y, hy, rfl⟩ := hrel
                      by_cases hyn : y < n
                      · by_cases h1 : n ≤ 1
                        · have b1 : decide (1 < (n : Int)) = false := by simp; omega
                          go_wp2
                          go_round
                          case rel => exact ⟨y + 1, by omega, by go_num⟩
                          case measure => simp [intOf]; omega
                        · have h2 : 1 < n := by omega
                          obtain ⟨hj, hv⟩ := HRV.out x y hxn hyn
                          have hv := hv h2
                          obtain ⟨j, hjj⟩ : ∃ j, j = x * n + y := ⟨_, rfl⟩
                          rw [← hjj] at hj hv
                          have hjI : (x : Int) * (n : Int) + (y : Int) = (j : Int) := by rw [hjj]; rfl
                          have x0 := blk_int Q8.out (i := j) (by rw [vints_len]; exact hj)
                          rw [vints_get, hv] at x0
                          clear hv hjj h1
                          by_cases hxy : x = y
                          · rw [if_pos hxy] at x0
                            have b1 : ((x : Int) != (y : Int)) = false := by simp; omega
                            have b2 : (((0 : Nat) : Int) == 1) = false := by decide
                            clear hxy
                            go_wp2
                            go_round
                            case rel => exact ⟨y + 1, by omega, by go_num⟩
                            case measure => simp [intOf]; omega
                          · rw [if_neg hxy] at x0
                            have b1 : ((x : Int) != (y : Int)) = true := by simp; omega
                            have b2 : (((1 : Nat) : Int) == 1) = true := by decide
                            clear hxy
                            go_wp2
                            go_round
                            case rel => exact ⟨y + 1, by omega, by go_num⟩
                            case measure => simp [intOf]; omega
                      · obtain rfl : y = n := by omega
                        go_wp2
                        go_round
                        case rel => exact ⟨x + 1, by omega, by go_num⟩
                        case measure => simp [intOf]; omega
                  · go_wp2_with fail
                    refine (fair_is a8 q c8 (tls n sk q) n n _ HF.out R8.out HLn.out HO.out (by omega) hc8 (by omega) (by omega)).mono ?_
                    rintro r W9 ⟨rfl, k9⟩
                    have t10 := hide (below_call (w := w) t8.out k9)
                    clear k9
                    go_wp2_with fail
                    refine (works_any _).mono ?_
                    rintro r w9 ⟨rfl, k9⟩
                    have t9 := hide (below_call (w := w) t10.out k9)
                    clear k9
                    go_wp2
                    go_returns
                    exact ⟨rfl, t9.out⟩
  · go_enter Try.func5, Try.ntmps5
    go_wp2_with fail
    refine (works_any w).mono ?_
    rintro r w2 ⟨rfl, k2⟩
    go_wp2
    go_returns
    exact ⟨rfl, k2⟩
end Go.Proofs.Ytkjmknmcadloaaa
