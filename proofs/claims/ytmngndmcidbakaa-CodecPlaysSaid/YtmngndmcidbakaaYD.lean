/- Walks: number behind bytes; Put. -/
import Derived.Test.YtmngndmcidbakaaYB
namespace Go.Proofs.Ytmngndmcidbakaa
open Go.RowKit

theorem grownBy_trans {a b c : World} {row row2 : Option Nat} (h1 : a.grownBy b row) (h2 : b.grownBy c row2) (hr : ∀ k, row2 = some k → row = some k ∨ a.heap.size ≤ k) : a.grownBy c row :=
  ⟨h2.os.trans h1.os, h2.tape.trans h1.tape, h2.output.trans h1.output, Nat.le_trans h1.size h2.size, fun k hk hne => by
    rw [h2.block k (Nat.lt_of_lt_of_le hk h1.size) (fun e => by
      rcases hr k e.symm with h | h
      · exact hne h.symm
      · omega)]
    exact h1.block k hk hne⟩
/-- Bytes with more behind them: in their own room, or in new. -/
def AppPost (B0 : Nat) (v : Value) (l : List Int) (w : World) (r : Ending) (w' : World) : Prop :=
  ∃ v', r = .returned v' ∧ BOwn w' B0 v' l ∧ w.grownBy w' v.ownBlock ∧ (v'.ownBlock = v.ownBlock ∨ ∃ g, v'.ownBlock = some g ∧ w.heap.size ≤ g)
/-- How many bytes a number has, and each of them. -/
theorem nb_at : ∀ (m : Nat) (i : Nat) (h : i < (nb m).length), (nb m)[i] = ((m / 256 ^ ((nb m).length - 1 - i) % 256 : Nat) : Int) := by
  intro m
  induction m using Nat.strongRecOn with
  | _ m ih =>
    intro i h
    by_cases h0 : m = 0
    · subst h0; rw [nb_zero] at h; simp at h
    · have hp := nb_pos h0
      have hl : (nb m).length = (nb (m / 256)).length + 1 := by rw [hp, List.length_append]; rfl
      by_cases hi : i < (nb (m / 256)).length
      · have e1 : (nb m)[i] = (nb (m / 256))[i] := by
          have : (nb m)[i]? = (nb (m / 256))[i]? := by rw [hp, List.getElem?_append_left hi]
          rw [List.getElem?_eq_getElem h, List.getElem?_eq_getElem hi] at this
          exact Option.some.inj this
        rw [e1, ih (m / 256) (by omega) i hi]
        congr 2
        rw [Nat.div_div_eq_div_mul]
        congr 1
        rw [Nat.mul_comm, ← Nat.pow_succ]
        congr 1
        omega
      · have hie : i = (nb (m / 256)).length := by omega
        have e1 : (nb m)[i]? = some ((m % 256 : Nat) : Int) := by rw [hp, List.getElem?_append_right (by omega), hie, Nat.sub_self]; rfl
        rw [List.getElem?_eq_getElem h] at e1
        rw [Option.some.inj e1, hl, hie]
        simp
theorem pow_sh (k : Nat) : (2 : Int) ^ (8 * k) = ((256 ^ k : Nat) : Int) := by
  rw [show (256 : Nat) = 2 ^ 8 from rfl, ← Nat.pow_mul, Int.natCast_pow]; rfl
theorem sh_div (m k : Nat) : (m : Int) / 2 ^ (8 * k) = ((m / 256 ^ k : Nat) : Int) := by rw [pow_sh, Int.natCast_ediv]
theorem sh_ne {m k : Nat} (h : 256 ^ k ≤ m) : ((m : Int) / 2 ^ (8 * k) != 0) = true := by
  rw [sh_div]
  have := Nat.div_pos h (Nat.pow_pos (n := k) (show 0 < 256 by omega))
  simp only [bne_iff_ne, ne_eq]
  omega
theorem sh_eq {m k : Nat} (h : ¬ 256 ^ k ≤ m) : ((m : Int) / 2 ^ (8 * k) != 0) = false := by
  rw [sh_div, Nat.div_eq_of_lt (by omega)]; rfl
theorem nb_len_eq {m k : Nat} (h1 : 256 ^ k ≤ m) (h2 : m < 256 ^ (k + 1)) : (nb m).length = k + 1 := by
  have := nb_len h2
  have := nb_len_ge h1
  omega
set_option maxRecDepth 100000 in
set_option maxHeartbeats 2000000 in
theorem number_any (B0 : Nat) (l : List Int) (a : Option Addr) (cap0 : Nat) (n : Int) (w : World) (ho : BOwn w B0 (.slice a l.length cap0) l) (hB : B0 ≤ w.heap.size) (hl : l.length ≤ 100000000) (hn : -9223372036854775808 ≤ n ∧ n ≤ 9223372036854775807) :
    Calls Try.prog 22 #[.slice a l.length cap0, .int .i64 n] w (AppPost B0 (.slice a l.length cap0) (l ++ num n) w) := by
  obtain ⟨i0, hi, hz0, hz1, hz2⟩ := info_parts info5
  have HO := hide ho
  clear ho
  obtain ⟨m, hm⟩ : ∃ m, m = n.natAbs := ⟨_, rfl⟩
  have h8 := nb_len (abs_lt hn)
  rw [← hm] at h8
  have hnn := hn
  obtain ⟨hn1, hn2⟩ := hn
  go_enter Try.func22, Try.ntmps22
  by_cases h0 : n = 0
  · subst h0
    have HO8 := hide (HO.out.alloc (.cells #[.int .u8 0] 5))
    have N8 := hide (Blk.new w 5 #[.int .u8 0])
    clear hm h8
    go_wp2_with (at_builtin; refine wpList_append_lies _ rfl _ _ 22 rfl B0 5 i0 (.int .u8 0) 1 1 Try.underlying22 hi hz0 hz1 hz2 rfl (by decide) _ _ _ rfl HO8.out ⟨w.heap.size, 0, none⟩ 1 1 [.int .u8 0] rfl rfl ?c1 ?c2 (by decide) ?c3 ?c4 ?c5 _ rfl ?_)
    case c1 => exact N8.out.news
    case c2 => intro z hz; simp at hz; subst hz; rfl
    case c3 => unfold maxLen; omega
    case c4 => omega
    case c5 => first | omega | (simp; omega)
    intro g' cap' w9 hown hgrow hat hlt
    have G9 := hide (grownBy_trans (World.grownBy_alloc w (.cells #[.int .u8 0] 5) (Value.slice a l.length cap0).ownBlock) hgrow (fun k h => .inl h))
    have ON : Hid (BOwn w9 B0 (.slice (some ⟨g', 0, none⟩) (l.length + 1) cap') (l ++ num 0)) := hide (by
      unfold BOwn num
      rw [show (0 : Int).natAbs = 0 from rfl, nb_zero]
      have e : (l ++ [(if (0 : Int) < 0 then 16 else 0) + (([] : List Int).length : Int)]).length = l.length + 1 := by simp
      rw [e]
      simpa [bys] using hown)
    have HAT : Hid ((Value.slice (some ⟨g', 0, none⟩) (l.length + 1) cap').ownBlock = (Value.slice a l.length cap0).ownBlock ∨ ∃ g, (Value.slice (some ⟨g', 0, none⟩) (l.length + 1) cap').ownBlock = some g ∧ w.heap.size ≤ g) := hide (by
      rcases hat with h | h
      · exact .inl h.symm
      · exact .inr ⟨g', rfl, by rw [h]; simp⟩)
    clear hown hgrow hat hlt HO8 N8
    go_wp2_with fail
    go_returns
    exact ⟨_, rfl, ON.out, G9.out, HAT.out⟩
  · have b0 : (n == 0) = false := by simpa using h0
    have hm0 : m ≠ 0 := by omega
    have hK1 := nb_ne hm0
    obtain ⟨K, hK⟩ : ∃ K, K = (nb m).length := ⟨_, rfl⟩
    have hKm : ∀ k, k < K ↔ 256 ^ k ≤ m := fun k => by
      constructor
      · intro h
        exact Classical.byContradiction fun hc => by have := nb_len (show m < 256 ^ k by omega); omega
      · intro h
        have := nb_len_ge h; omega
    have HKM := hide hKm
    rw [← hK] at hK1 h8
    obtain ⟨sg, hsg⟩ : ∃ sg : Int, sg = if n < 0 then 16 else 0 := ⟨_, rfl⟩
    have hsg2 : sg = 0 ∨ sg = 16 := by rw [hsg]; split <;> simp
    have HSG := hide hsg
    have HM := hide hm
    have HK := hide hK
    have hm64 : m < 18446744073709551616 := by omega
    clear hsg hKm hm hK
    go_upto_if 16 with fail
    go_cut [5, 6] from 8 to 18 (fun s5 s6 wx => s5 = .int .u64 (m : Int) ∧ s6 = .int .u8 sg ∧ w = wx)
    case first =>
      by_cases h : n < 0
      · have HW : Hid (IntKind.u64.wrap (-(IntKind.u64.wrap n)) = (m : Int)) := hide (by rw [HM.out]; exact wabs hn1 h)
        have HS : Hid (sg = 16) := hide (by rw [HSG.out, if_pos h])
        have d : decide (n < 0) = true := by simpa using h
        rw [d]
        go_wp2_with fail
        go_meet
        exact ⟨by rw [HW.out], by rw [HS.out], rfl⟩
      · have HW : Hid (IntKind.u64.wrap n = (m : Int)) := hide (by rw [HM.out]; exact wpos (by omega) hn2)
        have HS : Hid (sg = 0) := hide (by rw [HSG.out, if_neg h])
        have d : decide (n < 0) = false := by simpa using h
        rw [d]
        go_wp2_with fail
        go_meet
        exact ⟨by rw [HW.out], by rw [HS.out], rfl⟩
    case rest =>
      obtain ⟨rfl, rfl, rfl⟩ := hcut
      clear b0 h0
      go_upto_block 0 with fail
      go_cut [7] from 19 to 29 (fun s7 wx => s7 = .int .i64 K ∧ w = wx)
      case first =>
        go_wp2_with fail
        go_loopw [7] (fun kv wr => ∃ k : Nat, 1 ≤ k ∧ k ≤ K ∧ kv = .int .i64 k ∧ w = wr) (fun kv _ => K - (intOf kv).toNat)
        case atStart => exact ⟨1, Nat.le_refl _, hK1, rfl, rfl⟩
        case round =>
          obtain ⟨k, hk1, hk2, rfl, rfl⟩ := hrel
          by_cases hk8 : k < 8
          · have d1 : decide ((k : Int) < 8) = true := by rw [decide_eq_true_eq]; omega
            by_cases hkK : k < K
            · have d2 : ((m : Int) / 2 ^ (8 * k) != 0) = true := sh_ne ((HKM.out k).1 hkK)
              go_wp2_with fail
              go_roundw
              case rel => exact ⟨k + 1, by omega, hkK, by go_num, trivial⟩
              case measure => simp [intOf]; omega
            · have d2 : ((m : Int) / 2 ^ (8 * k) != 0) = false := sh_eq (fun h => hkK ((HKM.out k).2 h))
              obtain rfl : k = K := by omega
              go_wp2_with fail
              go_meet
              exact ⟨rfl, rfl⟩
          · have d1 : decide ((k : Int) < 8) = false := by rw [decide_eq_false_iff_not]; omega
            obtain rfl : k = K := by omega
            go_wp2_with fail
            go_meet
            exact ⟨rfl, rfl⟩
      case rest =>
        obtain ⟨rfl, rfl⟩ := hcut
        have HO8 := hide (HO.out.alloc (.cells #[.int .u8 (sg + (K : Int))] 5))
        have N8 := hide (Blk.new w 5 #[.int .u8 (sg + (K : Int))])
        go_wp2_with (at_builtin; refine wpList_append_lies _ rfl _ _ 22 rfl B0 5 i0 (.int .u8 0) 1 1 Try.underlying22 hi hz0 hz1 hz2 rfl (by decide) _ _ _ rfl HO8.out ⟨w.heap.size, 0, none⟩ 1 1 [.int .u8 (sg + (K : Int))] rfl rfl ?c1 ?c2 (by decide) ?c3 ?c4 ?c5 _ rfl ?_)
        case c1 => exact N8.out.news
        case c2 => intro z hz; simp at hz; subst hz; rfl
        case c3 => unfold maxLen; omega
        case c4 => omega
        case c5 => first | omega | (simp; omega)
        intro g1 cap1 w9 hown hgrow hat hlt
        have G9 := hide (grownBy_trans (World.grownBy_alloc w (.cells #[.int .u8 (sg + (K : Int))] 5) (Value.slice a l.length cap0).ownBlock) hgrow (fun k h => .inl h))
        have HAT : Hid ((Value.slice a l.length cap0).ownBlock = some g1 ∨ w.heap.size ≤ g1) := hide (by
          rcases hat with h | h
          · exact .inl h
          · exact .inr (by rw [h]; simp))
        have ON : Hid (BOwn w9 B0 (.slice (some ⟨g1, 0, none⟩) (l.length + 1) cap1) (l ++ [sg + (K : Int)])) := hide (by
          unfold BOwn
          rw [List.length_append]
          simpa [bys] using hown)
        have hs9 := hgrow.size
        rw [World.size_alloc] at hs9
        clear hown hgrow hat hlt HO8 N8 HO
        go_wp2_with fail
        go_loopw [0, 7] (fun s0 s7 wr => ∃ (k : Nat) (cur : List Int) (g cap : Nat), k ≤ K ∧ s7 = .int .i64 k ∧ s0 = .slice (some ⟨g, 0, none⟩) cur.length cap ∧ BOwn wr B0 s0 cur ∧ Hid (cur = l ++ ((sg + (K : Int)) :: (nb m).take (K - k))) ∧ w.grownBy wr (Value.slice a l.length cap0).ownBlock ∧ ((Value.slice a l.length cap0).ownBlock = some g ∨ w.heap.size ≤ g) ∧ w.heap.size ≤ wr.heap.size) (fun _ s7 _ => (intOf s7).toNat)
        case atStart => exact ⟨K, l ++ [sg + (K : Int)], g1, cap1, Nat.le_refl _, rfl, by rw [List.length_append]; rfl, ON.out, hide (by rw [Nat.sub_self]; simp), G9.out, HAT.out, by omega⟩
        case round =>
          clear ON G9 HAT
          obtain ⟨k, cur, g, cap, hkK, rfl, rfl, hO, hcur, hG, hat, hsz⟩ := hrel
          have O := hide hO
          have G := hide hG
          have AT := hide hat
          have hcl : cur.length = l.length + 1 + (K - k) := by rw [hcur.out, List.length_append, List.length_cons, List.length_take, ← HK.out]; omega
          clear hO hG hat
          by_cases hk0 : k = 0
          · subst hk0
            have HN : Hid (cur = l ++ num n) := hide (by
              rw [hcur.out]
              unfold num
              rw [← HM.out, ← HSG.out, ← HK.out, Nat.sub_zero, HK.out, List.take_length])
            have HOB : Hid ((Value.slice (some ⟨g, 0, none⟩) cur.length cap).ownBlock = (Value.slice a l.length cap0).ownBlock ∨ ∃ g', (Value.slice (some ⟨g, 0, none⟩) cur.length cap).ownBlock = some g' ∧ w.heap.size ≤ g') := hide (by
              rcases AT.out with h | h
              · exact .inl h.symm
              · exact .inr ⟨g, rfl, h⟩)
            clear hcl
            go_wp2_with fail
            go_returns
            exact ⟨_, rfl, by rw [← HN.out]; exact O.out, G.out, HOB.out⟩
          · obtain ⟨q, rfl⟩ : ∃ q, k = q + 1 := ⟨k - 1, by omega⟩
            have hqk : K - (q + 1) < (nb m).length := by have := HK.out; omega
            obtain ⟨z, hz⟩ : ∃ z : Nat, z = m / 256 ^ q % 256 := ⟨_, rfl⟩
            have hz2 : (nb m)[K - (q + 1)] = (z : Int) := by
              rw [nb_at m _ hqk, hz, ← HK.out]
              rw [show K - 1 - (K - (q + 1)) = q from by omega]
            have hzl : z < 256 := by omega
            have hw : IntKind.u8.wrap ((m : Int) / 2 ^ (8 * q)) = (z : Int) := by
              rw [sh_div, hz]
              simp only [IntKind.wrap, IntKind.bits, IntKind.signed]
              simp
            have HCN : Hid (cur ++ [(z : Int)] = l ++ ((sg + (K : Int)) :: (nb m).take (K - q))) := hide (by
              rw [hcur.out, show K - q = K - (q + 1) + 1 from by omega, List.take_succ_eq_append_getElem hqk, hz2]
              simp)
            have e1 : (((q + 1 : Nat) : Int) - 1) = (q : Int) := by omega
            have HCL := hide hcl
            have hcl2 : cur.length ≤ 100000009 := by omega
            clear hz hz2 hqk hcl
            have HO8 := hide (O.out.alloc (.cells #[.int .u8 (z : Int)] 5))
            have N8 := hide (Blk.new wr 5 #[.int .u8 (z : Int)])
            go_wp2_with (at_builtin; refine wpList_append_lies _ rfl _ _ 22 rfl B0 5 i0 (.int .u8 0) 1 1 Try.underlying22 hi hz0 hz1 hz2 rfl (by decide) _ _ _ rfl HO8.out ⟨wr.heap.size, 0, none⟩ 1 1 [.int .u8 (z : Int)] rfl rfl ?c1 ?c2 (by decide) ?c3 ?c4 ?c5 _ rfl ?_)
            case c1 => exact N8.out.news
            case c2 => intro z hz; simp at hz; subst hz; rfl
            case c3 => unfold maxLen; omega
            case c4 => omega
            case c5 => first | omega | (simp; omega)
            intro g2 cap2 w9 hown hgrow hat hlt
            have G9 := hide (grownBy_trans (grownBy_trans G.out (row2 := none) (World.grownBy_alloc wr (.cells #[.int .u8 (z : Int)] 5) none) (fun k h => by cases h)) hgrow (fun k h => by
              injection h with h
              subst h
              exact AT.out))
            have HAT : Hid ((Value.slice a l.length cap0).ownBlock = some g2 ∨ w.heap.size ≤ g2) := hide (by
              rcases hat with h | h
              · injection h with h; subst h; exact AT.out
              · exact .inr (by rw [h]; first | omega | (simp; omega)))
            have ON : Hid (BOwn w9 B0 (.slice (some ⟨g2, 0, none⟩) (cur.length + 1) cap2) (cur ++ [(z : Int)])) := hide (by
              unfold BOwn
              rw [List.length_append]
              simpa [bys] using hown)
            have hs9 := hgrow.size
            rw [World.size_alloc] at hs9
            clear hown hgrow hat hlt HO8 N8 O G AT
            go_wp2_with fail
            go_roundw
            case rel => exact ⟨q, cur ++ [(z : Int)], g2, cap2, by omega, by go_num, by rw [List.length_append]; rfl, ON.out, HCN, G9.out, HAT.out, by omega⟩
            case measure => simp [intOf] <;> omega
end Go.Proofs.Ytmngndmcidbakaa
