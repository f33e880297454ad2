/- Walk: the bytes of a style's units. -/
import Derived.Test.YtmngndmcidbakaaYH
import Derived.Test.YtmngndmcidbakaaPn
namespace Go.Proofs.Ytmngndmcidbakaa
open Go.RowKit
theorem uBytes_take {us : List Int} {i : Nat} (h : i < us.length) : uBytes (us.take (i + 1)) = uBytes (us.take i) ++ u2b us[i] := by
  unfold uBytes; rw [List.take_succ_eq_append_getElem h, List.map_append, List.flatten_append]; simp
theorem wrap_u8 {u : Int} (h : 0 ≤ u ∧ u ≤ 65535) : IntKind.u8.wrap u = u % 256 := by simp only [IntKind.wrap, IntKind.bits, IntKind.signed]; simp
set_option maxRecDepth 100000 in
set_option maxHeartbeats 2000000 in
theorem units_put (B0 : Nat) (l : List Int) (a : Option Addr) (cap0 b o : Nat) (ua : Option Addr) (us : List Int) (uc : Nat) (W : World) (ho : BOwn W B0 (.slice a l.length cap0) l) (hB : B0 ≤ W.heap.size) (hl : l.length ≤ 90000000) (hx : W.cell? ⟨b, o + 42, none⟩ = some (.slice ua us.length uc))
    (hbl : b < W.heap.size) (hbo : (Value.slice a l.length cap0).ownBlock ≠ some b) (hu : Row W ua (us.map (.int .u16))) (hul : us.length ≤ 10000000) (huw : ∀ u ∈ us, 0 ≤ u ∧ u ≤ 65535) (hub : ∀ q off, ua = some ⟨q, off, none⟩ → (Value.slice a l.length cap0).ownBlock ≠ some q) :
    Calls Try.prog 81 #[.slice a l.length cap0, .pointer (some ⟨b, o, none⟩)] W (AppPost B0 (.slice a l.length cap0) (l ++ num us.length ++ uBytes us) W) := by
  obtain ⟨i0, hi, hz0, hz1, hz2⟩ := info_parts info5
  have HN := hide (number_any B0 l a cap0 us.length W ho hB (by omega) (by omega))
  have HU := hide hu
  have HUW := hide huw
  have HUB := hide hub
  have HX := hide hx
  have HBO := hide hbo
  clear ho hu huw hub hbo
  go_enter Try.func81, Try.ntmps81
  go_wp2_with fail
  refine HN.out.mono ?_
  rintro r w3 ⟨v3, rfl, hO3, hG3, hob3⟩
  have hl3 : (l ++ num us.length).length ≤ 90000009 := by
    rw [List.length_append]; unfold num; have := nb_len (abs_lt (n := (us.length : Int)) ⟨by omega, by omega⟩); rw [List.length_cons]; omega
  obtain ⟨cur0, hcur⟩ : ∃ cur, cur = l ++ num us.length := ⟨_, rfl⟩
  rw [← hcur] at hO3 hl3
  obtain ⟨a3, cap3, rfl, _, _, _⟩ := hO3.row
  have HCUR := hide hcur
  have O3 := hide hO3
  have G3 := hide hG3
  have AT3 : Hid ((Value.slice a3 cur0.length cap3).ownBlock = (Value.slice a l.length cap0).ownBlock ∨ ∃ g, (Value.slice a3 cur0.length cap3).ownBlock = some g ∧ W.heap.size ≤ g) := hide hob3
  have hs3 := hG3.size
  have x3 : w3.cell? ⟨b, o + 42, none⟩ = some (.slice ua us.length uc) := (World.cell?_of_block (w := W) (a := ⟨b, o + 42, none⟩) (hG3.block b hbl (fun e => HBO.out e.symm))).trans hx
  clear hcur hO3 hG3 hob3 HN hx
  go_wp2_with fail
  clear x3
  go_loopw [0, 19] (fun s0 s19 wr => ∃ (i : Nat) (cur : List Int) (ag : Option Addr) (cap : Nat), i ≤ us.length ∧ s19 = .int .i64 i ∧ s0 = .slice ag cur.length cap ∧ BOwn wr B0 s0 cur ∧ Hid (cur = cur0 ++ uBytes (us.take i)) ∧ W.grownBy wr (Value.slice a l.length cap0).ownBlock ∧ (s0.ownBlock = (Value.slice a l.length cap0).ownBlock ∨ ∃ g, s0.ownBlock = some g ∧ W.heap.size ≤ g)) (fun _ s19 _ => us.length - (intOf s19).toNat)
  case atStart => exact ⟨0, cur0, a3, cap3, Nat.zero_le _, rfl, rfl, O3.out, hide (by simp [uBytes]), G3.out, AT3.out⟩
  case round =>
    clear O3 G3 AT3
    obtain ⟨i, cur, ag, cap, hius, rfl, rfl, hO, hcur, hG, hat⟩ := hrel
    have O := hide hO
    have G := hide hG
    have AT : Hid ((Value.slice ag cur.length cap).ownBlock = (Value.slice a l.length cap0).ownBlock ∨ ∃ g, (Value.slice ag cur.length cap).ownBlock = some g ∧ W.heap.size ≤ g) := hide hat
    have hsz := hG.size
    have hcl : cur.length = cur0.length + 2 * i := by rw [hcur.out, List.length_append, uBytes_len, List.length_take]; omega
    clear hO hG hat
    by_cases hlt : i < us.length
    · obtain ⟨ub, uo, hua, hublt, huc⟩ := HU.out.2 (by rw [List.length_map]; omega)
      subst hua
      have x0 := huc i (by rw [List.length_map]; exact hlt)
      rw [List.getElem_map] at x0
      have x0 : wr.cell? ⟨ub, uo + i, none⟩ = some (.int .u16 us[i]) := (World.cell?_of_block (w := W) (a := ⟨ub, uo + i, none⟩) (G.out.block ub hublt (fun e => HUB.out ub uo rfl e.symm))).trans x0
      obtain ⟨u1, u2⟩ := HUW.out _ (List.getElem_mem hlt)
      have HT := hide (uBytes_take hlt)
      clear huc
      generalize us[i] = u at x0 u1 u2 HT
      have hw2 : IntKind.u8.wrap u = u % 256 := wrap_u8 ⟨u1, u2⟩
      have HCN : Hid (cur ++ [u / 256, u % 256] = cur0 ++ uBytes (us.take (i + 1))) := hide (by rw [HT.out, hcur.out, List.append_assoc]; rfl)
      have HCL := hide hcl
      have hcl2 : cur.length ≤ 120000009 := by omega
      clear hcl HT
      have HO8 := hide (O.out.alloc (.cells #[.int .u8 (u / 256), .int .u8 (u % 256)] 5))
      have N8 := hide (Blk.new wr 5 #[.int .u8 (u / 256), .int .u8 (u % 256)])
      go_wp2_with (at_builtin; refine wpList_append_lies _ rfl _ _ 22 rfl B0 5 i0 (.int .u8 0) 1 1 Try.underlying22 hi hz0 hz1 hz2 rfl (by decide) _ _ _ rfl HO8.out ⟨wr.heap.size, 0, none⟩ 2 2 [.int .u8 (u / 256), .int .u8 (u % 256)] rfl rfl ?c1 ?c2 (by decide) ?c3 ?c4 ?c5 _ rfl ?_)
      case c1 => exact N8.out.news
      case c2 => intro z hz; simp at hz; rcases hz with rfl | rfl <;> rfl
      case c3 => unfold maxLen; omega
      case c4 => omega
      case c5 => first | omega | (simp; omega)
      intro g2 cap2 w9 hown hgrow hat hlt9
      have G9 := hide (grownBy_trans (grownBy_trans G.out (row2 := none) (World.grownBy_alloc wr (.cells #[.int .u8 (u / 256), .int .u8 (u % 256)] 5) none) (fun k h => by cases h)) hgrow (fun k h => by
        rcases AT.out with h' | ⟨g', h', h2⟩
        · exact .inl (by rw [← h', h])
        · rw [h'] at h; injection h with h; subst h; exact .inr h2))
      have HAT : Hid ((Value.slice (some ⟨g2, 0, none⟩) (cur.length + 2) cap2).ownBlock = (Value.slice a l.length cap0).ownBlock ∨ ∃ g, (Value.slice (some ⟨g2, 0, none⟩) (cur.length + 2) cap2).ownBlock = some g ∧ W.heap.size ≤ g) := hide (by
        rcases hat with h | h
        · rcases AT.out with h' | ⟨g', h', h2⟩
          · exact .inl (by rw [← h', h]; rfl)
          · exact .inr ⟨g', by rw [← h', h]; rfl, h2⟩
        · exact .inr ⟨g2, rfl, by rw [h]; first | omega | (simp; omega)⟩)
      have ON : Hid (BOwn w9 B0 (.slice (some ⟨g2, 0, none⟩) (cur.length + 2) cap2) (cur ++ [u / 256, u % 256])) := hide (by
        unfold BOwn
        rw [List.length_append]
        simpa [bys] using hown)
      clear hown hgrow hat hlt9 HO8 N8 O G AT
      go_wp2_with fail
      go_roundw
      case rel => exact ⟨i + 1, cur ++ [u / 256, u % 256], some ⟨g2, 0, none⟩, cap2, hlt, by go_num, by rw [List.length_append]; rfl, ON.out, HCN, G9.out, HAT.out⟩
      case measure => simp [intOf]; omega
    · obtain rfl : i = us.length := by omega
      have HF : Hid (cur = l ++ num us.length ++ uBytes us) := hide (by rw [hcur.out, List.take_length, HCUR.out])
      clear hcl
      go_wp2_with fail
      go_returns
      exact ⟨_, rfl, by rw [← HF.out]; exact O.out, G.out, AT.out⟩
end Go.Proofs.Ytmngndmcidbakaa
