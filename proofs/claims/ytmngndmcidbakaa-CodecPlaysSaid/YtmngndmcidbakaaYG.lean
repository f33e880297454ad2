/- Walks: a field of a style, by kind: does it say something; its bytes. -/
import Derived.Test.YtmngndmcidbakaaYF
namespace Go.Proofs.Ytmngndmcidbakaa
open Go.RowKit
/-- What the closure in cell g does at a style's place: it hands back the place of the field. -/
structure OfAt (W : World) (g : Nat) (off b o : Nat) : Prop where
  ex : ∃ K caps, W.cell? ⟨g, 0, none⟩ = some (.func (.func K) #[] caps) ∧ (∀ args w, (callFunc K args).run Try.prog w = .ok (.enter K args) w) ∧ Calls Try.prog K (#[.pointer (some ⟨b, o, none⟩)] ++ caps) W (MvPost off b o W)
def BqPost (x : Bool) (w : World) (r : Ending) (w' : World) : Prop := r = .returned (.bool x) ∧ ∃ q, w' = w.drewN q
theorem flag_has (g off b o : Nat) (x : Bool) (W : World) (h : OfAt W g off b o) (hx : W.cell? ⟨b, o + off, none⟩ = some (.bool x)) :
    Calls Try.prog 64 #[.pointer (some ⟨b, o, none⟩), .pointer (some ⟨g, 0, none⟩)] W (BqPost x W) := by
  obtain ⟨K, caps, hg, he, hc⟩ := h.ex
  have HC := hide hc
  clear hc h
  go_enter Try.func64, Try.ntmps64
  go_wp2_with fail
  refine HC.out.mono ?_
  rintro r w2 ⟨rfl, q, rfl⟩
  have hx : (W.drewN q).cell? ⟨b, o + off, none⟩ = some (.bool x) := hx
  go_wp2_with fail
  go_returns
  exact ⟨rfl, q, rfl⟩
theorem grown_drewN {W W' : World} {row : Option Nat} {q : Nat} (h : (W.drewN q).grownBy W' row) : W.grownBy W' row := ⟨h.os, h.tape, h.output, h.size, h.block⟩
theorem app_drewN {W : World} {q B0 : Nat} {v : Value} {l : List Int} {r : Ending} {w' : World} (h : AppPost B0 v l (W.drewN q) r w') : AppPost B0 v l W r w' := by
  obtain ⟨v', h1, h2, h3, h4⟩ := h
  exact ⟨v', h1, h2, grown_drewN h3, h4⟩
theorem small_has (g off b o : Nat) (x : Int) (W : World) (h : OfAt W g off b o) (hx : W.cell? ⟨b, o + off, none⟩ = some (.int .u8 x)) :
    Calls Try.prog 67 #[.pointer (some ⟨b, o, none⟩), .pointer (some ⟨g, 0, none⟩)] W (BqPost (x != 0) W) := by
  obtain ⟨K, caps, hg, he, hc⟩ := h.ex
  have HC := hide hc
  clear hc h
  go_enter Try.func67, Try.ntmps67
  go_wp2_with fail
  refine HC.out.mono ?_
  rintro r w2 ⟨rfl, q, rfl⟩
  have hx : (W.drewN q).cell? ⟨b, o + off, none⟩ = some (.int .u8 x) := hx
  go_wp2_with fail
  go_returns
  exact ⟨rfl, q, rfl⟩
theorem great_has (g off b o : Nat) (x : Int) (W : World) (h : OfAt W g off b o) (hx : W.cell? ⟨b, o + off, none⟩ = some (.int .i64 x)) :
    Calls Try.prog 71 #[.pointer (some ⟨b, o, none⟩), .pointer (some ⟨g, 0, none⟩)] W (BqPost (x != 0) W) := by
  obtain ⟨K, caps, hg, he, hc⟩ := h.ex
  have HC := hide hc
  clear hc h
  go_enter Try.func71, Try.ntmps71
  go_wp2_with fail
  refine HC.out.mono ?_
  rintro r w2 ⟨rfl, q, rfl⟩
  have hx : (W.drewN q).cell? ⟨b, o + off, none⟩ = some (.int .i64 x) := hx
  go_wp2_with fail
  go_returns
  exact ⟨rfl, q, rfl⟩
theorem order_has (b o : Nat) (x : Int) (W : World) (hx : W.cell? ⟨b, o + 37, none⟩ = some (.int .i64 x)) :
    Calls Try.prog 74 #[.pointer (some ⟨b, o, none⟩)] W (BqPost (x != 0) W) := by
  go_enter Try.func74, Try.ntmps74
  go_wp2_with fail
  go_returns
  exact ⟨rfl, 0, rfl⟩
theorem units_has (b o : Nat) (a : Option Addr) (n c : Nat) (W : World) (hx : W.cell? ⟨b, o + 42, none⟩ = some (.slice a n c)) (hn : n ≤ 1000000000) :
    Calls Try.prog 80 #[.pointer (some ⟨b, o, none⟩)] W (BqPost (decide (n ≠ 0)) W) := by
  by_cases h : n = 0
  · subst h
    go_enter Try.func80, Try.ntmps80
    go_wp2_with fail
    go_returns
    exact ⟨rfl, 0, rfl⟩
  · have d : ((n : Int) != 0) = true := by simp [h]
    have HD : Hid (decide (n ≠ 0) = true) := hide (by simpa using h)
    rw [HD.out]
    go_enter Try.func80, Try.ntmps80
    go_wp2_with fail
    go_returns
    exact ⟨rfl, 0, rfl⟩
theorem flag_put (B0 : Nat) (l : List Int) (a : Option Addr) (cap b o : Nat) (W : World) (ho : BOwn W B0 (.slice a l.length cap) l) :
    Calls Try.prog 65 #[.slice a l.length cap, .pointer (some ⟨b, o, none⟩)] W (AppPost B0 (.slice a l.length cap) (l ++ []) W) := by
  go_enter Try.func65, Try.ntmps65
  go_wp2_with fail
  go_returns
  exact ⟨_, rfl, by rw [List.append_nil]; exact ho, World.grownBy.refl _ _, .inl rfl⟩
set_option maxHeartbeats 1000000 in
theorem small_put (B0 : Nat) (l : List Int) (a : Option Addr) (cap g off b o : Nat) (x : Int) (W : World) (ho : BOwn W B0 (.slice a l.length cap) l) (hB : B0 ≤ W.heap.size) (hl : l.length ≤ 100000000) (h : OfAt W g off b o) (hx : W.cell? ⟨b, o + off, none⟩ = some (.int .u8 x)) (hb : 0 ≤ x ∧ x ≤ 255) :
    Calls Try.prog 68 #[.slice a l.length cap, .pointer (some ⟨b, o, none⟩), .pointer (some ⟨g, 0, none⟩)] W (AppPost B0 (.slice a l.length cap) (l ++ num x) W) := by
  obtain ⟨K, caps, hg, he, hc⟩ := h.ex
  have HC := hide hc
  clear hc h
  have HN := hide (fun (q : Nat) => number_any B0 l a cap x (W.drewN q) ho hB hl (by omega))
  go_enter Try.func68, Try.ntmps68
  go_wp2_with fail
  refine HC.out.mono ?_
  rintro r w2 ⟨rfl, q, rfl⟩
  have hx : (W.drewN q).cell? ⟨b, o + off, none⟩ = some (.int .u8 x) := hx
  go_wp2_with fail
  refine (HN.out q).mono ?_
  rintro r w3 hA
  obtain ⟨v', rfl, h2, h3, h4⟩ := app_drewN hA
  have H2 := hide h2
  have H3 := hide h3
  have H4 := hide h4
  clear h2 h3 h4 hA HN hx ho
  go_wp2_with fail
  go_returns
  exact ⟨_, rfl, H2.out, H3.out, H4.out⟩
set_option maxHeartbeats 1000000 in
theorem great_put (B0 : Nat) (l : List Int) (a : Option Addr) (cap g off b o : Nat) (x : Int) (W : World) (ho : BOwn W B0 (.slice a l.length cap) l) (hB : B0 ≤ W.heap.size) (hl : l.length ≤ 100000000) (h : OfAt W g off b o) (hx : W.cell? ⟨b, o + off, none⟩ = some (.int .i64 x)) (hb : -9223372036854775808 ≤ x ∧ x ≤ 9223372036854775807) :
    Calls Try.prog 72 #[.slice a l.length cap, .pointer (some ⟨b, o, none⟩), .pointer (some ⟨g, 0, none⟩)] W (AppPost B0 (.slice a l.length cap) (l ++ num x) W) := by
  obtain ⟨K, caps, hg, he, hc⟩ := h.ex
  have HC := hide hc
  clear hc h
  have HN := hide (fun (q : Nat) => number_any B0 l a cap x (W.drewN q) ho hB hl hb)
  go_enter Try.func72, Try.ntmps72
  go_wp2_with fail
  refine HC.out.mono ?_
  rintro r w2 ⟨rfl, q, rfl⟩
  have hx : (W.drewN q).cell? ⟨b, o + off, none⟩ = some (.int .i64 x) := hx
  go_wp2_with fail
  refine (HN.out q).mono ?_
  rintro r w3 hA
  obtain ⟨v', rfl, h2, h3, h4⟩ := app_drewN hA
  have H2 := hide h2
  have H3 := hide h3
  have H4 := hide h4
  clear h2 h3 h4 hA HN hx ho
  go_wp2_with fail
  go_returns
  exact ⟨_, rfl, H2.out, H3.out, H4.out⟩
set_option maxHeartbeats 1000000 in
theorem order_put (B0 : Nat) (l : List Int) (a : Option Addr) (cap b o : Nat) (x : Int) (W : World) (ho : BOwn W B0 (.slice a l.length cap) l) (hB : B0 ≤ W.heap.size) (hl : l.length ≤ 100000000) (hx : W.cell? ⟨b, o + 37, none⟩ = some (.int .i64 x)) (hb : -9223372036854775808 ≤ x ∧ x ≤ 9223372036854775807) :
    Calls Try.prog 75 #[.slice a l.length cap, .pointer (some ⟨b, o, none⟩)] W (AppPost B0 (.slice a l.length cap) (l ++ num x) W) := by
  have HN := hide (number_any B0 l a cap x W ho hB hl hb)
  go_enter Try.func75, Try.ntmps75
  go_wp2_with fail
  refine HN.out.mono ?_
  rintro r w3 ⟨v', rfl, h2, h3, h4⟩
  have H2 := hide h2
  have H3 := hide h3
  have H4 := hide h4
  clear h2 h3 h4 HN hx ho
  go_wp2_with fail
  go_returns
  exact ⟨_, rfl, H2.out, H3.out, H4.out⟩
end Go.Proofs.Ytmngndmcidbakaa
