/- Walk: the reference's Number. -/
import Derived.Test.YtmngndmcidbakaaYA
import Derived.Test.YtmngndmcidbakaaApp
import Derived.Laws.OwnMore
import Derived.Deep.AppendLies
namespace Go.Proofs.Ytmngndmcidbakaa
open Go.RowKit

theorem info5 : (Try.prog.info? 5).map (fun i => (i.zero, i.size, i.bytes)) = some (some (.int .u8 0), 1, 1) := by kernel_rfl
theorem bys_one (l : List Int) : ∀ u ∈ bys l, u.oneCell' = true := by
  intro u hu; unfold bys at hu; rw [List.mem_map] at hu; obtain ⟨x, _, rfl⟩ := hu; rfl
theorem wabs {n : Int} (h : -9223372036854775808 ≤ n) (h2 : n < 0) : IntKind.u64.wrap (-(IntKind.u64.wrap n)) = (n.natAbs : Int) := by
  simp only [IntKind.wrap, IntKind.bits, IntKind.signed]
  simp
  omega
theorem wpos {n : Int} (h : 0 ≤ n) (h2 : n ≤ 9223372036854775807) : IntKind.u64.wrap n = (n.natAbs : Int) := by
  simp only [IntKind.wrap, IntKind.bits, IntKind.signed]
  simp
  omega
/-- Bytes of the call's own. -/
def BOwn (W : World) (B0 : Nat) (v : Value) (l : List Int) : Prop := W.ownsRow B0 5 1 v l.length (bys l)
theorem BOwn.row {W : World} {B0 : Nat} {v : Value} {l : List Int} (h : BOwn W B0 v l) : ∃ a cap, v = .slice a l.length cap ∧ l.length ≤ cap ∧ cap ≤ maxLen ∧ BRow W a l := by
  obtain ⟨a, cap, h1, h2, h3, _, h5⟩ := own_row h
  exact ⟨a, cap, h1, h2, h3, h5⟩
theorem BOwn.below {W W' : World} {B0 : Nat} {v : Value} {l : List Int} (h : BOwn W B0 v l) (hb : Below W.heap.size W W') : BOwn W' B0 v l := own_below h hb
def NumPost (n : Int) (w : World) (r : Ending) (w' : World) : Prop := ∃ v, r = .returned v ∧ BOwn w' w.heap.size v (num n) ∧ Below w.heap.size w w'
set_option maxRecDepth 100000 in
set_option maxHeartbeats 2000000 in
theorem rnumber_any (n : Int) (w : World) (hn : -9223372036854775808 ≤ n ∧ n ≤ 9223372036854775807) : Calls Try.prog 14 #[.int .i64 n] w (NumPost n w) := by
  obtain ⟨i0, hi, hz0, hz1, hz2⟩ := info_parts info5
  have h8 := nb_len (abs_lt hn)
  obtain ⟨hn1, hn2⟩ := hn
  obtain ⟨m, hm⟩ : ∃ m, m = n.natAbs := ⟨_, rfl⟩
  rw [← hm] at h8
  have hm64 : m < 18446744073709551616 := by omega
  go_enter Try.func14, Try.ntmps14
  go_upto_if 9 with fail
  obtain ⟨sg, hsg⟩ : ∃ sg : Int, sg = if n < 0 then 16 else 0 := ⟨_, rfl⟩
  have hsg2 : sg = 0 ∨ sg = 16 := by rw [hsg]; split <;> simp
  have HSG := hide hsg
  clear hsg
  go_cut [3, 4] from 6 to 11 (fun s3 s4 wx => s3 = .int .u64 (m : Int) ∧ s4 = .int .u8 sg ∧ w = wx)
  case first =>
    by_cases h : n < 0
    · have HW : Hid (IntKind.u64.wrap (-(IntKind.u64.wrap n)) = (m : Int)) := hide (by rw [hm]; exact wabs hn1 h)
      have HS : Hid (sg = 16) := hide (by rw [HSG.out, if_pos h])
      have d : decide (n < 0) = true := by simpa using h
      rw [d]
      go_wp2_with fail
      go_meet
      exact ⟨by rw [HW.out], by rw [HS.out], rfl⟩
    · have HW : Hid (IntKind.u64.wrap n = (m : Int)) := hide (by rw [hm]; exact wpos (by omega) hn2)
      have HS : Hid (sg = 0) := hide (by rw [HSG.out, if_neg h])
      have d : decide (n < 0) = false := by simpa using h
      rw [d]
      go_wp2_with fail
      go_meet
      exact ⟨by rw [HW.out], by rw [HS.out], rfl⟩
  case rest =>
    obtain ⟨rfl, rfl, rfl⟩ := hcut
    have HM := hide hm
    clear hm
    go_wp2_with fail
    go_loopw [3, 5] (fun s3 s5 wr => ∃ (s : Nat) (t : List Int) (A : Option Addr) (cap : Nat), s3 = .int .u64 (s : Int) ∧ s5 = .slice A t.length cap ∧ BOwn wr w.heap.size s5 t ∧ Hid (nb m = nb s ++ t) ∧ s < 18446744073709551616 ∧ Below w.heap.size w wr) (fun s3 _ _ => (intOf s3).toNat)
    case atStart => exact ⟨m, [], none, 0, rfl, rfl, World.ownsRow_nil _ _ _ _, hide (by simp), hm64, Below.refl _ _⟩
    case round =>
      obtain ⟨s, t, A, cap, rfl, rfl, hO, hnb, hs, hb⟩ := hrel
      have O := hide hO
      have tb := hide hb
      have htl : t.length ≤ 8 := by have := congrArg List.length hnb.out; rw [List.length_append] at this; omega
      clear hO hb
      by_cases h0 : s = 0
      · subst h0
        have HNB : Hid (nb m = t) := hide (by rw [hnb.out, nb_zero, List.nil_append])
        obtain ⟨A', cap', e1, _, _, hrow⟩ := O.out.row
        simp only [Value.slice.injEq] at e1
        obtain ⟨rfl, _, rfl⟩ := e1
        have hsz := tb.out.size
        have HR6 := hide (hrow.below ((Below.refl _ _).alloc (Nat.le_refl _) (.cells #[.int .u8 (sg + (t.length : Int))] 5)))
        have HO6 := hide (World.ownsRow_lit (base := w.heap.size) (e := 5) (size := 1) wr #[.int .u8 (sg + (t.length : Int))] 1 hsz (by decide) rfl)
        have tA := hide (tb.out.alloc tb.out.size (.cells #[.int .u8 (sg + (t.length : Int))] 5))
        clear hrow
        go_wp2_with (at_builtin; refine wpList_append_row rfl _ _ 22 rfl w.heap.size 5 i0 (.int .u8 0) 1 Try.underlying22 hi hz0 hz1 hz2 rfl _ _ _ rfl HO6.out A t.length cap (bys t) rfl HR6.out (bys_len t) (bys_one t) ?c1a ?c2a ?c3a ?_)
        case c1a => unfold maxLen; omega
        case c2a => omega
        case c3a => omega
        intro v' w9 hown' hgrow _
        have t9 := hide (below_grown (a := w) tA.out hgrow (fun k h => by simp [Value.ownBlock] at h; omega))
        have ON : Hid (BOwn w9 w.heap.size v' (num n)) := hide (by
          unfold BOwn num
          rw [← HM.out, ← HSG.out, HNB.out]
          have e : ((sg + (t.length : Int)) :: t).length = 1 + t.length := by rw [List.length_cons]; omega
          rw [e]
          exact hown')
        clear hown' hgrow HO6 HR6 tA
        go_wp2_with fail
        go_returns
        exact ⟨_, rfl, ON.out, t9.out⟩
      · have d : decide (0 < (s : Int)) = true := by rw [decide_eq_true_eq]; omega
        obtain ⟨x, hx⟩ : ∃ x : Nat, x = s % 256 := ⟨_, rfl⟩
        have hx2 : ((s : Int) % 256) = (x : Int) := by omega
        have hxl : x < 256 := by omega
        have HNB : Hid (nb m = nb (s / 256) ++ ((x : Int) :: t)) := hide (by rw [hnb.out, nb_pos h0, ← hx]; simp)
        clear hx
        obtain ⟨A', cap', e1, _, _, hrow⟩ := O.out.row
        simp only [Value.slice.injEq] at e1
        obtain ⟨rfl, _, rfl⟩ := e1
        have hsz := tb.out.size
        have HR6 := hide (hrow.below ((Below.refl _ _).alloc (Nat.le_refl _) (.cells #[.int .u8 ((x : Int))] 5)))
        have HO6 := hide (World.ownsRow_lit (base := w.heap.size) (e := 5) (size := 1) wr #[.int .u8 ((x : Int))] 1 hsz (by decide) rfl)
        have tA := hide (tb.out.alloc tb.out.size (.cells #[.int .u8 ((x : Int))] 5))
        clear hrow
        go_wp2_with (at_builtin; refine wpList_append_row rfl _ _ 22 rfl w.heap.size 5 i0 (.int .u8 0) 1 Try.underlying22 hi hz0 hz1 hz2 rfl _ _ _ rfl HO6.out A t.length cap (bys t) rfl HR6.out (bys_len t) (bys_one t) ?c1a ?c2a ?c3a ?_)
        case c1a => unfold maxLen; omega
        case c2a => omega
        case c3a => omega
        intro v' w9 hown' hgrow _
        have t9 := hide (below_grown (a := w) tA.out hgrow (fun k h => by simp [Value.ownBlock] at h; omega))
        obtain ⟨g', cap2, rfl, _, _⟩ := hown'.form (by omega)
        have ON : Hid (BOwn w9 w.heap.size (.slice (some ⟨g', 0, none⟩) (1 + t.length) cap2) ((x : Int) :: t)) := hide (by
          unfold BOwn
          have e : ((x : Int) :: t).length = 1 + t.length := by rw [List.length_cons]; omega
          rw [e]
          exact hown')
        clear hown' hgrow HO6 HR6 tA
        go_wp2_with fail
        go_roundw
        case rel => exact ⟨s / 256, (x : Int) :: t, some ⟨g', 0, none⟩, cap2, by go_num, by rw [List.length_cons, Nat.add_comm], ON.out, HNB, by omega, t9.out⟩
        case measure => simp [intOf]; omega
end Go.Proofs.Ytmngndmcidbakaa
