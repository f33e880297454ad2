/- Walks: the script's New; Next of none. -/
import Derived.Test.YtkjmknmcadloaaaScript
namespace Go.Proofs.Ytkjmknmcadloaaa
open Go.RowKit

theorem info29 : (Try.prog.info? 29).map (fun i => (i.zero, i.size, i.bytes)) = some (some (.agg #[.int .i64 0, .int .i64 0]), 2, 16) := by kernel_rfl
theorem pcell_len (l : List Pk) : ∀ x ∈ l.map pcell, x.length = 2 := by
  intro x hx; rw [List.mem_map] at hx; obtain ⟨y, _, rfl⟩ := hx; rfl
theorem pcell_one (l : List Pk) : ∀ u ∈ l.map pcell, ∀ z ∈ u, z.oneCell' = true := by
  intro x hx; rw [List.mem_map] at hx; obtain ⟨y, _, rfl⟩ := hx; intro z hz; simp [pcell] at hz; rcases hz with rfl | rfl <;> rfl
theorem new_bad (a : Option Addr) (m c : Nat) (n : Int) (w : World) (h : ¬ (1 ≤ n ∧ n ≤ 64)) : Calls Try.prog 9 #[.slice a m c, .int .i64 n] w fun r w' => r = .returned (.tuple #[.pointer none, .int .i64 1]) ∧ w = w' := by
  have HR := hide (right_no n w h)
  clear h
  go_enter Try.func9, Try.ntmps9
  go_wp2_with fail
  refine HR.out.mono ?_
  rintro r w2 ⟨rfl, rfl⟩
  go_wp2
  go_returns
  exact ⟨rfl, rfl⟩
def NewPost (l : List Pk) (n : Int) (w : World) (r : Ending) (w' : World) : Prop :=
  ∃ gs a c, r = .returned (.tuple #[.pointer (some ⟨gs, 0, none⟩), .int .i64 0]) ∧ Scr w' gs a c l n 0 w.heap.size ∧ w.heap.size ≤ gs ∧ RowG w' a 2 w.heap.size (l.map pcell) ∧ Below w.heap.size w w'
set_option maxHeartbeats 1000000 in
theorem new_any (a : Option Addr) (l : List Pk) (c : Nat) (n : Int) (w : World) (hr : PRow w a l) (hl : l.length ≤ 1000000) (hn : 1 ≤ n) (hn2 : n ≤ 64) : Calls Try.prog 9 #[.slice a l.length c, .int .i64 n] w (NewPost l n w) := by
  obtain ⟨i0, hi, hz0, hz1, hz2⟩ := info_parts info29
  have HR := hide (right_yes n w hn hn2)
  have hown := hide (World.ownsRow_nil w w.heap.size 29 2)
  go_enter Try.func9, Try.ntmps9
  go_wp2_with fail
  refine HR.out.mono ?_
  rintro r w2 ⟨rfl, rfl⟩
  go_wp2_with (at_builtin; refine wpList_append_rows rfl _ _ 22 rfl w.heap.size 29 i0 (.agg #[.int .i64 0, .int .i64 0]) 2 16 Try.underlying22 hi hz0 hz1 hz2 rfl (by decide) _ _ _ rfl hown.out a l.length c (l.map pcell) rfl hr (by simp) (pcell_len l) (pcell_one l) ?c1 ?c2 (Nat.le_refl _) ?_)
  case c1 => unfold maxLen; omega
  case c2 => omega
  intro v' w1 hown' hgrow _
  (try simp only [List.nil_append, Nat.zero_add] at hown')
  obtain ⟨a5, c5, rfl, _, _, _, G5⟩ := own_rowG (pcell_len l) (by decide) hown'
  have t5 : Hid (Below w.heap.size w w1) := hide (below_grown (a := w) (Below.refl _ _) hgrow (by simp [Value.ownBlock]))
  have G5 := hide G5
  clear hown' hgrow hown
  go_wp2
  go_returns
  have hb : Below w1.heap.size w1 (w1.alloc (.cells #[.slice a5 l.length c5, .int .i64 n, .int .i64 0] 44)) := (Below.refl _ _).alloc (Nat.le_refl _) _
  refine ⟨_, a5, c5, rfl, ⟨Blk.new w1 44 _, PRow.below G5.out.1 hb, fun b off e => ?_⟩, t5.out.size, G5.out.below hb, below_call t5.out hb⟩
  rcases G5.out.2 with ⟨h1, _⟩ | ⟨g, h1, _, h3, _⟩
  · rw [h1] at e; cases e
  · rw [h1] at e
    obtain ⟨rfl, _⟩ : g = b ∧ 0 = off := by simpa using e
    omega
theorem next_nil (w : World) : Calls Try.prog 11 #[.pointer none] w fun r w' => r = .returned (.agg #[.int .i64 0, .int .i64 0]) ∧ Below w.heap.size w w' := by
  have B1 := hide (Blk.new w 29 #[.int .i64 0, .int .i64 0])
  go_enter Try.func11, Try.ntmps11
  go_wp2
  exact bodyPost_ret (results_cell_row Try.results11 _ _ w.heap.size 29 _ (0, 0) _ rfl B1.out Try.underlying29 rfl (by kernel_rfl)) rfl ⟨rfl, by go_grown⟩
end Go.Proofs.Ytkjmknmcadloaaa
