/- Walks: the law's ev and copied. -/
import Derived.Test.YtffpphnjokmffaaEF
namespace Go.Proofs.Ytffpphnjokmffaa
open Go.RowKit Go.Maps

theorem info48 : (Try.prog.info? 48).map (fun i => (i.zero, i.size, i.bytes)) = some (some (.agg #[.int .i64 0, .int .u8 0, .int .i64 0]), 3, 24) := by kernel_rfl
theorem ecell_len (l : List Ev) : ∀ x ∈ l.map ecell, x.length = 3 := by
  intro x hx; rw [List.mem_map] at hx; obtain ⟨y, _, rfl⟩ := hx; rfl
theorem ecell_one (l : List Ev) : ∀ u ∈ l.map ecell, ∀ z ∈ u, z.oneCell' = true := by
  intro x hx; rw [List.mem_map] at hx; obtain ⟨y, _, rfl⟩ := hx; intro z hz; simp [ecell] at hz; rcases hz with rfl | rfl | rfl <;> rfl
theorem erow_blk {w : World} {g : Nat} {t : TypeId} {l : List Ev} (h : Blk w g t (l.map ecell).flatten.toArray) (hn : l.length ≤ 9223372036854775807) : ERow w (some ⟨g, 0, none⟩) l := by
  refine ⟨by simpa using hn, fun _ => ⟨g, 0, rfl, h.lt, fun i hi j hj => ?_⟩⟩
  have := flat_get (l.map ecell) (ecell_len l) i hi j hj
  rw [show 0 + i * 3 + j = i * 3 + j from by omega, h.cell]
  simpa using this
theorem ev_any (a b c : Int) (w : World) : Calls Try.prog 22 #[.int .i64 a, .int .u8 b, .int .i64 c] w fun r w' => r = .returned (eagg ⟨a, b, c⟩) ∧ Below w.heap.size w w' := by
  unfold eagg
  go_enter Try.func22, Try.ntmps22
  go_wp2_with fail
  go_returns
  exact ⟨rfl, by go_grown⟩
/-- A log of the call's own. -/
def ERowO (W : World) (B0 : Nat) (v : Value) (l : List Ev) : Prop := W.ownsRow B0 48 3 v l.length (l.map ecell).flatten
theorem ERowO.row {W : World} {B0 : Nat} {v : Value} {l : List Ev} (h : ERowO W B0 v l) : ∃ a cap, v = .slice a l.length cap ∧ ERow W a l ∧ (a = none ∨ ∃ g, a = some ⟨g, 0, none⟩ ∧ B0 ≤ g ∧ g < W.heap.size ∧ ∀ o, W.frozen? ⟨g, o, none⟩ = false) := by
  obtain ⟨a, cap, h1, _, _, _, h2, h3⟩ := own_rowS (ecell_len l) (by decide) h
  exact ⟨a, cap, h1, h2, h3⟩
def CopyPost (l : List Ev) (w : World) (r : Ending) (w' : World) : Prop := ∃ v, r = .returned v ∧ ERowO w' w.heap.size v l ∧ Below w.heap.size w w'
theorem copied_any (a : Option Addr) (l : List Ev) (c : Nat) (w : World) (hr : ERow w a l) (hL : l.length ≤ 70000) : Calls Try.prog 11 #[.slice a l.length c] w (CopyPost l w) := by
  obtain ⟨i0, hi, hz0, hz1, hz2⟩ := info_parts info48
  obtain ⟨w1, hw1⟩ : ∃ w1, w1 = w.alloc (.cells #[] 48) := ⟨_, rfl⟩
  have HO := hide (hw1 ▸ World.ownsRow_made (base := w.heap.size) (e := 48) (size := 3) w #[] 0 (Nat.le_refl _) (Nat.zero_le _) rfl : w1.ownsRow w.heap.size 48 3 (.slice (some ⟨w.heap.size, 0, none⟩) 0 0) 0 [])
  have t1 := hide (hw1 ▸ (Below.refl _ _).alloc (Nat.le_refl _) _ : Below w.heap.size w w1)
  have HR := hide (hr.below t1.out)
  have HW := hide hw1
  clear hr hw1
  go_enter Try.func11, Try.ntmps11
  go_wp2_with (at_builtin; (try rw [← HW.out]); refine wpList_append_rows rfl _ _ 22 rfl w.heap.size 48 i0 (.agg #[.int .i64 0, .int .u8 0, .int .i64 0]) 3 24 Try.underlying22 hi hz0 hz1 hz2 rfl (by decide) _ _ _ rfl HO.out a l.length c _ rfl HR.out (by rw [List.length_map]) (ecell_len _) (ecell_one _) ?c1 ?c2 t1.out.size ?_)
  case c1 => unfold maxLen; omega
  case c2 => omega
  intro v' w2 hown' hgrow _
  (try simp only [List.nil_append, Nat.zero_add] at hown')
  have H2 := hide hown'
  have HB := hide (below_grown (a := w) t1.out hgrow (fun k h => by simp [Value.ownBlock] at h; omega))
  clear hown' hgrow
  go_wp2_with fail
  go_returns
  exact ⟨_, rfl, H2.out, HB.out⟩
end Go.Proofs.Ytffpphnjokmffaa
