/- Walks: bytes as picks. -/
import Derived.Test.YtkjmknmcadloaaaNewW
import Derived.Test.YtkjmknmcadloaaaRegM
namespace Go.Proofs.Ytkjmknmcadloaaa
open Go.RowKit

def u8s (l : List Int) : List Value := l.map (Value.int .u8)
theorem row_u8 {w : World} {a : Option Addr} {l : List Int} (h : Row w a (u8s l)) (hp : 0 < l.length) : ∃ b off, a = some ⟨b, off, none⟩ ∧ b < w.heap.size ∧
    ∀ i (hi : i < l.length), w.cell? ⟨b, off + i, none⟩ = some (.int .u8 l[i]) := by
  obtain ⟨b, off, ha, hb, hc⟩ := h.2 (by simpa [u8s] using hp)
  refine ⟨b, off, ha, hb, fun i hi => ?_⟩
  have := hc i (by simpa [u8s] using hi)
  simpa [u8s] using this
/-- The first k pairs. -/
def drw (l : List Int) : Nat → List Pk
  | 0 => []
  | k + 1 => drw l k ++ [⟨l.getD (2 * k) 0, l.getD (2 * k + 1) 0⟩]
theorem drw_len (l : List Int) : ∀ k, (drw l k).length = k
  | 0 => rfl
  | k + 1 => by unfold drw; rw [List.length_append, drw_len l k]; rfl
def DS (W : World) (x y : Int) (c : Nat) (w' : World) : Prop := if c = 0 then w' = W.drew else w' = W.drew.alloc (.cells #[.int .i64 x, .int .i64 y] 29)
theorem ds_cell {W : World} {x y : Int} {p : Addr} {v : Value} (hp : p.block < W.heap.size) (h : W.cell? p = some v) : ∀ w' c, DS W x y c w' → w'.cell? p = some v := fun w' c hS => by
  unfold DS at hS
  split at hS
  · subst hS; exact h
  · subst hS; rw [World.cell?_alloc_lt W.drew _ p (by simpa using hp)]; exact h

def DPost (l : List Int) (w : World) (r : Ending) (w' : World) : Prop :=
  ∃ v, r = .returned v ∧ w'.ownsRow w.heap.size 29 2 v (l.length / 2) ((drw l (l.length / 2)).map pcell).flatten ∧ Below w.heap.size w w'

set_option maxHeartbeats 2000000 in
theorem draw_any (a : Option Addr) (l : List Int) (n c : Nat) (w : World) (hr : Row w a (u8s l)) (hn : l.length = n) (hl : ∀ x ∈ l, 0 ≤ x ∧ x ≤ 255) (hb : n ≤ 1000000) : Calls Try.prog 15 #[.slice a n c] w (DPost l w) := by
  obtain ⟨i0, hi, hz0, hz1, hz2⟩ := info_parts info29
  have HN := hide hn
  have HL := hide hl
  clear hn hl
  go_enter Try.func15, Try.ntmps15
  go_wp2
  go_loopw [3, 4] (fun v i wr => ∃ k : Nat, 2 * k ≤ n ∧ i = .int .i64 ((2 * k : Nat) : Int) ∧ wr.ownsRow w.heap.size 29 2 v k ((drw l k).map pcell).flatten ∧ Below w.heap.size w wr) (fun _ i _ => n + 2 - (intOf i).toNat)
  case atStart => exact ⟨0, by omega, rfl, World.ownsRow_nil _ _ _ _, Below.refl _ _⟩
  case round =>
    obtain ⟨k, hk, rfl, hown, hbel⟩ := hrel
    have HO := hide hown
    have t := hide hbel
    clear hown
    obtain ⟨k2, hk2⟩ : ∃ k2, k2 = 2 * k := ⟨_, rfl⟩
    rw [← hk2] at hk ⊢
    have HK := hide hk2
    by_cases hlt : k2 + 1 < n
    · obtain ⟨b, off, rfl, hbw, hc⟩ := row_u8 hr (by have := HN.out; omega)
      have h1 : k2 < l.length := by have := HN.out; omega
      have h2 : k2 + 1 < l.length := by have := HN.out; omega
      have x0 := (hbel.cell (p := ⟨b, off + k2, none⟩) hbw).trans (hc k2 h1)
      have x1 := (hbel.cell (p := ⟨b, off + (k2 + 1), none⟩) hbw).trans (hc (k2 + 1) h2)
      obtain ⟨p0, p1⟩ := HL.out _ (List.getElem_mem h1)
      obtain ⟨q0, q1⟩ := HL.out _ (List.getElem_mem h2)
      have HD : Hid (drw l (k + 1) = drw l k ++ [⟨l[k2], l[k2 + 1]⟩]) := hide (by
        rw [show drw l (k + 1) = drw l k ++ [⟨l.getD (2 * k) 0, l.getD (2 * k + 1) 0⟩] from rfl, ← hk2, List.getD_eq_getElem?_getD, List.getElem?_eq_getElem h1, List.getD_eq_getElem?_getD, List.getElem?_eq_getElem h2]
        rfl)
      clear hc hbel hk2
      generalize l[k2] = x at x0 p0 p1 HD
      generalize l[k2 + 1] = y at x1 q0 q1 HD
      obtain ⟨x, rfl⟩ := Int.eq_ofNat_of_zero_le p0
      obtain ⟨y, rfl⟩ := Int.eq_ofNat_of_zero_le q0
      have hbwr : b < wr.heap.size := Nat.lt_of_lt_of_le hbw t.out.size
      go_wp2_with fail
      have z0 := ds_cell (x := x) (y := y) hbwr x0
      have z1 := ds_cell (x := x) (y := y) hbwr x1
      refine Reg.region (by kernel_rfl) 14 [13] (DS wr x y) (by kernel_rfl) (by kernel_rfl) rfl ?_
      iterate 13
        refine Reg.WT.yield (v := ?_) rfl rfl ?_ ?_
        rotate_left
        · intro w' _ hS; have z0_ := z0 _ _ hS; have z1_ := z1 _ _ hS; go_simp; (try go_bits); (first | rfl | rw [if_pos (by omega)])
        simp only [Act.put, List.setIfInBounds_toArray, List.set_cons_zero, List.set_cons_succ]
      refine Reg.WT.make (v := .slice (some ⟨wr.heap.size, 0, none⟩) 1 1) rfl rfl ?_ ?_
      · intro w2 hS
        obtain rfl : w2 = wr.drew := hS
        refine ⟨_, by go_simp, rfl⟩
      simp only [Act.put, List.setIfInBounds_toArray, List.set_cons_zero, List.set_cons_succ]
      intro w2 hS
      obtain rfl : w2 = wr.drew.alloc (.cells #[.int .i64 x, .int .i64 y] 29) := hS
      clear z0 z1
      have G1 := hide (Blk.new wr.drew 29 #[.int .i64 x, .int .i64 y])
      have HO2 := hide (own_below HO.out (w' := wr.drew.alloc (.cells #[.int .i64 x, .int .i64 y] 29)) ((Below.refl _ _).drew.alloc (Nat.le_refl _) _))
      have t2 := hide (below_call (w := w) t.out (w2 := wr.drew.alloc (.cells #[.int .i64 x, .int .i64 y] 29)) ((Below.refl _ _).drew.alloc (Nat.le_refl _) _))
      go_wp2_with (at_builtin; refine wpList_append_own _ rfl _ _ 22 rfl w.heap.size 29 i0 (.agg #[.int .i64 0, .int .i64 0]) 2 16 Try.underlying22 hi hz0 hz1 hz2 rfl (by decide) _ _ _ rfl HO2.out ⟨wr.heap.size, 0, none⟩ 1 1 [.int .i64 x, .int .i64 y] rfl rfl ?c1 ?c2 ?c3 ?c4 ?c5 ?_)
      case c1 => exact G1.out.news
      case c2 => intro z hz; simp at hz; rcases hz with rfl | rfl <;> rfl
      case c3 => unfold maxLen; have := HK.out; omega
      case c4 => have := HK.out; omega
      case c5 => exact t2.out.size
      intro v' w1 hown' hgrow _
      have t3 : Hid (Below w.heap.size w w1) := hide (below_grown (a := w) t2.out hgrow (own_ge HO2.out))
      have H1 : Hid (w1.ownsRow w.heap.size 29 2 v' (k + 1) ((drw l (k + 1)).map pcell).flatten) := hide (by
        rw [HD.out]; simpa [pcell] using hown')
      clear hown' hgrow
      go_wp2
      go_roundw
      case rel => exact ⟨k + 1, by have := HK.out; omega, by rw [HK.out]; go_num, H1.out, t3.out⟩
      case measure => simp [intOf]; omega
    · have hkn : k = n / 2 := by have := HK.out; omega
      have HKN := hide hkn
      clear hkn
      go_wp2
      go_returns
      exact ⟨_, rfl, by rw [HN.out, ← HKN.out]; exact HO.out, t.out⟩
end Go.Proofs.Ytkjmknmcadloaaa
