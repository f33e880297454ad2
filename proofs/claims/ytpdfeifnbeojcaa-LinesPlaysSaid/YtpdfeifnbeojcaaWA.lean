/- Walks: words in memory; how many empty rows; how far words move. -/
import Derived.Test.YtpdfeifnbeojcaaFB
import Derived.Test.YtpdfeifnbeojcaaLnLaw2
namespace Go.Proofs.Ytpdfeifnbeojcaa
open Go.RowKit

def wcell (w : Wd) : List Value := [.int .i64 w.f, .int .i64 w.t, .int .i64 w.w, .int .i64 w.g, .int .i64 w.n]
def WRow (w : World) (a : Option Addr) (l : List Wd) : Prop := RowS w a 5 (l.map wcell)
theorem WRow.below {w w' : World} {a : Option Addr} {l : List Wd} (h : WRow w a l) (hb : Below w.heap.size w w') : WRow w' a l := RowS.below h hb
theorem WRow.len {w : World} {a : Option Addr} {l : List Wd} (h : WRow w a l) : l.length ≤ 9223372036854775807 := by have := RowS.mono_len h; rwa [List.length_map] at this
theorem w_at {w : World} {a : Option Addr} {l : List Wd} (h : WRow w a l) (hp : 0 < l.length) : ∃ b off, a = some ⟨b, off, none⟩ ∧ b < w.heap.size ∧
    ∀ i (hi : i < l.length), w.cell? ⟨b, off + i * 5, none⟩ = some (.int .i64 l[i].f) ∧ w.cell? ⟨b, off + i * 5 + 1, none⟩ = some (.int .i64 l[i].t) ∧ w.cell? ⟨b, off + i * 5 + 2, none⟩ = some (.int .i64 l[i].w) ∧
      w.cell? ⟨b, off + i * 5 + 3, none⟩ = some (.int .i64 l[i].g) ∧ w.cell? ⟨b, off + i * 5 + 4, none⟩ = some (.int .i64 l[i].n) := by
  obtain ⟨b, off, ha, hb, hc⟩ := RowS.at_ h (by simpa using hp)
  refine ⟨b, off, ha, hb, fun i hi => ⟨?_, ?_, ?_, ?_, ?_⟩⟩
  · have := hc i (by simpa using hi) 0 (by simp [wcell]); simpa [wcell] using this
  · have := hc i (by simpa using hi) 1 (by simp [wcell]); simpa [wcell] using this
  · have := hc i (by simpa using hi) 2 (by simp [wcell]); simpa [wcell] using this
  · have := hc i (by simpa using hi) 3 (by simp [wcell]); simpa [wcell] using this
  · have := hc i (by simpa using hi) 4 (by simp [wcell]); simpa [wcell] using this
structure WdOk (x : Wd) : Prop where
  w : 0 ≤ x.w ∧ x.w ≤ 1099511627776
  g : 0 ≤ x.g ∧ x.g ≤ 1099511627776
  n : 0 ≤ x.n ∧ x.n ≤ 20
/-- The filler's cells. -/
def filc (wa : Option Addr) (m wc : Nat) (h al a b : Int) (fa : Option Addr) (n fc : Nat) : Array Value := #[.slice wa m wc, .int .i64 h, .int .u8 al, .int .i64 a, .int .i64 b, .slice fa n fc]

theorem empty_any (bf : Nat) (wa : Option Addr) (ws : List Wd) (m wc : Nat) (h al a b : Int) (fa : Option Addr) (n fc : Nat) (k : Nat) (w : World) (hb : Blk w bf 43 (filc wa m wc h al a b fa n fc)) (hr : WRow w wa ws) (hm : ws.length = m) (hk : k < m)
    (hok : ∀ x ∈ ws, WdOk x) (wd : Wd) (hwd : ws[k]? = some wd) :
    Calls Try.prog 20 #[.pointer (some ⟨bf, 0, none⟩), .int .i64 k] w fun r w' => r = .returned (.int .i64 (if k = 0 then wd.n else wd.n - 1)) ∧ w = w' := by
  have hlen := hr.len
  have y0 := hb.cell 0
  obtain ⟨b0, off, rfl, _, hc⟩ := w_at hr (by omega)
  have hkl : k < ws.length := by omega
  obtain ⟨x0, x1, x2, x3, x4⟩ := hc k hkl
  obtain ⟨_, _, hn1, hn2⟩ := hok _ (List.getElem_mem hkl)
  have e1 : ws[k] = wd := by rw [List.getElem?_eq_getElem hkl] at hwd; exact Option.some.inj hwd
  rw [e1] at x0 x1 x2 x3 x4 hn1 hn2
  have HM := hm
  rw [hm] at hlen
  clear hc hok hwd e1 hm
  unfold filc at y0
  by_cases h0 : k = 0
  · subst h0
    simp only [Nat.zero_mul, Nat.add_zero] at x0 x1 x2 x3 x4
    rw [if_pos rfl]
    go_enter Try.func20, Try.ntmps20
    go_wp2
    go_returns
    exact ⟨rfl, rfl⟩
  · rw [if_neg h0]
    have bk : ((k : Int) == 0) = false := by simp; omega
    go_enter Try.func20, Try.ntmps20
    go_wp2
    go_returns
    exact ⟨rfl, rfl⟩
theorem move_any (bf : Nat) (wv : Value) (h al a b : Int) (fv : Value) (left : Int) (w : World) (hb : Blk w bf 43 #[wv, .int .i64 h, .int .u8 al, .int .i64 a, .int .i64 b, fv]) (hl : 0 ≤ left) (hl2 : left ≤ 9223372036854775807) :
    Calls Try.prog 25 #[.pointer (some ⟨bf, 0, none⟩), .int .i64 left] w fun r w' => r = .returned (.int .i64 (moveOf al left)) ∧ w = w' := by
  have y2 := hb.cell 2
  simp only [List.getElem?_toArray, List.getElem?_cons_succ, List.getElem?_cons_zero] at y2
  unfold moveOf
  by_cases h1 : al = 1
  · subst h1
    rw [if_pos rfl]
    go_enter Try.func25, Try.ntmps25
    go_wp2
    go_returns
    exact ⟨rfl, rfl⟩
  · rw [if_neg h1]
    by_cases h2 : al = 2
    · subst h2
      rw [if_pos rfl]
      go_enter Try.func25, Try.ntmps25
      go_wp2
      go_returns
      exact ⟨rfl, rfl⟩
    · rw [if_neg h2]
      have b1 : (al == 1) = false := by simpa using h1
      have b2 : (al == 2) = false := by simpa using h2
      go_enter Try.func25, Try.ntmps25
      go_wp2
      go_returns
      exact ⟨rfl, rfl⟩
end Go.Proofs.Ytpdfeifnbeojcaa
