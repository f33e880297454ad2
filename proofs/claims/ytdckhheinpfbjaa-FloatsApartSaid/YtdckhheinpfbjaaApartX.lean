/- FloatsApart for any arguments. -/
import Derived.Test.YtdckhheinpfbjaaApartW
namespace Go.Proofs.Ytdckhheinpfbjaa
open Go.RowKit

set_option maxRecDepth 100000 in
theorem walk_FloatsApart (w : World) (a0 : Option Addr) (l : List Siz) (cap : Nat) (hr : RowS w a0 4 (l.map scell)) (hl : ∀ f ∈ l, SizOk f) (hcap : l.length ≤ cap) (hm : cap ≤ maxLen) (r : Int) (wr : (Lit.int .u16 r).wf = true) :
    Calls Try.prog 4 #[.slice a0 l.length cap, .int .u16 r] w fun e w' => e = .returned (.bool true) ∧ Below w.heap.size w w' := by
  obtain ⟨r0, r1⟩ := u16_of wr
  obtain ⟨r, rfl⟩ := Int.eq_ofNat_of_zero_le r0
  by_cases hlen : l.length ≤ 100
  · exact apart_most w a0 l cap hr hl hlen r (by omega)
  · have hlen := s_row hr
    clear hl
    go_enter Try.func4, Try.ntmps4
    go_wp2_with fail
    refine (works_any w).mono ?_
    rintro r w2 ⟨rfl, k2⟩
    go_wp2
    go_returns
    exact ⟨rfl, k2⟩
end Go.Proofs.Ytdckhheinpfbjaa
