/- FloatsHigh for any arguments. -/
import Derived.Test.YtdckhheinpfbjaaHighW
namespace Go.Proofs.Ytdckhheinpfbjaa
open Go.RowKit

theorem walk_FloatsHigh (w : World) (a0 : Option Addr) (l : List Siz) (cap : Nat) (hr : RowS w a0 4 (l.map scell)) (hl : ∀ f ∈ l, SizOk f) (hcap : l.length ≤ cap) (hm : cap ≤ maxLen) (r : Int) (wr : (Lit.int .u16 r).wf = true) (z : Siz) (hz : SizOk z) :
    Calls Try.prog 5 #[.slice a0 l.length cap, .int .u16 r, .agg #[.bool z.right, .int .u16 z.w, .int .u16 z.h, .int .u16 z.y]] w fun e w' => e = .returned (.bool true) ∧ Below w.heap.size w w' := by
  obtain ⟨r0, r1⟩ := u16_of wr
  obtain ⟨r, rfl⟩ := Int.eq_ofNat_of_zero_le r0
  by_cases hlen : l.length ≤ 60
  · exact high_most w a0 l cap hr hl hlen r (by omega) z hz
  · have hlen2 : l.length ≤ 9223372036854775807 := by have := RowS.mono_len hr; rwa [List.length_map] at this
    clear hl hz
    have t1 : Hid (Below w.heap.size w (w.alloc (.cells #[.bool z.right, .int .u16 z.w, .int .u16 z.h, .int .u16 z.y] 41))) := hide (by go_grown)
    go_enter Try.func5, Try.ntmps5
    go_wp2_with fail
    refine (works_any _).mono ?_
    rintro r w2 ⟨rfl, k2⟩
    have t2 := hide (below_call (w := w) t1.out k2)
    clear k2
    go_wp2
    go_returns
    exact ⟨rfl, t2.out⟩
end Go.Proofs.Ytdckhheinpfbjaa
