/- The walk of ClockLone in the frame's form. -/
import Derived.Test.YtffpphnjokmffaaER
namespace Go.Proofs.Ytffpphnjokmffaa
open Go.RowKit Go.Maps
theorem walk_ClockLone (w : World) (x : Int) (hx : (Lit.int .u8 x).wf = true) (a : Option Addr) (l : List Ev) (c : Nat) (hr : ERow w a l) (hl : ∀ e ∈ l, EvIn e) (hc1 : l.length ≤ c) (hc2 : c ≤ maxLen) :
    Calls Try.prog 7 #[.int .u8 x, .slice a l.length c] w (fun e w' => e = .returned (.bool true) ∧ Below w.heap.size w w') :=
  walkP_ClockLone x a l c w (u8_of hx) hr hl hc1 hc2
end Go.Proofs.Ytffpphnjokmffaa
