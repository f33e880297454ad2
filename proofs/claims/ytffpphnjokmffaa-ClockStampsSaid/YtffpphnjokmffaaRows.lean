/-
  No cell of these rows narrows 'for every input' (looked for: loops, veiled, ifaces, maps, wideKeys, modest, calm, conditions, laid).
  DERIVED. THE GIVEN ROWS OF THIS SEAT. 7 by the template 'for every input the law returns true; each argument reads behind the call as it read before'; 0 by the template 'total and deterministic' (their statements: YtffpphnjokmffaaTotals.lean).
  GIVEN WITH THE SEED: the statements are not yours to turn. If you find one false, say at which input.
  Laid BY PROGRAM, IN A SANDBOX (cutbox-rows.mjs): the forced cells as the released guide's own fill.sh prints them over the translation 1534c7bf2fae48e4… (all of the seat's roots in one cut). By AI agents, Wed Nov 11 2026. No macro, syntax, notation, axiom, sorry.
-/
import Derived.Test.YtffpphnjokmffaaChecked
import GoSem.Claim
import GoSem.ClaimJoined
import GoSem.ClaimMapViews
import Derived.JoinedTies
import Derived.KernelRfl
namespace Go.Proofs.Ytffpphnjokmffaa
/- THE CELL 'sum', in the pinned program and in every row, IS THE sha256 OF THE DUMP (.gsa) THAT YtffpphnjokmffaaProg.lean LOADS. Nothing in Lean hashes anything: it is a label: what it is worth is what the hold of that sum in a sandbox is worth. -/
noncomputable def Try.pinned : Pinned := { name := "ytffpphnjokmffaa", sum := "1534c7bf2fae48e4e9b5bab1a11bb8375ee590d0ec8f6f354b9baec344ac1a8c", checked := Try.checked }
namespace Rows
def none {H : Type} : Left H := { results := [], args := [] }

/-- 'jamblaw11.ClockStamps': WHATEVER THE INPUT: true; the input reads as it did. -/
def clockStampsSpec : ChangeSpec := { name := "clockStamps", fn := fun _ => fun
  | [d1, d2, d3, d4] => { results := [.lit (.bool true)], args := [d1, d2, d3, d4] }
  | _ => none }
def clockStampsRow : OpenClaim := { program := "ytffpphnjokmffaa", sum := "1534c7bf2fae48e4e9b5bab1a11bb8375ee590d0ec8f6f354b9baec344ac1a8c", func := "jamb/jamblaw11.ClockStamps", spec := "clockStamps", apart := false }
def ClockStampsSaid : Prop := clockStampsRow.holds Try.pinned (OpenSpec.ofChange clockStampsSpec)

/-- ITS FALSE NEIGHBOUR: 'it returns false'. Refute it at one input. -/
def clockStampsWrong : ChangeSpec := { name := "clockStamps", fn := fun _ => fun
  | [d1, d2, d3, d4] => { results := [.lit (.bool false)], args := [d1, d2, d3, d4] }
  | _ => none }
def ClockStampsWrongFalsely : Prop := clockStampsRow.holds Try.pinned (OpenSpec.ofChange clockStampsWrong)

/-- 'jamblaw11.ClockRaces': WHATEVER THE INPUT: true; the input reads as it did. -/
def clockRacesSpec : ChangeSpec := { name := "clockRaces", fn := fun _ => fun
  | [d1, d2] => { results := [.lit (.bool true)], args := [d1, d2] }
  | _ => none }
def clockRacesRow : OpenClaim := { program := "ytffpphnjokmffaa", sum := "1534c7bf2fae48e4e9b5bab1a11bb8375ee590d0ec8f6f354b9baec344ac1a8c", func := "jamb/jamblaw11.ClockRaces", spec := "clockRaces", apart := false }
def ClockRacesSaid : Prop := clockRacesRow.holds Try.pinned (OpenSpec.ofChange clockRacesSpec)

/-- ITS FALSE NEIGHBOUR: 'it returns false'. Refute it at one input. -/
def clockRacesWrong : ChangeSpec := { name := "clockRaces", fn := fun _ => fun
  | [d1, d2] => { results := [.lit (.bool false)], args := [d1, d2] }
  | _ => none }
def ClockRacesWrongFalsely : Prop := clockRacesRow.holds Try.pinned (OpenSpec.ofChange clockRacesWrong)

/-- 'jamblaw11.ClockSwaps': WHATEVER THE INPUT: true; the input reads as it did. -/
def clockSwapsSpec : ChangeSpec := { name := "clockSwaps", fn := fun _ => fun
  | [d1, d2, d3] => { results := [.lit (.bool true)], args := [d1, d2, d3] }
  | _ => none }
def clockSwapsRow : OpenClaim := { program := "ytffpphnjokmffaa", sum := "1534c7bf2fae48e4e9b5bab1a11bb8375ee590d0ec8f6f354b9baec344ac1a8c", func := "jamb/jamblaw11.ClockSwaps", spec := "clockSwaps", apart := false }
def ClockSwapsSaid : Prop := clockSwapsRow.holds Try.pinned (OpenSpec.ofChange clockSwapsSpec)

/-- ITS FALSE NEIGHBOUR: 'it returns false'. Refute it at one input. -/
def clockSwapsWrong : ChangeSpec := { name := "clockSwaps", fn := fun _ => fun
  | [d1, d2, d3] => { results := [.lit (.bool false)], args := [d1, d2, d3] }
  | _ => none }
def ClockSwapsWrongFalsely : Prop := clockSwapsRow.holds Try.pinned (OpenSpec.ofChange clockSwapsWrong)

/-- 'jamblaw11.ClockOrder': WHATEVER THE INPUT: true; the input reads as it did. -/
def clockOrderSpec : ChangeSpec := { name := "clockOrder", fn := fun _ => fun
  | [d1, d2, d3, d4, d5] => { results := [.lit (.bool true)], args := [d1, d2, d3, d4, d5] }
  | _ => none }
def clockOrderRow : OpenClaim := { program := "ytffpphnjokmffaa", sum := "1534c7bf2fae48e4e9b5bab1a11bb8375ee590d0ec8f6f354b9baec344ac1a8c", func := "jamb/jamblaw11.ClockOrder", spec := "clockOrder", apart := false }
def ClockOrderSaid : Prop := clockOrderRow.holds Try.pinned (OpenSpec.ofChange clockOrderSpec)

/-- ITS FALSE NEIGHBOUR: 'it returns false'. Refute it at one input. -/
def clockOrderWrong : ChangeSpec := { name := "clockOrder", fn := fun _ => fun
  | [d1, d2, d3, d4, d5] => { results := [.lit (.bool false)], args := [d1, d2, d3, d4, d5] }
  | _ => none }
def ClockOrderWrongFalsely : Prop := clockOrderRow.holds Try.pinned (OpenSpec.ofChange clockOrderWrong)

/-- 'jamblaw11.ClockLone': WHATEVER THE INPUT: true; the input reads as it did. -/
def clockLoneSpec : ChangeSpec := { name := "clockLone", fn := fun _ => fun
  | [d1, d2] => { results := [.lit (.bool true)], args := [d1, d2] }
  | _ => none }
def clockLoneRow : OpenClaim := { program := "ytffpphnjokmffaa", sum := "1534c7bf2fae48e4e9b5bab1a11bb8375ee590d0ec8f6f354b9baec344ac1a8c", func := "jamb/jamblaw11.ClockLone", spec := "clockLone", apart := false }
def ClockLoneSaid : Prop := clockLoneRow.holds Try.pinned (OpenSpec.ofChange clockLoneSpec)

/-- ITS FALSE NEIGHBOUR: 'it returns false'. Refute it at one input. -/
def clockLoneWrong : ChangeSpec := { name := "clockLone", fn := fun _ => fun
  | [d1, d2] => { results := [.lit (.bool false)], args := [d1, d2] }
  | _ => none }
def ClockLoneWrongFalsely : Prop := clockLoneRow.holds Try.pinned (OpenSpec.ofChange clockLoneWrong)

/-- 'jamblaw11.ClockPrefix': WHATEVER THE INPUT: true; the input reads as it did. -/
def clockPrefixSpec : ChangeSpec := { name := "clockPrefix", fn := fun _ => fun
  | [d1, d2, d3] => { results := [.lit (.bool true)], args := [d1, d2, d3] }
  | _ => none }
def clockPrefixRow : OpenClaim := { program := "ytffpphnjokmffaa", sum := "1534c7bf2fae48e4e9b5bab1a11bb8375ee590d0ec8f6f354b9baec344ac1a8c", func := "jamb/jamblaw11.ClockPrefix", spec := "clockPrefix", apart := false }
def ClockPrefixSaid : Prop := clockPrefixRow.holds Try.pinned (OpenSpec.ofChange clockPrefixSpec)

/-- ITS FALSE NEIGHBOUR: 'it returns false'. Refute it at one input. -/
def clockPrefixWrong : ChangeSpec := { name := "clockPrefix", fn := fun _ => fun
  | [d1, d2, d3] => { results := [.lit (.bool false)], args := [d1, d2, d3] }
  | _ => none }
def ClockPrefixWrongFalsely : Prop := clockPrefixRow.holds Try.pinned (OpenSpec.ofChange clockPrefixWrong)

/-- 'jamblaw11.ClockRenamed': WHATEVER THE INPUT: true; the input reads as it did. -/
def clockRenamedSpec : ChangeSpec := { name := "clockRenamed", fn := fun _ => fun
  | [d1, d2, d3, d4] => { results := [.lit (.bool true)], args := [d1, d2, d3, d4] }
  | _ => none }
def clockRenamedRow : OpenClaim := { program := "ytffpphnjokmffaa", sum := "1534c7bf2fae48e4e9b5bab1a11bb8375ee590d0ec8f6f354b9baec344ac1a8c", func := "jamb/jamblaw11.ClockRenamed", spec := "clockRenamed", apart := false }
def ClockRenamedSaid : Prop := clockRenamedRow.holds Try.pinned (OpenSpec.ofChange clockRenamedSpec)

/-- ITS FALSE NEIGHBOUR: 'it returns false'. Refute it at one input. -/
def clockRenamedWrong : ChangeSpec := { name := "clockRenamed", fn := fun _ => fun
  | [d1, d2, d3, d4] => { results := [.lit (.bool false)], args := [d1, d2, d3, d4] }
  | _ => none }
def ClockRenamedWrongFalsely : Prop := clockRenamedRow.holds Try.pinned (OpenSpec.ofChange clockRenamedWrong)

/- THE SECOND FORM. 'bulk': how many values and letters a reading holds, each counted each time it is reached (what is shared counts as often as it is met; a slice's spare places count too). A statement '..UptoSaid' is the law's where the arguments, and the package variables that the reading takes, are together of bulk at most 1048576: NARROWER than '..Said'. Prove '..Said' where nothing that the law and all that it calls make is longer than what came in: it says more and counts as full. Else prove '..UptoSaid'. A law counts once. -/
mutual
def uptoBulk {H : Type} : DataW H → Nat
  | .lit (.string bytes) => bytes.length + 1
  | .lit _ => 1
  | .nil => 1
  | .ptr d => uptoBulk d + 1
  | .slice elems spare => uptoBulkAll elems + uptoBulkAll spare + 1
  | .agg parts => uptoBulkAll parts + 1
  | .iface _ d => uptoBulk d + 1
  | .map entries => uptoBulkEntries entries + 1
  | .held _ => 1
def uptoBulkAll {H : Type} : List (DataW H) → Nat
  | [] => 0
  | d :: r => uptoBulk d + uptoBulkAll r
def uptoBulkEntries {H : Type} : List (Lit × DataW H) → Nat
  | [] => 0
  | x :: r => uptoBulkEntry x + uptoBulkEntries r
def uptoBulkEntry {H : Type} : Lit × DataW H → Nat
  | (.string bytes, d) => bytes.length + uptoBulk d + 1
  | (_, d) => uptoBulk d + 1
 end
def uptoSmall : (H : Type) → List (DataW H) → Bool := fun _ ds => decide (uptoBulkAll ds ≤ 1048576)
def OpenSpec.upto (s : _root_.Go.ChangeSpec) : _root_.Go.OpenSpec := { _root_.Go.OpenSpec.ofChange s with cond := some uptoSmall }

/-- 'jamblaw11.ClockStamps', WHERE WHAT IT READS IS OF BULK AT MOST 1048576: true; the input reads as it did. -/
def clockStampsUptoRow : OpenClaim := { program := "ytffpphnjokmffaa", sum := "1534c7bf2fae48e4e9b5bab1a11bb8375ee590d0ec8f6f354b9baec344ac1a8c", func := "jamb/jamblaw11.ClockStamps", spec := "clockStamps", apart := false, narrowed := true }
def ClockStampsUptoSaid : Prop := clockStampsUptoRow.holds Try.pinned (OpenSpec.upto clockStampsSpec)

/-- 'jamblaw11.ClockRaces', WHERE WHAT IT READS IS OF BULK AT MOST 1048576: true; the input reads as it did. -/
def clockRacesUptoRow : OpenClaim := { program := "ytffpphnjokmffaa", sum := "1534c7bf2fae48e4e9b5bab1a11bb8375ee590d0ec8f6f354b9baec344ac1a8c", func := "jamb/jamblaw11.ClockRaces", spec := "clockRaces", apart := false, narrowed := true }
def ClockRacesUptoSaid : Prop := clockRacesUptoRow.holds Try.pinned (OpenSpec.upto clockRacesSpec)

/-- 'jamblaw11.ClockSwaps', WHERE WHAT IT READS IS OF BULK AT MOST 1048576: true; the input reads as it did. -/
def clockSwapsUptoRow : OpenClaim := { program := "ytffpphnjokmffaa", sum := "1534c7bf2fae48e4e9b5bab1a11bb8375ee590d0ec8f6f354b9baec344ac1a8c", func := "jamb/jamblaw11.ClockSwaps", spec := "clockSwaps", apart := false, narrowed := true }
def ClockSwapsUptoSaid : Prop := clockSwapsUptoRow.holds Try.pinned (OpenSpec.upto clockSwapsSpec)

/-- 'jamblaw11.ClockOrder', WHERE WHAT IT READS IS OF BULK AT MOST 1048576: true; the input reads as it did. -/
def clockOrderUptoRow : OpenClaim := { program := "ytffpphnjokmffaa", sum := "1534c7bf2fae48e4e9b5bab1a11bb8375ee590d0ec8f6f354b9baec344ac1a8c", func := "jamb/jamblaw11.ClockOrder", spec := "clockOrder", apart := false, narrowed := true }
def ClockOrderUptoSaid : Prop := clockOrderUptoRow.holds Try.pinned (OpenSpec.upto clockOrderSpec)

/-- 'jamblaw11.ClockLone', WHERE WHAT IT READS IS OF BULK AT MOST 1048576: true; the input reads as it did. -/
def clockLoneUptoRow : OpenClaim := { program := "ytffpphnjokmffaa", sum := "1534c7bf2fae48e4e9b5bab1a11bb8375ee590d0ec8f6f354b9baec344ac1a8c", func := "jamb/jamblaw11.ClockLone", spec := "clockLone", apart := false, narrowed := true }
def ClockLoneUptoSaid : Prop := clockLoneUptoRow.holds Try.pinned (OpenSpec.upto clockLoneSpec)

/-- 'jamblaw11.ClockPrefix', WHERE WHAT IT READS IS OF BULK AT MOST 1048576: true; the input reads as it did. -/
def clockPrefixUptoRow : OpenClaim := { program := "ytffpphnjokmffaa", sum := "1534c7bf2fae48e4e9b5bab1a11bb8375ee590d0ec8f6f354b9baec344ac1a8c", func := "jamb/jamblaw11.ClockPrefix", spec := "clockPrefix", apart := false, narrowed := true }
def ClockPrefixUptoSaid : Prop := clockPrefixUptoRow.holds Try.pinned (OpenSpec.upto clockPrefixSpec)

/-- 'jamblaw11.ClockRenamed', WHERE WHAT IT READS IS OF BULK AT MOST 1048576: true; the input reads as it did. -/
def clockRenamedUptoRow : OpenClaim := { program := "ytffpphnjokmffaa", sum := "1534c7bf2fae48e4e9b5bab1a11bb8375ee590d0ec8f6f354b9baec344ac1a8c", func := "jamb/jamblaw11.ClockRenamed", spec := "clockRenamed", apart := false, narrowed := true }
def ClockRenamedUptoSaid : Prop := clockRenamedUptoRow.holds Try.pinned (OpenSpec.upto clockRenamedSpec)

end Rows
end Go.Proofs.Ytffpphnjokmffaa
