/-
  No cell of these rows narrows 'for every input' (looked for: loops, veiled, ifaces, maps, wideKeys, modest, calm, conditions, laid).
  DERIVED. THE GIVEN ROWS OF THIS SEAT. 4 by the template 'for every input the law returns true; each argument reads behind the call as it read before'; 0 by the template 'total and deterministic' (their statements: YtdckhheinpfbjaaTotals.lean).
  GIVEN WITH THE SEED: the statements are not yours to turn. If you find one false, say at which input.
  Laid BY PROGRAM, IN A SANDBOX (cutbox-rows.mjs): the forced cells as the released guide's own fill.sh prints them over the translation aa5dc1c906de933a… (all of the seat's roots in one cut). By AI agents, Wed Nov 11 2026. No macro, syntax, notation, axiom, sorry.
-/
import Derived.Test.YtdckhheinpfbjaaChecked
import GoSem.Claim
import GoSem.ClaimJoined
import GoSem.ClaimMapViews
import Derived.JoinedTies
import Derived.KernelRfl
namespace Go.Proofs.Ytdckhheinpfbjaa
/- THE CELL 'sum', in the pinned program and in every row, IS THE sha256 OF THE DUMP (.gsa) THAT YtdckhheinpfbjaaProg.lean LOADS. Nothing in Lean hashes anything: it is a label: what it is worth is what the hold of that sum in a sandbox is worth. -/
noncomputable def Try.pinned : Pinned := { name := "ytdckhheinpfbjaa", sum := "aa5dc1c906de933a4e3cb46958bccc3bb88e4469a46091f5df925fd7c6ac860f", checked := Try.checked }
namespace Rows
def none {H : Type} : Left H := { results := [], args := [] }

/-- 'jamblaw15.FloatsPlays': WHATEVER THE INPUT: true; the input reads as it did. -/
def floatsPlaysSpec : ChangeSpec := { name := "floatsPlays", fn := fun _ => fun
  | [d1, d2] => { results := [.lit (.bool true)], args := [d1, d2] }
  | _ => none }
def floatsPlaysRow : OpenClaim := { program := "ytdckhheinpfbjaa", sum := "aa5dc1c906de933a4e3cb46958bccc3bb88e4469a46091f5df925fd7c6ac860f", func := "jamb/jamblaw15.FloatsPlays", spec := "floatsPlays", unfollowed := true, recurses := true, apart := false }
def FloatsPlaysSaid : Prop := floatsPlaysRow.holds Try.pinned (OpenSpec.ofChange floatsPlaysSpec)

/-- ITS FALSE NEIGHBOUR: 'it returns false'. Refute it at one input. -/
def floatsPlaysWrong : ChangeSpec := { name := "floatsPlays", fn := fun _ => fun
  | [d1, d2] => { results := [.lit (.bool false)], args := [d1, d2] }
  | _ => none }
def FloatsPlaysWrongFalsely : Prop := floatsPlaysRow.holds Try.pinned (OpenSpec.ofChange floatsPlaysWrong)

/-- 'jamblaw15.FloatsApart': WHATEVER THE INPUT: true; the input reads as it did. -/
def floatsApartSpec : ChangeSpec := { name := "floatsApart", fn := fun _ => fun
  | [d1, d2] => { results := [.lit (.bool true)], args := [d1, d2] }
  | _ => none }
def floatsApartRow : OpenClaim := { program := "ytdckhheinpfbjaa", sum := "aa5dc1c906de933a4e3cb46958bccc3bb88e4469a46091f5df925fd7c6ac860f", func := "jamb/jamblaw15.FloatsApart", spec := "floatsApart", unfollowed := true, recurses := true, apart := false }
def FloatsApartSaid : Prop := floatsApartRow.holds Try.pinned (OpenSpec.ofChange floatsApartSpec)

/-- ITS FALSE NEIGHBOUR: 'it returns false'. Refute it at one input. -/
def floatsApartWrong : ChangeSpec := { name := "floatsApart", fn := fun _ => fun
  | [d1, d2] => { results := [.lit (.bool false)], args := [d1, d2] }
  | _ => none }
def FloatsApartWrongFalsely : Prop := floatsApartRow.holds Try.pinned (OpenSpec.ofChange floatsApartWrong)

/-- 'jamblaw15.FloatsHigh': WHATEVER THE INPUT: true; the input reads as it did. -/
def floatsHighSpec : ChangeSpec := { name := "floatsHigh", fn := fun _ => fun
  | [d1, d2, d3] => { results := [.lit (.bool true)], args := [d1, d2, d3] }
  | _ => none }
def floatsHighRow : OpenClaim := { program := "ytdckhheinpfbjaa", sum := "aa5dc1c906de933a4e3cb46958bccc3bb88e4469a46091f5df925fd7c6ac860f", func := "jamb/jamblaw15.FloatsHigh", spec := "floatsHigh", unfollowed := true, recurses := true, apart := false }
def FloatsHighSaid : Prop := floatsHighRow.holds Try.pinned (OpenSpec.ofChange floatsHighSpec)

/-- ITS FALSE NEIGHBOUR: 'it returns false'. Refute it at one input. -/
def floatsHighWrong : ChangeSpec := { name := "floatsHigh", fn := fun _ => fun
  | [d1, d2, d3] => { results := [.lit (.bool false)], args := [d1, d2, d3] }
  | _ => none }
def FloatsHighWrongFalsely : Prop := floatsHighRow.holds Try.pinned (OpenSpec.ofChange floatsHighWrong)

/-- 'jamblaw15.FloatsRoom': WHATEVER THE INPUT: true; the input reads as it did. -/
def floatsRoomSpec : ChangeSpec := { name := "floatsRoom", fn := fun _ => fun
  | [d1, d2, d3] => { results := [.lit (.bool true)], args := [d1, d2, d3] }
  | _ => none }
def floatsRoomRow : OpenClaim := { program := "ytdckhheinpfbjaa", sum := "aa5dc1c906de933a4e3cb46958bccc3bb88e4469a46091f5df925fd7c6ac860f", func := "jamb/jamblaw15.FloatsRoom", spec := "floatsRoom", unfollowed := true, recurses := true, apart := false }
def FloatsRoomSaid : Prop := floatsRoomRow.holds Try.pinned (OpenSpec.ofChange floatsRoomSpec)

/-- ITS FALSE NEIGHBOUR: 'it returns false'. Refute it at one input. -/
def floatsRoomWrong : ChangeSpec := { name := "floatsRoom", fn := fun _ => fun
  | [d1, d2, d3] => { results := [.lit (.bool false)], args := [d1, d2, d3] }
  | _ => none }
def FloatsRoomWrongFalsely : Prop := floatsRoomRow.holds Try.pinned (OpenSpec.ofChange floatsRoomWrong)

/- THE SECOND FORM. 'bulk': how many values and letters a reading holds, each counted each time it is reached (what is shared counts as often as it is met; a slice's spare places count too). A statement '..UptoSaid' is the law's where the arguments, and the package variables that the reading takes, are together of bulk at most 1048576: NARROWER than '..Said'. Prove '..Said' where nothing that the law and all that it calls make is longer than what came in: it says more and counts as full. Else prove '..UptoSaid'. A law counts once. -/
mutual
def uptoBulk {H : Type} : DataW H → Nat
  | .lit (.string bytes) => bytes.length + 1
  | .lit _ => 1
  | .nil => 1
  | .ptr d => uptoBulk d + 1
  | .slice elems spare => uptoBulkAll elems + uptoBulkAll spare + 1
  | .agg parts => uptoBulkAll parts + 1
  | .iface _ d => uptoBulk d + 1
  | .map entries => uptoBulkEntries entries + 1
  | .held _ => 1
def uptoBulkAll {H : Type} : List (DataW H) → Nat
  | [] => 0
  | d :: r => uptoBulk d + uptoBulkAll r
def uptoBulkEntries {H : Type} : List (Lit × DataW H) → Nat
  | [] => 0
  | x :: r => uptoBulkEntry x + uptoBulkEntries r
def uptoBulkEntry {H : Type} : Lit × DataW H → Nat
  | (.string bytes, d) => bytes.length + uptoBulk d + 1
  | (_, d) => uptoBulk d + 1
 end
def uptoSmall : (H : Type) → List (DataW H) → Bool := fun _ ds => decide (uptoBulkAll ds ≤ 1048576)
def OpenSpec.upto (s : _root_.Go.ChangeSpec) : _root_.Go.OpenSpec := { _root_.Go.OpenSpec.ofChange s with cond := some uptoSmall }

/-- 'jamblaw15.FloatsPlays', WHERE WHAT IT READS IS OF BULK AT MOST 1048576: true; the input reads as it did. -/
def floatsPlaysUptoRow : OpenClaim := { program := "ytdckhheinpfbjaa", sum := "aa5dc1c906de933a4e3cb46958bccc3bb88e4469a46091f5df925fd7c6ac860f", func := "jamb/jamblaw15.FloatsPlays", spec := "floatsPlays", unfollowed := true, recurses := true, apart := false, narrowed := true }
def FloatsPlaysUptoSaid : Prop := floatsPlaysUptoRow.holds Try.pinned (OpenSpec.upto floatsPlaysSpec)

/-- 'jamblaw15.FloatsApart', WHERE WHAT IT READS IS OF BULK AT MOST 1048576: true; the input reads as it did. -/
def floatsApartUptoRow : OpenClaim := { program := "ytdckhheinpfbjaa", sum := "aa5dc1c906de933a4e3cb46958bccc3bb88e4469a46091f5df925fd7c6ac860f", func := "jamb/jamblaw15.FloatsApart", spec := "floatsApart", unfollowed := true, recurses := true, apart := false, narrowed := true }
def FloatsApartUptoSaid : Prop := floatsApartUptoRow.holds Try.pinned (OpenSpec.upto floatsApartSpec)

/-- 'jamblaw15.FloatsHigh', WHERE WHAT IT READS IS OF BULK AT MOST 1048576: true; the input reads as it did. -/
def floatsHighUptoRow : OpenClaim := { program := "ytdckhheinpfbjaa", sum := "aa5dc1c906de933a4e3cb46958bccc3bb88e4469a46091f5df925fd7c6ac860f", func := "jamb/jamblaw15.FloatsHigh", spec := "floatsHigh", unfollowed := true, recurses := true, apart := false, narrowed := true }
def FloatsHighUptoSaid : Prop := floatsHighUptoRow.holds Try.pinned (OpenSpec.upto floatsHighSpec)

/-- 'jamblaw15.FloatsRoom', WHERE WHAT IT READS IS OF BULK AT MOST 1048576: true; the input reads as it did. -/
def floatsRoomUptoRow : OpenClaim := { program := "ytdckhheinpfbjaa", sum := "aa5dc1c906de933a4e3cb46958bccc3bb88e4469a46091f5df925fd7c6ac860f", func := "jamb/jamblaw15.FloatsRoom", spec := "floatsRoom", unfollowed := true, recurses := true, apart := false, narrowed := true }
def FloatsRoomUptoSaid : Prop := floatsRoomUptoRow.holds Try.pinned (OpenSpec.upto floatsRoomSpec)

end Rows
end Go.Proofs.Ytdckhheinpfbjaa
