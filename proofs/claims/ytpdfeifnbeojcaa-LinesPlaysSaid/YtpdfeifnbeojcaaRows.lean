/-
  No cell of these rows narrows 'for every input' (looked for: loops, veiled, ifaces, maps, wideKeys, modest, calm, conditions, laid).
  DERIVED. THE GIVEN ROWS OF THIS SEAT. 4 by the template 'for every input the law returns true; each argument reads behind the call as it read before'; 0 by the template 'total and deterministic' (their statements: YtpdfeifnbeojcaaTotals.lean).
  GIVEN WITH THE SEED: the statements are not yours to turn. If you find one false, say at which input.
  Laid BY PROGRAM, IN A SANDBOX (cutbox-rows.mjs): the forced cells as the released guide's own fill.sh prints them over the translation 1865677c0a8959f2… (all of the seat's roots in one cut). By AI agents, Wed Nov 11 2026. No macro, syntax, notation, axiom, sorry.
-/
import Derived.Test.YtpdfeifnbeojcaaChecked
import GoSem.Claim
import GoSem.ClaimJoined
import GoSem.ClaimMapViews
import Derived.JoinedTies
import Derived.KernelRfl
namespace Go.Proofs.Ytpdfeifnbeojcaa
/- THE CELL 'sum', in the pinned program and in every row, IS THE sha256 OF THE DUMP (.gsa) THAT YtpdfeifnbeojcaaProg.lean LOADS. Nothing in Lean hashes anything: it is a label: what it is worth is what the hold of that sum in a sandbox is worth. -/
noncomputable def Try.pinned : Pinned := { name := "ytpdfeifnbeojcaa", sum := "1865677c0a8959f252991b99099f3e00906c717ac0f7c5c42fcae8aca6ab4b7f", checked := Try.checked }
namespace Rows
def none {H : Type} : Left H := { results := [], args := [] }

/-- 'jamblaw16.LinesPlays': WHATEVER THE INPUT: true; the input reads as it did. -/
def linesPlaysSpec : ChangeSpec := { name := "linesPlays", fn := fun _ => fun
  | [d] => { results := [.lit (.bool true)], args := [d] }
  | _ => none }
def linesPlaysRow : OpenClaim := { program := "ytpdfeifnbeojcaa", sum := "1865677c0a8959f252991b99099f3e00906c717ac0f7c5c42fcae8aca6ab4b7f", func := "jamb/jamblaw16.LinesPlays", spec := "linesPlays", unfollowed := true, recurses := true, apart := false }
def LinesPlaysSaid : Prop := linesPlaysRow.holds Try.pinned (OpenSpec.ofChange linesPlaysSpec)

/-- ITS FALSE NEIGHBOUR: 'it returns false'. Refute it at one input. -/
def linesPlaysWrong : ChangeSpec := { name := "linesPlays", fn := fun _ => fun
  | [d] => { results := [.lit (.bool false)], args := [d] }
  | _ => none }
def LinesPlaysWrongFalsely : Prop := linesPlaysRow.holds Try.pinned (OpenSpec.ofChange linesPlaysWrong)

/-- 'jamblaw16.LinesHold': WHATEVER THE INPUT: true; the input reads as it did. -/
def linesHoldSpec : ChangeSpec := { name := "linesHold", fn := fun _ => fun
  | [d] => { results := [.lit (.bool true)], args := [d] }
  | _ => none }
def linesHoldRow : OpenClaim := { program := "ytpdfeifnbeojcaa", sum := "1865677c0a8959f252991b99099f3e00906c717ac0f7c5c42fcae8aca6ab4b7f", func := "jamb/jamblaw16.LinesHold", spec := "linesHold", unfollowed := true, recurses := true, apart := false }
def LinesHoldSaid : Prop := linesHoldRow.holds Try.pinned (OpenSpec.ofChange linesHoldSpec)

/-- ITS FALSE NEIGHBOUR: 'it returns false'. Refute it at one input. -/
def linesHoldWrong : ChangeSpec := { name := "linesHold", fn := fun _ => fun
  | [d] => { results := [.lit (.bool false)], args := [d] }
  | _ => none }
def LinesHoldWrongFalsely : Prop := linesHoldRow.holds Try.pinned (OpenSpec.ofChange linesHoldWrong)

/-- 'jamblaw16.LinesEnds': WHATEVER THE INPUT: true; the input reads as it did. -/
def linesEndsSpec : ChangeSpec := { name := "linesEnds", fn := fun _ => fun
  | [d] => { results := [.lit (.bool true)], args := [d] }
  | _ => none }
def linesEndsRow : OpenClaim := { program := "ytpdfeifnbeojcaa", sum := "1865677c0a8959f252991b99099f3e00906c717ac0f7c5c42fcae8aca6ab4b7f", func := "jamb/jamblaw16.LinesEnds", spec := "linesEnds", unfollowed := true, recurses := true, apart := false }
def LinesEndsSaid : Prop := linesEndsRow.holds Try.pinned (OpenSpec.ofChange linesEndsSpec)

/-- ITS FALSE NEIGHBOUR: 'it returns false'. Refute it at one input. -/
def linesEndsWrong : ChangeSpec := { name := "linesEnds", fn := fun _ => fun
  | [d] => { results := [.lit (.bool false)], args := [d] }
  | _ => none }
def LinesEndsWrongFalsely : Prop := linesEndsRow.holds Try.pinned (OpenSpec.ofChange linesEndsWrong)

/-- 'jamblaw16.LinesAligned': WHATEVER THE INPUT: true; the input reads as it did. -/
def linesAlignedSpec : ChangeSpec := { name := "linesAligned", fn := fun _ => fun
  | [d] => { results := [.lit (.bool true)], args := [d] }
  | _ => none }
def linesAlignedRow : OpenClaim := { program := "ytpdfeifnbeojcaa", sum := "1865677c0a8959f252991b99099f3e00906c717ac0f7c5c42fcae8aca6ab4b7f", func := "jamb/jamblaw16.LinesAligned", spec := "linesAligned", unfollowed := true, recurses := true, apart := false }
def LinesAlignedSaid : Prop := linesAlignedRow.holds Try.pinned (OpenSpec.ofChange linesAlignedSpec)

/-- ITS FALSE NEIGHBOUR: 'it returns false'. Refute it at one input. -/
def linesAlignedWrong : ChangeSpec := { name := "linesAligned", fn := fun _ => fun
  | [d] => { results := [.lit (.bool false)], args := [d] }
  | _ => none }
def LinesAlignedWrongFalsely : Prop := linesAlignedRow.holds Try.pinned (OpenSpec.ofChange linesAlignedWrong)

/- THE SECOND FORM. 'bulk': how many values and letters a reading holds, each counted each time it is reached (what is shared counts as often as it is met; a slice's spare places count too). A statement '..UptoSaid' is the law's where the arguments, and the package variables that the reading takes, are together of bulk at most 1048576: NARROWER than '..Said'. Prove '..Said' where nothing that the law and all that it calls make is longer than what came in: it says more and counts as full. Else prove '..UptoSaid'. A law counts once. -/
mutual
def uptoBulk {H : Type} : DataW H → Nat
  | .lit (.string bytes) => bytes.length + 1
  | .lit _ => 1
  | .nil => 1
  | .ptr d => uptoBulk d + 1
  | .slice elems spare => uptoBulkAll elems + uptoBulkAll spare + 1
  | .agg parts => uptoBulkAll parts + 1
  | .iface _ d => uptoBulk d + 1
  | .map entries => uptoBulkEntries entries + 1
  | .held _ => 1
def uptoBulkAll {H : Type} : List (DataW H) → Nat
  | [] => 0
  | d :: r => uptoBulk d + uptoBulkAll r
def uptoBulkEntries {H : Type} : List (Lit × DataW H) → Nat
  | [] => 0
  | x :: r => uptoBulkEntry x + uptoBulkEntries r
def uptoBulkEntry {H : Type} : Lit × DataW H → Nat
  | (.string bytes, d) => bytes.length + uptoBulk d + 1
  | (_, d) => uptoBulk d + 1
 end
def uptoSmall : (H : Type) → List (DataW H) → Bool := fun _ ds => decide (uptoBulkAll ds ≤ 1048576)
def OpenSpec.upto (s : _root_.Go.ChangeSpec) : _root_.Go.OpenSpec := { _root_.Go.OpenSpec.ofChange s with cond := some uptoSmall }

/-- 'jamblaw16.LinesPlays', WHERE WHAT IT READS IS OF BULK AT MOST 1048576: true; the input reads as it did. -/
def linesPlaysUptoRow : OpenClaim := { program := "ytpdfeifnbeojcaa", sum := "1865677c0a8959f252991b99099f3e00906c717ac0f7c5c42fcae8aca6ab4b7f", func := "jamb/jamblaw16.LinesPlays", spec := "linesPlays", unfollowed := true, recurses := true, apart := false, narrowed := true }
def LinesPlaysUptoSaid : Prop := linesPlaysUptoRow.holds Try.pinned (OpenSpec.upto linesPlaysSpec)

/-- 'jamblaw16.LinesHold', WHERE WHAT IT READS IS OF BULK AT MOST 1048576: true; the input reads as it did. -/
def linesHoldUptoRow : OpenClaim := { program := "ytpdfeifnbeojcaa", sum := "1865677c0a8959f252991b99099f3e00906c717ac0f7c5c42fcae8aca6ab4b7f", func := "jamb/jamblaw16.LinesHold", spec := "linesHold", unfollowed := true, recurses := true, apart := false, narrowed := true }
def LinesHoldUptoSaid : Prop := linesHoldUptoRow.holds Try.pinned (OpenSpec.upto linesHoldSpec)

/-- 'jamblaw16.LinesEnds', WHERE WHAT IT READS IS OF BULK AT MOST 1048576: true; the input reads as it did. -/
def linesEndsUptoRow : OpenClaim := { program := "ytpdfeifnbeojcaa", sum := "1865677c0a8959f252991b99099f3e00906c717ac0f7c5c42fcae8aca6ab4b7f", func := "jamb/jamblaw16.LinesEnds", spec := "linesEnds", unfollowed := true, recurses := true, apart := false, narrowed := true }
def LinesEndsUptoSaid : Prop := linesEndsUptoRow.holds Try.pinned (OpenSpec.upto linesEndsSpec)

/-- 'jamblaw16.LinesAligned', WHERE WHAT IT READS IS OF BULK AT MOST 1048576: true; the input reads as it did. -/
def linesAlignedUptoRow : OpenClaim := { program := "ytpdfeifnbeojcaa", sum := "1865677c0a8959f252991b99099f3e00906c717ac0f7c5c42fcae8aca6ab4b7f", func := "jamb/jamblaw16.LinesAligned", spec := "linesAligned", unfollowed := true, recurses := true, apart := false, narrowed := true }
def LinesAlignedUptoSaid : Prop := linesAlignedUptoRow.holds Try.pinned (OpenSpec.upto linesAlignedSpec)

end Rows
end Go.Proofs.Ytpdfeifnbeojcaa
