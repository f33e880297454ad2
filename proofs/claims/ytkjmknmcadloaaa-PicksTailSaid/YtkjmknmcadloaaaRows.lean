/-
  No cell of these rows narrows 'for every input' (looked for: loops, veiled, ifaces, maps, wideKeys, modest, calm, conditions, laid).
  DERIVED. THE GIVEN ROWS OF THIS SEAT. 5 by the template 'for every input the law returns true; each argument reads behind the call as it read before'; 0 by the template 'total and deterministic' (their statements: YtkjmknmcadloaaaTotals.lean).
  GIVEN WITH THE SEED: the statements are not yours to turn. If you find one false, say at which input.
  Laid BY PROGRAM, IN A SANDBOX (cutbox-rows.mjs): the forced cells as the released guide's own fill.sh prints them over the translation 61160b7ec5426ae2… (all of the seat's roots in one cut). By AI agents, Wed Nov 11 2026. No macro, syntax, notation, axiom, sorry.
-/
import Derived.Test.YtkjmknmcadloaaaChecked
import GoSem.Claim
import GoSem.ClaimJoined
import GoSem.ClaimMapViews
import Derived.JoinedTies
import Derived.KernelRfl
namespace Go.Proofs.Ytkjmknmcadloaaa
/- THE CELL 'sum', in the pinned program and in every row, IS THE sha256 OF THE DUMP (.gsa) THAT YtkjmknmcadloaaaProg.lean LOADS. Nothing in Lean hashes anything: it is a label: what it is worth is what the hold of that sum in a sandbox is worth. -/
noncomputable def Try.pinned : Pinned := { name := "ytkjmknmcadloaaa", sum := "61160b7ec5426ae2ad3c88b3ce0d9f389d0d6dc06efdb9675128f0c3d2687181", checked := Try.checked }
namespace Rows
def none {H : Type} : Left H := { results := [], args := [] }

/-- 'jamblaw10.PicksNext': WHATEVER THE INPUT: true; the input reads as it did. -/
def picksNextSpec : ChangeSpec := { name := "picksNext", fn := fun _ => fun
  | [d1, d2, d3] => { results := [.lit (.bool true)], args := [d1, d2, d3] }
  | _ => none }
def picksNextRow : OpenClaim := { program := "ytkjmknmcadloaaa", sum := "61160b7ec5426ae2ad3c88b3ce0d9f389d0d6dc06efdb9675128f0c3d2687181", func := "jamb/jamblaw10.PicksNext", spec := "picksNext", unfollowed := true, recurses := true, apart := false }
def PicksNextSaid : Prop := picksNextRow.holds Try.pinned (OpenSpec.ofChange picksNextSpec)

/-- ITS FALSE NEIGHBOUR: 'it returns false'. Refute it at one input. -/
def picksNextWrong : ChangeSpec := { name := "picksNext", fn := fun _ => fun
  | [d1, d2, d3] => { results := [.lit (.bool false)], args := [d1, d2, d3] }
  | _ => none }
def PicksNextWrongFalsely : Prop := picksNextRow.holds Try.pinned (OpenSpec.ofChange picksNextWrong)

/-- 'jamblaw10.PicksFair': WHATEVER THE INPUT: true; the input reads as it did. -/
def picksFairSpec : ChangeSpec := { name := "picksFair", fn := fun _ => fun
  | [d1, d2, d3] => { results := [.lit (.bool true)], args := [d1, d2, d3] }
  | _ => none }
def picksFairRow : OpenClaim := { program := "ytkjmknmcadloaaa", sum := "61160b7ec5426ae2ad3c88b3ce0d9f389d0d6dc06efdb9675128f0c3d2687181", func := "jamb/jamblaw10.PicksFair", spec := "picksFair", unfollowed := true, recurses := true, apart := false }
def PicksFairSaid : Prop := picksFairRow.holds Try.pinned (OpenSpec.ofChange picksFairSpec)

/-- ITS FALSE NEIGHBOUR: 'it returns false'. Refute it at one input. -/
def picksFairWrong : ChangeSpec := { name := "picksFair", fn := fun _ => fun
  | [d1, d2, d3] => { results := [.lit (.bool false)], args := [d1, d2, d3] }
  | _ => none }
def PicksFairWrongFalsely : Prop := picksFairRow.holds Try.pinned (OpenSpec.ofChange picksFairWrong)

/-- 'jamblaw10.PicksTail': WHATEVER THE INPUT: true; the input reads as it did. -/
def picksTailSpec : ChangeSpec := { name := "picksTail", fn := fun _ => fun
  | [d1, d2, d3] => { results := [.lit (.bool true)], args := [d1, d2, d3] }
  | _ => none }
def picksTailRow : OpenClaim := { program := "ytkjmknmcadloaaa", sum := "61160b7ec5426ae2ad3c88b3ce0d9f389d0d6dc06efdb9675128f0c3d2687181", func := "jamb/jamblaw10.PicksTail", spec := "picksTail", unfollowed := true, recurses := true, apart := false }
def PicksTailSaid : Prop := picksTailRow.holds Try.pinned (OpenSpec.ofChange picksTailSpec)

/-- ITS FALSE NEIGHBOUR: 'it returns false'. Refute it at one input. -/
def picksTailWrong : ChangeSpec := { name := "picksTail", fn := fun _ => fun
  | [d1, d2, d3] => { results := [.lit (.bool false)], args := [d1, d2, d3] }
  | _ => none }
def PicksTailWrongFalsely : Prop := picksTailRow.holds Try.pinned (OpenSpec.ofChange picksTailWrong)

/-- 'jamblaw10.PicksMore': WHATEVER THE INPUT: true; the input reads as it did. -/
def picksMoreSpec : ChangeSpec := { name := "picksMore", fn := fun _ => fun
  | [d1, d2, d3, d4, d5] => { results := [.lit (.bool true)], args := [d1, d2, d3, d4, d5] }
  | _ => none }
def picksMoreRow : OpenClaim := { program := "ytkjmknmcadloaaa", sum := "61160b7ec5426ae2ad3c88b3ce0d9f389d0d6dc06efdb9675128f0c3d2687181", func := "jamb/jamblaw10.PicksMore", spec := "picksMore", unfollowed := true, recurses := true, apart := false }
def PicksMoreSaid : Prop := picksMoreRow.holds Try.pinned (OpenSpec.ofChange picksMoreSpec)

/-- ITS FALSE NEIGHBOUR: 'it returns false'. Refute it at one input. -/
def picksMoreWrong : ChangeSpec := { name := "picksMore", fn := fun _ => fun
  | [d1, d2, d3, d4, d5] => { results := [.lit (.bool false)], args := [d1, d2, d3, d4, d5] }
  | _ => none }
def PicksMoreWrongFalsely : Prop := picksMoreRow.holds Try.pinned (OpenSpec.ofChange picksMoreWrong)

/-- 'jamblaw10.PicksDraw': WHATEVER THE INPUT: true; the input reads as it did. -/
def picksDrawSpec : ChangeSpec := { name := "picksDraw", fn := fun _ => fun
  | [d] => { results := [.lit (.bool true)], args := [d] }
  | _ => none }
def picksDrawRow : OpenClaim := { program := "ytkjmknmcadloaaa", sum := "61160b7ec5426ae2ad3c88b3ce0d9f389d0d6dc06efdb9675128f0c3d2687181", func := "jamb/jamblaw10.PicksDraw", spec := "picksDraw", unfollowed := true, recurses := true, apart := false }
def PicksDrawSaid : Prop := picksDrawRow.holds Try.pinned (OpenSpec.ofChange picksDrawSpec)

/-- ITS FALSE NEIGHBOUR: 'it returns false'. Refute it at one input. -/
def picksDrawWrong : ChangeSpec := { name := "picksDraw", fn := fun _ => fun
  | [d] => { results := [.lit (.bool false)], args := [d] }
  | _ => none }
def PicksDrawWrongFalsely : Prop := picksDrawRow.holds Try.pinned (OpenSpec.ofChange picksDrawWrong)

/- THE SECOND FORM. 'bulk': how many values and letters a reading holds, each counted each time it is reached (what is shared counts as often as it is met; a slice's spare places count too). A statement '..UptoSaid' is the law's where the arguments, and the package variables that the reading takes, are together of bulk at most 1048576: NARROWER than '..Said'. Prove '..Said' where nothing that the law and all that it calls make is longer than what came in: it says more and counts as full. Else prove '..UptoSaid'. A law counts once. -/
mutual
def uptoBulk {H : Type} : DataW H → Nat
  | .lit (.string bytes) => bytes.length + 1
  | .lit _ => 1
  | .nil => 1
  | .ptr d => uptoBulk d + 1
  | .slice elems spare => uptoBulkAll elems + uptoBulkAll spare + 1
  | .agg parts => uptoBulkAll parts + 1
  | .iface _ d => uptoBulk d + 1
  | .map entries => uptoBulkEntries entries + 1
  | .held _ => 1
def uptoBulkAll {H : Type} : List (DataW H) → Nat
  | [] => 0
  | d :: r => uptoBulk d + uptoBulkAll r
def uptoBulkEntries {H : Type} : List (Lit × DataW H) → Nat
  | [] => 0
  | x :: r => uptoBulkEntry x + uptoBulkEntries r
def uptoBulkEntry {H : Type} : Lit × DataW H → Nat
  | (.string bytes, d) => bytes.length + uptoBulk d + 1
  | (_, d) => uptoBulk d + 1
 end
def uptoSmall : (H : Type) → List (DataW H) → Bool := fun _ ds => decide (uptoBulkAll ds ≤ 1048576)
def OpenSpec.upto (s : _root_.Go.ChangeSpec) : _root_.Go.OpenSpec := { _root_.Go.OpenSpec.ofChange s with cond := some uptoSmall }

/-- 'jamblaw10.PicksNext', WHERE WHAT IT READS IS OF BULK AT MOST 1048576: true; the input reads as it did. -/
def picksNextUptoRow : OpenClaim := { program := "ytkjmknmcadloaaa", sum := "61160b7ec5426ae2ad3c88b3ce0d9f389d0d6dc06efdb9675128f0c3d2687181", func := "jamb/jamblaw10.PicksNext", spec := "picksNext", unfollowed := true, recurses := true, apart := false, narrowed := true }
def PicksNextUptoSaid : Prop := picksNextUptoRow.holds Try.pinned (OpenSpec.upto picksNextSpec)

/-- 'jamblaw10.PicksFair', WHERE WHAT IT READS IS OF BULK AT MOST 1048576: true; the input reads as it did. -/
def picksFairUptoRow : OpenClaim := { program := "ytkjmknmcadloaaa", sum := "61160b7ec5426ae2ad3c88b3ce0d9f389d0d6dc06efdb9675128f0c3d2687181", func := "jamb/jamblaw10.PicksFair", spec := "picksFair", unfollowed := true, recurses := true, apart := false, narrowed := true }
def PicksFairUptoSaid : Prop := picksFairUptoRow.holds Try.pinned (OpenSpec.upto picksFairSpec)

/-- 'jamblaw10.PicksTail', WHERE WHAT IT READS IS OF BULK AT MOST 1048576: true; the input reads as it did. -/
def picksTailUptoRow : OpenClaim := { program := "ytkjmknmcadloaaa", sum := "61160b7ec5426ae2ad3c88b3ce0d9f389d0d6dc06efdb9675128f0c3d2687181", func := "jamb/jamblaw10.PicksTail", spec := "picksTail", unfollowed := true, recurses := true, apart := false, narrowed := true }
def PicksTailUptoSaid : Prop := picksTailUptoRow.holds Try.pinned (OpenSpec.upto picksTailSpec)

/-- 'jamblaw10.PicksMore', WHERE WHAT IT READS IS OF BULK AT MOST 1048576: true; the input reads as it did. -/
def picksMoreUptoRow : OpenClaim := { program := "ytkjmknmcadloaaa", sum := "61160b7ec5426ae2ad3c88b3ce0d9f389d0d6dc06efdb9675128f0c3d2687181", func := "jamb/jamblaw10.PicksMore", spec := "picksMore", unfollowed := true, recurses := true, apart := false, narrowed := true }
def PicksMoreUptoSaid : Prop := picksMoreUptoRow.holds Try.pinned (OpenSpec.upto picksMoreSpec)

/-- 'jamblaw10.PicksDraw', WHERE WHAT IT READS IS OF BULK AT MOST 1048576: true; the input reads as it did. -/
def picksDrawUptoRow : OpenClaim := { program := "ytkjmknmcadloaaa", sum := "61160b7ec5426ae2ad3c88b3ce0d9f389d0d6dc06efdb9675128f0c3d2687181", func := "jamb/jamblaw10.PicksDraw", spec := "picksDraw", unfollowed := true, recurses := true, apart := false, narrowed := true }
def PicksDrawUptoSaid : Prop := picksDrawUptoRow.holds Try.pinned (OpenSpec.upto picksDrawSpec)

end Rows
end Go.Proofs.Ytkjmknmcadloaaa
