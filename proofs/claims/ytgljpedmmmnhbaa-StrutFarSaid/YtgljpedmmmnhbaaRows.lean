/-
  No cell of these rows narrows 'for every input' (looked for: loops, veiled, ifaces, maps, wideKeys, modest, calm, conditions, laid).
  DERIVED. THE GIVEN ROWS OF THIS SEAT. 4 by the template 'for every input the law returns true; each argument reads behind the call as it read before'; 0 by the template 'total and deterministic' (their statements: YtgljpedmmmnhbaaTotals.lean).
  GIVEN WITH THE SEED: the statements are not yours to turn. If you find one false, say at which input.
  Laid BY PROGRAM, IN A SANDBOX (cutbox-rows.mjs): the forced cells as the released guide's own fill.sh prints them over the translation b3550a86e6338282… (all of the seat's roots in one cut). By AI agents, Wed Nov 11 2026. No macro, syntax, notation, axiom, sorry.
-/
import Derived.Test.YtgljpedmmmnhbaaChecked
import GoSem.Claim
import GoSem.ClaimJoined
import GoSem.ClaimMapViews
import Derived.JoinedTies
import Derived.KernelRfl
namespace Go.Proofs.Ytgljpedmmmnhbaa
/- THE CELL 'sum', in the pinned program and in every row, IS THE sha256 OF THE DUMP (.gsa) THAT YtgljpedmmmnhbaaProg.lean LOADS. Nothing in Lean hashes anything: it is a label: what it is worth is what the hold of that sum in a sandbox is worth. -/
noncomputable def Try.pinned : Pinned := { name := "ytgljpedmmmnhbaa", sum := "b3550a86e6338282e850926e66fb473b38e7ab964b613bc960fc3194483c763a", checked := Try.checked }
namespace Rows
def none {H : Type} : Left H := { results := [], args := [] }

/-- 'jamblaw14.StrutSigns': WHATEVER THE INPUT: true; the input reads as it did. -/
def strutSignsSpec : ChangeSpec := { name := "strutSigns", fn := fun _ => fun
  | [d1, d2] => { results := [.lit (.bool true)], args := [d1, d2] }
  | _ => none }
def strutSignsRow : OpenClaim := { program := "ytgljpedmmmnhbaa", sum := "b3550a86e6338282e850926e66fb473b38e7ab964b613bc960fc3194483c763a", func := "jamb/jamblaw14.StrutSigns", spec := "strutSigns", apart := false }
def StrutSignsSaid : Prop := strutSignsRow.holds Try.pinned (OpenSpec.ofChange strutSignsSpec)

/-- ITS FALSE NEIGHBOUR: 'it returns false'. Refute it at one input. -/
def strutSignsWrong : ChangeSpec := { name := "strutSigns", fn := fun _ => fun
  | [d1, d2] => { results := [.lit (.bool false)], args := [d1, d2] }
  | _ => none }
def StrutSignsWrongFalsely : Prop := strutSignsRow.holds Try.pinned (OpenSpec.ofChange strutSignsWrong)

/-- 'jamblaw14.StrutPlays': WHATEVER THE INPUT: true; the input reads as it did. -/
def strutPlaysSpec : ChangeSpec := { name := "strutPlays", fn := fun _ => fun
  | [d1, d2, d3, d4] => { results := [.lit (.bool true)], args := [d1, d2, d3, d4] }
  | _ => none }
def strutPlaysRow : OpenClaim := { program := "ytgljpedmmmnhbaa", sum := "b3550a86e6338282e850926e66fb473b38e7ab964b613bc960fc3194483c763a", func := "jamb/jamblaw14.StrutPlays", spec := "strutPlays", unfollowed := true, recurses := true, apart := false }
def StrutPlaysSaid : Prop := strutPlaysRow.holds Try.pinned (OpenSpec.ofChange strutPlaysSpec)

/-- ITS FALSE NEIGHBOUR: 'it returns false'. Refute it at one input. -/
def strutPlaysWrong : ChangeSpec := { name := "strutPlays", fn := fun _ => fun
  | [d1, d2, d3, d4] => { results := [.lit (.bool false)], args := [d1, d2, d3, d4] }
  | _ => none }
def StrutPlaysWrongFalsely : Prop := strutPlaysRow.holds Try.pinned (OpenSpec.ofChange strutPlaysWrong)

/-- 'jamblaw14.StrutOrder': WHATEVER THE INPUT: true; the input reads as it did. -/
def strutOrderSpec : ChangeSpec := { name := "strutOrder", fn := fun _ => fun
  | [d] => { results := [.lit (.bool true)], args := [d] }
  | _ => none }
def strutOrderRow : OpenClaim := { program := "ytgljpedmmmnhbaa", sum := "b3550a86e6338282e850926e66fb473b38e7ab964b613bc960fc3194483c763a", func := "jamb/jamblaw14.StrutOrder", spec := "strutOrder", unfollowed := true, recurses := true, apart := false }
def StrutOrderSaid : Prop := strutOrderRow.holds Try.pinned (OpenSpec.ofChange strutOrderSpec)

/-- ITS FALSE NEIGHBOUR: 'it returns false'. Refute it at one input. -/
def strutOrderWrong : ChangeSpec := { name := "strutOrder", fn := fun _ => fun
  | [d] => { results := [.lit (.bool false)], args := [d] }
  | _ => none }
def StrutOrderWrongFalsely : Prop := strutOrderRow.holds Try.pinned (OpenSpec.ofChange strutOrderWrong)

/-- 'jamblaw14.StrutFar': WHATEVER THE INPUT: true; the input reads as it did. -/
def strutFarSpec : ChangeSpec := { name := "strutFar", fn := fun _ => fun
  | [d1, d2] => { results := [.lit (.bool true)], args := [d1, d2] }
  | _ => none }
def strutFarRow : OpenClaim := { program := "ytgljpedmmmnhbaa", sum := "b3550a86e6338282e850926e66fb473b38e7ab964b613bc960fc3194483c763a", func := "jamb/jamblaw14.StrutFar", spec := "strutFar", unfollowed := true, recurses := true, apart := false }
def StrutFarSaid : Prop := strutFarRow.holds Try.pinned (OpenSpec.ofChange strutFarSpec)

/-- ITS FALSE NEIGHBOUR: 'it returns false'. Refute it at one input. -/
def strutFarWrong : ChangeSpec := { name := "strutFar", fn := fun _ => fun
  | [d1, d2] => { results := [.lit (.bool false)], args := [d1, d2] }
  | _ => none }
def StrutFarWrongFalsely : Prop := strutFarRow.holds Try.pinned (OpenSpec.ofChange strutFarWrong)

/- THE SECOND FORM. 'bulk': how many values and letters a reading holds, each counted each time it is reached (what is shared counts as often as it is met; a slice's spare places count too). A statement '..UptoSaid' is the law's where the arguments, and the package variables that the reading takes, are together of bulk at most 1048576: NARROWER than '..Said'. Prove '..Said' where nothing that the law and all that it calls make is longer than what came in: it says more and counts as full. Else prove '..UptoSaid'. A law counts once. -/
mutual
def uptoBulk {H : Type} : DataW H → Nat
  | .lit (.string bytes) => bytes.length + 1
  | .lit _ => 1
  | .nil => 1
  | .ptr d => uptoBulk d + 1
  | .slice elems spare => uptoBulkAll elems + uptoBulkAll spare + 1
  | .agg parts => uptoBulkAll parts + 1
  | .iface _ d => uptoBulk d + 1
  | .map entries => uptoBulkEntries entries + 1
  | .held _ => 1
def uptoBulkAll {H : Type} : List (DataW H) → Nat
  | [] => 0
  | d :: r => uptoBulk d + uptoBulkAll r
def uptoBulkEntries {H : Type} : List (Lit × DataW H) → Nat
  | [] => 0
  | x :: r => uptoBulkEntry x + uptoBulkEntries r
def uptoBulkEntry {H : Type} : Lit × DataW H → Nat
  | (.string bytes, d) => bytes.length + uptoBulk d + 1
  | (_, d) => uptoBulk d + 1
 end
def uptoSmall : (H : Type) → List (DataW H) → Bool := fun _ ds => decide (uptoBulkAll ds ≤ 1048576)
def OpenSpec.upto (s : _root_.Go.ChangeSpec) : _root_.Go.OpenSpec := { _root_.Go.OpenSpec.ofChange s with cond := some uptoSmall }

/-- 'jamblaw14.StrutSigns', WHERE WHAT IT READS IS OF BULK AT MOST 1048576: true; the input reads as it did. -/
def strutSignsUptoRow : OpenClaim := { program := "ytgljpedmmmnhbaa", sum := "b3550a86e6338282e850926e66fb473b38e7ab964b613bc960fc3194483c763a", func := "jamb/jamblaw14.StrutSigns", spec := "strutSigns", apart := false, narrowed := true }
def StrutSignsUptoSaid : Prop := strutSignsUptoRow.holds Try.pinned (OpenSpec.upto strutSignsSpec)

/-- 'jamblaw14.StrutPlays', WHERE WHAT IT READS IS OF BULK AT MOST 1048576: true; the input reads as it did. -/
def strutPlaysUptoRow : OpenClaim := { program := "ytgljpedmmmnhbaa", sum := "b3550a86e6338282e850926e66fb473b38e7ab964b613bc960fc3194483c763a", func := "jamb/jamblaw14.StrutPlays", spec := "strutPlays", unfollowed := true, recurses := true, apart := false, narrowed := true }
def StrutPlaysUptoSaid : Prop := strutPlaysUptoRow.holds Try.pinned (OpenSpec.upto strutPlaysSpec)

/-- 'jamblaw14.StrutOrder', WHERE WHAT IT READS IS OF BULK AT MOST 1048576: true; the input reads as it did. -/
def strutOrderUptoRow : OpenClaim := { program := "ytgljpedmmmnhbaa", sum := "b3550a86e6338282e850926e66fb473b38e7ab964b613bc960fc3194483c763a", func := "jamb/jamblaw14.StrutOrder", spec := "strutOrder", unfollowed := true, recurses := true, apart := false, narrowed := true }
def StrutOrderUptoSaid : Prop := strutOrderUptoRow.holds Try.pinned (OpenSpec.upto strutOrderSpec)

/-- 'jamblaw14.StrutFar', WHERE WHAT IT READS IS OF BULK AT MOST 1048576: true; the input reads as it did. -/
def strutFarUptoRow : OpenClaim := { program := "ytgljpedmmmnhbaa", sum := "b3550a86e6338282e850926e66fb473b38e7ab964b613bc960fc3194483c763a", func := "jamb/jamblaw14.StrutFar", spec := "strutFar", unfollowed := true, recurses := true, apart := false, narrowed := true }
def StrutFarUptoSaid : Prop := strutFarUptoRow.holds Try.pinned (OpenSpec.upto strutFarSpec)

end Rows
end Go.Proofs.Ytgljpedmmmnhbaa
