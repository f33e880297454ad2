/-
  No cell of these rows narrows 'for every input' (looked for: loops, veiled, ifaces, maps, wideKeys, modest, calm, conditions, laid).
  DERIVED. THE GIVEN ROWS OF THIS SEAT. 6 by the template 'for every input the law returns true; each argument reads behind the call as it read before'; 0 by the template 'total and deterministic' (their statements: YtcgchcngiebgpaaTotals.lean).
  GIVEN WITH THE SEED: the statements are not yours to turn. If you find one false, say at which input.
  Laid BY PROGRAM, IN A SANDBOX (cutbox-rows.mjs): the forced cells as the released guide's own fill.sh prints them over the translation 89a86d72e12f6764… (all of the seat's roots in one cut). By AI agents, Wed Nov 11 2026. No macro, syntax, notation, axiom, sorry.
-/
import Derived.Test.YtcgchcngiebgpaaChecked
import GoSem.Claim
import GoSem.ClaimJoined
import GoSem.ClaimMapViews
import Derived.JoinedTies
import Derived.KernelRfl
namespace Go.Proofs.Ytcgchcngiebgpaa
/- THE CELL 'sum', in the pinned program and in every row, IS THE sha256 OF THE DUMP (.gsa) THAT YtcgchcngiebgpaaProg.lean LOADS. Nothing in Lean hashes anything: it is a label: what it is worth is what the hold of that sum in a sandbox is worth. -/
noncomputable def Try.pinned : Pinned := { name := "ytcgchcngiebgpaa", sum := "89a86d72e12f676499b994a927e6bcf416cbb52a37c508e44403c2b1b05275f8", checked := Try.checked }
namespace Rows
def none {H : Type} : Left H := { results := [], args := [] }

/-- 'jamblaw09.CounterLeast': WHATEVER THE INPUT: true; the input reads as it did. -/
def counterLeastSpec : ChangeSpec := { name := "counterLeast", fn := fun _ => fun
  | [d] => { results := [.lit (.bool true)], args := [d] }
  | _ => none }
def counterLeastRow : OpenClaim := { program := "ytcgchcngiebgpaa", sum := "89a86d72e12f676499b994a927e6bcf416cbb52a37c508e44403c2b1b05275f8", func := "jamb/jamblaw09.CounterLeast", spec := "counterLeast", inPlace := ["sync/atomic.StoreInt64", "sync/atomic.LoadInt64", "sync/atomic.CompareAndSwapInt64"], apart := false }
def CounterLeastSaid : Prop := counterLeastRow.holds Try.pinned (OpenSpec.ofChange counterLeastSpec)

/-- ITS FALSE NEIGHBOUR: 'it returns false'. Refute it at one input. -/
def counterLeastWrong : ChangeSpec := { name := "counterLeast", fn := fun _ => fun
  | [d] => { results := [.lit (.bool false)], args := [d] }
  | _ => none }
def CounterLeastWrongFalsely : Prop := counterLeastRow.holds Try.pinned (OpenSpec.ofChange counterLeastWrong)

/-- 'jamblaw09.CounterOrder': WHATEVER THE INPUT: true; the input reads as it did. -/
def counterOrderSpec : ChangeSpec := { name := "counterOrder", fn := fun _ => fun
  | [d1, d2] => { results := [.lit (.bool true)], args := [d1, d2] }
  | _ => none }
def counterOrderRow : OpenClaim := { program := "ytcgchcngiebgpaa", sum := "89a86d72e12f676499b994a927e6bcf416cbb52a37c508e44403c2b1b05275f8", func := "jamb/jamblaw09.CounterOrder", spec := "counterOrder", inPlace := ["sync/atomic.StoreInt64", "sync/atomic.LoadInt64", "sync/atomic.CompareAndSwapInt64"], apart := false }
def CounterOrderSaid : Prop := counterOrderRow.holds Try.pinned (OpenSpec.ofChange counterOrderSpec)

/-- ITS FALSE NEIGHBOUR: 'it returns false'. Refute it at one input. -/
def counterOrderWrong : ChangeSpec := { name := "counterOrder", fn := fun _ => fun
  | [d1, d2] => { results := [.lit (.bool false)], args := [d1, d2] }
  | _ => none }
def CounterOrderWrongFalsely : Prop := counterOrderRow.holds Try.pinned (OpenSpec.ofChange counterOrderWrong)

/-- 'jamblaw09.CounterPlays': WHATEVER THE INPUT: true; the input reads as it did. -/
def counterPlaysSpec : ChangeSpec := { name := "counterPlays", fn := fun _ => fun
  | [d1, d2] => { results := [.lit (.bool true)], args := [d1, d2] }
  | _ => none }
def counterPlaysRow : OpenClaim := { program := "ytcgchcngiebgpaa", sum := "89a86d72e12f676499b994a927e6bcf416cbb52a37c508e44403c2b1b05275f8", func := "jamb/jamblaw09.CounterPlays", spec := "counterPlays", inPlace := ["sync/atomic.StoreInt64", "sync/atomic.LoadInt64", "sync/atomic.CompareAndSwapInt64"], apart := false }
def CounterPlaysSaid : Prop := counterPlaysRow.holds Try.pinned (OpenSpec.ofChange counterPlaysSpec)

/-- ITS FALSE NEIGHBOUR: 'it returns false'. Refute it at one input. -/
def counterPlaysWrong : ChangeSpec := { name := "counterPlays", fn := fun _ => fun
  | [d1, d2] => { results := [.lit (.bool false)], args := [d1, d2] }
  | _ => none }
def CounterPlaysWrongFalsely : Prop := counterPlaysRow.holds Try.pinned (OpenSpec.ofChange counterPlaysWrong)

/-- 'jamblaw09.CounterOnce': WHATEVER THE INPUT: true; the input reads as it did. -/
def counterOnceSpec : ChangeSpec := { name := "counterOnce", fn := fun _ => fun
  | [d1, d2] => { results := [.lit (.bool true)], args := [d1, d2] }
  | _ => none }
def counterOnceRow : OpenClaim := { program := "ytcgchcngiebgpaa", sum := "89a86d72e12f676499b994a927e6bcf416cbb52a37c508e44403c2b1b05275f8", func := "jamb/jamblaw09.CounterOnce", spec := "counterOnce", inPlace := ["sync/atomic.StoreInt64", "sync/atomic.LoadInt64", "sync/atomic.CompareAndSwapInt64"], apart := false }
def CounterOnceSaid : Prop := counterOnceRow.holds Try.pinned (OpenSpec.ofChange counterOnceSpec)

/-- ITS FALSE NEIGHBOUR: 'it returns false'. Refute it at one input. -/
def counterOnceWrong : ChangeSpec := { name := "counterOnce", fn := fun _ => fun
  | [d1, d2] => { results := [.lit (.bool false)], args := [d1, d2] }
  | _ => none }
def CounterOnceWrongFalsely : Prop := counterOnceRow.holds Try.pinned (OpenSpec.ofChange counterOnceWrong)

/-- 'jamblaw09.CounterNil': WHATEVER THE INPUT: true; the input reads as it did. -/
def counterNilSpec : ChangeSpec := { name := "counterNil", fn := fun _ => fun
  | [d1, d2, d3] => { results := [.lit (.bool true)], args := [d1, d2, d3] }
  | _ => none }
def counterNilRow : OpenClaim := { program := "ytcgchcngiebgpaa", sum := "89a86d72e12f676499b994a927e6bcf416cbb52a37c508e44403c2b1b05275f8", func := "jamb/jamblaw09.CounterNil", spec := "counterNil", inPlace := ["sync/atomic.LoadInt64", "sync/atomic.CompareAndSwapInt64", "sync/atomic.StoreInt64"], apart := false }
def CounterNilSaid : Prop := counterNilRow.holds Try.pinned (OpenSpec.ofChange counterNilSpec)

/-- ITS FALSE NEIGHBOUR: 'it returns false'. Refute it at one input. -/
def counterNilWrong : ChangeSpec := { name := "counterNil", fn := fun _ => fun
  | [d1, d2, d3] => { results := [.lit (.bool false)], args := [d1, d2, d3] }
  | _ => none }
def CounterNilWrongFalsely : Prop := counterNilRow.holds Try.pinned (OpenSpec.ofChange counterNilWrong)

/-- 'jamblaw09.CounterSums': WHATEVER THE INPUT: true; the input reads as it did. -/
def counterSumsSpec : ChangeSpec := { name := "counterSums", fn := fun _ => fun
  | [d1, d2] => { results := [.lit (.bool true)], args := [d1, d2] }
  | _ => none }
def counterSumsRow : OpenClaim := { program := "ytcgchcngiebgpaa", sum := "89a86d72e12f676499b994a927e6bcf416cbb52a37c508e44403c2b1b05275f8", func := "jamb/jamblaw09.CounterSums", spec := "counterSums", inPlace := ["sync/atomic.StoreInt64", "sync/atomic.LoadInt64", "sync/atomic.CompareAndSwapInt64"], apart := false }
def CounterSumsSaid : Prop := counterSumsRow.holds Try.pinned (OpenSpec.ofChange counterSumsSpec)

/-- ITS FALSE NEIGHBOUR: 'it returns false'. Refute it at one input. -/
def counterSumsWrong : ChangeSpec := { name := "counterSums", fn := fun _ => fun
  | [d1, d2] => { results := [.lit (.bool false)], args := [d1, d2] }
  | _ => none }
def CounterSumsWrongFalsely : Prop := counterSumsRow.holds Try.pinned (OpenSpec.ofChange counterSumsWrong)

/- THE SECOND FORM. 'bulk': how many values and letters a reading holds, each counted each time it is reached (what is shared counts as often as it is met; a slice's spare places count too). A statement '..UptoSaid' is the law's where the arguments, and the package variables that the reading takes, are together of bulk at most 1048576: NARROWER than '..Said'. Prove '..Said' where nothing that the law and all that it calls make is longer than what came in: it says more and counts as full. Else prove '..UptoSaid'. A law counts once. -/
mutual
def uptoBulk {H : Type} : DataW H → Nat
  | .lit (.string bytes) => bytes.length + 1
  | .lit _ => 1
  | .nil => 1
  | .ptr d => uptoBulk d + 1
  | .slice elems spare => uptoBulkAll elems + uptoBulkAll spare + 1
  | .agg parts => uptoBulkAll parts + 1
  | .iface _ d => uptoBulk d + 1
  | .map entries => uptoBulkEntries entries + 1
  | .held _ => 1
def uptoBulkAll {H : Type} : List (DataW H) → Nat
  | [] => 0
  | d :: r => uptoBulk d + uptoBulkAll r
def uptoBulkEntries {H : Type} : List (Lit × DataW H) → Nat
  | [] => 0
  | x :: r => uptoBulkEntry x + uptoBulkEntries r
def uptoBulkEntry {H : Type} : Lit × DataW H → Nat
  | (.string bytes, d) => bytes.length + uptoBulk d + 1
  | (_, d) => uptoBulk d + 1
 end
def uptoSmall : (H : Type) → List (DataW H) → Bool := fun _ ds => decide (uptoBulkAll ds ≤ 1048576)
def OpenSpec.upto (s : _root_.Go.ChangeSpec) : _root_.Go.OpenSpec := { _root_.Go.OpenSpec.ofChange s with cond := some uptoSmall }

/-- 'jamblaw09.CounterLeast', WHERE WHAT IT READS IS OF BULK AT MOST 1048576: true; the input reads as it did. -/
def counterLeastUptoRow : OpenClaim := { program := "ytcgchcngiebgpaa", sum := "89a86d72e12f676499b994a927e6bcf416cbb52a37c508e44403c2b1b05275f8", func := "jamb/jamblaw09.CounterLeast", spec := "counterLeast", inPlace := ["sync/atomic.StoreInt64", "sync/atomic.LoadInt64", "sync/atomic.CompareAndSwapInt64"], apart := false, narrowed := true }
def CounterLeastUptoSaid : Prop := counterLeastUptoRow.holds Try.pinned (OpenSpec.upto counterLeastSpec)

/-- 'jamblaw09.CounterOrder', WHERE WHAT IT READS IS OF BULK AT MOST 1048576: true; the input reads as it did. -/
def counterOrderUptoRow : OpenClaim := { program := "ytcgchcngiebgpaa", sum := "89a86d72e12f676499b994a927e6bcf416cbb52a37c508e44403c2b1b05275f8", func := "jamb/jamblaw09.CounterOrder", spec := "counterOrder", inPlace := ["sync/atomic.StoreInt64", "sync/atomic.LoadInt64", "sync/atomic.CompareAndSwapInt64"], apart := false, narrowed := true }
def CounterOrderUptoSaid : Prop := counterOrderUptoRow.holds Try.pinned (OpenSpec.upto counterOrderSpec)

/-- 'jamblaw09.CounterPlays', WHERE WHAT IT READS IS OF BULK AT MOST 1048576: true; the input reads as it did. -/
def counterPlaysUptoRow : OpenClaim := { program := "ytcgchcngiebgpaa", sum := "89a86d72e12f676499b994a927e6bcf416cbb52a37c508e44403c2b1b05275f8", func := "jamb/jamblaw09.CounterPlays", spec := "counterPlays", inPlace := ["sync/atomic.StoreInt64", "sync/atomic.LoadInt64", "sync/atomic.CompareAndSwapInt64"], apart := false, narrowed := true }
def CounterPlaysUptoSaid : Prop := counterPlaysUptoRow.holds Try.pinned (OpenSpec.upto counterPlaysSpec)

/-- 'jamblaw09.CounterOnce', WHERE WHAT IT READS IS OF BULK AT MOST 1048576: true; the input reads as it did. -/
def counterOnceUptoRow : OpenClaim := { program := "ytcgchcngiebgpaa", sum := "89a86d72e12f676499b994a927e6bcf416cbb52a37c508e44403c2b1b05275f8", func := "jamb/jamblaw09.CounterOnce", spec := "counterOnce", inPlace := ["sync/atomic.StoreInt64", "sync/atomic.LoadInt64", "sync/atomic.CompareAndSwapInt64"], apart := false, narrowed := true }
def CounterOnceUptoSaid : Prop := counterOnceUptoRow.holds Try.pinned (OpenSpec.upto counterOnceSpec)

/-- 'jamblaw09.CounterNil', WHERE WHAT IT READS IS OF BULK AT MOST 1048576: true; the input reads as it did. -/
def counterNilUptoRow : OpenClaim := { program := "ytcgchcngiebgpaa", sum := "89a86d72e12f676499b994a927e6bcf416cbb52a37c508e44403c2b1b05275f8", func := "jamb/jamblaw09.CounterNil", spec := "counterNil", inPlace := ["sync/atomic.LoadInt64", "sync/atomic.CompareAndSwapInt64", "sync/atomic.StoreInt64"], apart := false, narrowed := true }
def CounterNilUptoSaid : Prop := counterNilUptoRow.holds Try.pinned (OpenSpec.upto counterNilSpec)

/-- 'jamblaw09.CounterSums', WHERE WHAT IT READS IS OF BULK AT MOST 1048576: true; the input reads as it did. -/
def counterSumsUptoRow : OpenClaim := { program := "ytcgchcngiebgpaa", sum := "89a86d72e12f676499b994a927e6bcf416cbb52a37c508e44403c2b1b05275f8", func := "jamb/jamblaw09.CounterSums", spec := "counterSums", inPlace := ["sync/atomic.StoreInt64", "sync/atomic.LoadInt64", "sync/atomic.CompareAndSwapInt64"], apart := false, narrowed := true }
def CounterSumsUptoSaid : Prop := counterSumsUptoRow.holds Try.pinned (OpenSpec.upto counterSumsSpec)

end Rows
end Go.Proofs.Ytcgchcngiebgpaa
