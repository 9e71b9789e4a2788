/-
  No cell of these rows narrows 'for every input' (looked for: loops, veiled, ifaces, maps, wideKeys, modest, calm, conditions, laid).
  DERIVED. THE GIVEN ROWS OF THIS SEAT. 7 by the template 'for every input the law returns true; each argument reads behind the call as it read before'; 0 by the template 'total and deterministic' (their statements: YtkjekinnemgkkaaTotals.lean).
  GIVEN WITH THE SEED: the statements are not yours to turn. If you find one false, say at which input.
  Laid BY PROGRAM, IN A SANDBOX (cutbox-rows.mjs): the forced cells as the released guide's own fill.sh prints them over the translation d483b62150d62ba5… (all of the seat's roots in one cut). By AI agents, Wed Nov 11 2026. No macro, syntax, notation, axiom, sorry.
-/
import Derived.Test.YtkjekinnemgkkaaChecked
import GoSem.Claim
import GoSem.ClaimJoined
import GoSem.ClaimMapViews
import Derived.JoinedTies
import Derived.KernelRfl
namespace Go.Proofs.Ytkjekinnemgkkaa
/- THE CELL 'sum', in the pinned program and in every row, IS THE sha256 OF THE DUMP (.gsa) THAT YtkjekinnemgkkaaProg.lean LOADS. Nothing in Lean hashes anything: it is a label: what it is worth is what the hold of that sum in a sandbox is worth. -/
noncomputable def Try.pinned : Pinned := { name := "ytkjekinnemgkkaa", sum := "d483b62150d62ba53a4d572c4bb89855fc4c668b2edd12fdc6c95a1a50ccbbd8", checked := Try.checked }
namespace Rows
def none {H : Type} : Left H := { results := [], args := [] }

/-- 'shiftbellkeep.QueueSorted': WHATEVER THE INPUT: true; the input reads as it did. -/
def queueSortedSpec : ChangeSpec := { name := "queueSorted", fn := fun _ => fun
  | [d] => { results := [.lit (.bool true)], args := [d] }
  | _ => none }
def queueSortedRow : OpenClaim := { program := "ytkjekinnemgkkaa", sum := "d483b62150d62ba53a4d572c4bb89855fc4c668b2edd12fdc6c95a1a50ccbbd8", func := "shiftbell/shiftbellkeep.QueueSorted", spec := "queueSorted", unfollowed := true, recurses := true, apart := false }
def QueueSortedSaid : Prop := queueSortedRow.holds Try.pinned (OpenSpec.ofChange queueSortedSpec)

/-- ITS FALSE NEIGHBOUR: 'it returns false'. Refute it at one input. -/
def queueSortedWrong : ChangeSpec := { name := "queueSorted", fn := fun _ => fun
  | [d] => { results := [.lit (.bool false)], args := [d] }
  | _ => none }
def QueueSortedWrongFalsely : Prop := queueSortedRow.holds Try.pinned (OpenSpec.ofChange queueSortedWrong)

/-- 'shiftbellkeep.QueueAgain': WHATEVER THE INPUT: true; the input reads as it did. -/
def queueAgainSpec : ChangeSpec := { name := "queueAgain", fn := fun _ => fun
  | [d] => { results := [.lit (.bool true)], args := [d] }
  | _ => none }
def queueAgainRow : OpenClaim := { program := "ytkjekinnemgkkaa", sum := "d483b62150d62ba53a4d572c4bb89855fc4c668b2edd12fdc6c95a1a50ccbbd8", func := "shiftbell/shiftbellkeep.QueueAgain", spec := "queueAgain", unfollowed := true, recurses := true, apart := false }
def QueueAgainSaid : Prop := queueAgainRow.holds Try.pinned (OpenSpec.ofChange queueAgainSpec)

/-- ITS FALSE NEIGHBOUR: 'it returns false'. Refute it at one input. -/
def queueAgainWrong : ChangeSpec := { name := "queueAgain", fn := fun _ => fun
  | [d] => { results := [.lit (.bool false)], args := [d] }
  | _ => none }
def QueueAgainWrongFalsely : Prop := queueAgainRow.holds Try.pinned (OpenSpec.ofChange queueAgainWrong)

/-- 'shiftbellkeep.QueueWhole': WHATEVER THE INPUT: true; the input reads as it did. -/
def queueWholeSpec : ChangeSpec := { name := "queueWhole", fn := fun _ => fun
  | [d] => { results := [.lit (.bool true)], args := [d] }
  | _ => none }
def queueWholeRow : OpenClaim := { program := "ytkjekinnemgkkaa", sum := "d483b62150d62ba53a4d572c4bb89855fc4c668b2edd12fdc6c95a1a50ccbbd8", func := "shiftbell/shiftbellkeep.QueueWhole", spec := "queueWhole", unfollowed := true, recurses := true, apart := false }
def QueueWholeSaid : Prop := queueWholeRow.holds Try.pinned (OpenSpec.ofChange queueWholeSpec)

/-- ITS FALSE NEIGHBOUR: 'it returns false'. Refute it at one input. -/
def queueWholeWrong : ChangeSpec := { name := "queueWhole", fn := fun _ => fun
  | [d] => { results := [.lit (.bool false)], args := [d] }
  | _ => none }
def QueueWholeWrongFalsely : Prop := queueWholeRow.holds Try.pinned (OpenSpec.ofChange queueWholeWrong)

/-- 'shiftbellkeep.QueueRaised': WHATEVER THE INPUT: true; the input reads as it did. -/
def queueRaisedSpec : ChangeSpec := { name := "queueRaised", fn := fun _ => fun
  | [d1, d2, d3] => { results := [.lit (.bool true)], args := [d1, d2, d3] }
  | _ => none }
def queueRaisedRow : OpenClaim := { program := "ytkjekinnemgkkaa", sum := "d483b62150d62ba53a4d572c4bb89855fc4c668b2edd12fdc6c95a1a50ccbbd8", func := "shiftbell/shiftbellkeep.QueueRaised", spec := "queueRaised", unfollowed := true, recurses := true, apart := false }
def QueueRaisedSaid : Prop := queueRaisedRow.holds Try.pinned (OpenSpec.ofChange queueRaisedSpec)

/-- ITS FALSE NEIGHBOUR: 'it returns false'. Refute it at one input. -/
def queueRaisedWrong : ChangeSpec := { name := "queueRaised", fn := fun _ => fun
  | [d1, d2, d3] => { results := [.lit (.bool false)], args := [d1, d2, d3] }
  | _ => none }
def QueueRaisedWrongFalsely : Prop := queueRaisedRow.holds Try.pinned (OpenSpec.ofChange queueRaisedWrong)

/-- 'shiftbellkeep.WheelOnce': WHATEVER THE INPUT: true; the input reads as it did. -/
def wheelOnceSpec : ChangeSpec := { name := "wheelOnce", fn := fun _ => fun
  | [d] => { results := [.lit (.bool true)], args := [d] }
  | _ => none }
def wheelOnceRow : OpenClaim := { program := "ytkjekinnemgkkaa", sum := "d483b62150d62ba53a4d572c4bb89855fc4c668b2edd12fdc6c95a1a50ccbbd8", func := "shiftbell/shiftbellkeep.WheelOnce", spec := "wheelOnce", unfollowed := true, recurses := true, apart := false }
def WheelOnceSaid : Prop := wheelOnceRow.holds Try.pinned (OpenSpec.ofChange wheelOnceSpec)

/-- ITS FALSE NEIGHBOUR: 'it returns false'. Refute it at one input. -/
def wheelOnceWrong : ChangeSpec := { name := "wheelOnce", fn := fun _ => fun
  | [d] => { results := [.lit (.bool false)], args := [d] }
  | _ => none }
def WheelOnceWrongFalsely : Prop := wheelOnceRow.holds Try.pinned (OpenSpec.ofChange wheelOnceWrong)

/-- 'shiftbellkeep.WheelSorted': WHATEVER THE INPUT: true; the input reads as it did. -/
def wheelSortedSpec : ChangeSpec := { name := "wheelSorted", fn := fun _ => fun
  | [d] => { results := [.lit (.bool true)], args := [d] }
  | _ => none }
def wheelSortedRow : OpenClaim := { program := "ytkjekinnemgkkaa", sum := "d483b62150d62ba53a4d572c4bb89855fc4c668b2edd12fdc6c95a1a50ccbbd8", func := "shiftbell/shiftbellkeep.WheelSorted", spec := "wheelSorted", unfollowed := true, recurses := true, apart := false }
def WheelSortedSaid : Prop := wheelSortedRow.holds Try.pinned (OpenSpec.ofChange wheelSortedSpec)

/-- ITS FALSE NEIGHBOUR: 'it returns false'. Refute it at one input. -/
def wheelSortedWrong : ChangeSpec := { name := "wheelSorted", fn := fun _ => fun
  | [d] => { results := [.lit (.bool false)], args := [d] }
  | _ => none }
def WheelSortedWrongFalsely : Prop := wheelSortedRow.holds Try.pinned (OpenSpec.ofChange wheelSortedWrong)

/-- 'shiftbellkeep.WheelPieces': WHATEVER THE INPUT: true; the input reads as it did. -/
def wheelPiecesSpec : ChangeSpec := { name := "wheelPieces", fn := fun _ => fun
  | [d1, d2, d3] => { results := [.lit (.bool true)], args := [d1, d2, d3] }
  | _ => none }
def wheelPiecesRow : OpenClaim := { program := "ytkjekinnemgkkaa", sum := "d483b62150d62ba53a4d572c4bb89855fc4c668b2edd12fdc6c95a1a50ccbbd8", func := "shiftbell/shiftbellkeep.WheelPieces", spec := "wheelPieces", unfollowed := true, recurses := true, apart := false }
def WheelPiecesSaid : Prop := wheelPiecesRow.holds Try.pinned (OpenSpec.ofChange wheelPiecesSpec)

/-- ITS FALSE NEIGHBOUR: 'it returns false'. Refute it at one input. -/
def wheelPiecesWrong : ChangeSpec := { name := "wheelPieces", fn := fun _ => fun
  | [d1, d2, d3] => { results := [.lit (.bool false)], args := [d1, d2, d3] }
  | _ => none }
def WheelPiecesWrongFalsely : Prop := wheelPiecesRow.holds Try.pinned (OpenSpec.ofChange wheelPiecesWrong)

/- THE SECOND FORM. 'bulk': how many values and letters a reading holds, each counted each time it is reached (what is shared counts as often as it is met; a slice's spare places count too). A statement '..UptoSaid' is the law's where the arguments, and the package variables that the reading takes, are together of bulk at most 1048576: NARROWER than '..Said'. Prove '..Said' where nothing that the law and all that it calls make is longer than what came in: it says more and counts as full. Else prove '..UptoSaid'. A law counts once. -/
mutual
def uptoBulk {H : Type} : DataW H → Nat
  | .lit (.string bytes) => bytes.length + 1
  | .lit _ => 1
  | .nil => 1
  | .ptr d => uptoBulk d + 1
  | .slice elems spare => uptoBulkAll elems + uptoBulkAll spare + 1
  | .agg parts => uptoBulkAll parts + 1
  | .iface _ d => uptoBulk d + 1
  | .map entries => uptoBulkEntries entries + 1
  | .held _ => 1
def uptoBulkAll {H : Type} : List (DataW H) → Nat
  | [] => 0
  | d :: r => uptoBulk d + uptoBulkAll r
def uptoBulkEntries {H : Type} : List (Lit × DataW H) → Nat
  | [] => 0
  | x :: r => uptoBulkEntry x + uptoBulkEntries r
def uptoBulkEntry {H : Type} : Lit × DataW H → Nat
  | (.string bytes, d) => bytes.length + uptoBulk d + 1
  | (_, d) => uptoBulk d + 1
 end
def uptoSmall : (H : Type) → List (DataW H) → Bool := fun _ ds => decide (uptoBulkAll ds ≤ 1048576)
def OpenSpec.upto (s : _root_.Go.ChangeSpec) : _root_.Go.OpenSpec := { _root_.Go.OpenSpec.ofChange s with cond := some uptoSmall }

/-- 'shiftbellkeep.QueueSorted', WHERE WHAT IT READS IS OF BULK AT MOST 1048576: true; the input reads as it did. -/
def queueSortedUptoRow : OpenClaim := { program := "ytkjekinnemgkkaa", sum := "d483b62150d62ba53a4d572c4bb89855fc4c668b2edd12fdc6c95a1a50ccbbd8", func := "shiftbell/shiftbellkeep.QueueSorted", spec := "queueSorted", unfollowed := true, recurses := true, apart := false, narrowed := true }
def QueueSortedUptoSaid : Prop := queueSortedUptoRow.holds Try.pinned (OpenSpec.upto queueSortedSpec)

/-- 'shiftbellkeep.QueueAgain', WHERE WHAT IT READS IS OF BULK AT MOST 1048576: true; the input reads as it did. -/
def queueAgainUptoRow : OpenClaim := { program := "ytkjekinnemgkkaa", sum := "d483b62150d62ba53a4d572c4bb89855fc4c668b2edd12fdc6c95a1a50ccbbd8", func := "shiftbell/shiftbellkeep.QueueAgain", spec := "queueAgain", unfollowed := true, recurses := true, apart := false, narrowed := true }
def QueueAgainUptoSaid : Prop := queueAgainUptoRow.holds Try.pinned (OpenSpec.upto queueAgainSpec)

/-- 'shiftbellkeep.QueueWhole', WHERE WHAT IT READS IS OF BULK AT MOST 1048576: true; the input reads as it did. -/
def queueWholeUptoRow : OpenClaim := { program := "ytkjekinnemgkkaa", sum := "d483b62150d62ba53a4d572c4bb89855fc4c668b2edd12fdc6c95a1a50ccbbd8", func := "shiftbell/shiftbellkeep.QueueWhole", spec := "queueWhole", unfollowed := true, recurses := true, apart := false, narrowed := true }
def QueueWholeUptoSaid : Prop := queueWholeUptoRow.holds Try.pinned (OpenSpec.upto queueWholeSpec)

/-- 'shiftbellkeep.QueueRaised', WHERE WHAT IT READS IS OF BULK AT MOST 1048576: true; the input reads as it did. -/
def queueRaisedUptoRow : OpenClaim := { program := "ytkjekinnemgkkaa", sum := "d483b62150d62ba53a4d572c4bb89855fc4c668b2edd12fdc6c95a1a50ccbbd8", func := "shiftbell/shiftbellkeep.QueueRaised", spec := "queueRaised", unfollowed := true, recurses := true, apart := false, narrowed := true }
def QueueRaisedUptoSaid : Prop := queueRaisedUptoRow.holds Try.pinned (OpenSpec.upto queueRaisedSpec)

/-- 'shiftbellkeep.WheelOnce', WHERE WHAT IT READS IS OF BULK AT MOST 1048576: true; the input reads as it did. -/
def wheelOnceUptoRow : OpenClaim := { program := "ytkjekinnemgkkaa", sum := "d483b62150d62ba53a4d572c4bb89855fc4c668b2edd12fdc6c95a1a50ccbbd8", func := "shiftbell/shiftbellkeep.WheelOnce", spec := "wheelOnce", unfollowed := true, recurses := true, apart := false, narrowed := true }
def WheelOnceUptoSaid : Prop := wheelOnceUptoRow.holds Try.pinned (OpenSpec.upto wheelOnceSpec)

/-- 'shiftbellkeep.WheelSorted', WHERE WHAT IT READS IS OF BULK AT MOST 1048576: true; the input reads as it did. -/
def wheelSortedUptoRow : OpenClaim := { program := "ytkjekinnemgkkaa", sum := "d483b62150d62ba53a4d572c4bb89855fc4c668b2edd12fdc6c95a1a50ccbbd8", func := "shiftbell/shiftbellkeep.WheelSorted", spec := "wheelSorted", unfollowed := true, recurses := true, apart := false, narrowed := true }
def WheelSortedUptoSaid : Prop := wheelSortedUptoRow.holds Try.pinned (OpenSpec.upto wheelSortedSpec)

/-- 'shiftbellkeep.WheelPieces', WHERE WHAT IT READS IS OF BULK AT MOST 1048576: true; the input reads as it did. -/
def wheelPiecesUptoRow : OpenClaim := { program := "ytkjekinnemgkkaa", sum := "d483b62150d62ba53a4d572c4bb89855fc4c668b2edd12fdc6c95a1a50ccbbd8", func := "shiftbell/shiftbellkeep.WheelPieces", spec := "wheelPieces", unfollowed := true, recurses := true, apart := false, narrowed := true }
def WheelPiecesUptoSaid : Prop := wheelPiecesUptoRow.holds Try.pinned (OpenSpec.upto wheelPiecesSpec)

end Rows
end Go.Proofs.Ytkjekinnemgkkaa
