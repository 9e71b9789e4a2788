/-
  No cell of these rows narrows 'for every input' (looked for: loops, veiled, ifaces, maps, wideKeys, modest, calm, conditions, laid).
  DERIVED. THE GIVEN ROWS OF THIS SEAT. 3 by the template 'for every input the law returns true; each argument reads behind the call as it read before'; 0 by the template 'total and deterministic' (their statements: YtkpkbbapaamflaaTotals.lean).
  GIVEN WITH THE SEED: the statements are not yours to turn. If you find one false, say at which input.
  Laid BY PROGRAM, IN A SANDBOX (cutbox-rows.mjs): the forced cells as the released guide's own fill.sh prints them over the translation 49796f7f7091274d… (all of the seat's roots in one cut). By AI agents, Wed Nov 11 2026. No macro, syntax, notation, axiom, sorry.
-/
import Derived.Test.YtkpkbbapaamflaaChecked
import GoSem.Claim
import GoSem.ClaimJoined
import GoSem.ClaimMapViews
import Derived.JoinedTies
import Derived.KernelRfl
namespace Go.Proofs.Ytkpkbbapaamflaa
/- THE CELL 'sum', in the pinned program and in every row, IS THE sha256 OF THE DUMP (.gsa) THAT YtkpkbbapaamflaaProg.lean LOADS. Nothing in Lean hashes anything: it is a label: what it is worth is what the hold of that sum in a sandbox is worth. -/
noncomputable def Try.pinned : Pinned := { name := "ytkpkbbapaamflaa", sum := "49796f7f7091274d13f1866e8342193bb973da65efa036b0db67698c29e6b745", checked := Try.checked }
namespace Rows
def none {H : Type} : Left H := { results := [], args := [] }

/-- 'shiftbellkeep.WheelOnce': WHATEVER THE INPUT: true; the input reads as it did. -/
def wheelOnceSpec : ChangeSpec := { name := "wheelOnce", fn := fun _ => fun
  | [d] => { results := [.lit (.bool true)], args := [d] }
  | _ => none }
def wheelOnceRow : OpenClaim := { program := "ytkpkbbapaamflaa", sum := "49796f7f7091274d13f1866e8342193bb973da65efa036b0db67698c29e6b745", func := "shiftbell/shiftbellkeep.WheelOnce", spec := "wheelOnce", unfollowed := true, recurses := true, apart := false }
def WheelOnceSaid : Prop := wheelOnceRow.holds Try.pinned (OpenSpec.ofChange wheelOnceSpec)

/-- ITS FALSE NEIGHBOUR: 'it returns false'. Refute it at one input. -/
def wheelOnceWrong : ChangeSpec := { name := "wheelOnce", fn := fun _ => fun
  | [d] => { results := [.lit (.bool false)], args := [d] }
  | _ => none }
def WheelOnceWrongFalsely : Prop := wheelOnceRow.holds Try.pinned (OpenSpec.ofChange wheelOnceWrong)

/-- 'shiftbellkeep.WheelSorted': WHATEVER THE INPUT: true; the input reads as it did. -/
def wheelSortedSpec : ChangeSpec := { name := "wheelSorted", fn := fun _ => fun
  | [d] => { results := [.lit (.bool true)], args := [d] }
  | _ => none }
def wheelSortedRow : OpenClaim := { program := "ytkpkbbapaamflaa", sum := "49796f7f7091274d13f1866e8342193bb973da65efa036b0db67698c29e6b745", func := "shiftbell/shiftbellkeep.WheelSorted", spec := "wheelSorted", unfollowed := true, recurses := true, apart := false }
def WheelSortedSaid : Prop := wheelSortedRow.holds Try.pinned (OpenSpec.ofChange wheelSortedSpec)

/-- ITS FALSE NEIGHBOUR: 'it returns false'. Refute it at one input. -/
def wheelSortedWrong : ChangeSpec := { name := "wheelSorted", fn := fun _ => fun
  | [d] => { results := [.lit (.bool false)], args := [d] }
  | _ => none }
def WheelSortedWrongFalsely : Prop := wheelSortedRow.holds Try.pinned (OpenSpec.ofChange wheelSortedWrong)

/-- 'shiftbellkeep.WheelPieces': WHATEVER THE INPUT: true; the input reads as it did. -/
def wheelPiecesSpec : ChangeSpec := { name := "wheelPieces", fn := fun _ => fun
  | [d1, d2, d3] => { results := [.lit (.bool true)], args := [d1, d2, d3] }
  | _ => none }
def wheelPiecesRow : OpenClaim := { program := "ytkpkbbapaamflaa", sum := "49796f7f7091274d13f1866e8342193bb973da65efa036b0db67698c29e6b745", func := "shiftbell/shiftbellkeep.WheelPieces", spec := "wheelPieces", unfollowed := true, recurses := true, apart := false }
def WheelPiecesSaid : Prop := wheelPiecesRow.holds Try.pinned (OpenSpec.ofChange wheelPiecesSpec)

/-- ITS FALSE NEIGHBOUR: 'it returns false'. Refute it at one input. -/
def wheelPiecesWrong : ChangeSpec := { name := "wheelPieces", fn := fun _ => fun
  | [d1, d2, d3] => { results := [.lit (.bool false)], args := [d1, d2, d3] }
  | _ => none }
def WheelPiecesWrongFalsely : Prop := wheelPiecesRow.holds Try.pinned (OpenSpec.ofChange wheelPiecesWrong)

/- THE SECOND FORM. 'bulk': how many values and letters a reading holds, each counted each time it is reached (what is shared counts as often as it is met; a slice's spare places count too). A statement '..UptoSaid' is the law's where the arguments, and the package variables that the reading takes, are together of bulk at most 1048576: NARROWER than '..Said'. Prove '..Said' where nothing that the law and all that it calls make is longer than what came in: it says more and counts as full. Else prove '..UptoSaid'. A law counts once. -/
mutual
def uptoBulk {H : Type} : DataW H → Nat
  | .lit (.string bytes) => bytes.length + 1
  | .lit _ => 1
  | .nil => 1
  | .ptr d => uptoBulk d + 1
  | .slice elems spare => uptoBulkAll elems + uptoBulkAll spare + 1
  | .agg parts => uptoBulkAll parts + 1
  | .iface _ d => uptoBulk d + 1
  | .map entries => uptoBulkEntries entries + 1
  | .held _ => 1
def uptoBulkAll {H : Type} : List (DataW H) → Nat
  | [] => 0
  | d :: r => uptoBulk d + uptoBulkAll r
def uptoBulkEntries {H : Type} : List (Lit × DataW H) → Nat
  | [] => 0
  | x :: r => uptoBulkEntry x + uptoBulkEntries r
def uptoBulkEntry {H : Type} : Lit × DataW H → Nat
  | (.string bytes, d) => bytes.length + uptoBulk d + 1
  | (_, d) => uptoBulk d + 1
 end
def uptoSmall : (H : Type) → List (DataW H) → Bool := fun _ ds => decide (uptoBulkAll ds ≤ 1048576)
def OpenSpec.upto (s : _root_.Go.ChangeSpec) : _root_.Go.OpenSpec := { _root_.Go.OpenSpec.ofChange s with cond := some uptoSmall }

/-- 'shiftbellkeep.WheelOnce', WHERE WHAT IT READS IS OF BULK AT MOST 1048576: true; the input reads as it did. -/
def wheelOnceUptoRow : OpenClaim := { program := "ytkpkbbapaamflaa", sum := "49796f7f7091274d13f1866e8342193bb973da65efa036b0db67698c29e6b745", func := "shiftbell/shiftbellkeep.WheelOnce", spec := "wheelOnce", unfollowed := true, recurses := true, apart := false, narrowed := true }
def WheelOnceUptoSaid : Prop := wheelOnceUptoRow.holds Try.pinned (OpenSpec.upto wheelOnceSpec)

/-- 'shiftbellkeep.WheelSorted', WHERE WHAT IT READS IS OF BULK AT MOST 1048576: true; the input reads as it did. -/
def wheelSortedUptoRow : OpenClaim := { program := "ytkpkbbapaamflaa", sum := "49796f7f7091274d13f1866e8342193bb973da65efa036b0db67698c29e6b745", func := "shiftbell/shiftbellkeep.WheelSorted", spec := "wheelSorted", unfollowed := true, recurses := true, apart := false, narrowed := true }
def WheelSortedUptoSaid : Prop := wheelSortedUptoRow.holds Try.pinned (OpenSpec.upto wheelSortedSpec)

/-- 'shiftbellkeep.WheelPieces', WHERE WHAT IT READS IS OF BULK AT MOST 1048576: true; the input reads as it did. -/
def wheelPiecesUptoRow : OpenClaim := { program := "ytkpkbbapaamflaa", sum := "49796f7f7091274d13f1866e8342193bb973da65efa036b0db67698c29e6b745", func := "shiftbell/shiftbellkeep.WheelPieces", spec := "wheelPieces", unfollowed := true, recurses := true, apart := false, narrowed := true }
def WheelPiecesUptoSaid : Prop := wheelPiecesUptoRow.holds Try.pinned (OpenSpec.upto wheelPiecesSpec)

end Rows
end Go.Proofs.Ytkpkbbapaamflaa
