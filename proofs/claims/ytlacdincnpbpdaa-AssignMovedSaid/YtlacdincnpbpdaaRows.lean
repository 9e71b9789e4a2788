/-
  No cell of these rows narrows 'for every input' (looked for: loops, veiled, ifaces, maps, wideKeys, modest, calm, conditions, laid).
  DERIVED. THE GIVEN ROWS OF THIS SEAT. 4 by the template 'for every input the law returns true; each argument reads behind the call as it read before'; 0 by the template 'total and deterministic' (their statements: YtlacdincnpbpdaaTotals.lean).
  GIVEN WITH THE SEED: the statements are not yours to turn. If you find one false, say at which input.
  Laid BY PROGRAM, IN A SANDBOX (cutbox-rows.mjs): the forced cells as the released guide's own fill.sh prints them over the translation f484245b8a1a7a2e… (all of the seat's roots in one cut). By AI agents, Wed Nov 11 2026. No macro, syntax, notation, axiom, sorry.
-/
import Derived.Test.YtlacdincnpbpdaaChecked
import GoSem.Claim
import GoSem.ClaimJoined
import GoSem.ClaimMapViews
import Derived.JoinedTies
import Derived.KernelRfl
namespace Go.Proofs.Ytlacdincnpbpdaa
/- THE CELL 'sum', in the pinned program and in every row, IS THE sha256 OF THE DUMP (.gsa) THAT YtlacdincnpbpdaaProg.lean LOADS. Nothing in Lean hashes anything: it is a label: what it is worth is what the hold of that sum in a sandbox is worth. -/
noncomputable def Try.pinned : Pinned := { name := "ytlacdincnpbpdaa", sum := "f484245b8a1a7a2ead0dcaffe75e4c10025b32dbb53fce6c18a94a4c9b712ded", checked := Try.checked }
namespace Rows
def none {H : Type} : Left H := { results := [], args := [] }

/-- 'shiftbellkeep.AssignLeast': WHATEVER THE INPUT: true; the input reads as it did. -/
def assignLeastSpec : ChangeSpec := { name := "assignLeast", fn := fun _ => fun
  | [d1, d2] => { results := [.lit (.bool true)], args := [d1, d2] }
  | _ => none }
def assignLeastRow : OpenClaim := { program := "ytlacdincnpbpdaa", sum := "f484245b8a1a7a2ead0dcaffe75e4c10025b32dbb53fce6c18a94a4c9b712ded", func := "shiftbell/shiftbellkeep.AssignLeast", spec := "assignLeast", apart := false }
def AssignLeastSaid : Prop := assignLeastRow.holds Try.pinned (OpenSpec.ofChange assignLeastSpec)

/-- ITS FALSE NEIGHBOUR: 'it returns false'. Refute it at one input. -/
def assignLeastWrong : ChangeSpec := { name := "assignLeast", fn := fun _ => fun
  | [d1, d2] => { results := [.lit (.bool false)], args := [d1, d2] }
  | _ => none }
def AssignLeastWrongFalsely : Prop := assignLeastRow.holds Try.pinned (OpenSpec.ofChange assignLeastWrong)

/-- 'shiftbellkeep.AssignTurned': WHATEVER THE INPUT: true; the input reads as it did. -/
def assignTurnedSpec : ChangeSpec := { name := "assignTurned", fn := fun _ => fun
  | [d] => { results := [.lit (.bool true)], args := [d] }
  | _ => none }
def assignTurnedRow : OpenClaim := { program := "ytlacdincnpbpdaa", sum := "f484245b8a1a7a2ead0dcaffe75e4c10025b32dbb53fce6c18a94a4c9b712ded", func := "shiftbell/shiftbellkeep.AssignTurned", spec := "assignTurned", apart := false }
def AssignTurnedSaid : Prop := assignTurnedRow.holds Try.pinned (OpenSpec.ofChange assignTurnedSpec)

/-- ITS FALSE NEIGHBOUR: 'it returns false'. Refute it at one input. -/
def assignTurnedWrong : ChangeSpec := { name := "assignTurned", fn := fun _ => fun
  | [d] => { results := [.lit (.bool false)], args := [d] }
  | _ => none }
def AssignTurnedWrongFalsely : Prop := assignTurnedRow.holds Try.pinned (OpenSpec.ofChange assignTurnedWrong)

/-- 'shiftbellkeep.AssignPrices': WHATEVER THE INPUT: true; the input reads as it did. -/
def assignPricesSpec : ChangeSpec := { name := "assignPrices", fn := fun _ => fun
  | [d1, d2, d3] => { results := [.lit (.bool true)], args := [d1, d2, d3] }
  | _ => none }
def assignPricesRow : OpenClaim := { program := "ytlacdincnpbpdaa", sum := "f484245b8a1a7a2ead0dcaffe75e4c10025b32dbb53fce6c18a94a4c9b712ded", func := "shiftbell/shiftbellkeep.AssignPrices", spec := "assignPrices", apart := false }
def AssignPricesSaid : Prop := assignPricesRow.holds Try.pinned (OpenSpec.ofChange assignPricesSpec)

/-- ITS FALSE NEIGHBOUR: 'it returns false'. Refute it at one input. -/
def assignPricesWrong : ChangeSpec := { name := "assignPrices", fn := fun _ => fun
  | [d1, d2, d3] => { results := [.lit (.bool false)], args := [d1, d2, d3] }
  | _ => none }
def AssignPricesWrongFalsely : Prop := assignPricesRow.holds Try.pinned (OpenSpec.ofChange assignPricesWrong)

/-- 'shiftbellkeep.AssignMoved': WHATEVER THE INPUT: true; the input reads as it did. -/
def assignMovedSpec : ChangeSpec := { name := "assignMoved", fn := fun _ => fun
  | [d1, d2, d3] => { results := [.lit (.bool true)], args := [d1, d2, d3] }
  | _ => none }
def assignMovedRow : OpenClaim := { program := "ytlacdincnpbpdaa", sum := "f484245b8a1a7a2ead0dcaffe75e4c10025b32dbb53fce6c18a94a4c9b712ded", func := "shiftbell/shiftbellkeep.AssignMoved", spec := "assignMoved", apart := false }
def AssignMovedSaid : Prop := assignMovedRow.holds Try.pinned (OpenSpec.ofChange assignMovedSpec)

/-- ITS FALSE NEIGHBOUR: 'it returns false'. Refute it at one input. -/
def assignMovedWrong : ChangeSpec := { name := "assignMoved", fn := fun _ => fun
  | [d1, d2, d3] => { results := [.lit (.bool false)], args := [d1, d2, d3] }
  | _ => none }
def AssignMovedWrongFalsely : Prop := assignMovedRow.holds Try.pinned (OpenSpec.ofChange assignMovedWrong)

/- THE SECOND FORM. 'bulk': how many values and letters a reading holds, each counted each time it is reached (what is shared counts as often as it is met; a slice's spare places count too). A statement '..UptoSaid' is the law's where the arguments, and the package variables that the reading takes, are together of bulk at most 1048576: NARROWER than '..Said'. Prove '..Said' where nothing that the law and all that it calls make is longer than what came in: it says more and counts as full. Else prove '..UptoSaid'. A law counts once. -/
mutual
def uptoBulk {H : Type} : DataW H → Nat
  | .lit (.string bytes) => bytes.length + 1
  | .lit _ => 1
  | .nil => 1
  | .ptr d => uptoBulk d + 1
  | .slice elems spare => uptoBulkAll elems + uptoBulkAll spare + 1
  | .agg parts => uptoBulkAll parts + 1
  | .iface _ d => uptoBulk d + 1
  | .map entries => uptoBulkEntries entries + 1
  | .held _ => 1
def uptoBulkAll {H : Type} : List (DataW H) → Nat
  | [] => 0
  | d :: r => uptoBulk d + uptoBulkAll r
def uptoBulkEntries {H : Type} : List (Lit × DataW H) → Nat
  | [] => 0
  | x :: r => uptoBulkEntry x + uptoBulkEntries r
def uptoBulkEntry {H : Type} : Lit × DataW H → Nat
  | (.string bytes, d) => bytes.length + uptoBulk d + 1
  | (_, d) => uptoBulk d + 1
 end
def uptoSmall : (H : Type) → List (DataW H) → Bool := fun _ ds => decide (uptoBulkAll ds ≤ 1048576)
def OpenSpec.upto (s : _root_.Go.ChangeSpec) : _root_.Go.OpenSpec := { _root_.Go.OpenSpec.ofChange s with cond := some uptoSmall }

/-- 'shiftbellkeep.AssignLeast', WHERE WHAT IT READS IS OF BULK AT MOST 1048576: true; the input reads as it did. -/
def assignLeastUptoRow : OpenClaim := { program := "ytlacdincnpbpdaa", sum := "f484245b8a1a7a2ead0dcaffe75e4c10025b32dbb53fce6c18a94a4c9b712ded", func := "shiftbell/shiftbellkeep.AssignLeast", spec := "assignLeast", apart := false, narrowed := true }
def AssignLeastUptoSaid : Prop := assignLeastUptoRow.holds Try.pinned (OpenSpec.upto assignLeastSpec)

/-- 'shiftbellkeep.AssignTurned', WHERE WHAT IT READS IS OF BULK AT MOST 1048576: true; the input reads as it did. -/
def assignTurnedUptoRow : OpenClaim := { program := "ytlacdincnpbpdaa", sum := "f484245b8a1a7a2ead0dcaffe75e4c10025b32dbb53fce6c18a94a4c9b712ded", func := "shiftbell/shiftbellkeep.AssignTurned", spec := "assignTurned", apart := false, narrowed := true }
def AssignTurnedUptoSaid : Prop := assignTurnedUptoRow.holds Try.pinned (OpenSpec.upto assignTurnedSpec)

/-- 'shiftbellkeep.AssignPrices', WHERE WHAT IT READS IS OF BULK AT MOST 1048576: true; the input reads as it did. -/
def assignPricesUptoRow : OpenClaim := { program := "ytlacdincnpbpdaa", sum := "f484245b8a1a7a2ead0dcaffe75e4c10025b32dbb53fce6c18a94a4c9b712ded", func := "shiftbell/shiftbellkeep.AssignPrices", spec := "assignPrices", apart := false, narrowed := true }
def AssignPricesUptoSaid : Prop := assignPricesUptoRow.holds Try.pinned (OpenSpec.upto assignPricesSpec)

/-- 'shiftbellkeep.AssignMoved', WHERE WHAT IT READS IS OF BULK AT MOST 1048576: true; the input reads as it did. -/
def assignMovedUptoRow : OpenClaim := { program := "ytlacdincnpbpdaa", sum := "f484245b8a1a7a2ead0dcaffe75e4c10025b32dbb53fce6c18a94a4c9b712ded", func := "shiftbell/shiftbellkeep.AssignMoved", spec := "assignMoved", apart := false, narrowed := true }
def AssignMovedUptoSaid : Prop := assignMovedUptoRow.holds Try.pinned (OpenSpec.upto assignMovedSpec)

end Rows
end Go.Proofs.Ytlacdincnpbpdaa
