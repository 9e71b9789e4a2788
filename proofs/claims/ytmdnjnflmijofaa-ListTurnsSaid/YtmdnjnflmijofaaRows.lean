/-
  No cell of these rows narrows 'for every input' (looked for: loops, veiled, ifaces, maps, wideKeys, modest, calm, conditions, laid).
  DERIVED. THE GIVEN ROWS OF THIS SEAT. 9 by the template 'for every input the law returns true; each argument reads behind the call as it read before'; 0 by the template 'total and deterministic' (their statements: YtmdnjnflmijofaaTotals.lean).
  GIVEN WITH THE SEED: the statements are not yours to turn. If you find one false, say at which input.
  Laid BY PROGRAM, IN A SANDBOX (cutbox-rows.mjs): the forced cells as the released guide's own fill.sh prints them over the translation 7243ce99c57cbec2… (all of the seat's roots in one cut). By AI agents, Wed Nov 11 2026. No macro, syntax, notation, axiom, sorry.
-/
import Derived.Test.YtmdnjnflmijofaaChecked
import GoSem.Claim
import GoSem.ClaimJoined
import GoSem.ClaimMapViews
import Derived.JoinedTies
import Derived.KernelRfl
namespace Go.Proofs.Ytmdnjnflmijofaa
/- THE CELL 'sum', in the pinned program and in every row, IS THE sha256 OF THE DUMP (.gsa) THAT YtmdnjnflmijofaaProg.lean LOADS. Nothing in Lean hashes anything: it is a label: what it is worth is what the hold of that sum in a sandbox is worth. -/
noncomputable def Try.pinned : Pinned := { name := "ytmdnjnflmijofaa", sum := "7243ce99c57cbec2ae0da3c1a31528f53cf5428df0f4e01b16543d2d48065b67", checked := Try.checked }
namespace Rows
def none {H : Type} : Left H := { results := [], args := [] }

/-- 'shiftbellkeep.ListGraham': WHATEVER THE INPUT: true; the input reads as it did. -/
def listGrahamSpec : ChangeSpec := { name := "listGraham", fn := fun _ => fun
  | [d1, d2] => { results := [.lit (.bool true)], args := [d1, d2] }
  | _ => none }
def listGrahamRow : OpenClaim := { program := "ytmdnjnflmijofaa", sum := "7243ce99c57cbec2ae0da3c1a31528f53cf5428df0f4e01b16543d2d48065b67", func := "shiftbell/shiftbellkeep.ListGraham", spec := "listGraham", apart := false }
def ListGrahamSaid : Prop := listGrahamRow.holds Try.pinned (OpenSpec.ofChange listGrahamSpec)

/-- ITS FALSE NEIGHBOUR: 'it returns false'. Refute it at one input. -/
def listGrahamWrong : ChangeSpec := { name := "listGraham", fn := fun _ => fun
  | [d1, d2] => { results := [.lit (.bool false)], args := [d1, d2] }
  | _ => none }
def ListGrahamWrongFalsely : Prop := listGrahamRow.holds Try.pinned (OpenSpec.ofChange listGrahamWrong)

/-- 'shiftbellkeep.PackLeast': WHATEVER THE INPUT: true; the input reads as it did. -/
def packLeastSpec : ChangeSpec := { name := "packLeast", fn := fun _ => fun
  | [d1, d2, d3] => { results := [.lit (.bool true)], args := [d1, d2, d3] }
  | _ => none }
def packLeastRow : OpenClaim := { program := "ytmdnjnflmijofaa", sum := "7243ce99c57cbec2ae0da3c1a31528f53cf5428df0f4e01b16543d2d48065b67", func := "shiftbell/shiftbellkeep.PackLeast", spec := "packLeast", recurses := true, apart := false }
def PackLeastSaid : Prop := packLeastRow.holds Try.pinned (OpenSpec.ofChange packLeastSpec)

/-- ITS FALSE NEIGHBOUR: 'it returns false'. Refute it at one input. -/
def packLeastWrong : ChangeSpec := { name := "packLeast", fn := fun _ => fun
  | [d1, d2, d3] => { results := [.lit (.bool false)], args := [d1, d2, d3] }
  | _ => none }
def PackLeastWrongFalsely : Prop := packLeastRow.holds Try.pinned (OpenSpec.ofChange packLeastWrong)

/-- 'shiftbellkeep.ListGraph': WHATEVER THE INPUT: true; the input reads as it did. -/
def listGraphSpec : ChangeSpec := { name := "listGraph", fn := fun _ => fun
  | [d1, d2, d3, d4] => { results := [.lit (.bool true)], args := [d1, d2, d3, d4] }
  | _ => none }
def listGraphRow : OpenClaim := { program := "ytmdnjnflmijofaa", sum := "7243ce99c57cbec2ae0da3c1a31528f53cf5428df0f4e01b16543d2d48065b67", func := "shiftbell/shiftbellkeep.ListGraph", spec := "listGraph", unfollowed := true, recurses := true, apart := false }
def ListGraphSaid : Prop := listGraphRow.holds Try.pinned (OpenSpec.ofChange listGraphSpec)

/-- ITS FALSE NEIGHBOUR: 'it returns false'. Refute it at one input. -/
def listGraphWrong : ChangeSpec := { name := "listGraph", fn := fun _ => fun
  | [d1, d2, d3, d4] => { results := [.lit (.bool false)], args := [d1, d2, d3, d4] }
  | _ => none }
def ListGraphWrongFalsely : Prop := listGraphRow.holds Try.pinned (OpenSpec.ofChange listGraphWrong)

/-- 'shiftbellkeep.ListTurns': WHATEVER THE INPUT: true; the input reads as it did. -/
def listTurnsSpec : ChangeSpec := { name := "listTurns", fn := fun _ => fun
  | [d1, d2, d3, d4] => { results := [.lit (.bool true)], args := [d1, d2, d3, d4] }
  | _ => none }
def listTurnsRow : OpenClaim := { program := "ytmdnjnflmijofaa", sum := "7243ce99c57cbec2ae0da3c1a31528f53cf5428df0f4e01b16543d2d48065b67", func := "shiftbell/shiftbellkeep.ListTurns", spec := "listTurns", unfollowed := true, recurses := true, apart := false }
def ListTurnsSaid : Prop := listTurnsRow.holds Try.pinned (OpenSpec.ofChange listTurnsSpec)

/-- ITS FALSE NEIGHBOUR: 'it returns false'. Refute it at one input. -/
def listTurnsWrong : ChangeSpec := { name := "listTurns", fn := fun _ => fun
  | [d1, d2, d3, d4] => { results := [.lit (.bool false)], args := [d1, d2, d3, d4] }
  | _ => none }
def ListTurnsWrongFalsely : Prop := listTurnsRow.holds Try.pinned (OpenSpec.ofChange listTurnsWrong)

/-- 'shiftbellkeep.PackHalf': WHATEVER THE INPUT: true; the input reads as it did. -/
def packHalfSpec : ChangeSpec := { name := "packHalf", fn := fun _ => fun
  | [d1, d2] => { results := [.lit (.bool true)], args := [d1, d2] }
  | _ => none }
def packHalfRow : OpenClaim := { program := "ytmdnjnflmijofaa", sum := "7243ce99c57cbec2ae0da3c1a31528f53cf5428df0f4e01b16543d2d48065b67", func := "shiftbell/shiftbellkeep.PackHalf", spec := "packHalf", unfollowed := true, recurses := true, apart := false }
def PackHalfSaid : Prop := packHalfRow.holds Try.pinned (OpenSpec.ofChange packHalfSpec)

/-- ITS FALSE NEIGHBOUR: 'it returns false'. Refute it at one input. -/
def packHalfWrong : ChangeSpec := { name := "packHalf", fn := fun _ => fun
  | [d1, d2] => { results := [.lit (.bool false)], args := [d1, d2] }
  | _ => none }
def PackHalfWrongFalsely : Prop := packHalfRow.holds Try.pinned (OpenSpec.ofChange packHalfWrong)

/-- 'shiftbellkeep.PackFits': WHATEVER THE INPUT: true; the input reads as it did. -/
def packFitsSpec : ChangeSpec := { name := "packFits", fn := fun _ => fun
  | [d1, d2] => { results := [.lit (.bool true)], args := [d1, d2] }
  | _ => none }
def packFitsRow : OpenClaim := { program := "ytmdnjnflmijofaa", sum := "7243ce99c57cbec2ae0da3c1a31528f53cf5428df0f4e01b16543d2d48065b67", func := "shiftbell/shiftbellkeep.PackFits", spec := "packFits", unfollowed := true, recurses := true, apart := false }
def PackFitsSaid : Prop := packFitsRow.holds Try.pinned (OpenSpec.ofChange packFitsSpec)

/-- ITS FALSE NEIGHBOUR: 'it returns false'. Refute it at one input. -/
def packFitsWrong : ChangeSpec := { name := "packFits", fn := fun _ => fun
  | [d1, d2] => { results := [.lit (.bool false)], args := [d1, d2] }
  | _ => none }
def PackFitsWrongFalsely : Prop := packFitsRow.holds Try.pinned (OpenSpec.ofChange packFitsWrong)

/-- 'shiftbellkeep.PackDown': WHATEVER THE INPUT: true; the input reads as it did. -/
def packDownSpec : ChangeSpec := { name := "packDown", fn := fun _ => fun
  | [d1, d2] => { results := [.lit (.bool true)], args := [d1, d2] }
  | _ => none }
def packDownRow : OpenClaim := { program := "ytmdnjnflmijofaa", sum := "7243ce99c57cbec2ae0da3c1a31528f53cf5428df0f4e01b16543d2d48065b67", func := "shiftbell/shiftbellkeep.PackDown", spec := "packDown", unfollowed := true, recurses := true, apart := false }
def PackDownSaid : Prop := packDownRow.holds Try.pinned (OpenSpec.ofChange packDownSpec)

/-- ITS FALSE NEIGHBOUR: 'it returns false'. Refute it at one input. -/
def packDownWrong : ChangeSpec := { name := "packDown", fn := fun _ => fun
  | [d1, d2] => { results := [.lit (.bool false)], args := [d1, d2] }
  | _ => none }
def PackDownWrongFalsely : Prop := packDownRow.holds Try.pinned (OpenSpec.ofChange packDownWrong)

/-- 'shiftbellkeep.ListLong': WHATEVER THE INPUT: true; the input reads as it did. -/
def listLongSpec : ChangeSpec := { name := "listLong", fn := fun _ => fun
  | [d1, d2] => { results := [.lit (.bool true)], args := [d1, d2] }
  | _ => none }
def listLongRow : OpenClaim := { program := "ytmdnjnflmijofaa", sum := "7243ce99c57cbec2ae0da3c1a31528f53cf5428df0f4e01b16543d2d48065b67", func := "shiftbell/shiftbellkeep.ListLong", spec := "listLong", unfollowed := true, recurses := true, apart := false }
def ListLongSaid : Prop := listLongRow.holds Try.pinned (OpenSpec.ofChange listLongSpec)

/-- ITS FALSE NEIGHBOUR: 'it returns false'. Refute it at one input. -/
def listLongWrong : ChangeSpec := { name := "listLong", fn := fun _ => fun
  | [d1, d2] => { results := [.lit (.bool false)], args := [d1, d2] }
  | _ => none }
def ListLongWrongFalsely : Prop := listLongRow.holds Try.pinned (OpenSpec.ofChange listLongWrong)

/-- 'shiftbellkeep.ListLeast': WHATEVER THE INPUT: true; the input reads as it did. -/
def listLeastSpec : ChangeSpec := { name := "listLeast", fn := fun _ => fun
  | [d1, d2, d3] => { results := [.lit (.bool true)], args := [d1, d2, d3] }
  | _ => none }
def listLeastRow : OpenClaim := { program := "ytmdnjnflmijofaa", sum := "7243ce99c57cbec2ae0da3c1a31528f53cf5428df0f4e01b16543d2d48065b67", func := "shiftbell/shiftbellkeep.ListLeast", spec := "listLeast", unfollowed := true, recurses := true, apart := false }
def ListLeastSaid : Prop := listLeastRow.holds Try.pinned (OpenSpec.ofChange listLeastSpec)

/-- ITS FALSE NEIGHBOUR: 'it returns false'. Refute it at one input. -/
def listLeastWrong : ChangeSpec := { name := "listLeast", fn := fun _ => fun
  | [d1, d2, d3] => { results := [.lit (.bool false)], args := [d1, d2, d3] }
  | _ => none }
def ListLeastWrongFalsely : Prop := listLeastRow.holds Try.pinned (OpenSpec.ofChange listLeastWrong)

/- THE SECOND FORM. 'bulk': how many values and letters a reading holds, each counted each time it is reached (what is shared counts as often as it is met; a slice's spare places count too). A statement '..UptoSaid' is the law's where the arguments, and the package variables that the reading takes, are together of bulk at most 1048576: NARROWER than '..Said'. Prove '..Said' where nothing that the law and all that it calls make is longer than what came in: it says more and counts as full. Else prove '..UptoSaid'. A law counts once. -/
mutual
def uptoBulk {H : Type} : DataW H → Nat
  | .lit (.string bytes) => bytes.length + 1
  | .lit _ => 1
  | .nil => 1
  | .ptr d => uptoBulk d + 1
  | .slice elems spare => uptoBulkAll elems + uptoBulkAll spare + 1
  | .agg parts => uptoBulkAll parts + 1
  | .iface _ d => uptoBulk d + 1
  | .map entries => uptoBulkEntries entries + 1
  | .held _ => 1
def uptoBulkAll {H : Type} : List (DataW H) → Nat
  | [] => 0
  | d :: r => uptoBulk d + uptoBulkAll r
def uptoBulkEntries {H : Type} : List (Lit × DataW H) → Nat
  | [] => 0
  | x :: r => uptoBulkEntry x + uptoBulkEntries r
def uptoBulkEntry {H : Type} : Lit × DataW H → Nat
  | (.string bytes, d) => bytes.length + uptoBulk d + 1
  | (_, d) => uptoBulk d + 1
 end
def uptoSmall : (H : Type) → List (DataW H) → Bool := fun _ ds => decide (uptoBulkAll ds ≤ 1048576)
def OpenSpec.upto (s : _root_.Go.ChangeSpec) : _root_.Go.OpenSpec := { _root_.Go.OpenSpec.ofChange s with cond := some uptoSmall }

/-- 'shiftbellkeep.ListGraham', WHERE WHAT IT READS IS OF BULK AT MOST 1048576: true; the input reads as it did. -/
def listGrahamUptoRow : OpenClaim := { program := "ytmdnjnflmijofaa", sum := "7243ce99c57cbec2ae0da3c1a31528f53cf5428df0f4e01b16543d2d48065b67", func := "shiftbell/shiftbellkeep.ListGraham", spec := "listGraham", apart := false, narrowed := true }
def ListGrahamUptoSaid : Prop := listGrahamUptoRow.holds Try.pinned (OpenSpec.upto listGrahamSpec)

/-- 'shiftbellkeep.PackLeast', WHERE WHAT IT READS IS OF BULK AT MOST 1048576: true; the input reads as it did. -/
def packLeastUptoRow : OpenClaim := { program := "ytmdnjnflmijofaa", sum := "7243ce99c57cbec2ae0da3c1a31528f53cf5428df0f4e01b16543d2d48065b67", func := "shiftbell/shiftbellkeep.PackLeast", spec := "packLeast", recurses := true, apart := false, narrowed := true }
def PackLeastUptoSaid : Prop := packLeastUptoRow.holds Try.pinned (OpenSpec.upto packLeastSpec)

/-- 'shiftbellkeep.ListGraph', WHERE WHAT IT READS IS OF BULK AT MOST 1048576: true; the input reads as it did. -/
def listGraphUptoRow : OpenClaim := { program := "ytmdnjnflmijofaa", sum := "7243ce99c57cbec2ae0da3c1a31528f53cf5428df0f4e01b16543d2d48065b67", func := "shiftbell/shiftbellkeep.ListGraph", spec := "listGraph", unfollowed := true, recurses := true, apart := false, narrowed := true }
def ListGraphUptoSaid : Prop := listGraphUptoRow.holds Try.pinned (OpenSpec.upto listGraphSpec)

/-- 'shiftbellkeep.ListTurns', WHERE WHAT IT READS IS OF BULK AT MOST 1048576: true; the input reads as it did. -/
def listTurnsUptoRow : OpenClaim := { program := "ytmdnjnflmijofaa", sum := "7243ce99c57cbec2ae0da3c1a31528f53cf5428df0f4e01b16543d2d48065b67", func := "shiftbell/shiftbellkeep.ListTurns", spec := "listTurns", unfollowed := true, recurses := true, apart := false, narrowed := true }
def ListTurnsUptoSaid : Prop := listTurnsUptoRow.holds Try.pinned (OpenSpec.upto listTurnsSpec)

/-- 'shiftbellkeep.PackHalf', WHERE WHAT IT READS IS OF BULK AT MOST 1048576: true; the input reads as it did. -/
def packHalfUptoRow : OpenClaim := { program := "ytmdnjnflmijofaa", sum := "7243ce99c57cbec2ae0da3c1a31528f53cf5428df0f4e01b16543d2d48065b67", func := "shiftbell/shiftbellkeep.PackHalf", spec := "packHalf", unfollowed := true, recurses := true, apart := false, narrowed := true }
def PackHalfUptoSaid : Prop := packHalfUptoRow.holds Try.pinned (OpenSpec.upto packHalfSpec)

/-- 'shiftbellkeep.PackFits', WHERE WHAT IT READS IS OF BULK AT MOST 1048576: true; the input reads as it did. -/
def packFitsUptoRow : OpenClaim := { program := "ytmdnjnflmijofaa", sum := "7243ce99c57cbec2ae0da3c1a31528f53cf5428df0f4e01b16543d2d48065b67", func := "shiftbell/shiftbellkeep.PackFits", spec := "packFits", unfollowed := true, recurses := true, apart := false, narrowed := true }
def PackFitsUptoSaid : Prop := packFitsUptoRow.holds Try.pinned (OpenSpec.upto packFitsSpec)

/-- 'shiftbellkeep.PackDown', WHERE WHAT IT READS IS OF BULK AT MOST 1048576: true; the input reads as it did. -/
def packDownUptoRow : OpenClaim := { program := "ytmdnjnflmijofaa", sum := "7243ce99c57cbec2ae0da3c1a31528f53cf5428df0f4e01b16543d2d48065b67", func := "shiftbell/shiftbellkeep.PackDown", spec := "packDown", unfollowed := true, recurses := true, apart := false, narrowed := true }
def PackDownUptoSaid : Prop := packDownUptoRow.holds Try.pinned (OpenSpec.upto packDownSpec)

/-- 'shiftbellkeep.ListLong', WHERE WHAT IT READS IS OF BULK AT MOST 1048576: true; the input reads as it did. -/
def listLongUptoRow : OpenClaim := { program := "ytmdnjnflmijofaa", sum := "7243ce99c57cbec2ae0da3c1a31528f53cf5428df0f4e01b16543d2d48065b67", func := "shiftbell/shiftbellkeep.ListLong", spec := "listLong", unfollowed := true, recurses := true, apart := false, narrowed := true }
def ListLongUptoSaid : Prop := listLongUptoRow.holds Try.pinned (OpenSpec.upto listLongSpec)

/-- 'shiftbellkeep.ListLeast', WHERE WHAT IT READS IS OF BULK AT MOST 1048576: true; the input reads as it did. -/
def listLeastUptoRow : OpenClaim := { program := "ytmdnjnflmijofaa", sum := "7243ce99c57cbec2ae0da3c1a31528f53cf5428df0f4e01b16543d2d48065b67", func := "shiftbell/shiftbellkeep.ListLeast", spec := "listLeast", unfollowed := true, recurses := true, apart := false, narrowed := true }
def ListLeastUptoSaid : Prop := listLeastUptoRow.holds Try.pinned (OpenSpec.upto listLeastSpec)

end Rows
end Go.Proofs.Ytmdnjnflmijofaa
