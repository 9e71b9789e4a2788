/-
  No cell of these rows narrows 'for every input' (looked for: loops, veiled, ifaces, maps, wideKeys, modest, calm, conditions, laid).
  DERIVED. THE GIVEN ROWS OF THIS SEAT. 3 by the template 'for every input the law returns true; each argument reads behind the call as it read before'; 0 by the template 'total and deterministic' (their statements: YtjeboeahhhhbdaaTotals.lean).
  GIVEN WITH THE SEED: the statements are not yours to turn. If you find one false, say at which input.
  Laid BY PROGRAM, IN A SANDBOX (cutbox-rows.mjs): the forced cells as the released guide's own fill.sh prints them over the translation e85f2bc4bb8158a8… (all of the seat's roots in one cut). By AI agents, Wed Nov 11 2026. No macro, syntax, notation, axiom, sorry.
-/
import Derived.Test.YtjeboeahhhhbdaaChecked
import GoSem.Claim
import GoSem.ClaimJoined
import GoSem.ClaimMapViews
import Derived.JoinedTies
import Derived.KernelRfl
namespace Go.Proofs.Ytjeboeahhhhbdaa
/- THE CELL 'sum', in the pinned program and in every row, IS THE sha256 OF THE DUMP (.gsa) THAT YtjeboeahhhhbdaaProg.lean LOADS. Nothing in Lean hashes anything: it is a label: what it is worth is what the hold of that sum in a sandbox is worth. -/
noncomputable def Try.pinned : Pinned := { name := "ytjeboeahhhhbdaa", sum := "e85f2bc4bb8158a83d06932ef8706709f4ca9011534d41355d44114dba493c42", checked := Try.checked }
namespace Rows
def none {H : Type} : Left H := { results := [], args := [] }

/-- 'shiftbellkeep.TmplNames': WHATEVER THE INPUT: true; the input reads as it did. -/
def tmplNamesSpec : ChangeSpec := { name := "tmplNames", fn := fun _ => fun
  | [d] => { results := [.lit (.bool true)], args := [d] }
  | _ => none }
def tmplNamesRow : OpenClaim := { program := "ytjeboeahhhhbdaa", sum := "e85f2bc4bb8158a83d06932ef8706709f4ca9011534d41355d44114dba493c42", func := "shiftbell/shiftbellkeep.TmplNames", spec := "tmplNames", inPlace := ["internal/bytealg.IndexByteString", "internal/bytealg.IndexString", "internal/abi.NoEscape"], unfollowed := true, recurses := true, named := ["internal/bytealg.MaxLen"], apart := false }
def TmplNamesSaid : Prop := tmplNamesRow.holds Try.pinned (OpenSpec.ofChange tmplNamesSpec)

/-- ITS FALSE NEIGHBOUR: 'it returns false'. Refute it at one input. -/
def tmplNamesWrong : ChangeSpec := { name := "tmplNames", fn := fun _ => fun
  | [d] => { results := [.lit (.bool false)], args := [d] }
  | _ => none }
def TmplNamesWrongFalsely : Prop := tmplNamesRow.holds Try.pinned (OpenSpec.ofChange tmplNamesWrong)

/-- 'shiftbellkeep.TmplValues': WHATEVER THE INPUT: true; the input reads as it did. -/
def tmplValuesSpec : ChangeSpec := { name := "tmplValues", fn := fun _ => fun
  | [d1, d2] => { results := [.lit (.bool true)], args := [d1, d2] }
  | _ => none }
def tmplValuesRow : OpenClaim := { program := "ytjeboeahhhhbdaa", sum := "e85f2bc4bb8158a83d06932ef8706709f4ca9011534d41355d44114dba493c42", func := "shiftbell/shiftbellkeep.TmplValues", spec := "tmplValues", inPlace := ["internal/bytealg.IndexByteString", "internal/bytealg.IndexString", "internal/abi.NoEscape"], unfollowed := true, recurses := true, named := ["internal/bytealg.MaxLen"], apart := false }
def TmplValuesSaid : Prop := tmplValuesRow.holds Try.pinned (OpenSpec.ofChange tmplValuesSpec)

/-- ITS FALSE NEIGHBOUR: 'it returns false'. Refute it at one input. -/
def tmplValuesWrong : ChangeSpec := { name := "tmplValues", fn := fun _ => fun
  | [d1, d2] => { results := [.lit (.bool false)], args := [d1, d2] }
  | _ => none }
def TmplValuesWrongFalsely : Prop := tmplValuesRow.holds Try.pinned (OpenSpec.ofChange tmplValuesWrong)

/-- 'shiftbellkeep.TmplJoin': WHATEVER THE INPUT: true; the input reads as it did. -/
def tmplJoinSpec : ChangeSpec := { name := "tmplJoin", fn := fun _ => fun
  | [d1, d2, d3] => { results := [.lit (.bool true)], args := [d1, d2, d3] }
  | _ => none }
def tmplJoinRow : OpenClaim := { program := "ytjeboeahhhhbdaa", sum := "e85f2bc4bb8158a83d06932ef8706709f4ca9011534d41355d44114dba493c42", func := "shiftbell/shiftbellkeep.TmplJoin", spec := "tmplJoin", inPlace := ["internal/bytealg.IndexByteString", "internal/bytealg.IndexString", "internal/abi.NoEscape"], unfollowed := true, recurses := true, named := ["internal/bytealg.MaxLen"], apart := false }
def TmplJoinSaid : Prop := tmplJoinRow.holds Try.pinned (OpenSpec.ofChange tmplJoinSpec)

/-- ITS FALSE NEIGHBOUR: 'it returns false'. Refute it at one input. -/
def tmplJoinWrong : ChangeSpec := { name := "tmplJoin", fn := fun _ => fun
  | [d1, d2, d3] => { results := [.lit (.bool false)], args := [d1, d2, d3] }
  | _ => none }
def TmplJoinWrongFalsely : Prop := tmplJoinRow.holds Try.pinned (OpenSpec.ofChange tmplJoinWrong)

/- THE SECOND FORM. 'bulk': how many values and letters a reading holds, each counted each time it is reached (what is shared counts as often as it is met; a slice's spare places count too). A statement '..UptoSaid' is the law's where the arguments, and the package variables that the reading takes, are together of bulk at most 1048576: NARROWER than '..Said'. Prove '..Said' where nothing that the law and all that it calls make is longer than what came in: it says more and counts as full. Else prove '..UptoSaid'. A law counts once. -/
mutual
def uptoBulk {H : Type} : DataW H → Nat
  | .lit (.string bytes) => bytes.length + 1
  | .lit _ => 1
  | .nil => 1
  | .ptr d => uptoBulk d + 1
  | .slice elems spare => uptoBulkAll elems + uptoBulkAll spare + 1
  | .agg parts => uptoBulkAll parts + 1
  | .iface _ d => uptoBulk d + 1
  | .map entries => uptoBulkEntries entries + 1
  | .held _ => 1
def uptoBulkAll {H : Type} : List (DataW H) → Nat
  | [] => 0
  | d :: r => uptoBulk d + uptoBulkAll r
def uptoBulkEntries {H : Type} : List (Lit × DataW H) → Nat
  | [] => 0
  | x :: r => uptoBulkEntry x + uptoBulkEntries r
def uptoBulkEntry {H : Type} : Lit × DataW H → Nat
  | (.string bytes, d) => bytes.length + uptoBulk d + 1
  | (_, d) => uptoBulk d + 1
 end
def uptoSmall : (H : Type) → List (DataW H) → Bool := fun _ ds => decide (uptoBulkAll ds ≤ 1048576)
def OpenSpec.upto (s : _root_.Go.ChangeSpec) : _root_.Go.OpenSpec := { _root_.Go.OpenSpec.ofChange s with cond := some uptoSmall }

/-- 'shiftbellkeep.TmplNames', WHERE WHAT IT READS IS OF BULK AT MOST 1048576: true; the input reads as it did. -/
def tmplNamesUptoRow : OpenClaim := { program := "ytjeboeahhhhbdaa", sum := "e85f2bc4bb8158a83d06932ef8706709f4ca9011534d41355d44114dba493c42", func := "shiftbell/shiftbellkeep.TmplNames", spec := "tmplNames", inPlace := ["internal/bytealg.IndexByteString", "internal/bytealg.IndexString", "internal/abi.NoEscape"], unfollowed := true, recurses := true, named := ["internal/bytealg.MaxLen"], apart := false, narrowed := true }
def TmplNamesUptoSaid : Prop := tmplNamesUptoRow.holds Try.pinned (OpenSpec.upto tmplNamesSpec)

/-- 'shiftbellkeep.TmplValues', WHERE WHAT IT READS IS OF BULK AT MOST 1048576: true; the input reads as it did. -/
def tmplValuesUptoRow : OpenClaim := { program := "ytjeboeahhhhbdaa", sum := "e85f2bc4bb8158a83d06932ef8706709f4ca9011534d41355d44114dba493c42", func := "shiftbell/shiftbellkeep.TmplValues", spec := "tmplValues", inPlace := ["internal/bytealg.IndexByteString", "internal/bytealg.IndexString", "internal/abi.NoEscape"], unfollowed := true, recurses := true, named := ["internal/bytealg.MaxLen"], apart := false, narrowed := true }
def TmplValuesUptoSaid : Prop := tmplValuesUptoRow.holds Try.pinned (OpenSpec.upto tmplValuesSpec)

/-- 'shiftbellkeep.TmplJoin', WHERE WHAT IT READS IS OF BULK AT MOST 1048576: true; the input reads as it did. -/
def tmplJoinUptoRow : OpenClaim := { program := "ytjeboeahhhhbdaa", sum := "e85f2bc4bb8158a83d06932ef8706709f4ca9011534d41355d44114dba493c42", func := "shiftbell/shiftbellkeep.TmplJoin", spec := "tmplJoin", inPlace := ["internal/bytealg.IndexByteString", "internal/bytealg.IndexString", "internal/abi.NoEscape"], unfollowed := true, recurses := true, named := ["internal/bytealg.MaxLen"], apart := false, narrowed := true }
def TmplJoinUptoSaid : Prop := tmplJoinUptoRow.holds Try.pinned (OpenSpec.upto tmplJoinSpec)

end Rows
end Go.Proofs.Ytjeboeahhhhbdaa
