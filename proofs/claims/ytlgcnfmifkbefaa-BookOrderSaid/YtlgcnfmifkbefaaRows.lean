/-
  No cell of these rows narrows 'for every input' (looked for: loops, veiled, ifaces, maps, wideKeys, modest, calm, conditions, laid).
  DERIVED. THE GIVEN ROWS OF THIS SEAT. 5 by the template 'for every input the law returns true; each argument reads behind the call as it read before'; 0 by the template 'total and deterministic' (their statements: YtlgcnfmifkbefaaTotals.lean).
  GIVEN WITH THE SEED: the statements are not yours to turn. If you find one false, say at which input.
  Laid BY PROGRAM, IN A SANDBOX (cutbox-rows.mjs): the forced cells as the released guide's own fill.sh prints them over the translation 1944f868c2bfefd3… (all of the seat's roots in one cut). By AI agents, Wed Nov 11 2026. No macro, syntax, notation, axiom, sorry.
-/
import Derived.Test.YtlgcnfmifkbefaaChecked
import GoSem.Claim
import GoSem.ClaimJoined
import GoSem.ClaimMapViews
import Derived.JoinedTies
import Derived.KernelRfl
namespace Go.Proofs.Ytlgcnfmifkbefaa
/- THE CELL 'sum', in the pinned program and in every row, IS THE sha256 OF THE DUMP (.gsa) THAT YtlgcnfmifkbefaaProg.lean LOADS. Nothing in Lean hashes anything: it is a label: what it is worth is what the hold of that sum in a sandbox is worth. -/
noncomputable def Try.pinned : Pinned := { name := "ytlgcnfmifkbefaa", sum := "1944f868c2bfefd380f321dbeccf63b48313ee53b3d723cdc30befe4e669f206", checked := Try.checked }
namespace Rows
def none {H : Type} : Left H := { results := [], args := [] }

/-- 'shiftbellkeep.BookGaps': WHATEVER THE INPUT: true; the input reads as it did. -/
def bookGapsSpec : ChangeSpec := { name := "bookGaps", fn := fun _ => fun
  | [d1, d2, d3, d4] => { results := [.lit (.bool true)], args := [d1, d2, d3, d4] }
  | _ => none }
def bookGapsRow : OpenClaim := { program := "ytlgcnfmifkbefaa", sum := "1944f868c2bfefd380f321dbeccf63b48313ee53b3d723cdc30befe4e669f206", func := "shiftbell/shiftbellkeep.BookGaps", spec := "bookGaps", unfollowed := true, recurses := true, apart := false }
def BookGapsSaid : Prop := bookGapsRow.holds Try.pinned (OpenSpec.ofChange bookGapsSpec)

/-- ITS FALSE NEIGHBOUR: 'it returns false'. Refute it at one input. -/
def bookGapsWrong : ChangeSpec := { name := "bookGaps", fn := fun _ => fun
  | [d1, d2, d3, d4] => { results := [.lit (.bool false)], args := [d1, d2, d3, d4] }
  | _ => none }
def BookGapsWrongFalsely : Prop := bookGapsRow.holds Try.pinned (OpenSpec.ofChange bookGapsWrong)

/-- 'shiftbellkeep.BookLess': WHATEVER THE INPUT: true; the input reads as it did. -/
def bookLessSpec : ChangeSpec := { name := "bookLess", fn := fun _ => fun
  | [d1, d2, d3, d4, d5, d6, d7, d8] => { results := [.lit (.bool true)], args := [d1, d2, d3, d4, d5, d6, d7, d8] }
  | _ => none }
def bookLessRow : OpenClaim := { program := "ytlgcnfmifkbefaa", sum := "1944f868c2bfefd380f321dbeccf63b48313ee53b3d723cdc30befe4e669f206", func := "shiftbell/shiftbellkeep.BookLess", spec := "bookLess", unfollowed := true, recurses := true, apart := false }
def BookLessSaid : Prop := bookLessRow.holds Try.pinned (OpenSpec.ofChange bookLessSpec)

/-- ITS FALSE NEIGHBOUR: 'it returns false'. Refute it at one input. -/
def bookLessWrong : ChangeSpec := { name := "bookLess", fn := fun _ => fun
  | [d1, d2, d3, d4, d5, d6, d7, d8] => { results := [.lit (.bool false)], args := [d1, d2, d3, d4, d5, d6, d7, d8] }
  | _ => none }
def BookLessWrongFalsely : Prop := bookLessRow.holds Try.pinned (OpenSpec.ofChange bookLessWrong)

/-- 'shiftbellkeep.BookPut': WHATEVER THE INPUT: true; the input reads as it did. -/
def bookPutSpec : ChangeSpec := { name := "bookPut", fn := fun _ => fun
  | [d1, d2, d3, d4] => { results := [.lit (.bool true)], args := [d1, d2, d3, d4] }
  | _ => none }
def bookPutRow : OpenClaim := { program := "ytlgcnfmifkbefaa", sum := "1944f868c2bfefd380f321dbeccf63b48313ee53b3d723cdc30befe4e669f206", func := "shiftbell/shiftbellkeep.BookPut", spec := "bookPut", unfollowed := true, recurses := true, apart := false }
def BookPutSaid : Prop := bookPutRow.holds Try.pinned (OpenSpec.ofChange bookPutSpec)

/-- ITS FALSE NEIGHBOUR: 'it returns false'. Refute it at one input. -/
def bookPutWrong : ChangeSpec := { name := "bookPut", fn := fun _ => fun
  | [d1, d2, d3, d4] => { results := [.lit (.bool false)], args := [d1, d2, d3, d4] }
  | _ => none }
def BookPutWrongFalsely : Prop := bookPutRow.holds Try.pinned (OpenSpec.ofChange bookPutWrong)

/-- 'shiftbellkeep.BookFind': WHATEVER THE INPUT: true; the input reads as it did. -/
def bookFindSpec : ChangeSpec := { name := "bookFind", fn := fun _ => fun
  | [d1, d2, d3, d4, d5, d6] => { results := [.lit (.bool true)], args := [d1, d2, d3, d4, d5, d6] }
  | _ => none }
def bookFindRow : OpenClaim := { program := "ytlgcnfmifkbefaa", sum := "1944f868c2bfefd380f321dbeccf63b48313ee53b3d723cdc30befe4e669f206", func := "shiftbell/shiftbellkeep.BookFind", spec := "bookFind", unfollowed := true, recurses := true, apart := false }
def BookFindSaid : Prop := bookFindRow.holds Try.pinned (OpenSpec.ofChange bookFindSpec)

/-- ITS FALSE NEIGHBOUR: 'it returns false'. Refute it at one input. -/
def bookFindWrong : ChangeSpec := { name := "bookFind", fn := fun _ => fun
  | [d1, d2, d3, d4, d5, d6] => { results := [.lit (.bool false)], args := [d1, d2, d3, d4, d5, d6] }
  | _ => none }
def BookFindWrongFalsely : Prop := bookFindRow.holds Try.pinned (OpenSpec.ofChange bookFindWrong)

/-- 'shiftbellkeep.BookOrder': WHATEVER THE INPUT: true; the input reads as it did. -/
def bookOrderSpec : ChangeSpec := { name := "bookOrder", fn := fun _ => fun
  | [d1, d2, d3, d4, d5, d6] => { results := [.lit (.bool true)], args := [d1, d2, d3, d4, d5, d6] }
  | _ => none }
def bookOrderRow : OpenClaim := { program := "ytlgcnfmifkbefaa", sum := "1944f868c2bfefd380f321dbeccf63b48313ee53b3d723cdc30befe4e669f206", func := "shiftbell/shiftbellkeep.BookOrder", spec := "bookOrder", unfollowed := true, recurses := true, apart := false }
def BookOrderSaid : Prop := bookOrderRow.holds Try.pinned (OpenSpec.ofChange bookOrderSpec)

/-- ITS FALSE NEIGHBOUR: 'it returns false'. Refute it at one input. -/
def bookOrderWrong : ChangeSpec := { name := "bookOrder", fn := fun _ => fun
  | [d1, d2, d3, d4, d5, d6] => { results := [.lit (.bool false)], args := [d1, d2, d3, d4, d5, d6] }
  | _ => none }
def BookOrderWrongFalsely : Prop := bookOrderRow.holds Try.pinned (OpenSpec.ofChange bookOrderWrong)

/- THE SECOND FORM. 'bulk': how many values and letters a reading holds, each counted each time it is reached (what is shared counts as often as it is met; a slice's spare places count too). A statement '..UptoSaid' is the law's where the arguments, and the package variables that the reading takes, are together of bulk at most 1048576: NARROWER than '..Said'. Prove '..Said' where nothing that the law and all that it calls make is longer than what came in: it says more and counts as full. Else prove '..UptoSaid'. A law counts once. -/
mutual
def uptoBulk {H : Type} : DataW H → Nat
  | .lit (.string bytes) => bytes.length + 1
  | .lit _ => 1
  | .nil => 1
  | .ptr d => uptoBulk d + 1
  | .slice elems spare => uptoBulkAll elems + uptoBulkAll spare + 1
  | .agg parts => uptoBulkAll parts + 1
  | .iface _ d => uptoBulk d + 1
  | .map entries => uptoBulkEntries entries + 1
  | .held _ => 1
def uptoBulkAll {H : Type} : List (DataW H) → Nat
  | [] => 0
  | d :: r => uptoBulk d + uptoBulkAll r
def uptoBulkEntries {H : Type} : List (Lit × DataW H) → Nat
  | [] => 0
  | x :: r => uptoBulkEntry x + uptoBulkEntries r
def uptoBulkEntry {H : Type} : Lit × DataW H → Nat
  | (.string bytes, d) => bytes.length + uptoBulk d + 1
  | (_, d) => uptoBulk d + 1
 end
def uptoSmall : (H : Type) → List (DataW H) → Bool := fun _ ds => decide (uptoBulkAll ds ≤ 1048576)
def OpenSpec.upto (s : _root_.Go.ChangeSpec) : _root_.Go.OpenSpec := { _root_.Go.OpenSpec.ofChange s with cond := some uptoSmall }

/-- 'shiftbellkeep.BookGaps', WHERE WHAT IT READS IS OF BULK AT MOST 1048576: true; the input reads as it did. -/
def bookGapsUptoRow : OpenClaim := { program := "ytlgcnfmifkbefaa", sum := "1944f868c2bfefd380f321dbeccf63b48313ee53b3d723cdc30befe4e669f206", func := "shiftbell/shiftbellkeep.BookGaps", spec := "bookGaps", unfollowed := true, recurses := true, apart := false, narrowed := true }
def BookGapsUptoSaid : Prop := bookGapsUptoRow.holds Try.pinned (OpenSpec.upto bookGapsSpec)

/-- 'shiftbellkeep.BookLess', WHERE WHAT IT READS IS OF BULK AT MOST 1048576: true; the input reads as it did. -/
def bookLessUptoRow : OpenClaim := { program := "ytlgcnfmifkbefaa", sum := "1944f868c2bfefd380f321dbeccf63b48313ee53b3d723cdc30befe4e669f206", func := "shiftbell/shiftbellkeep.BookLess", spec := "bookLess", unfollowed := true, recurses := true, apart := false, narrowed := true }
def BookLessUptoSaid : Prop := bookLessUptoRow.holds Try.pinned (OpenSpec.upto bookLessSpec)

/-- 'shiftbellkeep.BookPut', WHERE WHAT IT READS IS OF BULK AT MOST 1048576: true; the input reads as it did. -/
def bookPutUptoRow : OpenClaim := { program := "ytlgcnfmifkbefaa", sum := "1944f868c2bfefd380f321dbeccf63b48313ee53b3d723cdc30befe4e669f206", func := "shiftbell/shiftbellkeep.BookPut", spec := "bookPut", unfollowed := true, recurses := true, apart := false, narrowed := true }
def BookPutUptoSaid : Prop := bookPutUptoRow.holds Try.pinned (OpenSpec.upto bookPutSpec)

/-- 'shiftbellkeep.BookFind', WHERE WHAT IT READS IS OF BULK AT MOST 1048576: true; the input reads as it did. -/
def bookFindUptoRow : OpenClaim := { program := "ytlgcnfmifkbefaa", sum := "1944f868c2bfefd380f321dbeccf63b48313ee53b3d723cdc30befe4e669f206", func := "shiftbell/shiftbellkeep.BookFind", spec := "bookFind", unfollowed := true, recurses := true, apart := false, narrowed := true }
def BookFindUptoSaid : Prop := bookFindUptoRow.holds Try.pinned (OpenSpec.upto bookFindSpec)

/-- 'shiftbellkeep.BookOrder', WHERE WHAT IT READS IS OF BULK AT MOST 1048576: true; the input reads as it did. -/
def bookOrderUptoRow : OpenClaim := { program := "ytlgcnfmifkbefaa", sum := "1944f868c2bfefd380f321dbeccf63b48313ee53b3d723cdc30befe4e669f206", func := "shiftbell/shiftbellkeep.BookOrder", spec := "bookOrder", unfollowed := true, recurses := true, apart := false, narrowed := true }
def BookOrderUptoSaid : Prop := bookOrderUptoRow.holds Try.pinned (OpenSpec.upto bookOrderSpec)

end Rows
end Go.Proofs.Ytlgcnfmifkbefaa
