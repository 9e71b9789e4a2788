/-
  No cell of these rows narrows 'for every input' (looked for: loops, veiled, ifaces, maps, wideKeys, modest, calm, conditions, laid).
  DERIVED. THE GIVEN ROWS OF THIS SEAT. 4 by the template 'for every input the law returns true; each argument reads behind the call as it read before'; 0 by the template 'total and deterministic' (their statements: YtnclaokllghaoaaTotals.lean).
  GIVEN WITH THE SEED: the statements are not yours to turn. If you find one false, say at which input.
  Laid BY PROGRAM, IN A SANDBOX (cutbox-rows.mjs): the forced cells as the released guide's own fill.sh prints them over the translation 730d685a69409eb9… (all of the seat's roots in one cut). By AI agents, Wed Nov 11 2026. No macro, syntax, notation, axiom, sorry.
-/
import Derived.Test.YtnclaokllghaoaaChecked
import GoSem.Claim
import GoSem.ClaimJoined
import GoSem.ClaimMapViews
import Derived.JoinedTies
import Derived.KernelRfl
namespace Go.Proofs.Ytnclaokllghaoaa
/- THE CELL 'sum', in the pinned program and in every row, IS THE sha256 OF THE DUMP (.gsa) THAT YtnclaokllghaoaaProg.lean LOADS. Nothing in Lean hashes anything: it is a label: what it is worth is what the hold of that sum in a sandbox is worth. -/
noncomputable def Try.pinned : Pinned := { name := "ytnclaokllghaoaa", sum := "730d685a69409eb9be41f64688b9bb65fb4babfbfcd55df5faf83a03b6bd5e74", checked := Try.checked }
namespace Rows
def none {H : Type} : Left H := { results := [], args := [] }

/-- 'shiftbellkeep.DueBusy': WHATEVER THE INPUT: true; the input reads as it did. -/
def dueBusySpec : ChangeSpec := { name := "dueBusy", fn := fun _ => fun
  | [d1, d2, d3] => { results := [.lit (.bool true)], args := [d1, d2, d3] }
  | _ => none }
def dueBusyRow : OpenClaim := { program := "ytnclaokllghaoaa", sum := "730d685a69409eb9be41f64688b9bb65fb4babfbfcd55df5faf83a03b6bd5e74", func := "shiftbell/shiftbellkeep.DueBusy", spec := "dueBusy", apart := false }
def DueBusySaid : Prop := dueBusyRow.holds Try.pinned (OpenSpec.ofChange dueBusySpec)

/-- ITS FALSE NEIGHBOUR: 'it returns false'. Refute it at one input. -/
def dueBusyWrong : ChangeSpec := { name := "dueBusy", fn := fun _ => fun
  | [d1, d2, d3] => { results := [.lit (.bool false)], args := [d1, d2, d3] }
  | _ => none }
def DueBusyWrongFalsely : Prop := dueBusyRow.holds Try.pinned (OpenSpec.ofChange dueBusyWrong)

/-- 'shiftbellkeep.DueTight': WHATEVER THE INPUT: true; the input reads as it did. -/
def dueTightSpec : ChangeSpec := { name := "dueTight", fn := fun _ => fun
  | [d1, d2, d3] => { results := [.lit (.bool true)], args := [d1, d2, d3] }
  | _ => none }
def dueTightRow : OpenClaim := { program := "ytnclaokllghaoaa", sum := "730d685a69409eb9be41f64688b9bb65fb4babfbfcd55df5faf83a03b6bd5e74", func := "shiftbell/shiftbellkeep.DueTight", spec := "dueTight", apart := false }
def DueTightSaid : Prop := dueTightRow.holds Try.pinned (OpenSpec.ofChange dueTightSpec)

/-- ITS FALSE NEIGHBOUR: 'it returns false'. Refute it at one input. -/
def dueTightWrong : ChangeSpec := { name := "dueTight", fn := fun _ => fun
  | [d1, d2, d3] => { results := [.lit (.bool false)], args := [d1, d2, d3] }
  | _ => none }
def DueTightWrongFalsely : Prop := dueTightRow.holds Try.pinned (OpenSpec.ofChange dueTightWrong)

/-- 'shiftbellkeep.DueLess': WHATEVER THE INPUT: true; the input reads as it did. -/
def dueLessSpec : ChangeSpec := { name := "dueLess", fn := fun _ => fun
  | [d1, d2, d3] => { results := [.lit (.bool true)], args := [d1, d2, d3] }
  | _ => none }
def dueLessRow : OpenClaim := { program := "ytnclaokllghaoaa", sum := "730d685a69409eb9be41f64688b9bb65fb4babfbfcd55df5faf83a03b6bd5e74", func := "shiftbell/shiftbellkeep.DueLess", spec := "dueLess", apart := false }
def DueLessSaid : Prop := dueLessRow.holds Try.pinned (OpenSpec.ofChange dueLessSpec)

/-- ITS FALSE NEIGHBOUR: 'it returns false'. Refute it at one input. -/
def dueLessWrong : ChangeSpec := { name := "dueLess", fn := fun _ => fun
  | [d1, d2, d3] => { results := [.lit (.bool false)], args := [d1, d2, d3] }
  | _ => none }
def DueLessWrongFalsely : Prop := dueLessRow.holds Try.pinned (OpenSpec.ofChange dueLessWrong)

/-- 'shiftbellkeep.DueBest': WHATEVER THE INPUT: true; the input reads as it did. -/
def dueBestSpec : ChangeSpec := { name := "dueBest", fn := fun _ => fun
  | [d1, d2] => { results := [.lit (.bool true)], args := [d1, d2] }
  | _ => none }
def dueBestRow : OpenClaim := { program := "ytnclaokllghaoaa", sum := "730d685a69409eb9be41f64688b9bb65fb4babfbfcd55df5faf83a03b6bd5e74", func := "shiftbell/shiftbellkeep.DueBest", spec := "dueBest", unfollowed := true, recurses := true, apart := false }
def DueBestSaid : Prop := dueBestRow.holds Try.pinned (OpenSpec.ofChange dueBestSpec)

/-- ITS FALSE NEIGHBOUR: 'it returns false'. Refute it at one input. -/
def dueBestWrong : ChangeSpec := { name := "dueBest", fn := fun _ => fun
  | [d1, d2] => { results := [.lit (.bool false)], args := [d1, d2] }
  | _ => none }
def DueBestWrongFalsely : Prop := dueBestRow.holds Try.pinned (OpenSpec.ofChange dueBestWrong)

/- THE SECOND FORM. 'bulk': how many values and letters a reading holds, each counted each time it is reached (what is shared counts as often as it is met; a slice's spare places count too). A statement '..UptoSaid' is the law's where the arguments, and the package variables that the reading takes, are together of bulk at most 1048576: NARROWER than '..Said'. Prove '..Said' where nothing that the law and all that it calls make is longer than what came in: it says more and counts as full. Else prove '..UptoSaid'. A law counts once. -/
mutual
def uptoBulk {H : Type} : DataW H → Nat
  | .lit (.string bytes) => bytes.length + 1
  | .lit _ => 1
  | .nil => 1
  | .ptr d => uptoBulk d + 1
  | .slice elems spare => uptoBulkAll elems + uptoBulkAll spare + 1
  | .agg parts => uptoBulkAll parts + 1
  | .iface _ d => uptoBulk d + 1
  | .map entries => uptoBulkEntries entries + 1
  | .held _ => 1
def uptoBulkAll {H : Type} : List (DataW H) → Nat
  | [] => 0
  | d :: r => uptoBulk d + uptoBulkAll r
def uptoBulkEntries {H : Type} : List (Lit × DataW H) → Nat
  | [] => 0
  | x :: r => uptoBulkEntry x + uptoBulkEntries r
def uptoBulkEntry {H : Type} : Lit × DataW H → Nat
  | (.string bytes, d) => bytes.length + uptoBulk d + 1
  | (_, d) => uptoBulk d + 1
 end
def uptoSmall : (H : Type) → List (DataW H) → Bool := fun _ ds => decide (uptoBulkAll ds ≤ 1048576)
def OpenSpec.upto (s : _root_.Go.ChangeSpec) : _root_.Go.OpenSpec := { _root_.Go.OpenSpec.ofChange s with cond := some uptoSmall }

/-- 'shiftbellkeep.DueBusy', WHERE WHAT IT READS IS OF BULK AT MOST 1048576: true; the input reads as it did. -/
def dueBusyUptoRow : OpenClaim := { program := "ytnclaokllghaoaa", sum := "730d685a69409eb9be41f64688b9bb65fb4babfbfcd55df5faf83a03b6bd5e74", func := "shiftbell/shiftbellkeep.DueBusy", spec := "dueBusy", apart := false, narrowed := true }
def DueBusyUptoSaid : Prop := dueBusyUptoRow.holds Try.pinned (OpenSpec.upto dueBusySpec)

/-- 'shiftbellkeep.DueTight', WHERE WHAT IT READS IS OF BULK AT MOST 1048576: true; the input reads as it did. -/
def dueTightUptoRow : OpenClaim := { program := "ytnclaokllghaoaa", sum := "730d685a69409eb9be41f64688b9bb65fb4babfbfcd55df5faf83a03b6bd5e74", func := "shiftbell/shiftbellkeep.DueTight", spec := "dueTight", apart := false, narrowed := true }
def DueTightUptoSaid : Prop := dueTightUptoRow.holds Try.pinned (OpenSpec.upto dueTightSpec)

/-- 'shiftbellkeep.DueLess', WHERE WHAT IT READS IS OF BULK AT MOST 1048576: true; the input reads as it did. -/
def dueLessUptoRow : OpenClaim := { program := "ytnclaokllghaoaa", sum := "730d685a69409eb9be41f64688b9bb65fb4babfbfcd55df5faf83a03b6bd5e74", func := "shiftbell/shiftbellkeep.DueLess", spec := "dueLess", apart := false, narrowed := true }
def DueLessUptoSaid : Prop := dueLessUptoRow.holds Try.pinned (OpenSpec.upto dueLessSpec)

/-- 'shiftbellkeep.DueBest', WHERE WHAT IT READS IS OF BULK AT MOST 1048576: true; the input reads as it did. -/
def dueBestUptoRow : OpenClaim := { program := "ytnclaokllghaoaa", sum := "730d685a69409eb9be41f64688b9bb65fb4babfbfcd55df5faf83a03b6bd5e74", func := "shiftbell/shiftbellkeep.DueBest", spec := "dueBest", unfollowed := true, recurses := true, apart := false, narrowed := true }
def DueBestUptoSaid : Prop := dueBestUptoRow.holds Try.pinned (OpenSpec.upto dueBestSpec)

end Rows
end Go.Proofs.Ytnclaokllghaoaa
