/-
  No cell of these rows narrows 'for every input' (looked for: loops, veiled, ifaces, maps, wideKeys, modest, calm, conditions, laid).
  DERIVED. THE GIVEN ROWS OF THIS SEAT. 6 by the template 'for every input the law returns true; each argument reads behind the call as it read before'; 0 by the template 'total and deterministic' (their statements: YtopgihimdjnaeaaTotals.lean).
  GIVEN WITH THE SEED: the statements are not yours to turn. If you find one false, say at which input.
  Laid BY PROGRAM, IN A SANDBOX (cutbox-rows.mjs): the forced cells as the released guide's own fill.sh prints them over the translation a295299593aeb8a3… (all of the seat's roots in one cut). By AI agents, Wed Nov 11 2026. No macro, syntax, notation, axiom, sorry.
-/
import Derived.Test.YtopgihimdjnaeaaChecked
import GoSem.Claim
import GoSem.ClaimJoined
import GoSem.ClaimMapViews
import Derived.JoinedTies
import Derived.KernelRfl
namespace Go.Proofs.Ytopgihimdjnaeaa
/- THE CELL 'sum', in the pinned program and in every row, IS THE sha256 OF THE DUMP (.gsa) THAT YtopgihimdjnaeaaProg.lean LOADS. Nothing in Lean hashes anything: it is a label: what it is worth is what the hold of that sum in a sandbox is worth. -/
noncomputable def Try.pinned : Pinned := { name := "ytopgihimdjnaeaa", sum := "a295299593aeb8a313ac01b994ab5e307e314de9c7ba6216a64975ddcee3f314", checked := Try.checked }
namespace Rows
def none {H : Type} : Left H := { results := [], args := [] }

/-- 'shiftbellkeep.GraphOrder': WHATEVER THE INPUT: true; the input reads as it did. -/
def graphOrderSpec : ChangeSpec := { name := "graphOrder", fn := fun _ => fun
  | [d1, d2] => { results := [.lit (.bool true)], args := [d1, d2] }
  | _ => none }
def graphOrderRow : OpenClaim := { program := "ytopgihimdjnaeaa", sum := "a295299593aeb8a313ac01b994ab5e307e314de9c7ba6216a64975ddcee3f314", func := "shiftbell/shiftbellkeep.GraphOrder", spec := "graphOrder", apart := false }
def GraphOrderSaid : Prop := graphOrderRow.holds Try.pinned (OpenSpec.ofChange graphOrderSpec)

/-- ITS FALSE NEIGHBOUR: 'it returns false'. Refute it at one input. -/
def graphOrderWrong : ChangeSpec := { name := "graphOrder", fn := fun _ => fun
  | [d1, d2] => { results := [.lit (.bool false)], args := [d1, d2] }
  | _ => none }
def GraphOrderWrongFalsely : Prop := graphOrderRow.holds Try.pinned (OpenSpec.ofChange graphOrderWrong)

/-- 'shiftbellkeep.PathLeast': WHATEVER THE INPUT: true; the input reads as it did. -/
def pathLeastSpec : ChangeSpec := { name := "pathLeast", fn := fun _ => fun
  | [d1, d2, d3, d4] => { results := [.lit (.bool true)], args := [d1, d2, d3, d4] }
  | _ => none }
def pathLeastRow : OpenClaim := { program := "ytopgihimdjnaeaa", sum := "a295299593aeb8a313ac01b994ab5e307e314de9c7ba6216a64975ddcee3f314", func := "shiftbell/shiftbellkeep.PathLeast", spec := "pathLeast", apart := false }
def PathLeastSaid : Prop := pathLeastRow.holds Try.pinned (OpenSpec.ofChange pathLeastSpec)

/-- ITS FALSE NEIGHBOUR: 'it returns false'. Refute it at one input. -/
def pathLeastWrong : ChangeSpec := { name := "pathLeast", fn := fun _ => fun
  | [d1, d2, d3, d4] => { results := [.lit (.bool false)], args := [d1, d2, d3, d4] }
  | _ => none }
def PathLeastWrongFalsely : Prop := pathLeastRow.holds Try.pinned (OpenSpec.ofChange pathLeastWrong)

/-- 'shiftbellkeep.PathScale': WHATEVER THE INPUT: true; the input reads as it did. -/
def pathScaleSpec : ChangeSpec := { name := "pathScale", fn := fun _ => fun
  | [d1, d2, d3, d4] => { results := [.lit (.bool true)], args := [d1, d2, d3, d4] }
  | _ => none }
def pathScaleRow : OpenClaim := { program := "ytopgihimdjnaeaa", sum := "a295299593aeb8a313ac01b994ab5e307e314de9c7ba6216a64975ddcee3f314", func := "shiftbell/shiftbellkeep.PathScale", spec := "pathScale", apart := false }
def PathScaleSaid : Prop := pathScaleRow.holds Try.pinned (OpenSpec.ofChange pathScaleSpec)

/-- ITS FALSE NEIGHBOUR: 'it returns false'. Refute it at one input. -/
def pathScaleWrong : ChangeSpec := { name := "pathScale", fn := fun _ => fun
  | [d1, d2, d3, d4] => { results := [.lit (.bool false)], args := [d1, d2, d3, d4] }
  | _ => none }
def PathScaleWrongFalsely : Prop := pathScaleRow.holds Try.pinned (OpenSpec.ofChange pathScaleWrong)

/-- 'shiftbellkeep.PathChain': WHATEVER THE INPUT: true; the input reads as it did. -/
def pathChainSpec : ChangeSpec := { name := "pathChain", fn := fun _ => fun
  | [d1, d2, d3, d4] => { results := [.lit (.bool true)], args := [d1, d2, d3, d4] }
  | _ => none }
def pathChainRow : OpenClaim := { program := "ytopgihimdjnaeaa", sum := "a295299593aeb8a313ac01b994ab5e307e314de9c7ba6216a64975ddcee3f314", func := "shiftbell/shiftbellkeep.PathChain", spec := "pathChain", apart := false }
def PathChainSaid : Prop := pathChainRow.holds Try.pinned (OpenSpec.ofChange pathChainSpec)

/-- ITS FALSE NEIGHBOUR: 'it returns false'. Refute it at one input. -/
def pathChainWrong : ChangeSpec := { name := "pathChain", fn := fun _ => fun
  | [d1, d2, d3, d4] => { results := [.lit (.bool false)], args := [d1, d2, d3, d4] }
  | _ => none }
def PathChainWrongFalsely : Prop := pathChainRow.holds Try.pinned (OpenSpec.ofChange pathChainWrong)

/-- 'shiftbellkeep.PathSlack': WHATEVER THE INPUT: true; the input reads as it did. -/
def pathSlackSpec : ChangeSpec := { name := "pathSlack", fn := fun _ => fun
  | [d1, d2, d3, d4, d5] => { results := [.lit (.bool true)], args := [d1, d2, d3, d4, d5] }
  | _ => none }
def pathSlackRow : OpenClaim := { program := "ytopgihimdjnaeaa", sum := "a295299593aeb8a313ac01b994ab5e307e314de9c7ba6216a64975ddcee3f314", func := "shiftbell/shiftbellkeep.PathSlack", spec := "pathSlack", unfollowed := true, recurses := true, apart := false }
def PathSlackSaid : Prop := pathSlackRow.holds Try.pinned (OpenSpec.ofChange pathSlackSpec)

/-- ITS FALSE NEIGHBOUR: 'it returns false'. Refute it at one input. -/
def pathSlackWrong : ChangeSpec := { name := "pathSlack", fn := fun _ => fun
  | [d1, d2, d3, d4, d5] => { results := [.lit (.bool false)], args := [d1, d2, d3, d4, d5] }
  | _ => none }
def PathSlackWrongFalsely : Prop := pathSlackRow.holds Try.pinned (OpenSpec.ofChange pathSlackWrong)

/-- 'shiftbellkeep.PathWay': WHATEVER THE INPUT: true; the input reads as it did. -/
def pathWaySpec : ChangeSpec := { name := "pathWay", fn := fun _ => fun
  | [d1, d2, d3] => { results := [.lit (.bool true)], args := [d1, d2, d3] }
  | _ => none }
def pathWayRow : OpenClaim := { program := "ytopgihimdjnaeaa", sum := "a295299593aeb8a313ac01b994ab5e307e314de9c7ba6216a64975ddcee3f314", func := "shiftbell/shiftbellkeep.PathWay", spec := "pathWay", unfollowed := true, recurses := true, apart := false }
def PathWaySaid : Prop := pathWayRow.holds Try.pinned (OpenSpec.ofChange pathWaySpec)

/-- ITS FALSE NEIGHBOUR: 'it returns false'. Refute it at one input. -/
def pathWayWrong : ChangeSpec := { name := "pathWay", fn := fun _ => fun
  | [d1, d2, d3] => { results := [.lit (.bool false)], args := [d1, d2, d3] }
  | _ => none }
def PathWayWrongFalsely : Prop := pathWayRow.holds Try.pinned (OpenSpec.ofChange pathWayWrong)

/- THE SECOND FORM. 'bulk': how many values and letters a reading holds, each counted each time it is reached (what is shared counts as often as it is met; a slice's spare places count too). A statement '..UptoSaid' is the law's where the arguments, and the package variables that the reading takes, are together of bulk at most 1048576: NARROWER than '..Said'. Prove '..Said' where nothing that the law and all that it calls make is longer than what came in: it says more and counts as full. Else prove '..UptoSaid'. A law counts once. -/
mutual
def uptoBulk {H : Type} : DataW H → Nat
  | .lit (.string bytes) => bytes.length + 1
  | .lit _ => 1
  | .nil => 1
  | .ptr d => uptoBulk d + 1
  | .slice elems spare => uptoBulkAll elems + uptoBulkAll spare + 1
  | .agg parts => uptoBulkAll parts + 1
  | .iface _ d => uptoBulk d + 1
  | .map entries => uptoBulkEntries entries + 1
  | .held _ => 1
def uptoBulkAll {H : Type} : List (DataW H) → Nat
  | [] => 0
  | d :: r => uptoBulk d + uptoBulkAll r
def uptoBulkEntries {H : Type} : List (Lit × DataW H) → Nat
  | [] => 0
  | x :: r => uptoBulkEntry x + uptoBulkEntries r
def uptoBulkEntry {H : Type} : Lit × DataW H → Nat
  | (.string bytes, d) => bytes.length + uptoBulk d + 1
  | (_, d) => uptoBulk d + 1
 end
def uptoSmall : (H : Type) → List (DataW H) → Bool := fun _ ds => decide (uptoBulkAll ds ≤ 1048576)
def OpenSpec.upto (s : _root_.Go.ChangeSpec) : _root_.Go.OpenSpec := { _root_.Go.OpenSpec.ofChange s with cond := some uptoSmall }

/-- 'shiftbellkeep.GraphOrder', WHERE WHAT IT READS IS OF BULK AT MOST 1048576: true; the input reads as it did. -/
def graphOrderUptoRow : OpenClaim := { program := "ytopgihimdjnaeaa", sum := "a295299593aeb8a313ac01b994ab5e307e314de9c7ba6216a64975ddcee3f314", func := "shiftbell/shiftbellkeep.GraphOrder", spec := "graphOrder", apart := false, narrowed := true }
def GraphOrderUptoSaid : Prop := graphOrderUptoRow.holds Try.pinned (OpenSpec.upto graphOrderSpec)

/-- 'shiftbellkeep.PathLeast', WHERE WHAT IT READS IS OF BULK AT MOST 1048576: true; the input reads as it did. -/
def pathLeastUptoRow : OpenClaim := { program := "ytopgihimdjnaeaa", sum := "a295299593aeb8a313ac01b994ab5e307e314de9c7ba6216a64975ddcee3f314", func := "shiftbell/shiftbellkeep.PathLeast", spec := "pathLeast", apart := false, narrowed := true }
def PathLeastUptoSaid : Prop := pathLeastUptoRow.holds Try.pinned (OpenSpec.upto pathLeastSpec)

/-- 'shiftbellkeep.PathScale', WHERE WHAT IT READS IS OF BULK AT MOST 1048576: true; the input reads as it did. -/
def pathScaleUptoRow : OpenClaim := { program := "ytopgihimdjnaeaa", sum := "a295299593aeb8a313ac01b994ab5e307e314de9c7ba6216a64975ddcee3f314", func := "shiftbell/shiftbellkeep.PathScale", spec := "pathScale", apart := false, narrowed := true }
def PathScaleUptoSaid : Prop := pathScaleUptoRow.holds Try.pinned (OpenSpec.upto pathScaleSpec)

/-- 'shiftbellkeep.PathChain', WHERE WHAT IT READS IS OF BULK AT MOST 1048576: true; the input reads as it did. -/
def pathChainUptoRow : OpenClaim := { program := "ytopgihimdjnaeaa", sum := "a295299593aeb8a313ac01b994ab5e307e314de9c7ba6216a64975ddcee3f314", func := "shiftbell/shiftbellkeep.PathChain", spec := "pathChain", apart := false, narrowed := true }
def PathChainUptoSaid : Prop := pathChainUptoRow.holds Try.pinned (OpenSpec.upto pathChainSpec)

/-- 'shiftbellkeep.PathSlack', WHERE WHAT IT READS IS OF BULK AT MOST 1048576: true; the input reads as it did. -/
def pathSlackUptoRow : OpenClaim := { program := "ytopgihimdjnaeaa", sum := "a295299593aeb8a313ac01b994ab5e307e314de9c7ba6216a64975ddcee3f314", func := "shiftbell/shiftbellkeep.PathSlack", spec := "pathSlack", unfollowed := true, recurses := true, apart := false, narrowed := true }
def PathSlackUptoSaid : Prop := pathSlackUptoRow.holds Try.pinned (OpenSpec.upto pathSlackSpec)

/-- 'shiftbellkeep.PathWay', WHERE WHAT IT READS IS OF BULK AT MOST 1048576: true; the input reads as it did. -/
def pathWayUptoRow : OpenClaim := { program := "ytopgihimdjnaeaa", sum := "a295299593aeb8a313ac01b994ab5e307e314de9c7ba6216a64975ddcee3f314", func := "shiftbell/shiftbellkeep.PathWay", spec := "pathWay", unfollowed := true, recurses := true, apart := false, narrowed := true }
def PathWayUptoSaid : Prop := pathWayUptoRow.holds Try.pinned (OpenSpec.upto pathWaySpec)

end Rows
end Go.Proofs.Ytopgihimdjnaeaa
