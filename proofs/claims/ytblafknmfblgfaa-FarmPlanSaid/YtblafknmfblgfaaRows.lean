/-
  NARROWER THAN 'FOR EVERY INPUT', by the rows' own cells (each row's printed sentence says how): FarmAhead: loops · FarmTries: loops · FarmNever: loops · FarmPlan: loops · FarmFirst: loops · FarmStays: loops · FarmOne: loops.
  DERIVED. THE GIVEN ROWS OF THIS SEAT. 7 by the template 'for every input the law returns true; each argument reads behind the call as it read before'; 0 by the template 'total and deterministic' (their statements: YtblafknmfblgfaaTotals.lean).
  GIVEN WITH THE SEED: the statements are not yours to turn. If you find one false, say at which input.
  Laid BY PROGRAM, IN A SANDBOX (cutbox-rows.mjs): the forced cells as the released guide's own fill.sh prints them over the translation 0d9eebdeb8c030b4… (all of the seat's roots in one cut). By AI agents, Wed Nov 11 2026. No macro, syntax, notation, axiom, sorry.
-/
import Derived.Test.YtblafknmfblgfaaChecked
import GoSem.Claim
import GoSem.ClaimJoined
import GoSem.ClaimMapViews
import Derived.JoinedTies
import Derived.KernelRfl
namespace Go.Proofs.Ytblafknmfblgfaa
/- THE CELL 'sum', in the pinned program and in every row, IS THE sha256 OF THE DUMP (.gsa) THAT YtblafknmfblgfaaProg.lean LOADS. Nothing in Lean hashes anything: it is a label: what it is worth is what the hold of that sum in a sandbox is worth. -/
noncomputable def Try.pinned : Pinned := { name := "ytblafknmfblgfaa", sum := "0d9eebdeb8c030b4cecf8ed5e01fd498fa7aa2cb9861d18f1232fe1f21399586", checked := Try.checked }
namespace Rows
def none {H : Type} : Left H := { results := [], args := [] }

/-- 'shiftbellkeep.FarmAhead': WHATEVER THE INPUT: true; the input reads as it did. -/
def farmAheadSpec : ChangeSpec := { name := "farmAhead", fn := fun _ => fun
  | [d1, d2] => { results := [.lit (.bool true)], args := [d1, d2] }
  | _ => none }
def farmAheadRow : OpenClaim := { program := "ytblafknmfblgfaa", sum := "0d9eebdeb8c030b4cecf8ed5e01fd498fa7aa2cb9861d18f1232fe1f21399586", func := "shiftbell/shiftbellkeep.FarmAhead", spec := "farmAhead", unfollowed := true, recurses := true, loops := true, apart := false }
def FarmAheadSaid : Prop := farmAheadRow.holds Try.pinned (OpenSpec.ofChange farmAheadSpec)

/-- ITS FALSE NEIGHBOUR: 'it returns false'. Refute it at one input. -/
def farmAheadWrong : ChangeSpec := { name := "farmAhead", fn := fun _ => fun
  | [d1, d2] => { results := [.lit (.bool false)], args := [d1, d2] }
  | _ => none }
def FarmAheadWrongFalsely : Prop := farmAheadRow.holds Try.pinned (OpenSpec.ofChange farmAheadWrong)

/-- 'shiftbellkeep.FarmTries': WHATEVER THE INPUT: true; the input reads as it did. -/
def farmTriesSpec : ChangeSpec := { name := "farmTries", fn := fun _ => fun
  | [d1, d2] => { results := [.lit (.bool true)], args := [d1, d2] }
  | _ => none }
def farmTriesRow : OpenClaim := { program := "ytblafknmfblgfaa", sum := "0d9eebdeb8c030b4cecf8ed5e01fd498fa7aa2cb9861d18f1232fe1f21399586", func := "shiftbell/shiftbellkeep.FarmTries", spec := "farmTries", unfollowed := true, recurses := true, loops := true, apart := false }
def FarmTriesSaid : Prop := farmTriesRow.holds Try.pinned (OpenSpec.ofChange farmTriesSpec)

/-- ITS FALSE NEIGHBOUR: 'it returns false'. Refute it at one input. -/
def farmTriesWrong : ChangeSpec := { name := "farmTries", fn := fun _ => fun
  | [d1, d2] => { results := [.lit (.bool false)], args := [d1, d2] }
  | _ => none }
def FarmTriesWrongFalsely : Prop := farmTriesRow.holds Try.pinned (OpenSpec.ofChange farmTriesWrong)

/-- 'shiftbellkeep.FarmNever': WHATEVER THE INPUT: true; the input reads as it did. -/
def farmNeverSpec : ChangeSpec := { name := "farmNever", fn := fun _ => fun
  | [d1, d2] => { results := [.lit (.bool true)], args := [d1, d2] }
  | _ => none }
def farmNeverRow : OpenClaim := { program := "ytblafknmfblgfaa", sum := "0d9eebdeb8c030b4cecf8ed5e01fd498fa7aa2cb9861d18f1232fe1f21399586", func := "shiftbell/shiftbellkeep.FarmNever", spec := "farmNever", unfollowed := true, recurses := true, loops := true, apart := false }
def FarmNeverSaid : Prop := farmNeverRow.holds Try.pinned (OpenSpec.ofChange farmNeverSpec)

/-- ITS FALSE NEIGHBOUR: 'it returns false'. Refute it at one input. -/
def farmNeverWrong : ChangeSpec := { name := "farmNever", fn := fun _ => fun
  | [d1, d2] => { results := [.lit (.bool false)], args := [d1, d2] }
  | _ => none }
def FarmNeverWrongFalsely : Prop := farmNeverRow.holds Try.pinned (OpenSpec.ofChange farmNeverWrong)

/-- 'shiftbellkeep.FarmPlan': WHATEVER THE INPUT: true; the input reads as it did. -/
def farmPlanSpec : ChangeSpec := { name := "farmPlan", fn := fun _ => fun
  | [d1, d2] => { results := [.lit (.bool true)], args := [d1, d2] }
  | _ => none }
def farmPlanRow : OpenClaim := { program := "ytblafknmfblgfaa", sum := "0d9eebdeb8c030b4cecf8ed5e01fd498fa7aa2cb9861d18f1232fe1f21399586", func := "shiftbell/shiftbellkeep.FarmPlan", spec := "farmPlan", unfollowed := true, recurses := true, loops := true, apart := false }
def FarmPlanSaid : Prop := farmPlanRow.holds Try.pinned (OpenSpec.ofChange farmPlanSpec)

/-- ITS FALSE NEIGHBOUR: 'it returns false'. Refute it at one input. -/
def farmPlanWrong : ChangeSpec := { name := "farmPlan", fn := fun _ => fun
  | [d1, d2] => { results := [.lit (.bool false)], args := [d1, d2] }
  | _ => none }
def FarmPlanWrongFalsely : Prop := farmPlanRow.holds Try.pinned (OpenSpec.ofChange farmPlanWrong)

/-- 'shiftbellkeep.FarmFirst': WHATEVER THE INPUT: true; the input reads as it did. -/
def farmFirstSpec : ChangeSpec := { name := "farmFirst", fn := fun _ => fun
  | [d1, d2] => { results := [.lit (.bool true)], args := [d1, d2] }
  | _ => none }
def farmFirstRow : OpenClaim := { program := "ytblafknmfblgfaa", sum := "0d9eebdeb8c030b4cecf8ed5e01fd498fa7aa2cb9861d18f1232fe1f21399586", func := "shiftbell/shiftbellkeep.FarmFirst", spec := "farmFirst", unfollowed := true, recurses := true, loops := true, apart := false }
def FarmFirstSaid : Prop := farmFirstRow.holds Try.pinned (OpenSpec.ofChange farmFirstSpec)

/-- ITS FALSE NEIGHBOUR: 'it returns false'. Refute it at one input. -/
def farmFirstWrong : ChangeSpec := { name := "farmFirst", fn := fun _ => fun
  | [d1, d2] => { results := [.lit (.bool false)], args := [d1, d2] }
  | _ => none }
def FarmFirstWrongFalsely : Prop := farmFirstRow.holds Try.pinned (OpenSpec.ofChange farmFirstWrong)

/-- 'shiftbellkeep.FarmStays': WHATEVER THE INPUT: true; the input reads as it did. -/
def farmStaysSpec : ChangeSpec := { name := "farmStays", fn := fun _ => fun
  | [d1, d2, d3] => { results := [.lit (.bool true)], args := [d1, d2, d3] }
  | _ => none }
def farmStaysRow : OpenClaim := { program := "ytblafknmfblgfaa", sum := "0d9eebdeb8c030b4cecf8ed5e01fd498fa7aa2cb9861d18f1232fe1f21399586", func := "shiftbell/shiftbellkeep.FarmStays", spec := "farmStays", unfollowed := true, recurses := true, loops := true, apart := false }
def FarmStaysSaid : Prop := farmStaysRow.holds Try.pinned (OpenSpec.ofChange farmStaysSpec)

/-- ITS FALSE NEIGHBOUR: 'it returns false'. Refute it at one input. -/
def farmStaysWrong : ChangeSpec := { name := "farmStays", fn := fun _ => fun
  | [d1, d2, d3] => { results := [.lit (.bool false)], args := [d1, d2, d3] }
  | _ => none }
def FarmStaysWrongFalsely : Prop := farmStaysRow.holds Try.pinned (OpenSpec.ofChange farmStaysWrong)

/-- 'shiftbellkeep.FarmOne': WHATEVER THE INPUT: true; the input reads as it did. -/
def farmOneSpec : ChangeSpec := { name := "farmOne", fn := fun _ => fun
  | [d1, d2, d3] => { results := [.lit (.bool true)], args := [d1, d2, d3] }
  | _ => none }
def farmOneRow : OpenClaim := { program := "ytblafknmfblgfaa", sum := "0d9eebdeb8c030b4cecf8ed5e01fd498fa7aa2cb9861d18f1232fe1f21399586", func := "shiftbell/shiftbellkeep.FarmOne", spec := "farmOne", unfollowed := true, recurses := true, loops := true, apart := false }
def FarmOneSaid : Prop := farmOneRow.holds Try.pinned (OpenSpec.ofChange farmOneSpec)

/-- ITS FALSE NEIGHBOUR: 'it returns false'. Refute it at one input. -/
def farmOneWrong : ChangeSpec := { name := "farmOne", fn := fun _ => fun
  | [d1, d2, d3] => { results := [.lit (.bool false)], args := [d1, d2, d3] }
  | _ => none }
def FarmOneWrongFalsely : Prop := farmOneRow.holds Try.pinned (OpenSpec.ofChange farmOneWrong)

/- THE SECOND FORM. 'bulk': how many values and letters a reading holds, each counted each time it is reached (what is shared counts as often as it is met; a slice's spare places count too). A statement '..UptoSaid' is the law's where the arguments, and the package variables that the reading takes, are together of bulk at most 1048576: NARROWER than '..Said'. Prove '..Said' where nothing that the law and all that it calls make is longer than what came in: it says more and counts as full. Else prove '..UptoSaid'. A law counts once. -/
mutual
def uptoBulk {H : Type} : DataW H → Nat
  | .lit (.string bytes) => bytes.length + 1
  | .lit _ => 1
  | .nil => 1
  | .ptr d => uptoBulk d + 1
  | .slice elems spare => uptoBulkAll elems + uptoBulkAll spare + 1
  | .agg parts => uptoBulkAll parts + 1
  | .iface _ d => uptoBulk d + 1
  | .map entries => uptoBulkEntries entries + 1
  | .held _ => 1
def uptoBulkAll {H : Type} : List (DataW H) → Nat
  | [] => 0
  | d :: r => uptoBulk d + uptoBulkAll r
def uptoBulkEntries {H : Type} : List (Lit × DataW H) → Nat
  | [] => 0
  | x :: r => uptoBulkEntry x + uptoBulkEntries r
def uptoBulkEntry {H : Type} : Lit × DataW H → Nat
  | (.string bytes, d) => bytes.length + uptoBulk d + 1
  | (_, d) => uptoBulk d + 1
 end
def uptoSmall : (H : Type) → List (DataW H) → Bool := fun _ ds => decide (uptoBulkAll ds ≤ 1048576)
def OpenSpec.upto (s : _root_.Go.ChangeSpec) : _root_.Go.OpenSpec := { _root_.Go.OpenSpec.ofChange s with cond := some uptoSmall }

/-- 'shiftbellkeep.FarmAhead', WHERE WHAT IT READS IS OF BULK AT MOST 1048576: true; the input reads as it did. -/
def farmAheadUptoRow : OpenClaim := { program := "ytblafknmfblgfaa", sum := "0d9eebdeb8c030b4cecf8ed5e01fd498fa7aa2cb9861d18f1232fe1f21399586", func := "shiftbell/shiftbellkeep.FarmAhead", spec := "farmAhead", unfollowed := true, recurses := true, loops := true, apart := false, narrowed := true }
def FarmAheadUptoSaid : Prop := farmAheadUptoRow.holds Try.pinned (OpenSpec.upto farmAheadSpec)

/-- 'shiftbellkeep.FarmTries', WHERE WHAT IT READS IS OF BULK AT MOST 1048576: true; the input reads as it did. -/
def farmTriesUptoRow : OpenClaim := { program := "ytblafknmfblgfaa", sum := "0d9eebdeb8c030b4cecf8ed5e01fd498fa7aa2cb9861d18f1232fe1f21399586", func := "shiftbell/shiftbellkeep.FarmTries", spec := "farmTries", unfollowed := true, recurses := true, loops := true, apart := false, narrowed := true }
def FarmTriesUptoSaid : Prop := farmTriesUptoRow.holds Try.pinned (OpenSpec.upto farmTriesSpec)

/-- 'shiftbellkeep.FarmNever', WHERE WHAT IT READS IS OF BULK AT MOST 1048576: true; the input reads as it did. -/
def farmNeverUptoRow : OpenClaim := { program := "ytblafknmfblgfaa", sum := "0d9eebdeb8c030b4cecf8ed5e01fd498fa7aa2cb9861d18f1232fe1f21399586", func := "shiftbell/shiftbellkeep.FarmNever", spec := "farmNever", unfollowed := true, recurses := true, loops := true, apart := false, narrowed := true }
def FarmNeverUptoSaid : Prop := farmNeverUptoRow.holds Try.pinned (OpenSpec.upto farmNeverSpec)

/-- 'shiftbellkeep.FarmPlan', WHERE WHAT IT READS IS OF BULK AT MOST 1048576: true; the input reads as it did. -/
def farmPlanUptoRow : OpenClaim := { program := "ytblafknmfblgfaa", sum := "0d9eebdeb8c030b4cecf8ed5e01fd498fa7aa2cb9861d18f1232fe1f21399586", func := "shiftbell/shiftbellkeep.FarmPlan", spec := "farmPlan", unfollowed := true, recurses := true, loops := true, apart := false, narrowed := true }
def FarmPlanUptoSaid : Prop := farmPlanUptoRow.holds Try.pinned (OpenSpec.upto farmPlanSpec)

/-- 'shiftbellkeep.FarmFirst', WHERE WHAT IT READS IS OF BULK AT MOST 1048576: true; the input reads as it did. -/
def farmFirstUptoRow : OpenClaim := { program := "ytblafknmfblgfaa", sum := "0d9eebdeb8c030b4cecf8ed5e01fd498fa7aa2cb9861d18f1232fe1f21399586", func := "shiftbell/shiftbellkeep.FarmFirst", spec := "farmFirst", unfollowed := true, recurses := true, loops := true, apart := false, narrowed := true }
def FarmFirstUptoSaid : Prop := farmFirstUptoRow.holds Try.pinned (OpenSpec.upto farmFirstSpec)

/-- 'shiftbellkeep.FarmStays', WHERE WHAT IT READS IS OF BULK AT MOST 1048576: true; the input reads as it did. -/
def farmStaysUptoRow : OpenClaim := { program := "ytblafknmfblgfaa", sum := "0d9eebdeb8c030b4cecf8ed5e01fd498fa7aa2cb9861d18f1232fe1f21399586", func := "shiftbell/shiftbellkeep.FarmStays", spec := "farmStays", unfollowed := true, recurses := true, loops := true, apart := false, narrowed := true }
def FarmStaysUptoSaid : Prop := farmStaysUptoRow.holds Try.pinned (OpenSpec.upto farmStaysSpec)

/-- 'shiftbellkeep.FarmOne', WHERE WHAT IT READS IS OF BULK AT MOST 1048576: true; the input reads as it did. -/
def farmOneUptoRow : OpenClaim := { program := "ytblafknmfblgfaa", sum := "0d9eebdeb8c030b4cecf8ed5e01fd498fa7aa2cb9861d18f1232fe1f21399586", func := "shiftbell/shiftbellkeep.FarmOne", spec := "farmOne", unfollowed := true, recurses := true, loops := true, apart := false, narrowed := true }
def FarmOneUptoSaid : Prop := farmOneUptoRow.holds Try.pinned (OpenSpec.upto farmOneSpec)

end Rows
end Go.Proofs.Ytblafknmfblgfaa
