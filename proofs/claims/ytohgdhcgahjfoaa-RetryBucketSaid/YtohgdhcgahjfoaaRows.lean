/-
  No cell of these rows narrows 'for every input' (looked for: loops, veiled, ifaces, maps, wideKeys, modest, calm, conditions, laid).
  DERIVED. THE GIVEN ROWS OF THIS SEAT. 4 by the template 'for every input the law returns true; each argument reads behind the call as it read before'; 0 by the template 'total and deterministic' (their statements: YtohgdhcgahjfoaaTotals.lean).
  GIVEN WITH THE SEED: the statements are not yours to turn. If you find one false, say at which input.
  Laid BY PROGRAM, IN A SANDBOX (cutbox-rows.mjs): the forced cells as the released guide's own fill.sh prints them over the translation 59543e0c257d89ad… (all of the seat's roots in one cut). By AI agents, Wed Nov 11 2026. No macro, syntax, notation, axiom, sorry.
-/
import Derived.Test.YtohgdhcgahjfoaaChecked
import GoSem.Claim
import GoSem.ClaimJoined
import GoSem.ClaimMapViews
import Derived.JoinedTies
import Derived.KernelRfl
namespace Go.Proofs.Ytohgdhcgahjfoaa
/- THE CELL 'sum', in the pinned program and in every row, IS THE sha256 OF THE DUMP (.gsa) THAT YtohgdhcgahjfoaaProg.lean LOADS. Nothing in Lean hashes anything: it is a label: what it is worth is what the hold of that sum in a sandbox is worth. -/
noncomputable def Try.pinned : Pinned := { name := "ytohgdhcgahjfoaa", sum := "59543e0c257d89ad0c8d56725916366d98eeebd647e232379810d2aee96fac41", checked := Try.checked }
namespace Rows
def none {H : Type} : Left H := { results := [], args := [] }

/-- 'shiftbellkeep.RetryGrows': WHATEVER THE INPUT: true; the input reads as it did. -/
def retryGrowsSpec : ChangeSpec := { name := "retryGrows", fn := fun _ => fun
  | [d1, d2] => { results := [.lit (.bool true)], args := [d1, d2] }
  | _ => none }
def retryGrowsRow : OpenClaim := { program := "ytohgdhcgahjfoaa", sum := "59543e0c257d89ad0c8d56725916366d98eeebd647e232379810d2aee96fac41", func := "shiftbell/shiftbellkeep.RetryGrows", spec := "retryGrows", apart := false }
def RetryGrowsSaid : Prop := retryGrowsRow.holds Try.pinned (OpenSpec.ofChange retryGrowsSpec)

/-- ITS FALSE NEIGHBOUR: 'it returns false'. Refute it at one input. -/
def retryGrowsWrong : ChangeSpec := { name := "retryGrows", fn := fun _ => fun
  | [d1, d2] => { results := [.lit (.bool false)], args := [d1, d2] }
  | _ => none }
def RetryGrowsWrongFalsely : Prop := retryGrowsRow.holds Try.pinned (OpenSpec.ofChange retryGrowsWrong)

/-- 'shiftbellkeep.RetryWaits': WHATEVER THE INPUT: true; the input reads as it did. -/
def retryWaitsSpec : ChangeSpec := { name := "retryWaits", fn := fun _ => fun
  | [d1, d2, d3] => { results := [.lit (.bool true)], args := [d1, d2, d3] }
  | _ => none }
def retryWaitsRow : OpenClaim := { program := "ytohgdhcgahjfoaa", sum := "59543e0c257d89ad0c8d56725916366d98eeebd647e232379810d2aee96fac41", func := "shiftbell/shiftbellkeep.RetryWaits", spec := "retryWaits", apart := false }
def RetryWaitsSaid : Prop := retryWaitsRow.holds Try.pinned (OpenSpec.ofChange retryWaitsSpec)

/-- ITS FALSE NEIGHBOUR: 'it returns false'. Refute it at one input. -/
def retryWaitsWrong : ChangeSpec := { name := "retryWaits", fn := fun _ => fun
  | [d1, d2, d3] => { results := [.lit (.bool false)], args := [d1, d2, d3] }
  | _ => none }
def RetryWaitsWrongFalsely : Prop := retryWaitsRow.holds Try.pinned (OpenSpec.ofChange retryWaitsWrong)

/-- 'shiftbellkeep.RetryHolds': WHATEVER THE INPUT: true; the input reads as it did. -/
def retryHoldsSpec : ChangeSpec := { name := "retryHolds", fn := fun _ => fun
  | [d1, d2, d3] => { results := [.lit (.bool true)], args := [d1, d2, d3] }
  | _ => none }
def retryHoldsRow : OpenClaim := { program := "ytohgdhcgahjfoaa", sum := "59543e0c257d89ad0c8d56725916366d98eeebd647e232379810d2aee96fac41", func := "shiftbell/shiftbellkeep.RetryHolds", spec := "retryHolds", apart := false }
def RetryHoldsSaid : Prop := retryHoldsRow.holds Try.pinned (OpenSpec.ofChange retryHoldsSpec)

/-- ITS FALSE NEIGHBOUR: 'it returns false'. Refute it at one input. -/
def retryHoldsWrong : ChangeSpec := { name := "retryHolds", fn := fun _ => fun
  | [d1, d2, d3] => { results := [.lit (.bool false)], args := [d1, d2, d3] }
  | _ => none }
def RetryHoldsWrongFalsely : Prop := retryHoldsRow.holds Try.pinned (OpenSpec.ofChange retryHoldsWrong)

/-- 'shiftbellkeep.RetryBucket': WHATEVER THE INPUT: true; the input reads as it did. -/
def retryBucketSpec : ChangeSpec := { name := "retryBucket", fn := fun _ => fun
  | [d1, d2, d3] => { results := [.lit (.bool true)], args := [d1, d2, d3] }
  | _ => none }
def retryBucketRow : OpenClaim := { program := "ytohgdhcgahjfoaa", sum := "59543e0c257d89ad0c8d56725916366d98eeebd647e232379810d2aee96fac41", func := "shiftbell/shiftbellkeep.RetryBucket", spec := "retryBucket", apart := false }
def RetryBucketSaid : Prop := retryBucketRow.holds Try.pinned (OpenSpec.ofChange retryBucketSpec)

/-- ITS FALSE NEIGHBOUR: 'it returns false'. Refute it at one input. -/
def retryBucketWrong : ChangeSpec := { name := "retryBucket", fn := fun _ => fun
  | [d1, d2, d3] => { results := [.lit (.bool false)], args := [d1, d2, d3] }
  | _ => none }
def RetryBucketWrongFalsely : Prop := retryBucketRow.holds Try.pinned (OpenSpec.ofChange retryBucketWrong)

/- THE SECOND FORM. 'bulk': how many values and letters a reading holds, each counted each time it is reached (what is shared counts as often as it is met; a slice's spare places count too). A statement '..UptoSaid' is the law's where the arguments, and the package variables that the reading takes, are together of bulk at most 1048576: NARROWER than '..Said'. Prove '..Said' where nothing that the law and all that it calls make is longer than what came in: it says more and counts as full. Else prove '..UptoSaid'. A law counts once. -/
mutual
def uptoBulk {H : Type} : DataW H → Nat
  | .lit (.string bytes) => bytes.length + 1
  | .lit _ => 1
  | .nil => 1
  | .ptr d => uptoBulk d + 1
  | .slice elems spare => uptoBulkAll elems + uptoBulkAll spare + 1
  | .agg parts => uptoBulkAll parts + 1
  | .iface _ d => uptoBulk d + 1
  | .map entries => uptoBulkEntries entries + 1
  | .held _ => 1
def uptoBulkAll {H : Type} : List (DataW H) → Nat
  | [] => 0
  | d :: r => uptoBulk d + uptoBulkAll r
def uptoBulkEntries {H : Type} : List (Lit × DataW H) → Nat
  | [] => 0
  | x :: r => uptoBulkEntry x + uptoBulkEntries r
def uptoBulkEntry {H : Type} : Lit × DataW H → Nat
  | (.string bytes, d) => bytes.length + uptoBulk d + 1
  | (_, d) => uptoBulk d + 1
 end
def uptoSmall : (H : Type) → List (DataW H) → Bool := fun _ ds => decide (uptoBulkAll ds ≤ 1048576)
def OpenSpec.upto (s : _root_.Go.ChangeSpec) : _root_.Go.OpenSpec := { _root_.Go.OpenSpec.ofChange s with cond := some uptoSmall }

/-- 'shiftbellkeep.RetryGrows', WHERE WHAT IT READS IS OF BULK AT MOST 1048576: true; the input reads as it did. -/
def retryGrowsUptoRow : OpenClaim := { program := "ytohgdhcgahjfoaa", sum := "59543e0c257d89ad0c8d56725916366d98eeebd647e232379810d2aee96fac41", func := "shiftbell/shiftbellkeep.RetryGrows", spec := "retryGrows", apart := false, narrowed := true }
def RetryGrowsUptoSaid : Prop := retryGrowsUptoRow.holds Try.pinned (OpenSpec.upto retryGrowsSpec)

/-- 'shiftbellkeep.RetryWaits', WHERE WHAT IT READS IS OF BULK AT MOST 1048576: true; the input reads as it did. -/
def retryWaitsUptoRow : OpenClaim := { program := "ytohgdhcgahjfoaa", sum := "59543e0c257d89ad0c8d56725916366d98eeebd647e232379810d2aee96fac41", func := "shiftbell/shiftbellkeep.RetryWaits", spec := "retryWaits", apart := false, narrowed := true }
def RetryWaitsUptoSaid : Prop := retryWaitsUptoRow.holds Try.pinned (OpenSpec.upto retryWaitsSpec)

/-- 'shiftbellkeep.RetryHolds', WHERE WHAT IT READS IS OF BULK AT MOST 1048576: true; the input reads as it did. -/
def retryHoldsUptoRow : OpenClaim := { program := "ytohgdhcgahjfoaa", sum := "59543e0c257d89ad0c8d56725916366d98eeebd647e232379810d2aee96fac41", func := "shiftbell/shiftbellkeep.RetryHolds", spec := "retryHolds", apart := false, narrowed := true }
def RetryHoldsUptoSaid : Prop := retryHoldsUptoRow.holds Try.pinned (OpenSpec.upto retryHoldsSpec)

/-- 'shiftbellkeep.RetryBucket', WHERE WHAT IT READS IS OF BULK AT MOST 1048576: true; the input reads as it did. -/
def retryBucketUptoRow : OpenClaim := { program := "ytohgdhcgahjfoaa", sum := "59543e0c257d89ad0c8d56725916366d98eeebd647e232379810d2aee96fac41", func := "shiftbell/shiftbellkeep.RetryBucket", spec := "retryBucket", apart := false, narrowed := true }
def RetryBucketUptoSaid : Prop := retryBucketUptoRow.holds Try.pinned (OpenSpec.upto retryBucketSpec)

end Rows
end Go.Proofs.Ytohgdhcgahjfoaa
