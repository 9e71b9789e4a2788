/-
  NARROWER THAN 'FOR EVERY INPUT', by the rows' own cells (each row's printed sentence says how): HostBest: loops · HostLess: loops · HostFit: loops.
  DERIVED. THE GIVEN ROWS OF THIS SEAT. 4 by the template 'for every input the law returns true; each argument reads behind the call as it read before'; 0 by the template 'total and deterministic' (their statements: YtdhhggfplacenaaTotals.lean).
  GIVEN WITH THE SEED: the statements are not yours to turn. If you find one false, say at which input.
  Laid BY PROGRAM, IN A SANDBOX (cutbox-rows.mjs): the forced cells as the released guide's own fill.sh prints them over the translation 9815da752d33db32… (all of the seat's roots in one cut). By AI agents, Wed Nov 11 2026. No macro, syntax, notation, axiom, sorry.
-/
import Derived.Test.YtdhhggfplacenaaChecked
import GoSem.Claim
import GoSem.ClaimJoined
import GoSem.ClaimMapViews
import Derived.JoinedTies
import Derived.KernelRfl
namespace Go.Proofs.Ytdhhggfplacenaa
/- THE CELL 'sum', in the pinned program and in every row, IS THE sha256 OF THE DUMP (.gsa) THAT YtdhhggfplacenaaProg.lean LOADS. Nothing in Lean hashes anything: it is a label: what it is worth is what the hold of that sum in a sandbox is worth. -/
noncomputable def Try.pinned : Pinned := { name := "ytdhhggfplacenaa", sum := "9815da752d33db321f5a58eafe86758b1ce2bd8e7729e3faf0d84617f1807864", checked := Try.checked }
namespace Rows
def none {H : Type} : Left H := { results := [], args := [] }

/-- 'shiftbellkeep.HostBest': WHATEVER THE INPUT: true; the input reads as it did. -/
def hostBestSpec : ChangeSpec := { name := "hostBest", fn := fun _ => fun
  | [d1, d2, d3, d4] => { results := [.lit (.bool true)], args := [d1, d2, d3, d4] }
  | _ => none }
def hostBestRow : OpenClaim := { program := "ytdhhggfplacenaa", sum := "9815da752d33db321f5a58eafe86758b1ce2bd8e7729e3faf0d84617f1807864", func := "shiftbell/shiftbellkeep.HostBest", spec := "hostBest", unfollowed := true, recurses := true, loops := true, apart := false }
def HostBestSaid : Prop := hostBestRow.holds Try.pinned (OpenSpec.ofChange hostBestSpec)

/-- ITS FALSE NEIGHBOUR: 'it returns false'. Refute it at one input. -/
def hostBestWrong : ChangeSpec := { name := "hostBest", fn := fun _ => fun
  | [d1, d2, d3, d4] => { results := [.lit (.bool false)], args := [d1, d2, d3, d4] }
  | _ => none }
def HostBestWrongFalsely : Prop := hostBestRow.holds Try.pinned (OpenSpec.ofChange hostBestWrong)

/-- 'shiftbellkeep.HostLess': WHATEVER THE INPUT: true; the input reads as it did. -/
def hostLessSpec : ChangeSpec := { name := "hostLess", fn := fun _ => fun
  | [d1, d2, d3, d4] => { results := [.lit (.bool true)], args := [d1, d2, d3, d4] }
  | _ => none }
def hostLessRow : OpenClaim := { program := "ytdhhggfplacenaa", sum := "9815da752d33db321f5a58eafe86758b1ce2bd8e7729e3faf0d84617f1807864", func := "shiftbell/shiftbellkeep.HostLess", spec := "hostLess", unfollowed := true, recurses := true, loops := true, apart := false }
def HostLessSaid : Prop := hostLessRow.holds Try.pinned (OpenSpec.ofChange hostLessSpec)

/-- ITS FALSE NEIGHBOUR: 'it returns false'. Refute it at one input. -/
def hostLessWrong : ChangeSpec := { name := "hostLess", fn := fun _ => fun
  | [d1, d2, d3, d4] => { results := [.lit (.bool false)], args := [d1, d2, d3, d4] }
  | _ => none }
def HostLessWrongFalsely : Prop := hostLessRow.holds Try.pinned (OpenSpec.ofChange hostLessWrong)

/-- 'shiftbellkeep.HostFit': WHATEVER THE INPUT: true; the input reads as it did. -/
def hostFitSpec : ChangeSpec := { name := "hostFit", fn := fun _ => fun
  | [d1, d2, d3, d4] => { results := [.lit (.bool true)], args := [d1, d2, d3, d4] }
  | _ => none }
def hostFitRow : OpenClaim := { program := "ytdhhggfplacenaa", sum := "9815da752d33db321f5a58eafe86758b1ce2bd8e7729e3faf0d84617f1807864", func := "shiftbell/shiftbellkeep.HostFit", spec := "hostFit", unfollowed := true, recurses := true, loops := true, apart := false }
def HostFitSaid : Prop := hostFitRow.holds Try.pinned (OpenSpec.ofChange hostFitSpec)

/-- ITS FALSE NEIGHBOUR: 'it returns false'. Refute it at one input. -/
def hostFitWrong : ChangeSpec := { name := "hostFit", fn := fun _ => fun
  | [d1, d2, d3, d4] => { results := [.lit (.bool false)], args := [d1, d2, d3, d4] }
  | _ => none }
def HostFitWrongFalsely : Prop := hostFitRow.holds Try.pinned (OpenSpec.ofChange hostFitWrong)

/-- 'shiftbellkeep.HostBack': WHATEVER THE INPUT: true; the input reads as it did. -/
def hostBackSpec : ChangeSpec := { name := "hostBack", fn := fun _ => fun
  | [d1, d2, d3] => { results := [.lit (.bool true)], args := [d1, d2, d3] }
  | _ => none }
def hostBackRow : OpenClaim := { program := "ytdhhggfplacenaa", sum := "9815da752d33db321f5a58eafe86758b1ce2bd8e7729e3faf0d84617f1807864", func := "shiftbell/shiftbellkeep.HostBack", spec := "hostBack", unfollowed := true, recurses := true, apart := false }
def HostBackSaid : Prop := hostBackRow.holds Try.pinned (OpenSpec.ofChange hostBackSpec)

/-- ITS FALSE NEIGHBOUR: 'it returns false'. Refute it at one input. -/
def hostBackWrong : ChangeSpec := { name := "hostBack", fn := fun _ => fun
  | [d1, d2, d3] => { results := [.lit (.bool false)], args := [d1, d2, d3] }
  | _ => none }
def HostBackWrongFalsely : Prop := hostBackRow.holds Try.pinned (OpenSpec.ofChange hostBackWrong)

/- THE SECOND FORM. 'bulk': how many values and letters a reading holds, each counted each time it is reached (what is shared counts as often as it is met; a slice's spare places count too). A statement '..UptoSaid' is the law's where the arguments, and the package variables that the reading takes, are together of bulk at most 1048576: NARROWER than '..Said'. Prove '..Said' where nothing that the law and all that it calls make is longer than what came in: it says more and counts as full. Else prove '..UptoSaid'. A law counts once. -/
mutual
def uptoBulk {H : Type} : DataW H → Nat
  | .lit (.string bytes) => bytes.length + 1
  | .lit _ => 1
  | .nil => 1
  | .ptr d => uptoBulk d + 1
  | .slice elems spare => uptoBulkAll elems + uptoBulkAll spare + 1
  | .agg parts => uptoBulkAll parts + 1
  | .iface _ d => uptoBulk d + 1
  | .map entries => uptoBulkEntries entries + 1
  | .held _ => 1
def uptoBulkAll {H : Type} : List (DataW H) → Nat
  | [] => 0
  | d :: r => uptoBulk d + uptoBulkAll r
def uptoBulkEntries {H : Type} : List (Lit × DataW H) → Nat
  | [] => 0
  | x :: r => uptoBulkEntry x + uptoBulkEntries r
def uptoBulkEntry {H : Type} : Lit × DataW H → Nat
  | (.string bytes, d) => bytes.length + uptoBulk d + 1
  | (_, d) => uptoBulk d + 1
 end
def uptoSmall : (H : Type) → List (DataW H) → Bool := fun _ ds => decide (uptoBulkAll ds ≤ 1048576)
def OpenSpec.upto (s : _root_.Go.ChangeSpec) : _root_.Go.OpenSpec := { _root_.Go.OpenSpec.ofChange s with cond := some uptoSmall }

/-- 'shiftbellkeep.HostBest', WHERE WHAT IT READS IS OF BULK AT MOST 1048576: true; the input reads as it did. -/
def hostBestUptoRow : OpenClaim := { program := "ytdhhggfplacenaa", sum := "9815da752d33db321f5a58eafe86758b1ce2bd8e7729e3faf0d84617f1807864", func := "shiftbell/shiftbellkeep.HostBest", spec := "hostBest", unfollowed := true, recurses := true, loops := true, apart := false, narrowed := true }
def HostBestUptoSaid : Prop := hostBestUptoRow.holds Try.pinned (OpenSpec.upto hostBestSpec)

/-- 'shiftbellkeep.HostLess', WHERE WHAT IT READS IS OF BULK AT MOST 1048576: true; the input reads as it did. -/
def hostLessUptoRow : OpenClaim := { program := "ytdhhggfplacenaa", sum := "9815da752d33db321f5a58eafe86758b1ce2bd8e7729e3faf0d84617f1807864", func := "shiftbell/shiftbellkeep.HostLess", spec := "hostLess", unfollowed := true, recurses := true, loops := true, apart := false, narrowed := true }
def HostLessUptoSaid : Prop := hostLessUptoRow.holds Try.pinned (OpenSpec.upto hostLessSpec)

/-- 'shiftbellkeep.HostFit', WHERE WHAT IT READS IS OF BULK AT MOST 1048576: true; the input reads as it did. -/
def hostFitUptoRow : OpenClaim := { program := "ytdhhggfplacenaa", sum := "9815da752d33db321f5a58eafe86758b1ce2bd8e7729e3faf0d84617f1807864", func := "shiftbell/shiftbellkeep.HostFit", spec := "hostFit", unfollowed := true, recurses := true, loops := true, apart := false, narrowed := true }
def HostFitUptoSaid : Prop := hostFitUptoRow.holds Try.pinned (OpenSpec.upto hostFitSpec)

/-- 'shiftbellkeep.HostBack', WHERE WHAT IT READS IS OF BULK AT MOST 1048576: true; the input reads as it did. -/
def hostBackUptoRow : OpenClaim := { program := "ytdhhggfplacenaa", sum := "9815da752d33db321f5a58eafe86758b1ce2bd8e7729e3faf0d84617f1807864", func := "shiftbell/shiftbellkeep.HostBack", spec := "hostBack", unfollowed := true, recurses := true, apart := false, narrowed := true }
def HostBackUptoSaid : Prop := hostBackUptoRow.holds Try.pinned (OpenSpec.upto hostBackSpec)

end Rows
end Go.Proofs.Ytdhhggfplacenaa
