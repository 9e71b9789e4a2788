/-
  NARROWER THAN 'FOR EVERY INPUT', by the rows' own cells (each row's printed sentence says how): CivilBack: laid · CivilWeek: laid · CivilNext: laid · CivilMonths: laid · CivilYears: laid · CivilCut: laid · CivilText: laid.
  DERIVED. THE GIVEN ROWS OF THIS SEAT. 7 by the template 'for every input the law returns true; each argument reads behind the call as it read before'; 0 by the template 'total and deterministic' (their statements: YtcliejgmehlojaaDoorTotals.lean).
  GIVEN WITH THE SEED: the statements are not yours to turn. If you find one false, say at which input.
  Laid BY PROGRAM, IN A SANDBOX (cutbox-rows.mjs): the forced cells as the released guide's own fill.sh prints them over the translation 4f9bd6b609b002a7… (all of the seat's roots in one cut). By AI agents, Wed Nov 11 2026. No macro, syntax, notation, axiom, sorry.
-/
import Derived.Test.YtcliejgmehlojaaDoorChecked
import GoSem.Claim
import GoSem.ClaimJoined
import GoSem.ClaimMapViews
import Derived.JoinedTies
import Derived.KernelRfl
namespace Go.Proofs.YtcliejgmehlojaaDoor
/- THE CELL 'sum', in the pinned program and in every row, IS THE sha256 OF THE DUMP (.gsa) THAT YtcliejgmehlojaaDoorProg.lean LOADS. Nothing in Lean hashes anything: it is a label: what it is worth is what the hold of that sum in a sandbox is worth. -/
noncomputable def Tryd.pinned : Pinned := { name := "ytcliejgmehlojaadoor", sum := "4f9bd6b609b002a7b2b8394c3201c3418496b4d611411f654ac0e5e21696ce4b", checked := Tryd.checked }
namespace Rows
def none {H : Type} : Left H := { results := [], args := [] }

/- WHAT THE LISTED PACKAGE-LEVEL VARIABLES READ AS WHEN THE CALL BEGINS. Each datum BY PROGRAM (the guide's laid-datum.mjs) off the statement by which the dump's own 'gosem.cut.vars' lays the variable. In a bare row this is a premise. The card (YtcliejgmehlojaaDoorCards.lean) ties it to the program's text. -/
def laid_shiftbell_civil_ahead {H : Type} : DataW H := .agg [.lit (.int .i64 0), .lit (.int .i64 0), .lit (.int .i64 31), .lit (.int .i64 59), .lit (.int .i64 90), .lit (.int .i64 120), .lit (.int .i64 151), .lit (.int .i64 181), .lit (.int .i64 212), .lit (.int .i64 243), .lit (.int .i64 273), .lit (.int .i64 304), .lit (.int .i64 334)]

/-- 'shiftbellkeep.CivilBack': WHATEVER THE INPUT: true; the input reads as it did. -/
def civilBackSpec : ChangeSpec := { name := "civilBack", fn := fun _ => fun
  | [d1, d2, d3, d4] => { results := [.lit (.bool true)], args := [d1, d2, d3, d4] }
  | _ => none }
def civilBackRow : OpenClaim := { program := "ytcliejgmehlojaadoor", sum := "4f9bd6b609b002a7b2b8394c3201c3418496b4d611411f654ac0e5e21696ce4b", func := "shiftbell/shiftbellkeep.CivilBack", spec := "civilBack", named := ["shiftbell/civil.ahead"], apart := false, laid := [("shiftbell/civil.ahead", laid_shiftbell_civil_ahead)] }
def CivilBackSaid : Prop := civilBackRow.holds Tryd.pinned (OpenSpec.ofChange civilBackSpec)

/-- ITS FALSE NEIGHBOUR: 'it returns false'. Refute it at one input. -/
def civilBackWrong : ChangeSpec := { name := "civilBack", fn := fun _ => fun
  | [d1, d2, d3, d4] => { results := [.lit (.bool false)], args := [d1, d2, d3, d4] }
  | _ => none }
def CivilBackWrongFalsely : Prop := civilBackRow.holds Tryd.pinned (OpenSpec.ofChange civilBackWrong)

/-- 'shiftbellkeep.CivilWeek': WHATEVER THE INPUT: true; the input reads as it did. -/
def civilWeekSpec : ChangeSpec := { name := "civilWeek", fn := fun _ => fun
  | [d] => { results := [.lit (.bool true)], args := [d] }
  | _ => none }
def civilWeekRow : OpenClaim := { program := "ytcliejgmehlojaadoor", sum := "4f9bd6b609b002a7b2b8394c3201c3418496b4d611411f654ac0e5e21696ce4b", func := "shiftbell/shiftbellkeep.CivilWeek", spec := "civilWeek", named := ["shiftbell/civil.ahead"], apart := false, laid := [("shiftbell/civil.ahead", laid_shiftbell_civil_ahead)] }
def CivilWeekSaid : Prop := civilWeekRow.holds Tryd.pinned (OpenSpec.ofChange civilWeekSpec)

/-- ITS FALSE NEIGHBOUR: 'it returns false'. Refute it at one input. -/
def civilWeekWrong : ChangeSpec := { name := "civilWeek", fn := fun _ => fun
  | [d] => { results := [.lit (.bool false)], args := [d] }
  | _ => none }
def CivilWeekWrongFalsely : Prop := civilWeekRow.holds Tryd.pinned (OpenSpec.ofChange civilWeekWrong)

/-- 'shiftbellkeep.CivilNext': WHATEVER THE INPUT: true; the input reads as it did. -/
def civilNextSpec : ChangeSpec := { name := "civilNext", fn := fun _ => fun
  | [d] => { results := [.lit (.bool true)], args := [d] }
  | _ => none }
def civilNextRow : OpenClaim := { program := "ytcliejgmehlojaadoor", sum := "4f9bd6b609b002a7b2b8394c3201c3418496b4d611411f654ac0e5e21696ce4b", func := "shiftbell/shiftbellkeep.CivilNext", spec := "civilNext", unfollowed := true, recurses := true, named := ["shiftbell/civil.ahead"], apart := false, laid := [("shiftbell/civil.ahead", laid_shiftbell_civil_ahead)] }
def CivilNextSaid : Prop := civilNextRow.holds Tryd.pinned (OpenSpec.ofChange civilNextSpec)

/-- ITS FALSE NEIGHBOUR: 'it returns false'. Refute it at one input. -/
def civilNextWrong : ChangeSpec := { name := "civilNext", fn := fun _ => fun
  | [d] => { results := [.lit (.bool false)], args := [d] }
  | _ => none }
def CivilNextWrongFalsely : Prop := civilNextRow.holds Tryd.pinned (OpenSpec.ofChange civilNextWrong)

/-- 'shiftbellkeep.CivilMonths': WHATEVER THE INPUT: true; the input reads as it did. -/
def civilMonthsSpec : ChangeSpec := { name := "civilMonths", fn := fun _ => fun
  | [d1, d2, d3] => { results := [.lit (.bool true)], args := [d1, d2, d3] }
  | _ => none }
def civilMonthsRow : OpenClaim := { program := "ytcliejgmehlojaadoor", sum := "4f9bd6b609b002a7b2b8394c3201c3418496b4d611411f654ac0e5e21696ce4b", func := "shiftbell/shiftbellkeep.CivilMonths", spec := "civilMonths", named := ["shiftbell/civil.ahead"], apart := false, laid := [("shiftbell/civil.ahead", laid_shiftbell_civil_ahead)] }
def CivilMonthsSaid : Prop := civilMonthsRow.holds Tryd.pinned (OpenSpec.ofChange civilMonthsSpec)

/-- ITS FALSE NEIGHBOUR: 'it returns false'. Refute it at one input. -/
def civilMonthsWrong : ChangeSpec := { name := "civilMonths", fn := fun _ => fun
  | [d1, d2, d3] => { results := [.lit (.bool false)], args := [d1, d2, d3] }
  | _ => none }
def CivilMonthsWrongFalsely : Prop := civilMonthsRow.holds Tryd.pinned (OpenSpec.ofChange civilMonthsWrong)

/-- 'shiftbellkeep.CivilYears': WHATEVER THE INPUT: true; the input reads as it did. -/
def civilYearsSpec : ChangeSpec := { name := "civilYears", fn := fun _ => fun
  | [d] => { results := [.lit (.bool true)], args := [d] }
  | _ => none }
def civilYearsRow : OpenClaim := { program := "ytcliejgmehlojaadoor", sum := "4f9bd6b609b002a7b2b8394c3201c3418496b4d611411f654ac0e5e21696ce4b", func := "shiftbell/shiftbellkeep.CivilYears", spec := "civilYears", unfollowed := true, recurses := true, named := ["shiftbell/civil.ahead"], apart := false, laid := [("shiftbell/civil.ahead", laid_shiftbell_civil_ahead)] }
def CivilYearsSaid : Prop := civilYearsRow.holds Tryd.pinned (OpenSpec.ofChange civilYearsSpec)

/-- ITS FALSE NEIGHBOUR: 'it returns false'. Refute it at one input. -/
def civilYearsWrong : ChangeSpec := { name := "civilYears", fn := fun _ => fun
  | [d] => { results := [.lit (.bool false)], args := [d] }
  | _ => none }
def CivilYearsWrongFalsely : Prop := civilYearsRow.holds Tryd.pinned (OpenSpec.ofChange civilYearsWrong)

/-- 'shiftbellkeep.CivilCut': WHATEVER THE INPUT: true; the input reads as it did. -/
def civilCutSpec : ChangeSpec := { name := "civilCut", fn := fun _ => fun
  | [d] => { results := [.lit (.bool true)], args := [d] }
  | _ => none }
def civilCutRow : OpenClaim := { program := "ytcliejgmehlojaadoor", sum := "4f9bd6b609b002a7b2b8394c3201c3418496b4d611411f654ac0e5e21696ce4b", func := "shiftbell/shiftbellkeep.CivilCut", spec := "civilCut", unfollowed := true, recurses := true, named := ["shiftbell/civil.ahead"], apart := false, laid := [("shiftbell/civil.ahead", laid_shiftbell_civil_ahead)] }
def CivilCutSaid : Prop := civilCutRow.holds Tryd.pinned (OpenSpec.ofChange civilCutSpec)

/-- ITS FALSE NEIGHBOUR: 'it returns false'. Refute it at one input. -/
def civilCutWrong : ChangeSpec := { name := "civilCut", fn := fun _ => fun
  | [d] => { results := [.lit (.bool false)], args := [d] }
  | _ => none }
def CivilCutWrongFalsely : Prop := civilCutRow.holds Tryd.pinned (OpenSpec.ofChange civilCutWrong)

/-- 'shiftbellkeep.CivilText': WHATEVER THE INPUT: true; the input reads as it did. -/
def civilTextSpec : ChangeSpec := { name := "civilText", fn := fun _ => fun
  | [d1, d2, d3] => { results := [.lit (.bool true)], args := [d1, d2, d3] }
  | _ => none }
def civilTextRow : OpenClaim := { program := "ytcliejgmehlojaadoor", sum := "4f9bd6b609b002a7b2b8394c3201c3418496b4d611411f654ac0e5e21696ce4b", func := "shiftbell/shiftbellkeep.CivilText", spec := "civilText", unfollowed := true, recurses := true, named := ["shiftbell/civil.ahead"], apart := false, laid := [("shiftbell/civil.ahead", laid_shiftbell_civil_ahead)] }
def CivilTextSaid : Prop := civilTextRow.holds Tryd.pinned (OpenSpec.ofChange civilTextSpec)

/-- ITS FALSE NEIGHBOUR: 'it returns false'. Refute it at one input. -/
def civilTextWrong : ChangeSpec := { name := "civilText", fn := fun _ => fun
  | [d1, d2, d3] => { results := [.lit (.bool false)], args := [d1, d2, d3] }
  | _ => none }
def CivilTextWrongFalsely : Prop := civilTextRow.holds Tryd.pinned (OpenSpec.ofChange civilTextWrong)

/- THE SECOND FORM. 'bulk': how many values and letters a reading holds, each counted each time it is reached (what is shared counts as often as it is met; a slice's spare places count too). A statement '..UptoSaid' is the law's where the arguments, and the package variables that the reading takes, are together of bulk at most 1048576: NARROWER than '..Said'. Prove '..Said' where nothing that the law and all that it calls make is longer than what came in: it says more and counts as full. Else prove '..UptoSaid'. A law counts once. -/
mutual
def uptoBulk {H : Type} : DataW H → Nat
  | .lit (.string bytes) => bytes.length + 1
  | .lit _ => 1
  | .nil => 1
  | .ptr d => uptoBulk d + 1
  | .slice elems spare => uptoBulkAll elems + uptoBulkAll spare + 1
  | .agg parts => uptoBulkAll parts + 1
  | .iface _ d => uptoBulk d + 1
  | .map entries => uptoBulkEntries entries + 1
  | .held _ => 1
def uptoBulkAll {H : Type} : List (DataW H) → Nat
  | [] => 0
  | d :: r => uptoBulk d + uptoBulkAll r
def uptoBulkEntries {H : Type} : List (Lit × DataW H) → Nat
  | [] => 0
  | x :: r => uptoBulkEntry x + uptoBulkEntries r
def uptoBulkEntry {H : Type} : Lit × DataW H → Nat
  | (.string bytes, d) => bytes.length + uptoBulk d + 1
  | (_, d) => uptoBulk d + 1
 end
def uptoSmall : (H : Type) → List (DataW H) → Bool := fun _ ds => decide (uptoBulkAll ds ≤ 1048576)
def OpenSpec.upto (s : _root_.Go.ChangeSpec) : _root_.Go.OpenSpec := { _root_.Go.OpenSpec.ofChange s with cond := some uptoSmall }

/-- 'shiftbellkeep.CivilBack', WHERE WHAT IT READS IS OF BULK AT MOST 1048576: true; the input reads as it did. -/
def civilBackUptoRow : OpenClaim := { program := "ytcliejgmehlojaadoor", sum := "4f9bd6b609b002a7b2b8394c3201c3418496b4d611411f654ac0e5e21696ce4b", func := "shiftbell/shiftbellkeep.CivilBack", spec := "civilBack", named := ["shiftbell/civil.ahead"], apart := false, laid := [("shiftbell/civil.ahead", laid_shiftbell_civil_ahead)], narrowed := true }
def CivilBackUptoSaid : Prop := civilBackUptoRow.holds Tryd.pinned (OpenSpec.upto civilBackSpec)

/-- 'shiftbellkeep.CivilWeek', WHERE WHAT IT READS IS OF BULK AT MOST 1048576: true; the input reads as it did. -/
def civilWeekUptoRow : OpenClaim := { program := "ytcliejgmehlojaadoor", sum := "4f9bd6b609b002a7b2b8394c3201c3418496b4d611411f654ac0e5e21696ce4b", func := "shiftbell/shiftbellkeep.CivilWeek", spec := "civilWeek", named := ["shiftbell/civil.ahead"], apart := false, laid := [("shiftbell/civil.ahead", laid_shiftbell_civil_ahead)], narrowed := true }
def CivilWeekUptoSaid : Prop := civilWeekUptoRow.holds Tryd.pinned (OpenSpec.upto civilWeekSpec)

/-- 'shiftbellkeep.CivilNext', WHERE WHAT IT READS IS OF BULK AT MOST 1048576: true; the input reads as it did. -/
def civilNextUptoRow : OpenClaim := { program := "ytcliejgmehlojaadoor", sum := "4f9bd6b609b002a7b2b8394c3201c3418496b4d611411f654ac0e5e21696ce4b", func := "shiftbell/shiftbellkeep.CivilNext", spec := "civilNext", unfollowed := true, recurses := true, named := ["shiftbell/civil.ahead"], apart := false, laid := [("shiftbell/civil.ahead", laid_shiftbell_civil_ahead)], narrowed := true }
def CivilNextUptoSaid : Prop := civilNextUptoRow.holds Tryd.pinned (OpenSpec.upto civilNextSpec)

/-- 'shiftbellkeep.CivilMonths', WHERE WHAT IT READS IS OF BULK AT MOST 1048576: true; the input reads as it did. -/
def civilMonthsUptoRow : OpenClaim := { program := "ytcliejgmehlojaadoor", sum := "4f9bd6b609b002a7b2b8394c3201c3418496b4d611411f654ac0e5e21696ce4b", func := "shiftbell/shiftbellkeep.CivilMonths", spec := "civilMonths", named := ["shiftbell/civil.ahead"], apart := false, laid := [("shiftbell/civil.ahead", laid_shiftbell_civil_ahead)], narrowed := true }
def CivilMonthsUptoSaid : Prop := civilMonthsUptoRow.holds Tryd.pinned (OpenSpec.upto civilMonthsSpec)

/-- 'shiftbellkeep.CivilYears', WHERE WHAT IT READS IS OF BULK AT MOST 1048576: true; the input reads as it did. -/
def civilYearsUptoRow : OpenClaim := { program := "ytcliejgmehlojaadoor", sum := "4f9bd6b609b002a7b2b8394c3201c3418496b4d611411f654ac0e5e21696ce4b", func := "shiftbell/shiftbellkeep.CivilYears", spec := "civilYears", unfollowed := true, recurses := true, named := ["shiftbell/civil.ahead"], apart := false, laid := [("shiftbell/civil.ahead", laid_shiftbell_civil_ahead)], narrowed := true }
def CivilYearsUptoSaid : Prop := civilYearsUptoRow.holds Tryd.pinned (OpenSpec.upto civilYearsSpec)

/-- 'shiftbellkeep.CivilCut', WHERE WHAT IT READS IS OF BULK AT MOST 1048576: true; the input reads as it did. -/
def civilCutUptoRow : OpenClaim := { program := "ytcliejgmehlojaadoor", sum := "4f9bd6b609b002a7b2b8394c3201c3418496b4d611411f654ac0e5e21696ce4b", func := "shiftbell/shiftbellkeep.CivilCut", spec := "civilCut", unfollowed := true, recurses := true, named := ["shiftbell/civil.ahead"], apart := false, laid := [("shiftbell/civil.ahead", laid_shiftbell_civil_ahead)], narrowed := true }
def CivilCutUptoSaid : Prop := civilCutUptoRow.holds Tryd.pinned (OpenSpec.upto civilCutSpec)

/-- 'shiftbellkeep.CivilText', WHERE WHAT IT READS IS OF BULK AT MOST 1048576: true; the input reads as it did. -/
def civilTextUptoRow : OpenClaim := { program := "ytcliejgmehlojaadoor", sum := "4f9bd6b609b002a7b2b8394c3201c3418496b4d611411f654ac0e5e21696ce4b", func := "shiftbell/shiftbellkeep.CivilText", spec := "civilText", unfollowed := true, recurses := true, named := ["shiftbell/civil.ahead"], apart := false, laid := [("shiftbell/civil.ahead", laid_shiftbell_civil_ahead)], narrowed := true }
def CivilTextUptoSaid : Prop := civilTextUptoRow.holds Tryd.pinned (OpenSpec.upto civilTextSpec)

end Rows
end Go.Proofs.YtcliejgmehlojaaDoor
