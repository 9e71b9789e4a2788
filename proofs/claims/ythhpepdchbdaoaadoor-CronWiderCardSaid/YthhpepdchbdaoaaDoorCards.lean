/-
  DERIVED. GIVEN WITH THE SEED: THE CARDS: each row of YthhpepdchbdaoaaDoorRows.lean that lists a variable, with what it lists TIED to the program's text (the seventh form; the later family's looks); each row that meets fmt, with fmt's text TOLD by the authors' own Lean function (tested against real Go, not proved from fmt's source: count such statements apart). THE CARD IS WHAT COUNTS. Prove the row's statement (the work); the ties are given (YthhpepdchbdaoaaDoorTie.lean); close each card by the builder's one call (the guide's Derived/Test/ToyasCard.lean, 'card_holds'). Laid BY PROGRAM, IN A SANDBOX (cutbox-door.mjs). By AI agents, Wed Nov 11 2026. No macro, syntax, notation, axiom, sorry.
-/
import Derived.Test.YthhpepdchbdaoaaDoorRows
import GoSem.ClaimSeven
namespace Go.Proofs.YthhpepdchbdaoaaDoor
namespace Rows

/-- THE TIED CARD OF 'shiftbellkeep.CronWider'. -/
def cronWiderCard : Claim7 := { stood := { row := cronWiderRow, standIns := [], harness := (true, "ce09dba20ee8b4525538e5baced7eac427f1fae750aa3edb2274321d822775c7"), looks := true }, kinds := [], alts := [], laidByText := true, laidKinds := [.data, .data], laidTests := true, laidLooks := .later }
def CronWiderCardSaid : Prop := Claim7.holds Tryd.pinned (.plain (OpenSpec.ofChange cronWiderSpec)) cronWiderCard

/-- THE TIED CARD OF 'shiftbellkeep.CronLeast'. -/
def cronLeastCard : Claim7 := { stood := { row := cronLeastRow, standIns := [], harness := (true, "ce09dba20ee8b4525538e5baced7eac427f1fae750aa3edb2274321d822775c7"), looks := true }, kinds := [], alts := [], laidByText := true, laidKinds := [.data, .data], laidTests := true, laidLooks := .later }
def CronLeastCardSaid : Prop := Claim7.holds Tryd.pinned (.plain (OpenSpec.ofChange cronLeastSpec)) cronLeastCard

/-- THE TIED CARD OF 'shiftbellkeep.CronNow'. -/
def cronNowCard : Claim7 := { stood := { row := cronNowRow, standIns := [], harness := (true, "ce09dba20ee8b4525538e5baced7eac427f1fae750aa3edb2274321d822775c7"), looks := true }, kinds := [], alts := [], laidByText := true, laidKinds := [.data, .data], laidTests := true, laidLooks := .later }
def CronNowCardSaid : Prop := Claim7.holds Tryd.pinned (.plain (OpenSpec.ofChange cronNowSpec)) cronNowCard

/-- THE TIED CARD OF 'shiftbellkeep.CronAgain'. -/
def cronAgainCard : Claim7 := { stood := { row := cronAgainRow, standIns := [], harness := (true, "ce09dba20ee8b4525538e5baced7eac427f1fae750aa3edb2274321d822775c7"), looks := true }, kinds := [], alts := [], laidByText := true, laidKinds := [.data, .data], laidTests := true, laidLooks := .later }
def CronAgainCardSaid : Prop := Claim7.holds Tryd.pinned (.plain (OpenSpec.ofChange cronAgainSpec)) cronAgainCard

/-- THE TIED CARD OF 'shiftbellkeep.CronBack'. -/
def cronBackCard : Claim7 := { stood := { row := cronBackRow, standIns := [], harness := (true, "ce09dba20ee8b4525538e5baced7eac427f1fae750aa3edb2274321d822775c7"), looks := true }, kinds := [], alts := [], laidByText := true, laidKinds := [.data, .data, .data, .data, .data, .sentinel, .sentinel, .pinned], laidTests := true, laidLooks := .later }
def CronBackCardSaid : Prop := Claim7.holds Tryd.pinned (.plain (OpenSpec.ofChange cronBackSpec)) cronBackCard

/-- THE TIED CARD OF 'shiftbellkeep.CronOne'. -/
def cronOneCard : Claim7 := { stood := { row := cronOneRow, standIns := [], harness := (true, "ce09dba20ee8b4525538e5baced7eac427f1fae750aa3edb2274321d822775c7"), looks := true }, kinds := [], alts := [], laidByText := true, laidKinds := [.data, .data, .data, .data, .data, .sentinel, .sentinel, .pinned], laidTests := true, laidLooks := .later }
def CronOneCardSaid : Prop := Claim7.holds Tryd.pinned (.plain (OpenSpec.ofChange cronOneSpec)) cronOneCard

/-- THE SECOND FORM's CARD OF 'shiftbellkeep.CronWider'. -/
def cronWiderUptoCard : Claim7 := { stood := { row := cronWiderUptoRow, standIns := [], harness := (true, "ce09dba20ee8b4525538e5baced7eac427f1fae750aa3edb2274321d822775c7"), looks := true }, kinds := [], alts := [], laidByText := true, laidKinds := [.data, .data], laidTests := true, laidLooks := .later }
def CronWiderUptoCardSaid : Prop := Claim7.holds Tryd.pinned (.plain (OpenSpec.upto cronWiderSpec)) cronWiderUptoCard

/-- THE SECOND FORM's CARD OF 'shiftbellkeep.CronLeast'. -/
def cronLeastUptoCard : Claim7 := { stood := { row := cronLeastUptoRow, standIns := [], harness := (true, "ce09dba20ee8b4525538e5baced7eac427f1fae750aa3edb2274321d822775c7"), looks := true }, kinds := [], alts := [], laidByText := true, laidKinds := [.data, .data], laidTests := true, laidLooks := .later }
def CronLeastUptoCardSaid : Prop := Claim7.holds Tryd.pinned (.plain (OpenSpec.upto cronLeastSpec)) cronLeastUptoCard

/-- THE SECOND FORM's CARD OF 'shiftbellkeep.CronNow'. -/
def cronNowUptoCard : Claim7 := { stood := { row := cronNowUptoRow, standIns := [], harness := (true, "ce09dba20ee8b4525538e5baced7eac427f1fae750aa3edb2274321d822775c7"), looks := true }, kinds := [], alts := [], laidByText := true, laidKinds := [.data, .data], laidTests := true, laidLooks := .later }
def CronNowUptoCardSaid : Prop := Claim7.holds Tryd.pinned (.plain (OpenSpec.upto cronNowSpec)) cronNowUptoCard

/-- THE SECOND FORM's CARD OF 'shiftbellkeep.CronAgain'. -/
def cronAgainUptoCard : Claim7 := { stood := { row := cronAgainUptoRow, standIns := [], harness := (true, "ce09dba20ee8b4525538e5baced7eac427f1fae750aa3edb2274321d822775c7"), looks := true }, kinds := [], alts := [], laidByText := true, laidKinds := [.data, .data], laidTests := true, laidLooks := .later }
def CronAgainUptoCardSaid : Prop := Claim7.holds Tryd.pinned (.plain (OpenSpec.upto cronAgainSpec)) cronAgainUptoCard

/-- THE SECOND FORM's CARD OF 'shiftbellkeep.CronBack'. -/
def cronBackUptoCard : Claim7 := { stood := { row := cronBackUptoRow, standIns := [], harness := (true, "ce09dba20ee8b4525538e5baced7eac427f1fae750aa3edb2274321d822775c7"), looks := true }, kinds := [], alts := [], laidByText := true, laidKinds := [.data, .data, .data, .data, .data, .sentinel, .sentinel, .pinned], laidTests := true, laidLooks := .later }
def CronBackUptoCardSaid : Prop := Claim7.holds Tryd.pinned (.plain (OpenSpec.upto cronBackSpec)) cronBackUptoCard

/-- THE SECOND FORM's CARD OF 'shiftbellkeep.CronOne'. -/
def cronOneUptoCard : Claim7 := { stood := { row := cronOneUptoRow, standIns := [], harness := (true, "ce09dba20ee8b4525538e5baced7eac427f1fae750aa3edb2274321d822775c7"), looks := true }, kinds := [], alts := [], laidByText := true, laidKinds := [.data, .data, .data, .data, .data, .sentinel, .sentinel, .pinned], laidTests := true, laidLooks := .later }
def CronOneUptoCardSaid : Prop := Claim7.holds Tryd.pinned (.plain (OpenSpec.upto cronOneSpec)) cronOneUptoCard
end Rows
end Go.Proofs.YthhpepdchbdaoaaDoor
