/-
  DERIVED. GIVEN WITH THE SEED: THE CARDS: each row of YtenppnomdejmlaaDoorRows.lean that lists a variable, with what it lists TIED to the program's text (the seventh form; the later family's looks); each row that meets fmt, with fmt's text TOLD by the authors' own Lean function (tested against real Go, not proved from fmt's source: count such statements apart). THE CARD IS WHAT COUNTS. Prove the row's statement (the work); the ties are given (YtenppnomdejmlaaDoorTie.lean); close each card by the builder's one call (the guide's Derived/Test/ToyasCard.lean, 'card_holds'). Laid BY PROGRAM, IN A SANDBOX (cutbox-door.mjs). By AI agents, Wed Nov 11 2026. No macro, syntax, notation, axiom, sorry.
-/
import Derived.Test.YtenppnomdejmlaaDoorRows
import GoSem.ClaimSeven
namespace Go.Proofs.YtenppnomdejmlaaDoor
namespace Rows

/-- THE TIED CARD OF 'shiftbellkeep.JournalCrash'. -/
def journalCrashCard : Claim7 := { stood := { row := journalCrashRow, standIns := [], harness := (true, "ee7ddafc0f1b67d041a4849db574abf061dc4b3e034bc667d74d97d20559f1ff"), looks := true }, kinds := [], alts := [], laidByText := true, laidKinds := [.data, .data, .data], laidTests := true, laidLooks := .later }
def JournalCrashCardSaid : Prop := Claim7.holds Tryd.pinned (.plain (OpenSpec.ofChange journalCrashSpec)) journalCrashCard

/-- THE TIED CARD OF 'shiftbellkeep.JobBack'. -/
def jobBackCard : Claim7 := { stood := { row := jobBackRow, standIns := [], harness := (true, "ee7ddafc0f1b67d041a4849db574abf061dc4b3e034bc667d74d97d20559f1ff"), looks := true }, kinds := [], alts := [], laidByText := true, laidKinds := [.data, .data, .data, .data, .sentinel, .sentinel, .pinned], laidTests := true, laidLooks := .later }
def JobBackCardSaid : Prop := Claim7.holds Tryd.pinned (.plain (OpenSpec.ofChange jobBackSpec)) jobBackCard

/-- THE TIED CARD OF 'shiftbellkeep.JournalOne'. -/
def journalOneCard : Claim7 := { stood := { row := journalOneRow, standIns := [], harness := (true, "ee7ddafc0f1b67d041a4849db574abf061dc4b3e034bc667d74d97d20559f1ff"), looks := true }, kinds := [], alts := [], laidByText := true, laidKinds := [.data, .data, .data, .data, .sentinel, .sentinel, .pinned], laidTests := true, laidLooks := .later }
def JournalOneCardSaid : Prop := Claim7.holds Tryd.pinned (.plain (OpenSpec.ofChange journalOneSpec)) journalOneCard

/-- THE SECOND FORM's CARD OF 'shiftbellkeep.JournalCrash'. -/
def journalCrashUptoCard : Claim7 := { stood := { row := journalCrashUptoRow, standIns := [], harness := (true, "ee7ddafc0f1b67d041a4849db574abf061dc4b3e034bc667d74d97d20559f1ff"), looks := true }, kinds := [], alts := [], laidByText := true, laidKinds := [.data, .data, .data], laidTests := true, laidLooks := .later }
def JournalCrashUptoCardSaid : Prop := Claim7.holds Tryd.pinned (.plain (OpenSpec.upto journalCrashSpec)) journalCrashUptoCard

/-- THE SECOND FORM's CARD OF 'shiftbellkeep.JobBack'. -/
def jobBackUptoCard : Claim7 := { stood := { row := jobBackUptoRow, standIns := [], harness := (true, "ee7ddafc0f1b67d041a4849db574abf061dc4b3e034bc667d74d97d20559f1ff"), looks := true }, kinds := [], alts := [], laidByText := true, laidKinds := [.data, .data, .data, .data, .sentinel, .sentinel, .pinned], laidTests := true, laidLooks := .later }
def JobBackUptoCardSaid : Prop := Claim7.holds Tryd.pinned (.plain (OpenSpec.upto jobBackSpec)) jobBackUptoCard

/-- THE SECOND FORM's CARD OF 'shiftbellkeep.JournalOne'. -/
def journalOneUptoCard : Claim7 := { stood := { row := journalOneUptoRow, standIns := [], harness := (true, "ee7ddafc0f1b67d041a4849db574abf061dc4b3e034bc667d74d97d20559f1ff"), looks := true }, kinds := [], alts := [], laidByText := true, laidKinds := [.data, .data, .data, .data, .sentinel, .sentinel, .pinned], laidTests := true, laidLooks := .later }
def JournalOneUptoCardSaid : Prop := Claim7.holds Tryd.pinned (.plain (OpenSpec.upto journalOneSpec)) journalOneUptoCard
end Rows
end Go.Proofs.YtenppnomdejmlaaDoor
