/-
  DERIVED. GIVEN WITH THE SEED: THE CARDS: each row of YtcceeahmcecbnaaGreatDoorRows.lean that lists a variable, with what it lists TIED to the program's text (the seventh form; the later family's looks); each row that meets fmt, with fmt's text TOLD by the authors' own Lean function (tested against real Go, not proved from fmt's source: count such statements apart). THE CARD IS WHAT COUNTS. Prove the row's statement (the work); the ties are given (YtcceeahmcecbnaaGreatDoorTie.lean); close each card by the builder's one call (the guide's Derived/Test/ToyasCard.lean, 'card_holds'). Laid BY PROGRAM, IN A SANDBOX (cutbox-door.mjs). By AI agents, Wed Nov 11 2026. No macro, syntax, notation, axiom, sorry.
-/
import Derived.Test.YtcceeahmcecbnaaGreatDoorRows
import GoSem.ClaimSeven
namespace Go.Proofs.YtcceeahmcecbnaaGreatDoor
namespace Rows

/-- THE TIED CARD OF 'shiftbellkeep.DeskFront'. -/
def deskFrontCard : Claim7 := { stood := { row := deskFrontRow, standIns := [], harness := (true, "ab0d7383ac3b8daf502fd3624946ed10df3a579711b5a5ab2fb5bc61eda94f27"), looks := true }, kinds := [], alts := [], laidByText := true, laidKinds := [.data, .data, .data, .data, .data, .handle, .sentinel, .sentinel, .data, .pinned], laidTests := true, laidLooks := .later }
def DeskFrontCardSaid : Prop := Claim7.holds Tryz.pinned (.plain (OpenSpec.ofChange deskFrontSpec)) deskFrontCard

/-- THE TIED CARD OF 'shiftbellkeep.DeskWrong'. -/
def deskWrongCard : Claim7 := { stood := { row := deskWrongRow, standIns := [], harness := (true, "ab0d7383ac3b8daf502fd3624946ed10df3a579711b5a5ab2fb5bc61eda94f27"), looks := true }, kinds := [], alts := [], laidByText := true, laidKinds := [.data, .data, .data, .data, .data, .handle, .sentinel, .sentinel, .data, .pinned], laidTests := true, laidLooks := .later }
def DeskWrongCardSaid : Prop := Claim7.holds Tryz.pinned (.plain (OpenSpec.ofChange deskWrongSpec)) deskWrongCard

/-- THE TIED CARD OF 'shiftbellkeep.DeskAsks'. -/
def deskAsksCard : Claim7 := { stood := { row := deskAsksRow, standIns := [], harness := (true, "ab0d7383ac3b8daf502fd3624946ed10df3a579711b5a5ab2fb5bc61eda94f27"), looks := true }, kinds := [], alts := [], laidByText := true, laidKinds := [.data, .data, .data, .data, .data, .handle, .sentinel, .sentinel, .data, .pinned], laidTests := true, laidLooks := .later }
def DeskAsksCardSaid : Prop := Claim7.holds Tryz.pinned (.plain (OpenSpec.ofChange deskAsksSpec)) deskAsksCard

/-- THE TIED CARD OF 'shiftbelltop.TopDone'. -/
def topDoneCard : Claim7 := { stood := { row := topDoneRow, standIns := [], harness := (true, "ab0d7383ac3b8daf502fd3624946ed10df3a579711b5a5ab2fb5bc61eda94f27"), looks := true }, kinds := [], alts := [], laidByText := true, laidKinds := [.data, .data, .data, .data, .data, .handle, .sentinel, .sentinel, .data, .pinned], laidTests := true, laidLooks := .later }
def TopDoneCardSaid : Prop := Claim7.holds Tryz.pinned (.plain (OpenSpec.ofChange topDoneSpec)) topDoneCard

/-- THE TIED CARD OF 'shiftbelltop.TopWaits'. -/
def topWaitsCard : Claim7 := { stood := { row := topWaitsRow, standIns := [], harness := (true, "ab0d7383ac3b8daf502fd3624946ed10df3a579711b5a5ab2fb5bc61eda94f27"), looks := true }, kinds := [], alts := [], laidByText := true, laidKinds := [.data, .data, .data, .data, .data, .handle, .sentinel, .sentinel, .data, .pinned], laidTests := true, laidLooks := .later }
def TopWaitsCardSaid : Prop := Claim7.holds Tryz.pinned (.plain (OpenSpec.ofChange topWaitsSpec)) topWaitsCard

/-- THE TIED CARD OF 'shiftbelltop.TopOrder'. -/
def topOrderCard : Claim7 := { stood := { row := topOrderRow, standIns := [], harness := (true, "ab0d7383ac3b8daf502fd3624946ed10df3a579711b5a5ab2fb5bc61eda94f27"), looks := true }, kinds := [], alts := [], laidByText := true, laidKinds := [.data, .data, .data, .data, .data, .handle, .sentinel, .sentinel, .data, .pinned], laidTests := true, laidLooks := .later }
def TopOrderCardSaid : Prop := Claim7.holds Tryz.pinned (.plain (OpenSpec.ofChange topOrderSpec)) topOrderCard

/-- THE TIED CARD OF 'shiftbelltop.TopJournal'. -/
def topJournalCard : Claim7 := { stood := { row := topJournalRow, standIns := [], harness := (true, "ab0d7383ac3b8daf502fd3624946ed10df3a579711b5a5ab2fb5bc61eda94f27"), looks := true }, kinds := [], alts := [], laidByText := true, laidKinds := [.data, .data, .data, .data, .data, .handle, .sentinel, .sentinel, .data, .pinned], laidTests := true, laidLooks := .later }
def TopJournalCardSaid : Prop := Claim7.holds Tryz.pinned (.plain (OpenSpec.ofChange topJournalSpec)) topJournalCard

/-- THE TIED CARD OF 'shiftbelltop.TopTickets'. -/
def topTicketsCard : Claim7 := { stood := { row := topTicketsRow, standIns := [], harness := (true, "ab0d7383ac3b8daf502fd3624946ed10df3a579711b5a5ab2fb5bc61eda94f27"), looks := true }, kinds := [], alts := [], laidByText := true, laidKinds := [.data, .data, .data, .data, .data, .handle, .sentinel, .sentinel, .data, .pinned], laidTests := true, laidLooks := .later }
def TopTicketsCardSaid : Prop := Claim7.holds Tryz.pinned (.plain (OpenSpec.ofChange topTicketsSpec)) topTicketsCard

/-- THE SECOND FORM's CARD OF 'shiftbellkeep.DeskFront'. -/
def deskFrontUptoCard : Claim7 := { stood := { row := deskFrontUptoRow, standIns := [], harness := (true, "ab0d7383ac3b8daf502fd3624946ed10df3a579711b5a5ab2fb5bc61eda94f27"), looks := true }, kinds := [], alts := [], laidByText := true, laidKinds := [.data, .data, .data, .data, .data, .handle, .sentinel, .sentinel, .data, .pinned], laidTests := true, laidLooks := .later }
def DeskFrontUptoCardSaid : Prop := Claim7.holds Tryz.pinned (.plain (OpenSpec.upto deskFrontSpec)) deskFrontUptoCard

/-- THE SECOND FORM's CARD OF 'shiftbellkeep.DeskWrong'. -/
def deskWrongUptoCard : Claim7 := { stood := { row := deskWrongUptoRow, standIns := [], harness := (true, "ab0d7383ac3b8daf502fd3624946ed10df3a579711b5a5ab2fb5bc61eda94f27"), looks := true }, kinds := [], alts := [], laidByText := true, laidKinds := [.data, .data, .data, .data, .data, .handle, .sentinel, .sentinel, .data, .pinned], laidTests := true, laidLooks := .later }
def DeskWrongUptoCardSaid : Prop := Claim7.holds Tryz.pinned (.plain (OpenSpec.upto deskWrongSpec)) deskWrongUptoCard

/-- THE SECOND FORM's CARD OF 'shiftbellkeep.DeskAsks'. -/
def deskAsksUptoCard : Claim7 := { stood := { row := deskAsksUptoRow, standIns := [], harness := (true, "ab0d7383ac3b8daf502fd3624946ed10df3a579711b5a5ab2fb5bc61eda94f27"), looks := true }, kinds := [], alts := [], laidByText := true, laidKinds := [.data, .data, .data, .data, .data, .handle, .sentinel, .sentinel, .data, .pinned], laidTests := true, laidLooks := .later }
def DeskAsksUptoCardSaid : Prop := Claim7.holds Tryz.pinned (.plain (OpenSpec.upto deskAsksSpec)) deskAsksUptoCard

/-- THE SECOND FORM's CARD OF 'shiftbelltop.TopDone'. -/
def topDoneUptoCard : Claim7 := { stood := { row := topDoneUptoRow, standIns := [], harness := (true, "ab0d7383ac3b8daf502fd3624946ed10df3a579711b5a5ab2fb5bc61eda94f27"), looks := true }, kinds := [], alts := [], laidByText := true, laidKinds := [.data, .data, .data, .data, .data, .handle, .sentinel, .sentinel, .data, .pinned], laidTests := true, laidLooks := .later }
def TopDoneUptoCardSaid : Prop := Claim7.holds Tryz.pinned (.plain (OpenSpec.upto topDoneSpec)) topDoneUptoCard

/-- THE SECOND FORM's CARD OF 'shiftbelltop.TopWaits'. -/
def topWaitsUptoCard : Claim7 := { stood := { row := topWaitsUptoRow, standIns := [], harness := (true, "ab0d7383ac3b8daf502fd3624946ed10df3a579711b5a5ab2fb5bc61eda94f27"), looks := true }, kinds := [], alts := [], laidByText := true, laidKinds := [.data, .data, .data, .data, .data, .handle, .sentinel, .sentinel, .data, .pinned], laidTests := true, laidLooks := .later }
def TopWaitsUptoCardSaid : Prop := Claim7.holds Tryz.pinned (.plain (OpenSpec.upto topWaitsSpec)) topWaitsUptoCard

/-- THE SECOND FORM's CARD OF 'shiftbelltop.TopOrder'. -/
def topOrderUptoCard : Claim7 := { stood := { row := topOrderUptoRow, standIns := [], harness := (true, "ab0d7383ac3b8daf502fd3624946ed10df3a579711b5a5ab2fb5bc61eda94f27"), looks := true }, kinds := [], alts := [], laidByText := true, laidKinds := [.data, .data, .data, .data, .data, .handle, .sentinel, .sentinel, .data, .pinned], laidTests := true, laidLooks := .later }
def TopOrderUptoCardSaid : Prop := Claim7.holds Tryz.pinned (.plain (OpenSpec.upto topOrderSpec)) topOrderUptoCard

/-- THE SECOND FORM's CARD OF 'shiftbelltop.TopJournal'. -/
def topJournalUptoCard : Claim7 := { stood := { row := topJournalUptoRow, standIns := [], harness := (true, "ab0d7383ac3b8daf502fd3624946ed10df3a579711b5a5ab2fb5bc61eda94f27"), looks := true }, kinds := [], alts := [], laidByText := true, laidKinds := [.data, .data, .data, .data, .data, .handle, .sentinel, .sentinel, .data, .pinned], laidTests := true, laidLooks := .later }
def TopJournalUptoCardSaid : Prop := Claim7.holds Tryz.pinned (.plain (OpenSpec.upto topJournalSpec)) topJournalUptoCard

/-- THE SECOND FORM's CARD OF 'shiftbelltop.TopTickets'. -/
def topTicketsUptoCard : Claim7 := { stood := { row := topTicketsUptoRow, standIns := [], harness := (true, "ab0d7383ac3b8daf502fd3624946ed10df3a579711b5a5ab2fb5bc61eda94f27"), looks := true }, kinds := [], alts := [], laidByText := true, laidKinds := [.data, .data, .data, .data, .data, .handle, .sentinel, .sentinel, .data, .pinned], laidTests := true, laidLooks := .later }
def TopTicketsUptoCardSaid : Prop := Claim7.holds Tryz.pinned (.plain (OpenSpec.upto topTicketsSpec)) topTicketsUptoCard
end Rows
end Go.Proofs.YtcceeahmcecbnaaGreatDoor
