/-
  DERIVED. GIVEN WITH THE SEED: THE CARDS: each row of YtjeboeahhhhbdaaDoorRows.lean that lists a variable, with what it lists TIED to the program's text (the seventh form; the later family's looks); each row that meets fmt, with fmt's text TOLD by the authors' own Lean function (tested against real Go, not proved from fmt's source: count such statements apart). THE CARD IS WHAT COUNTS. Prove the row's statement (the work); the ties are given (YtjeboeahhhhbdaaDoorTie.lean); close each card by the builder's one call (the guide's Derived/Test/ToyasCard.lean, 'card_holds'). Laid BY PROGRAM, IN A SANDBOX (cutbox-door.mjs). By AI agents, Wed Nov 11 2026. No macro, syntax, notation, axiom, sorry.
-/
import Derived.Test.YtjeboeahhhhbdaaDoorRows
import GoSem.ClaimSeven
namespace Go.Proofs.YtjeboeahhhhbdaaDoor
namespace Rows

/-- THE TIED CARD OF 'shiftbellkeep.TmplQuote'. -/
def tmplQuoteCard : Claim7 := { stood := { row := tmplQuoteRow, standIns := [], harness := (true, "ff81e07aef70ba71615db82cbddf925ee7b5af2fdd3b27042175e3fb68e44d48"), looks := true }, kinds := [], alts := [], laidByText := true, laidKinds := [.data, .pinned], laidTests := true, laidLooks := .later }
def TmplQuoteCardSaid : Prop := Claim7.holds Tryd.pinned (.plain (OpenSpec.ofChange tmplQuoteSpec)) tmplQuoteCard

/-- THE TIED CARD OF 'shiftbellkeep.TicketApart'. -/
def ticketApartCard : Claim7 := { stood := { row := ticketApartRow, standIns := [], harness := (true, "ff81e07aef70ba71615db82cbddf925ee7b5af2fdd3b27042175e3fb68e44d48"), looks := true }, kinds := [], alts := [], laidByText := true, laidKinds := [.data, .data, .data], laidTests := true, laidLooks := .later }
def TicketApartCardSaid : Prop := Claim7.holds Tryd.pinned (.plain (OpenSpec.ofChange ticketApartSpec)) ticketApartCard

/-- THE TIED CARD OF 'shiftbellkeep.TicketBack'. -/
def ticketBackCard : Claim7 := { stood := { row := ticketBackRow, standIns := [], harness := (true, "ff81e07aef70ba71615db82cbddf925ee7b5af2fdd3b27042175e3fb68e44d48"), looks := true }, kinds := [], alts := [], laidByText := true, laidKinds := [.data, .data, .data, .data, .sentinel, .sentinel, .pinned], laidTests := true, laidLooks := .later }
def TicketBackCardSaid : Prop := Claim7.holds Tryd.pinned (.plain (OpenSpec.ofChange ticketBackSpec)) ticketBackCard

/-- THE TIED CARD OF 'shiftbellkeep.TicketOne'. -/
def ticketOneCard : Claim7 := { stood := { row := ticketOneRow, standIns := [], harness := (true, "ff81e07aef70ba71615db82cbddf925ee7b5af2fdd3b27042175e3fb68e44d48"), looks := true }, kinds := [], alts := [], laidByText := true, laidKinds := [.data, .data, .data, .data, .sentinel, .sentinel, .pinned], laidTests := true, laidLooks := .later }
def TicketOneCardSaid : Prop := Claim7.holds Tryd.pinned (.plain (OpenSpec.ofChange ticketOneSpec)) ticketOneCard

/-- THE TIED CARD OF 'shiftbellkeep.TicketTurned'. -/
def ticketTurnedCard : Claim7 := { stood := { row := ticketTurnedRow, standIns := [], harness := (true, "ff81e07aef70ba71615db82cbddf925ee7b5af2fdd3b27042175e3fb68e44d48"), looks := true }, kinds := [], alts := [], laidByText := true, laidKinds := [.data, .data, .data, .data, .sentinel, .sentinel, .pinned], laidTests := true, laidLooks := .later }
def TicketTurnedCardSaid : Prop := Claim7.holds Tryd.pinned (.plain (OpenSpec.ofChange ticketTurnedSpec)) ticketTurnedCard

/-- THE TIED CARD OF 'shiftbellkeep.TicketRenewed'. -/
def ticketRenewedCard : Claim7 := { stood := { row := ticketRenewedRow, standIns := [], harness := (true, "ff81e07aef70ba71615db82cbddf925ee7b5af2fdd3b27042175e3fb68e44d48"), looks := true }, kinds := [], alts := [], laidByText := true, laidKinds := [.data, .data, .data, .data, .sentinel, .sentinel, .pinned], laidTests := true, laidLooks := .later }
def TicketRenewedCardSaid : Prop := Claim7.holds Tryd.pinned (.plain (OpenSpec.ofChange ticketRenewedSpec)) ticketRenewedCard

/-- THE SECOND FORM's CARD OF 'shiftbellkeep.TmplQuote'. -/
def tmplQuoteUptoCard : Claim7 := { stood := { row := tmplQuoteUptoRow, standIns := [], harness := (true, "ff81e07aef70ba71615db82cbddf925ee7b5af2fdd3b27042175e3fb68e44d48"), looks := true }, kinds := [], alts := [], laidByText := true, laidKinds := [.data, .pinned], laidTests := true, laidLooks := .later }
def TmplQuoteUptoCardSaid : Prop := Claim7.holds Tryd.pinned (.plain (OpenSpec.upto tmplQuoteSpec)) tmplQuoteUptoCard

/-- THE SECOND FORM's CARD OF 'shiftbellkeep.TicketApart'. -/
def ticketApartUptoCard : Claim7 := { stood := { row := ticketApartUptoRow, standIns := [], harness := (true, "ff81e07aef70ba71615db82cbddf925ee7b5af2fdd3b27042175e3fb68e44d48"), looks := true }, kinds := [], alts := [], laidByText := true, laidKinds := [.data, .data, .data], laidTests := true, laidLooks := .later }
def TicketApartUptoCardSaid : Prop := Claim7.holds Tryd.pinned (.plain (OpenSpec.upto ticketApartSpec)) ticketApartUptoCard

/-- THE SECOND FORM's CARD OF 'shiftbellkeep.TicketBack'. -/
def ticketBackUptoCard : Claim7 := { stood := { row := ticketBackUptoRow, standIns := [], harness := (true, "ff81e07aef70ba71615db82cbddf925ee7b5af2fdd3b27042175e3fb68e44d48"), looks := true }, kinds := [], alts := [], laidByText := true, laidKinds := [.data, .data, .data, .data, .sentinel, .sentinel, .pinned], laidTests := true, laidLooks := .later }
def TicketBackUptoCardSaid : Prop := Claim7.holds Tryd.pinned (.plain (OpenSpec.upto ticketBackSpec)) ticketBackUptoCard

/-- THE SECOND FORM's CARD OF 'shiftbellkeep.TicketOne'. -/
def ticketOneUptoCard : Claim7 := { stood := { row := ticketOneUptoRow, standIns := [], harness := (true, "ff81e07aef70ba71615db82cbddf925ee7b5af2fdd3b27042175e3fb68e44d48"), looks := true }, kinds := [], alts := [], laidByText := true, laidKinds := [.data, .data, .data, .data, .sentinel, .sentinel, .pinned], laidTests := true, laidLooks := .later }
def TicketOneUptoCardSaid : Prop := Claim7.holds Tryd.pinned (.plain (OpenSpec.upto ticketOneSpec)) ticketOneUptoCard

/-- THE SECOND FORM's CARD OF 'shiftbellkeep.TicketTurned'. -/
def ticketTurnedUptoCard : Claim7 := { stood := { row := ticketTurnedUptoRow, standIns := [], harness := (true, "ff81e07aef70ba71615db82cbddf925ee7b5af2fdd3b27042175e3fb68e44d48"), looks := true }, kinds := [], alts := [], laidByText := true, laidKinds := [.data, .data, .data, .data, .sentinel, .sentinel, .pinned], laidTests := true, laidLooks := .later }
def TicketTurnedUptoCardSaid : Prop := Claim7.holds Tryd.pinned (.plain (OpenSpec.upto ticketTurnedSpec)) ticketTurnedUptoCard

/-- THE SECOND FORM's CARD OF 'shiftbellkeep.TicketRenewed'. -/
def ticketRenewedUptoCard : Claim7 := { stood := { row := ticketRenewedUptoRow, standIns := [], harness := (true, "ff81e07aef70ba71615db82cbddf925ee7b5af2fdd3b27042175e3fb68e44d48"), looks := true }, kinds := [], alts := [], laidByText := true, laidKinds := [.data, .data, .data, .data, .sentinel, .sentinel, .pinned], laidTests := true, laidLooks := .later }
def TicketRenewedUptoCardSaid : Prop := Claim7.holds Tryd.pinned (.plain (OpenSpec.upto ticketRenewedSpec)) ticketRenewedUptoCard
end Rows
end Go.Proofs.YtjeboeahhhhbdaaDoor
