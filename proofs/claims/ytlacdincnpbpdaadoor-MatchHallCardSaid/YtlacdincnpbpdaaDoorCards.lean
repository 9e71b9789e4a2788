/-
  DERIVED. GIVEN WITH THE SEED: THE CARDS: each row of YtlacdincnpbpdaaDoorRows.lean that lists a variable, with what it lists TIED to the program's text (the seventh form; the later family's looks); each row that meets fmt, with fmt's text TOLD by the authors' own Lean function (tested against real Go, not proved from fmt's source: count such statements apart). THE CARD IS WHAT COUNTS. Prove the row's statement (the work); the ties are given (YtlacdincnpbpdaaDoorTie.lean); close each card by the builder's one call (the guide's Derived/Test/ToyasCard.lean, 'card_holds'). Laid BY PROGRAM, IN A SANDBOX (cutbox-door.mjs). By AI agents, Wed Nov 11 2026. No macro, syntax, notation, axiom, sorry.
-/
import Derived.Test.YtlacdincnpbpdaaDoorRows
import GoSem.ClaimSeven
namespace Go.Proofs.YtlacdincnpbpdaaDoor
namespace Rows

/-- THE TIED CARD OF 'shiftbellkeep.MatchTurn'. -/
def matchTurnCard : Claim7 := { stood := { row := matchTurnRow, standIns := [], harness := (true, "0fab392cb444feeb873560e2822dba696de7382ce0920a933af9a0c8d4afb82e"), looks := false }, kinds := [], alts := [], laidByText := true, laidKinds := [.data], laidTests := true, laidLooks := .later }
def MatchTurnCardSaid : Prop := Claim7.holds Tryd.pinned (.plain (OpenSpec.ofChange matchTurnSpec)) matchTurnCard

/-- THE TIED CARD OF 'shiftbellkeep.MatchKonig'. -/
def matchKonigCard : Claim7 := { stood := { row := matchKonigRow, standIns := [], harness := (true, "0fab392cb444feeb873560e2822dba696de7382ce0920a933af9a0c8d4afb82e"), looks := false }, kinds := [], alts := [], laidByText := true, laidKinds := [.data], laidTests := true, laidLooks := .later }
def MatchKonigCardSaid : Prop := Claim7.holds Tryd.pinned (.plain (OpenSpec.ofChange matchKonigSpec)) matchKonigCard

/-- THE TIED CARD OF 'shiftbellkeep.MatchHall'. -/
def matchHallCard : Claim7 := { stood := { row := matchHallRow, standIns := [], harness := (true, "0fab392cb444feeb873560e2822dba696de7382ce0920a933af9a0c8d4afb82e"), looks := false }, kinds := [], alts := [], laidByText := true, laidKinds := [.data], laidTests := true, laidLooks := .later }
def MatchHallCardSaid : Prop := Claim7.holds Tryd.pinned (.plain (OpenSpec.ofChange matchHallSpec)) matchHallCard

/-- THE SECOND FORM's CARD OF 'shiftbellkeep.MatchTurn'. -/
def matchTurnUptoCard : Claim7 := { stood := { row := matchTurnUptoRow, standIns := [], harness := (true, "0fab392cb444feeb873560e2822dba696de7382ce0920a933af9a0c8d4afb82e"), looks := false }, kinds := [], alts := [], laidByText := true, laidKinds := [.data], laidTests := true, laidLooks := .later }
def MatchTurnUptoCardSaid : Prop := Claim7.holds Tryd.pinned (.plain (OpenSpec.upto matchTurnSpec)) matchTurnUptoCard

/-- THE SECOND FORM's CARD OF 'shiftbellkeep.MatchKonig'. -/
def matchKonigUptoCard : Claim7 := { stood := { row := matchKonigUptoRow, standIns := [], harness := (true, "0fab392cb444feeb873560e2822dba696de7382ce0920a933af9a0c8d4afb82e"), looks := false }, kinds := [], alts := [], laidByText := true, laidKinds := [.data], laidTests := true, laidLooks := .later }
def MatchKonigUptoCardSaid : Prop := Claim7.holds Tryd.pinned (.plain (OpenSpec.upto matchKonigSpec)) matchKonigUptoCard

/-- THE SECOND FORM's CARD OF 'shiftbellkeep.MatchHall'. -/
def matchHallUptoCard : Claim7 := { stood := { row := matchHallUptoRow, standIns := [], harness := (true, "0fab392cb444feeb873560e2822dba696de7382ce0920a933af9a0c8d4afb82e"), looks := false }, kinds := [], alts := [], laidByText := true, laidKinds := [.data], laidTests := true, laidLooks := .later }
def MatchHallUptoCardSaid : Prop := Claim7.holds Tryd.pinned (.plain (OpenSpec.upto matchHallSpec)) matchHallUptoCard
end Rows
end Go.Proofs.YtlacdincnpbpdaaDoor
