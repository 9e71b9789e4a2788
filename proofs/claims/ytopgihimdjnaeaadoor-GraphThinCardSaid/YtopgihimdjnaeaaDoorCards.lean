/-
  DERIVED. GIVEN WITH THE SEED: THE CARDS: each row of YtopgihimdjnaeaaDoorRows.lean that lists a variable, with what it lists TIED to the program's text (the seventh form; the later family's looks); each row that meets fmt, with fmt's text TOLD by the authors' own Lean function (tested against real Go, not proved from fmt's source: count such statements apart). THE CARD IS WHAT COUNTS. Prove the row's statement (the work); the ties are given (YtopgihimdjnaeaaDoorTie.lean); close each card by the builder's one call (the guide's Derived/Test/ToyasCard.lean, 'card_holds'). Laid BY PROGRAM, IN A SANDBOX (cutbox-door.mjs). By AI agents, Wed Nov 11 2026. No macro, syntax, notation, axiom, sorry.
-/
import Derived.Test.YtopgihimdjnaeaaDoorRows
import GoSem.ClaimSeven
namespace Go.Proofs.YtopgihimdjnaeaaDoor
namespace Rows

/-- THE TIED CARD OF 'shiftbellkeep.GraphTurn'. -/
def graphTurnCard : Claim7 := { stood := { row := graphTurnRow, standIns := [], harness := (true, "96e09ca1c946d5c0785a1e55b5f2dadad9d240093485e6ed6dac75fde2c3fc30"), looks := false }, kinds := [], alts := [], laidByText := true, laidKinds := [.data], laidTests := true, laidLooks := .later }
def GraphTurnCardSaid : Prop := Claim7.holds Tryd.pinned (.plain (OpenSpec.ofChange graphTurnSpec)) graphTurnCard

/-- THE TIED CARD OF 'shiftbellkeep.GraphReach'. -/
def graphReachCard : Claim7 := { stood := { row := graphReachRow, standIns := [], harness := (true, "96e09ca1c946d5c0785a1e55b5f2dadad9d240093485e6ed6dac75fde2c3fc30"), looks := false }, kinds := [], alts := [], laidByText := true, laidKinds := [.data], laidTests := true, laidLooks := .later }
def GraphReachCardSaid : Prop := Claim7.holds Tryd.pinned (.plain (OpenSpec.ofChange graphReachSpec)) graphReachCard

/-- THE TIED CARD OF 'shiftbellkeep.GraphThin'. -/
def graphThinCard : Claim7 := { stood := { row := graphThinRow, standIns := [], harness := (true, "96e09ca1c946d5c0785a1e55b5f2dadad9d240093485e6ed6dac75fde2c3fc30"), looks := false }, kinds := [], alts := [], laidByText := true, laidKinds := [.data], laidTests := true, laidLooks := .later }
def GraphThinCardSaid : Prop := Claim7.holds Tryd.pinned (.plain (OpenSpec.ofChange graphThinSpec)) graphThinCard

/-- THE SECOND FORM's CARD OF 'shiftbellkeep.GraphTurn'. -/
def graphTurnUptoCard : Claim7 := { stood := { row := graphTurnUptoRow, standIns := [], harness := (true, "96e09ca1c946d5c0785a1e55b5f2dadad9d240093485e6ed6dac75fde2c3fc30"), looks := false }, kinds := [], alts := [], laidByText := true, laidKinds := [.data], laidTests := true, laidLooks := .later }
def GraphTurnUptoCardSaid : Prop := Claim7.holds Tryd.pinned (.plain (OpenSpec.upto graphTurnSpec)) graphTurnUptoCard

/-- THE SECOND FORM's CARD OF 'shiftbellkeep.GraphReach'. -/
def graphReachUptoCard : Claim7 := { stood := { row := graphReachUptoRow, standIns := [], harness := (true, "96e09ca1c946d5c0785a1e55b5f2dadad9d240093485e6ed6dac75fde2c3fc30"), looks := false }, kinds := [], alts := [], laidByText := true, laidKinds := [.data], laidTests := true, laidLooks := .later }
def GraphReachUptoCardSaid : Prop := Claim7.holds Tryd.pinned (.plain (OpenSpec.upto graphReachSpec)) graphReachUptoCard

/-- THE SECOND FORM's CARD OF 'shiftbellkeep.GraphThin'. -/
def graphThinUptoCard : Claim7 := { stood := { row := graphThinUptoRow, standIns := [], harness := (true, "96e09ca1c946d5c0785a1e55b5f2dadad9d240093485e6ed6dac75fde2c3fc30"), looks := false }, kinds := [], alts := [], laidByText := true, laidKinds := [.data], laidTests := true, laidLooks := .later }
def GraphThinUptoCardSaid : Prop := Claim7.holds Tryd.pinned (.plain (OpenSpec.upto graphThinSpec)) graphThinUptoCard
end Rows
end Go.Proofs.YtopgihimdjnaeaaDoor
