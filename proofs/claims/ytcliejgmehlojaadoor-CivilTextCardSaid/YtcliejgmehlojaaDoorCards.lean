/-
  DERIVED. GIVEN WITH THE SEED: THE CARDS: each row of YtcliejgmehlojaaDoorRows.lean that lists a variable, with what it lists TIED to the program's text (the seventh form; the later family's looks); each row that meets fmt, with fmt's text TOLD by the authors' own Lean function (tested against real Go, not proved from fmt's source: count such statements apart). THE CARD IS WHAT COUNTS. Prove the row's statement (the work); the ties are given (YtcliejgmehlojaaDoorTie.lean); close each card by the builder's one call (the guide's Derived/Test/ToyasCard.lean, 'card_holds'). Laid BY PROGRAM, IN A SANDBOX (cutbox-door.mjs). By AI agents, Wed Nov 11 2026. No macro, syntax, notation, axiom, sorry.
-/
import Derived.Test.YtcliejgmehlojaaDoorRows
import GoSem.ClaimSeven
namespace Go.Proofs.YtcliejgmehlojaaDoor
namespace Rows

/-- THE TIED CARD OF 'shiftbellkeep.CivilBack'. -/
def civilBackCard : Claim7 := { stood := { row := civilBackRow, standIns := [], harness := (true, "f93b5a62dc56ca3dd6800a3a193e52fa01be55fab0c6d71013dc96a58d77cba6"), looks := false }, kinds := [], alts := [], laidByText := true, laidKinds := [.data], laidTests := true, laidLooks := .later }
def CivilBackCardSaid : Prop := Claim7.holds Tryd.pinned (.plain (OpenSpec.ofChange civilBackSpec)) civilBackCard

/-- THE TIED CARD OF 'shiftbellkeep.CivilWeek'. -/
def civilWeekCard : Claim7 := { stood := { row := civilWeekRow, standIns := [], harness := (true, "f93b5a62dc56ca3dd6800a3a193e52fa01be55fab0c6d71013dc96a58d77cba6"), looks := false }, kinds := [], alts := [], laidByText := true, laidKinds := [.data], laidTests := true, laidLooks := .later }
def CivilWeekCardSaid : Prop := Claim7.holds Tryd.pinned (.plain (OpenSpec.ofChange civilWeekSpec)) civilWeekCard

/-- THE TIED CARD OF 'shiftbellkeep.CivilNext'. -/
def civilNextCard : Claim7 := { stood := { row := civilNextRow, standIns := [], harness := (true, "f93b5a62dc56ca3dd6800a3a193e52fa01be55fab0c6d71013dc96a58d77cba6"), looks := false }, kinds := [], alts := [], laidByText := true, laidKinds := [.data], laidTests := true, laidLooks := .later }
def CivilNextCardSaid : Prop := Claim7.holds Tryd.pinned (.plain (OpenSpec.ofChange civilNextSpec)) civilNextCard

/-- THE TIED CARD OF 'shiftbellkeep.CivilMonths'. -/
def civilMonthsCard : Claim7 := { stood := { row := civilMonthsRow, standIns := [], harness := (true, "f93b5a62dc56ca3dd6800a3a193e52fa01be55fab0c6d71013dc96a58d77cba6"), looks := false }, kinds := [], alts := [], laidByText := true, laidKinds := [.data], laidTests := true, laidLooks := .later }
def CivilMonthsCardSaid : Prop := Claim7.holds Tryd.pinned (.plain (OpenSpec.ofChange civilMonthsSpec)) civilMonthsCard

/-- THE TIED CARD OF 'shiftbellkeep.CivilYears'. -/
def civilYearsCard : Claim7 := { stood := { row := civilYearsRow, standIns := [], harness := (true, "f93b5a62dc56ca3dd6800a3a193e52fa01be55fab0c6d71013dc96a58d77cba6"), looks := false }, kinds := [], alts := [], laidByText := true, laidKinds := [.data], laidTests := true, laidLooks := .later }
def CivilYearsCardSaid : Prop := Claim7.holds Tryd.pinned (.plain (OpenSpec.ofChange civilYearsSpec)) civilYearsCard

/-- THE TIED CARD OF 'shiftbellkeep.CivilCut'. -/
def civilCutCard : Claim7 := { stood := { row := civilCutRow, standIns := [], harness := (true, "f93b5a62dc56ca3dd6800a3a193e52fa01be55fab0c6d71013dc96a58d77cba6"), looks := false }, kinds := [], alts := [], laidByText := true, laidKinds := [.data], laidTests := true, laidLooks := .later }
def CivilCutCardSaid : Prop := Claim7.holds Tryd.pinned (.plain (OpenSpec.ofChange civilCutSpec)) civilCutCard

/-- THE TIED CARD OF 'shiftbellkeep.CivilText'. -/
def civilTextCard : Claim7 := { stood := { row := civilTextRow, standIns := [], harness := (true, "f93b5a62dc56ca3dd6800a3a193e52fa01be55fab0c6d71013dc96a58d77cba6"), looks := false }, kinds := [], alts := [], laidByText := true, laidKinds := [.data], laidTests := true, laidLooks := .later }
def CivilTextCardSaid : Prop := Claim7.holds Tryd.pinned (.plain (OpenSpec.ofChange civilTextSpec)) civilTextCard

/-- THE SECOND FORM's CARD OF 'shiftbellkeep.CivilBack'. -/
def civilBackUptoCard : Claim7 := { stood := { row := civilBackUptoRow, standIns := [], harness := (true, "f93b5a62dc56ca3dd6800a3a193e52fa01be55fab0c6d71013dc96a58d77cba6"), looks := false }, kinds := [], alts := [], laidByText := true, laidKinds := [.data], laidTests := true, laidLooks := .later }
def CivilBackUptoCardSaid : Prop := Claim7.holds Tryd.pinned (.plain (OpenSpec.upto civilBackSpec)) civilBackUptoCard

/-- THE SECOND FORM's CARD OF 'shiftbellkeep.CivilWeek'. -/
def civilWeekUptoCard : Claim7 := { stood := { row := civilWeekUptoRow, standIns := [], harness := (true, "f93b5a62dc56ca3dd6800a3a193e52fa01be55fab0c6d71013dc96a58d77cba6"), looks := false }, kinds := [], alts := [], laidByText := true, laidKinds := [.data], laidTests := true, laidLooks := .later }
def CivilWeekUptoCardSaid : Prop := Claim7.holds Tryd.pinned (.plain (OpenSpec.upto civilWeekSpec)) civilWeekUptoCard

/-- THE SECOND FORM's CARD OF 'shiftbellkeep.CivilNext'. -/
def civilNextUptoCard : Claim7 := { stood := { row := civilNextUptoRow, standIns := [], harness := (true, "f93b5a62dc56ca3dd6800a3a193e52fa01be55fab0c6d71013dc96a58d77cba6"), looks := false }, kinds := [], alts := [], laidByText := true, laidKinds := [.data], laidTests := true, laidLooks := .later }
def CivilNextUptoCardSaid : Prop := Claim7.holds Tryd.pinned (.plain (OpenSpec.upto civilNextSpec)) civilNextUptoCard

/-- THE SECOND FORM's CARD OF 'shiftbellkeep.CivilMonths'. -/
def civilMonthsUptoCard : Claim7 := { stood := { row := civilMonthsUptoRow, standIns := [], harness := (true, "f93b5a62dc56ca3dd6800a3a193e52fa01be55fab0c6d71013dc96a58d77cba6"), looks := false }, kinds := [], alts := [], laidByText := true, laidKinds := [.data], laidTests := true, laidLooks := .later }
def CivilMonthsUptoCardSaid : Prop := Claim7.holds Tryd.pinned (.plain (OpenSpec.upto civilMonthsSpec)) civilMonthsUptoCard

/-- THE SECOND FORM's CARD OF 'shiftbellkeep.CivilYears'. -/
def civilYearsUptoCard : Claim7 := { stood := { row := civilYearsUptoRow, standIns := [], harness := (true, "f93b5a62dc56ca3dd6800a3a193e52fa01be55fab0c6d71013dc96a58d77cba6"), looks := false }, kinds := [], alts := [], laidByText := true, laidKinds := [.data], laidTests := true, laidLooks := .later }
def CivilYearsUptoCardSaid : Prop := Claim7.holds Tryd.pinned (.plain (OpenSpec.upto civilYearsSpec)) civilYearsUptoCard

/-- THE SECOND FORM's CARD OF 'shiftbellkeep.CivilCut'. -/
def civilCutUptoCard : Claim7 := { stood := { row := civilCutUptoRow, standIns := [], harness := (true, "f93b5a62dc56ca3dd6800a3a193e52fa01be55fab0c6d71013dc96a58d77cba6"), looks := false }, kinds := [], alts := [], laidByText := true, laidKinds := [.data], laidTests := true, laidLooks := .later }
def CivilCutUptoCardSaid : Prop := Claim7.holds Tryd.pinned (.plain (OpenSpec.upto civilCutSpec)) civilCutUptoCard

/-- THE SECOND FORM's CARD OF 'shiftbellkeep.CivilText'. -/
def civilTextUptoCard : Claim7 := { stood := { row := civilTextUptoRow, standIns := [], harness := (true, "f93b5a62dc56ca3dd6800a3a193e52fa01be55fab0c6d71013dc96a58d77cba6"), looks := false }, kinds := [], alts := [], laidByText := true, laidKinds := [.data], laidTests := true, laidLooks := .later }
def CivilTextUptoCardSaid : Prop := Claim7.holds Tryd.pinned (.plain (OpenSpec.upto civilTextSpec)) civilTextUptoCard
end Rows
end Go.Proofs.YtcliejgmehlojaaDoor
