/-
  DERIVED. GIVEN WITH THE SEED: THE CARDS: each row of YteelndoflikliaaDoorRows.lean that lists a variable, with what it lists TIED to the program's text (the seventh form; the later family's looks); each row that meets fmt, with fmt's text TOLD by the authors' own Lean function (tested against real Go, not proved from fmt's source: count such statements apart). THE CARD IS WHAT COUNTS. Prove the row's statement (the work); the ties are given (YteelndoflikliaaDoorTie.lean); close each card by the builder's one call (the guide's Derived/Test/ToyasCard.lean, 'card_holds'). Laid BY PROGRAM, IN A SANDBOX (cutbox-door.mjs). By AI agents, Wed Nov 11 2026. No macro, syntax, notation, axiom, sorry.
-/
import Derived.Test.YteelndoflikliaaDoorRows
import GoSem.ClaimSeven
namespace Go.Proofs.YteelndoflikliaaDoor
namespace Rows

/-- THE TIED CARD OF 'shiftbellkeep.AskAlike'. -/
def askAlikeCard : Claim7 := { stood := { row := askAlikeRow, standIns := [], harness := (true, "01258724e008b33df99b50a1517b6a2b602ae0de7535c79d8bd66ae6e693adde"), looks := true }, kinds := [], alts := [], laidByText := true, laidKinds := [.data, .data, .data], laidTests := true, laidLooks := .later }
def AskAlikeCardSaid : Prop := Claim7.holds Tryd.pinned (.plain (OpenSpec.ofChange askAlikeSpec)) askAlikeCard

/-- THE TIED CARD OF 'shiftbellkeep.AskBack'. -/
def askBackCard : Claim7 := { stood := { row := askBackRow, standIns := [], harness := (true, "01258724e008b33df99b50a1517b6a2b602ae0de7535c79d8bd66ae6e693adde"), looks := true }, kinds := [], alts := [], laidByText := true, laidKinds := [.data, .data, .data, .sentinel, .sentinel], laidTests := true, laidLooks := .later }
def AskBackCardSaid : Prop := Claim7.holds Tryd.pinned (.plain (OpenSpec.ofChange askBackSpec)) askBackCard

/-- THE TIED CARD OF 'shiftbellkeep.NeedText'. -/
def needTextCard : Claim7 := { stood := { row := needTextRow, standIns := [], harness := (true, "01258724e008b33df99b50a1517b6a2b602ae0de7535c79d8bd66ae6e693adde"), looks := true }, kinds := [], alts := [], laidByText := true, laidKinds := [.data, .data, .data, .data, .sentinel, .sentinel, .pinned], laidTests := true, laidLooks := .later }
def NeedTextCardSaid : Prop := Claim7.holds Tryd.pinned (.plain (OpenSpec.ofChange needTextSpec)) needTextCard

/-- THE TIED CARD OF 'shiftbellkeep.CronBack'. -/
def cronBackCard : Claim7 := { stood := { row := cronBackRow, standIns := [], harness := (true, "01258724e008b33df99b50a1517b6a2b602ae0de7535c79d8bd66ae6e693adde"), looks := true }, kinds := [], alts := [], laidByText := true, laidKinds := [.data, .data, .data, .data, .data, .sentinel, .sentinel, .pinned], laidTests := true, laidLooks := .later }
def CronBackCardSaid : Prop := Claim7.holds Tryd.pinned (.plain (OpenSpec.ofChange cronBackSpec)) cronBackCard

/-- THE TIED CARD OF 'shiftbellkeep.CronOne'. -/
def cronOneCard : Claim7 := { stood := { row := cronOneRow, standIns := [], harness := (true, "01258724e008b33df99b50a1517b6a2b602ae0de7535c79d8bd66ae6e693adde"), looks := true }, kinds := [], alts := [], laidByText := true, laidKinds := [.data, .data, .data, .data, .data, .sentinel, .sentinel, .pinned], laidTests := true, laidLooks := .later }
def CronOneCardSaid : Prop := Claim7.holds Tryd.pinned (.plain (OpenSpec.ofChange cronOneSpec)) cronOneCard

/-- THE SECOND FORM's CARD OF 'shiftbellkeep.AskAlike'. -/
def askAlikeUptoCard : Claim7 := { stood := { row := askAlikeUptoRow, standIns := [], harness := (true, "01258724e008b33df99b50a1517b6a2b602ae0de7535c79d8bd66ae6e693adde"), looks := true }, kinds := [], alts := [], laidByText := true, laidKinds := [.data, .data, .data], laidTests := true, laidLooks := .later }
def AskAlikeUptoCardSaid : Prop := Claim7.holds Tryd.pinned (.plain (OpenSpec.upto askAlikeSpec)) askAlikeUptoCard

/-- THE SECOND FORM's CARD OF 'shiftbellkeep.AskBack'. -/
def askBackUptoCard : Claim7 := { stood := { row := askBackUptoRow, standIns := [], harness := (true, "01258724e008b33df99b50a1517b6a2b602ae0de7535c79d8bd66ae6e693adde"), looks := true }, kinds := [], alts := [], laidByText := true, laidKinds := [.data, .data, .data, .sentinel, .sentinel], laidTests := true, laidLooks := .later }
def AskBackUptoCardSaid : Prop := Claim7.holds Tryd.pinned (.plain (OpenSpec.upto askBackSpec)) askBackUptoCard

/-- THE SECOND FORM's CARD OF 'shiftbellkeep.NeedText'. -/
def needTextUptoCard : Claim7 := { stood := { row := needTextUptoRow, standIns := [], harness := (true, "01258724e008b33df99b50a1517b6a2b602ae0de7535c79d8bd66ae6e693adde"), looks := true }, kinds := [], alts := [], laidByText := true, laidKinds := [.data, .data, .data, .data, .sentinel, .sentinel, .pinned], laidTests := true, laidLooks := .later }
def NeedTextUptoCardSaid : Prop := Claim7.holds Tryd.pinned (.plain (OpenSpec.upto needTextSpec)) needTextUptoCard

/-- THE SECOND FORM's CARD OF 'shiftbellkeep.CronBack'. -/
def cronBackUptoCard : Claim7 := { stood := { row := cronBackUptoRow, standIns := [], harness := (true, "01258724e008b33df99b50a1517b6a2b602ae0de7535c79d8bd66ae6e693adde"), looks := true }, kinds := [], alts := [], laidByText := true, laidKinds := [.data, .data, .data, .data, .data, .sentinel, .sentinel, .pinned], laidTests := true, laidLooks := .later }
def CronBackUptoCardSaid : Prop := Claim7.holds Tryd.pinned (.plain (OpenSpec.upto cronBackSpec)) cronBackUptoCard

/-- THE SECOND FORM's CARD OF 'shiftbellkeep.CronOne'. -/
def cronOneUptoCard : Claim7 := { stood := { row := cronOneUptoRow, standIns := [], harness := (true, "01258724e008b33df99b50a1517b6a2b602ae0de7535c79d8bd66ae6e693adde"), looks := true }, kinds := [], alts := [], laidByText := true, laidKinds := [.data, .data, .data, .data, .data, .sentinel, .sentinel, .pinned], laidTests := true, laidLooks := .later }
def CronOneUptoCardSaid : Prop := Claim7.holds Tryd.pinned (.plain (OpenSpec.upto cronOneSpec)) cronOneUptoCard
end Rows
end Go.Proofs.YteelndoflikliaaDoor
