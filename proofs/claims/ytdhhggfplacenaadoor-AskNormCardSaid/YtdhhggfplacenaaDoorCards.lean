/-
  DERIVED. GIVEN WITH THE SEED: THE CARDS: each row of YtdhhggfplacenaaDoorRows.lean that lists a variable, with what it lists TIED to the program's text (the seventh form; the later family's looks); each row that meets fmt, with fmt's text TOLD by the authors' own Lean function (tested against real Go, not proved from fmt's source: count such statements apart). THE CARD IS WHAT COUNTS. Prove the row's statement (the work); the ties are given (YtdhhggfplacenaaDoorTie.lean); close each card by the builder's one call (the guide's Derived/Test/ToyasCard.lean, 'card_holds'). Laid BY PROGRAM, IN A SANDBOX (cutbox-door.mjs). By AI agents, Wed Nov 11 2026. No macro, syntax, notation, axiom, sorry.
-/
import Derived.Test.YtdhhggfplacenaaDoorRows
import GoSem.ClaimSeven
namespace Go.Proofs.YtdhhggfplacenaaDoor
namespace Rows

/-- THE TIED CARD OF 'shiftbellkeep.NeedOrder'. -/
def needOrderCard : Claim7 := { stood := { row := needOrderRow, standIns := [], harness := (true, "f4b82be4f822c867178712701565c1c9c0c6829c14e622bc8787a65ac0ad6279"), looks := true }, kinds := [], alts := [], laidByText := true, laidKinds := [.data, .data, .data], laidTests := true, laidLooks := .later }
def NeedOrderCardSaid : Prop := Claim7.holds Tryd.pinned (.plain (OpenSpec.ofChange needOrderSpec)) needOrderCard

/-- THE TIED CARD OF 'shiftbellkeep.AskAnd'. -/
def askAndCard : Claim7 := { stood := { row := askAndRow, standIns := [], harness := (true, "f4b82be4f822c867178712701565c1c9c0c6829c14e622bc8787a65ac0ad6279"), looks := true }, kinds := [], alts := [], laidByText := true, laidKinds := [.data, .data, .data], laidTests := true, laidLooks := .later }
def AskAndCardSaid : Prop := Claim7.holds Tryd.pinned (.plain (OpenSpec.ofChange askAndSpec)) askAndCard

/-- THE TIED CARD OF 'shiftbellkeep.NeedSums'. -/
def needSumsCard : Claim7 := { stood := { row := needSumsRow, standIns := [], harness := (true, "f4b82be4f822c867178712701565c1c9c0c6829c14e622bc8787a65ac0ad6279"), looks := true }, kinds := [], alts := [], laidByText := true, laidKinds := [.data, .data, .data], laidTests := true, laidLooks := .later }
def NeedSumsCardSaid : Prop := Claim7.holds Tryd.pinned (.plain (OpenSpec.ofChange needSumsSpec)) needSumsCard

/-- THE TIED CARD OF 'shiftbellkeep.NeedBack'. -/
def needBackCard : Claim7 := { stood := { row := needBackRow, standIns := [], harness := (true, "f4b82be4f822c867178712701565c1c9c0c6829c14e622bc8787a65ac0ad6279"), looks := true }, kinds := [], alts := [], laidByText := true, laidKinds := [.data, .data, .data], laidTests := true, laidLooks := .later }
def NeedBackCardSaid : Prop := Claim7.holds Tryd.pinned (.plain (OpenSpec.ofChange needBackSpec)) needBackCard

/-- THE TIED CARD OF 'shiftbellkeep.AskNorm'. -/
def askNormCard : Claim7 := { stood := { row := askNormRow, standIns := [], harness := (true, "f4b82be4f822c867178712701565c1c9c0c6829c14e622bc8787a65ac0ad6279"), looks := true }, kinds := [], alts := [], laidByText := true, laidKinds := [.data, .data, .data], laidTests := true, laidLooks := .later }
def AskNormCardSaid : Prop := Claim7.holds Tryd.pinned (.plain (OpenSpec.ofChange askNormSpec)) askNormCard

/-- THE TIED CARD OF 'shiftbellkeep.AskAlike'. -/
def askAlikeCard : Claim7 := { stood := { row := askAlikeRow, standIns := [], harness := (true, "f4b82be4f822c867178712701565c1c9c0c6829c14e622bc8787a65ac0ad6279"), looks := true }, kinds := [], alts := [], laidByText := true, laidKinds := [.data, .data, .data], laidTests := true, laidLooks := .later }
def AskAlikeCardSaid : Prop := Claim7.holds Tryd.pinned (.plain (OpenSpec.ofChange askAlikeSpec)) askAlikeCard

/-- THE TIED CARD OF 'shiftbellkeep.AskBack'. -/
def askBackCard : Claim7 := { stood := { row := askBackRow, standIns := [], harness := (true, "f4b82be4f822c867178712701565c1c9c0c6829c14e622bc8787a65ac0ad6279"), looks := true }, kinds := [], alts := [], laidByText := true, laidKinds := [.data, .data, .data, .sentinel, .sentinel], laidTests := true, laidLooks := .later }
def AskBackCardSaid : Prop := Claim7.holds Tryd.pinned (.plain (OpenSpec.ofChange askBackSpec)) askBackCard

/-- THE TIED CARD OF 'shiftbellkeep.NeedText'. -/
def needTextCard : Claim7 := { stood := { row := needTextRow, standIns := [], harness := (true, "f4b82be4f822c867178712701565c1c9c0c6829c14e622bc8787a65ac0ad6279"), looks := true }, kinds := [], alts := [], laidByText := true, laidKinds := [.data, .data, .data, .data, .sentinel, .sentinel, .pinned], laidTests := true, laidLooks := .later }
def NeedTextCardSaid : Prop := Claim7.holds Tryd.pinned (.plain (OpenSpec.ofChange needTextSpec)) needTextCard

/-- THE SECOND FORM's CARD OF 'shiftbellkeep.NeedOrder'. -/
def needOrderUptoCard : Claim7 := { stood := { row := needOrderUptoRow, standIns := [], harness := (true, "f4b82be4f822c867178712701565c1c9c0c6829c14e622bc8787a65ac0ad6279"), looks := true }, kinds := [], alts := [], laidByText := true, laidKinds := [.data, .data, .data], laidTests := true, laidLooks := .later }
def NeedOrderUptoCardSaid : Prop := Claim7.holds Tryd.pinned (.plain (OpenSpec.upto needOrderSpec)) needOrderUptoCard

/-- THE SECOND FORM's CARD OF 'shiftbellkeep.AskAnd'. -/
def askAndUptoCard : Claim7 := { stood := { row := askAndUptoRow, standIns := [], harness := (true, "f4b82be4f822c867178712701565c1c9c0c6829c14e622bc8787a65ac0ad6279"), looks := true }, kinds := [], alts := [], laidByText := true, laidKinds := [.data, .data, .data], laidTests := true, laidLooks := .later }
def AskAndUptoCardSaid : Prop := Claim7.holds Tryd.pinned (.plain (OpenSpec.upto askAndSpec)) askAndUptoCard

/-- THE SECOND FORM's CARD OF 'shiftbellkeep.NeedSums'. -/
def needSumsUptoCard : Claim7 := { stood := { row := needSumsUptoRow, standIns := [], harness := (true, "f4b82be4f822c867178712701565c1c9c0c6829c14e622bc8787a65ac0ad6279"), looks := true }, kinds := [], alts := [], laidByText := true, laidKinds := [.data, .data, .data], laidTests := true, laidLooks := .later }
def NeedSumsUptoCardSaid : Prop := Claim7.holds Tryd.pinned (.plain (OpenSpec.upto needSumsSpec)) needSumsUptoCard

/-- THE SECOND FORM's CARD OF 'shiftbellkeep.NeedBack'. -/
def needBackUptoCard : Claim7 := { stood := { row := needBackUptoRow, standIns := [], harness := (true, "f4b82be4f822c867178712701565c1c9c0c6829c14e622bc8787a65ac0ad6279"), looks := true }, kinds := [], alts := [], laidByText := true, laidKinds := [.data, .data, .data], laidTests := true, laidLooks := .later }
def NeedBackUptoCardSaid : Prop := Claim7.holds Tryd.pinned (.plain (OpenSpec.upto needBackSpec)) needBackUptoCard

/-- THE SECOND FORM's CARD OF 'shiftbellkeep.AskNorm'. -/
def askNormUptoCard : Claim7 := { stood := { row := askNormUptoRow, standIns := [], harness := (true, "f4b82be4f822c867178712701565c1c9c0c6829c14e622bc8787a65ac0ad6279"), looks := true }, kinds := [], alts := [], laidByText := true, laidKinds := [.data, .data, .data], laidTests := true, laidLooks := .later }
def AskNormUptoCardSaid : Prop := Claim7.holds Tryd.pinned (.plain (OpenSpec.upto askNormSpec)) askNormUptoCard

/-- THE SECOND FORM's CARD OF 'shiftbellkeep.AskAlike'. -/
def askAlikeUptoCard : Claim7 := { stood := { row := askAlikeUptoRow, standIns := [], harness := (true, "f4b82be4f822c867178712701565c1c9c0c6829c14e622bc8787a65ac0ad6279"), looks := true }, kinds := [], alts := [], laidByText := true, laidKinds := [.data, .data, .data], laidTests := true, laidLooks := .later }
def AskAlikeUptoCardSaid : Prop := Claim7.holds Tryd.pinned (.plain (OpenSpec.upto askAlikeSpec)) askAlikeUptoCard

/-- THE SECOND FORM's CARD OF 'shiftbellkeep.AskBack'. -/
def askBackUptoCard : Claim7 := { stood := { row := askBackUptoRow, standIns := [], harness := (true, "f4b82be4f822c867178712701565c1c9c0c6829c14e622bc8787a65ac0ad6279"), looks := true }, kinds := [], alts := [], laidByText := true, laidKinds := [.data, .data, .data, .sentinel, .sentinel], laidTests := true, laidLooks := .later }
def AskBackUptoCardSaid : Prop := Claim7.holds Tryd.pinned (.plain (OpenSpec.upto askBackSpec)) askBackUptoCard

/-- THE SECOND FORM's CARD OF 'shiftbellkeep.NeedText'. -/
def needTextUptoCard : Claim7 := { stood := { row := needTextUptoRow, standIns := [], harness := (true, "f4b82be4f822c867178712701565c1c9c0c6829c14e622bc8787a65ac0ad6279"), looks := true }, kinds := [], alts := [], laidByText := true, laidKinds := [.data, .data, .data, .data, .sentinel, .sentinel, .pinned], laidTests := true, laidLooks := .later }
def NeedTextUptoCardSaid : Prop := Claim7.holds Tryd.pinned (.plain (OpenSpec.upto needTextSpec)) needTextUptoCard
end Rows
end Go.Proofs.YtdhhggfplacenaaDoor
