/-
  DERIVED. GIVEN WITH THE SEED: THE CARDS: each row of YtegephkpdlopaaaGreatDoorRows.lean that lists a variable, with what it lists TIED to the program's text (the seventh form; the later family's looks); each row that meets fmt, with fmt's text TOLD by the authors' own Lean function (tested against real Go, not proved from fmt's source: count such statements apart). THE CARD IS WHAT COUNTS. Prove the row's statement (the work); the ties are given (YtegephkpdlopaaaGreatDoorTie.lean); close each card by the builder's one call (the guide's Derived/Test/ToyasCard.lean, 'card_holds'). Laid BY PROGRAM, IN A SANDBOX (cutbox-door.mjs). By AI agents, Wed Nov 11 2026. No macro, syntax, notation, axiom, sorry.
-/
import Derived.Test.YtegephkpdlopaaaGreatDoorRows
import GoSem.ClaimSeven
namespace Go.Proofs.YtegephkpdlopaaaGreatDoor
namespace Rows

/-- THE TIED CARD OF 'shiftbellkeep.SafeOwn'. -/
def safeOwnCard : Claim7 := { stood := { row := safeOwnRow, standIns := [], harness := (true, "0fb3392eb6c6a29b82e045039856e46fad943b91063a44c80e45fe17625ac3aa"), looks := true }, kinds := [], alts := [], laidByText := true, laidKinds := [.data, .data, .data, .data, .sentinel, .sentinel, .pinned], laidTests := true, laidLooks := .later }
def SafeOwnCardSaid : Prop := Claim7.holds Tryz.pinned (.plain (OpenSpec.ofChange safeOwnSpec)) safeOwnCard

/-- THE TIED CARD OF 'shiftbellkeep.SafeBack'. -/
def safeBackCard : Claim7 := { stood := { row := safeBackRow, standIns := [], harness := (true, "0fb3392eb6c6a29b82e045039856e46fad943b91063a44c80e45fe17625ac3aa"), looks := true }, kinds := [], alts := [], laidByText := true, laidKinds := [.data, .data, .data, .data, .sentinel, .sentinel, .pinned], laidTests := true, laidLooks := .later }
def SafeBackCardSaid : Prop := Claim7.holds Tryz.pinned (.plain (OpenSpec.ofChange safeBackSpec)) safeBackCard

/-- THE TIED CARD OF 'shiftbellkeep.SafeSame'. -/
def safeSameCard : Claim7 := { stood := { row := safeSameRow, standIns := [], harness := (true, "0fb3392eb6c6a29b82e045039856e46fad943b91063a44c80e45fe17625ac3aa"), looks := true }, kinds := [], alts := [], laidByText := true, laidKinds := [.data, .data, .data, .data, .sentinel, .sentinel, .pinned], laidTests := true, laidLooks := .later }
def SafeSameCardSaid : Prop := Claim7.holds Tryz.pinned (.plain (OpenSpec.ofChange safeSameSpec)) safeSameCard

/-- THE SECOND FORM's CARD OF 'shiftbellkeep.SafeOwn'. -/
def safeOwnUptoCard : Claim7 := { stood := { row := safeOwnUptoRow, standIns := [], harness := (true, "0fb3392eb6c6a29b82e045039856e46fad943b91063a44c80e45fe17625ac3aa"), looks := true }, kinds := [], alts := [], laidByText := true, laidKinds := [.data, .data, .data, .data, .sentinel, .sentinel, .pinned], laidTests := true, laidLooks := .later }
def SafeOwnUptoCardSaid : Prop := Claim7.holds Tryz.pinned (.plain (OpenSpec.upto safeOwnSpec)) safeOwnUptoCard

/-- THE SECOND FORM's CARD OF 'shiftbellkeep.SafeBack'. -/
def safeBackUptoCard : Claim7 := { stood := { row := safeBackUptoRow, standIns := [], harness := (true, "0fb3392eb6c6a29b82e045039856e46fad943b91063a44c80e45fe17625ac3aa"), looks := true }, kinds := [], alts := [], laidByText := true, laidKinds := [.data, .data, .data, .data, .sentinel, .sentinel, .pinned], laidTests := true, laidLooks := .later }
def SafeBackUptoCardSaid : Prop := Claim7.holds Tryz.pinned (.plain (OpenSpec.upto safeBackSpec)) safeBackUptoCard

/-- THE SECOND FORM's CARD OF 'shiftbellkeep.SafeSame'. -/
def safeSameUptoCard : Claim7 := { stood := { row := safeSameUptoRow, standIns := [], harness := (true, "0fb3392eb6c6a29b82e045039856e46fad943b91063a44c80e45fe17625ac3aa"), looks := true }, kinds := [], alts := [], laidByText := true, laidKinds := [.data, .data, .data, .data, .sentinel, .sentinel, .pinned], laidTests := true, laidLooks := .later }
def SafeSameUptoCardSaid : Prop := Claim7.holds Tryz.pinned (.plain (OpenSpec.upto safeSameSpec)) safeSameUptoCard
end Rows
end Go.Proofs.YtegephkpdlopaaaGreatDoor
