/- The row's facts, one by one. -/
import Derived.Test.YtcceeahmcecbnaaGreatDoorRows
import Derived.WalkKit
import Derived.JoinedCond
import Derived.JoinedOf
import Derived.RowKitTokens
namespace Go.Proofs.YtcceeahmcecbnaaGreatDoor
open Go.RowKit
theorem z1_DeskWrong : laidOutB Tryz.prog = true := by kernel_rfl
theorem z2_DeskWrong : mapsRowed Tryz.prog = true := by kernel_rfl
theorem z3_DeskWrong : (Rows.deskWrongUptoRow.inPlace == Tryz.prog.inPlace 4) = true := by kernel_rfl
theorem z4_DeskWrong : (Rows.deskWrongUptoRow.unfollowed == Tryz.prog.unfollowed 4) = true := by kernel_rfl
theorem z5_DeskWrong : (Rows.deskWrongUptoRow.recurses == Tryz.prog.recurses 4) = true := by kernel_rfl
theorem z6_DeskWrong : (Rows.deskWrongUptoRow.named == Tryz.prog.varsNamed 4) = true := by kernel_rfl
theorem z7_DeskWrong : (Rows.deskWrongUptoRow.plainKeys == Tryz.prog.plainKeys) = true := by kernel_rfl
theorem z8_DeskWrong : Tryz.prog.stopsHeard = true := by kernel_rfl
theorem z9_DeskWrong : Tryz.prog.mayEnter = true := by kernel_rfl
theorem z10_DeskWrong : (Rows.deskWrongUptoRow.lifted == Tryz.prog.liftsFinal) = true := by kernel_rfl
theorem z11_DeskWrong : (Tryz.prog.make == some Rows.deskWrongUptoRow.make) = true := by kernel_rfl
theorem z12_DeskWrong : (Tryz.prog.stops == []) = true := by kernel_rfl
theorem z13_DeskWrong : (Tryz.prog.stopKnobs == []) = true := by kernel_rfl
end Go.Proofs.YtcceeahmcecbnaaGreatDoor
