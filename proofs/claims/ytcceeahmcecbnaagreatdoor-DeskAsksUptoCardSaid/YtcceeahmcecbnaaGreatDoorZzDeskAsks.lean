/- The row's facts, one by one. -/
import Derived.Test.YtcceeahmcecbnaaGreatDoorRows
import Derived.WalkKit
import Derived.JoinedCond
import Derived.JoinedOf
import Derived.RowKitTokens
namespace Go.Proofs.YtcceeahmcecbnaaGreatDoor
open Go.RowKit
theorem z1_DeskAsks : laidOutB Tryz.prog = true := by kernel_rfl
theorem z2_DeskAsks : mapsRowed Tryz.prog = true := by kernel_rfl
theorem z3_DeskAsks : (Rows.deskAsksUptoRow.inPlace == Tryz.prog.inPlace 5) = true := by kernel_rfl
theorem z4_DeskAsks : (Rows.deskAsksUptoRow.unfollowed == Tryz.prog.unfollowed 5) = true := by kernel_rfl
theorem z5_DeskAsks : (Rows.deskAsksUptoRow.recurses == Tryz.prog.recurses 5) = true := by kernel_rfl
theorem z6_DeskAsks : (Rows.deskAsksUptoRow.named == Tryz.prog.varsNamed 5) = true := by kernel_rfl
theorem z7_DeskAsks : (Rows.deskAsksUptoRow.plainKeys == Tryz.prog.plainKeys) = true := by kernel_rfl
theorem z8_DeskAsks : Tryz.prog.stopsHeard = true := by kernel_rfl
theorem z9_DeskAsks : Tryz.prog.mayEnter = true := by kernel_rfl
theorem z10_DeskAsks : (Rows.deskAsksUptoRow.lifted == Tryz.prog.liftsFinal) = true := by kernel_rfl
theorem z11_DeskAsks : (Tryz.prog.make == some Rows.deskAsksUptoRow.make) = true := by kernel_rfl
theorem z12_DeskAsks : (Tryz.prog.stops == []) = true := by kernel_rfl
theorem z13_DeskAsks : (Tryz.prog.stopKnobs == []) = true := by kernel_rfl
end Go.Proofs.YtcceeahmcecbnaaGreatDoor
