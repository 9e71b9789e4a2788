/- The row's facts, one by one. -/
import Derived.Test.YtcceeahmcecbnaaGreatDoorRows
import Derived.WalkKit
import Derived.JoinedCond
import Derived.JoinedOf
import Derived.RowKitTokens
namespace Go.Proofs.YtcceeahmcecbnaaGreatDoor
open Go.RowKit
theorem z1_DeskFront : laidOutB Tryz.prog = true := by kernel_rfl
theorem z2_DeskFront : mapsRowed Tryz.prog = true := by kernel_rfl
theorem z3_DeskFront : (Rows.deskFrontUptoRow.inPlace == Tryz.prog.inPlace 3) = true := by kernel_rfl
theorem z4_DeskFront : (Rows.deskFrontUptoRow.unfollowed == Tryz.prog.unfollowed 3) = true := by kernel_rfl
theorem z5_DeskFront : (Rows.deskFrontUptoRow.recurses == Tryz.prog.recurses 3) = true := by kernel_rfl
theorem z6_DeskFront : (Rows.deskFrontUptoRow.named == Tryz.prog.varsNamed 3) = true := by kernel_rfl
theorem z7_DeskFront : (Rows.deskFrontUptoRow.plainKeys == Tryz.prog.plainKeys) = true := by kernel_rfl
theorem z8_DeskFront : Tryz.prog.stopsHeard = true := by kernel_rfl
theorem z9_DeskFront : Tryz.prog.mayEnter = true := by kernel_rfl
theorem z10_DeskFront : (Rows.deskFrontUptoRow.lifted == Tryz.prog.liftsFinal) = true := by kernel_rfl
theorem z11_DeskFront : (Tryz.prog.make == some Rows.deskFrontUptoRow.make) = true := by kernel_rfl
theorem z12_DeskFront : (Tryz.prog.stops == []) = true := by kernel_rfl
theorem z13_DeskFront : (Tryz.prog.stopKnobs == []) = true := by kernel_rfl
end Go.Proofs.YtcceeahmcecbnaaGreatDoor
