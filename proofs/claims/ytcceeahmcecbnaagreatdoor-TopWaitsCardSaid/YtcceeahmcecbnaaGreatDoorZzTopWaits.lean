/- The row's facts, one by one. -/
import Derived.Test.YtcceeahmcecbnaaGreatDoorRows
import Derived.WalkKit
import Derived.JoinedCond
import Derived.JoinedOf
import Derived.RowKitTokens
namespace Go.Proofs.YtcceeahmcecbnaaGreatDoor
open Go.RowKit
theorem z1_TopWaits : laidOutB Tryz.prog = true := by kernel_rfl
theorem z2_TopWaits : mapsRowed Tryz.prog = true := by kernel_rfl
theorem z3_TopWaits : (Rows.topWaitsRow.inPlace == Tryz.prog.inPlace 7) = true := by kernel_rfl
theorem z4_TopWaits : (Rows.topWaitsRow.unfollowed == Tryz.prog.unfollowed 7) = true := by kernel_rfl
theorem z5_TopWaits : (Rows.topWaitsRow.recurses == Tryz.prog.recurses 7) = true := by kernel_rfl
theorem z6_TopWaits : (Rows.topWaitsRow.named == Tryz.prog.varsNamed 7) = true := by kernel_rfl
theorem z7_TopWaits : (Rows.topWaitsRow.plainKeys == Tryz.prog.plainKeys) = true := by kernel_rfl
theorem z8_TopWaits : Tryz.prog.stopsHeard = true := by kernel_rfl
theorem z9_TopWaits : Tryz.prog.mayEnter = true := by kernel_rfl
theorem z10_TopWaits : (Rows.topWaitsRow.lifted == Tryz.prog.liftsFinal) = true := by kernel_rfl
theorem z11_TopWaits : (Tryz.prog.make == some Rows.topWaitsRow.make) = true := by kernel_rfl
theorem z12_TopWaits : (Tryz.prog.stops == []) = true := by kernel_rfl
theorem z13_TopWaits : (Tryz.prog.stopKnobs == []) = true := by kernel_rfl
end Go.Proofs.YtcceeahmcecbnaaGreatDoor
