/- The row's facts, one by one. -/
import Derived.Test.YtcceeahmcecbnaaGreatDoorRows
import Derived.WalkKit
import Derived.JoinedCond
import Derived.JoinedOf
import Derived.RowKitTokens
namespace Go.Proofs.YtcceeahmcecbnaaGreatDoor
open Go.RowKit
theorem z1_TopDone : laidOutB Tryz.prog = true := by kernel_rfl
theorem z2_TopDone : mapsRowed Tryz.prog = true := by kernel_rfl
theorem z3_TopDone : (Rows.topDoneRow.inPlace == Tryz.prog.inPlace 6) = true := by kernel_rfl
theorem z4_TopDone : (Rows.topDoneRow.unfollowed == Tryz.prog.unfollowed 6) = true := by kernel_rfl
theorem z5_TopDone : (Rows.topDoneRow.recurses == Tryz.prog.recurses 6) = true := by kernel_rfl
theorem z6_TopDone : (Rows.topDoneRow.named == Tryz.prog.varsNamed 6) = true := by kernel_rfl
theorem z7_TopDone : (Rows.topDoneRow.plainKeys == Tryz.prog.plainKeys) = true := by kernel_rfl
theorem z8_TopDone : Tryz.prog.stopsHeard = true := by kernel_rfl
theorem z9_TopDone : Tryz.prog.mayEnter = true := by kernel_rfl
theorem z10_TopDone : (Rows.topDoneRow.lifted == Tryz.prog.liftsFinal) = true := by kernel_rfl
theorem z11_TopDone : (Tryz.prog.make == some Rows.topDoneRow.make) = true := by kernel_rfl
theorem z12_TopDone : (Tryz.prog.stops == []) = true := by kernel_rfl
theorem z13_TopDone : (Tryz.prog.stopKnobs == []) = true := by kernel_rfl
end Go.Proofs.YtcceeahmcecbnaaGreatDoor
