/- The row's facts, one by one. -/
import Derived.Test.YtcceeahmcecbnaaGreatDoorRows
import Derived.WalkKit
import Derived.JoinedCond
import Derived.JoinedOf
import Derived.RowKitTokens
namespace Go.Proofs.YtcceeahmcecbnaaGreatDoor
open Go.RowKit
theorem z1_TopOrder : laidOutB Tryz.prog = true := by kernel_rfl
theorem z2_TopOrder : mapsRowed Tryz.prog = true := by kernel_rfl
theorem z3_TopOrder : (Rows.topOrderRow.inPlace == Tryz.prog.inPlace 8) = true := by kernel_rfl
theorem z4_TopOrder : (Rows.topOrderRow.unfollowed == Tryz.prog.unfollowed 8) = true := by kernel_rfl
theorem z5_TopOrder : (Rows.topOrderRow.recurses == Tryz.prog.recurses 8) = true := by kernel_rfl
theorem z6_TopOrder : (Rows.topOrderRow.named == Tryz.prog.varsNamed 8) = true := by kernel_rfl
theorem z7_TopOrder : (Rows.topOrderRow.plainKeys == Tryz.prog.plainKeys) = true := by kernel_rfl
theorem z8_TopOrder : Tryz.prog.stopsHeard = true := by kernel_rfl
theorem z9_TopOrder : Tryz.prog.mayEnter = true := by kernel_rfl
theorem z10_TopOrder : (Rows.topOrderRow.lifted == Tryz.prog.liftsFinal) = true := by kernel_rfl
theorem z11_TopOrder : (Tryz.prog.make == some Rows.topOrderRow.make) = true := by kernel_rfl
theorem z12_TopOrder : (Tryz.prog.stops == []) = true := by kernel_rfl
theorem z13_TopOrder : (Tryz.prog.stopKnobs == []) = true := by kernel_rfl
end Go.Proofs.YtcceeahmcecbnaaGreatDoor
