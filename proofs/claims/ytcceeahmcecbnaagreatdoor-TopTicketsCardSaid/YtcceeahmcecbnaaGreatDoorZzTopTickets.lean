/- The row's facts, one by one. -/
import Derived.Test.YtcceeahmcecbnaaGreatDoorRows
import Derived.WalkKit
import Derived.JoinedCond
import Derived.JoinedOf
import Derived.RowKitTokens
namespace Go.Proofs.YtcceeahmcecbnaaGreatDoor
open Go.RowKit
theorem z1_TopTickets : laidOutB Tryz.prog = true := by kernel_rfl
theorem z2_TopTickets : mapsRowed Tryz.prog = true := by kernel_rfl
theorem z3_TopTickets : (Rows.topTicketsRow.inPlace == Tryz.prog.inPlace 10) = true := by kernel_rfl
theorem z4_TopTickets : (Rows.topTicketsRow.unfollowed == Tryz.prog.unfollowed 10) = true := by kernel_rfl
theorem z5_TopTickets : (Rows.topTicketsRow.recurses == Tryz.prog.recurses 10) = true := by kernel_rfl
theorem z6_TopTickets : (Rows.topTicketsRow.named == Tryz.prog.varsNamed 10) = true := by kernel_rfl
theorem z7_TopTickets : (Rows.topTicketsRow.plainKeys == Tryz.prog.plainKeys) = true := by kernel_rfl
theorem z8_TopTickets : Tryz.prog.stopsHeard = true := by kernel_rfl
theorem z9_TopTickets : Tryz.prog.mayEnter = true := by kernel_rfl
theorem z10_TopTickets : (Rows.topTicketsRow.lifted == Tryz.prog.liftsFinal) = true := by kernel_rfl
theorem z11_TopTickets : (Tryz.prog.make == some Rows.topTicketsRow.make) = true := by kernel_rfl
theorem z12_TopTickets : (Tryz.prog.stops == []) = true := by kernel_rfl
theorem z13_TopTickets : (Tryz.prog.stopKnobs == []) = true := by kernel_rfl
end Go.Proofs.YtcceeahmcecbnaaGreatDoor
