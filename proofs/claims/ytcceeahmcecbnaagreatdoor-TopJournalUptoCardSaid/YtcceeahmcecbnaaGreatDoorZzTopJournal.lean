/- The row's facts, one by one. -/
import Derived.Test.YtcceeahmcecbnaaGreatDoorRows
import Derived.WalkKit
import Derived.JoinedCond
import Derived.JoinedOf
import Derived.RowKitTokens
namespace Go.Proofs.YtcceeahmcecbnaaGreatDoor
open Go.RowKit
theorem z1_TopJournal : laidOutB Tryz.prog = true := by kernel_rfl
theorem z2_TopJournal : mapsRowed Tryz.prog = true := by kernel_rfl
theorem z3_TopJournal : (Rows.topJournalUptoRow.inPlace == Tryz.prog.inPlace 9) = true := by kernel_rfl
theorem z4_TopJournal : (Rows.topJournalUptoRow.unfollowed == Tryz.prog.unfollowed 9) = true := by kernel_rfl
theorem z5_TopJournal : (Rows.topJournalUptoRow.recurses == Tryz.prog.recurses 9) = true := by kernel_rfl
theorem z6_TopJournal : (Rows.topJournalUptoRow.named == Tryz.prog.varsNamed 9) = true := by kernel_rfl
theorem z7_TopJournal : (Rows.topJournalUptoRow.plainKeys == Tryz.prog.plainKeys) = true := by kernel_rfl
theorem z8_TopJournal : Tryz.prog.stopsHeard = true := by kernel_rfl
theorem z9_TopJournal : Tryz.prog.mayEnter = true := by kernel_rfl
theorem z10_TopJournal : (Rows.topJournalUptoRow.lifted == Tryz.prog.liftsFinal) = true := by kernel_rfl
theorem z11_TopJournal : (Tryz.prog.make == some Rows.topJournalUptoRow.make) = true := by kernel_rfl
theorem z12_TopJournal : (Tryz.prog.stops == []) = true := by kernel_rfl
theorem z13_TopJournal : (Tryz.prog.stopKnobs == []) = true := by kernel_rfl
end Go.Proofs.YtcceeahmcecbnaaGreatDoor
