/- The row's facts, put together. -/
import Derived.Test.YtcceeahmcecbnaaGreatDoorZzTopJournal
namespace Go.Proofs.YtcceeahmcecbnaaGreatDoor
open Go.RowKit
theorem and_t_TopJournal {a b : Bool} (h : a = true) (k : b = true) : (a && b) = true := by rw [h, k]; rfl
set_option maxRecDepth 100000 in
set_option maxHeartbeats 2000000 in
theorem joined_TopJournal : joinedFacts Tryz.prog 9 Tryz.f9 (Rows.OpenSpec.upto Rows.topJournalSpec).bare Rows.topJournalUptoRow = true := by
  unfold joinedFacts
  repeat' with_reducible apply and_t_TopJournal
  all_goals first | with_reducible exact z1_TopJournal | with_reducible exact z2_TopJournal | with_reducible exact z3_TopJournal | with_reducible exact z4_TopJournal | with_reducible exact z5_TopJournal | with_reducible exact z6_TopJournal | with_reducible exact z7_TopJournal | with_reducible exact z8_TopJournal | with_reducible exact z9_TopJournal | with_reducible exact z10_TopJournal | with_reducible exact z11_TopJournal | with_reducible exact z12_TopJournal | with_reducible exact z13_TopJournal | kernel_rfl
end Go.Proofs.YtcceeahmcecbnaaGreatDoor
