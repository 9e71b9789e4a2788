/- The row's facts, put together. -/
import Derived.Test.YtcceeahmcecbnaaGreatDoorZzDeskAsks
namespace Go.Proofs.YtcceeahmcecbnaaGreatDoor
open Go.RowKit
theorem and_t_DeskAsks {a b : Bool} (h : a = true) (k : b = true) : (a && b) = true := by rw [h, k]; rfl
set_option maxRecDepth 100000 in
set_option maxHeartbeats 2000000 in
theorem joined_DeskAsks : joinedFacts Tryz.prog 5 Tryz.f5 (Rows.OpenSpec.upto Rows.deskAsksSpec).bare Rows.deskAsksUptoRow = true := by
  unfold joinedFacts
  repeat' with_reducible apply and_t_DeskAsks
  all_goals first | with_reducible exact z1_DeskAsks | with_reducible exact z2_DeskAsks | with_reducible exact z3_DeskAsks | with_reducible exact z4_DeskAsks | with_reducible exact z5_DeskAsks | with_reducible exact z6_DeskAsks | with_reducible exact z7_DeskAsks | with_reducible exact z8_DeskAsks | with_reducible exact z9_DeskAsks | with_reducible exact z10_DeskAsks | with_reducible exact z11_DeskAsks | with_reducible exact z12_DeskAsks | with_reducible exact z13_DeskAsks | kernel_rfl
end Go.Proofs.YtcceeahmcecbnaaGreatDoor
