/- The row's facts, put together. -/
import Derived.Test.YtcceeahmcecbnaaGreatDoorZzDeskWrong
namespace Go.Proofs.YtcceeahmcecbnaaGreatDoor
open Go.RowKit
theorem and_t_DeskWrong {a b : Bool} (h : a = true) (k : b = true) : (a && b) = true := by rw [h, k]; rfl
set_option maxRecDepth 100000 in
set_option maxHeartbeats 2000000 in
theorem joined_DeskWrong : joinedFacts Tryz.prog 4 Tryz.f4 (Rows.OpenSpec.upto Rows.deskWrongSpec).bare Rows.deskWrongUptoRow = true := by
  unfold joinedFacts
  repeat' with_reducible apply and_t_DeskWrong
  all_goals first | with_reducible exact z1_DeskWrong | with_reducible exact z2_DeskWrong | with_reducible exact z3_DeskWrong | with_reducible exact z4_DeskWrong | with_reducible exact z5_DeskWrong | with_reducible exact z6_DeskWrong | with_reducible exact z7_DeskWrong | with_reducible exact z8_DeskWrong | with_reducible exact z9_DeskWrong | with_reducible exact z10_DeskWrong | with_reducible exact z11_DeskWrong | with_reducible exact z12_DeskWrong | with_reducible exact z13_DeskWrong | kernel_rfl
end Go.Proofs.YtcceeahmcecbnaaGreatDoor
