/- The row's facts, put together. -/
import Derived.Test.YtcceeahmcecbnaaGreatDoorZzDeskFront
namespace Go.Proofs.YtcceeahmcecbnaaGreatDoor
open Go.RowKit
theorem and_t_DeskFront {a b : Bool} (h : a = true) (k : b = true) : (a && b) = true := by rw [h, k]; rfl
set_option maxRecDepth 100000 in
set_option maxHeartbeats 2000000 in
theorem joined_DeskFront : joinedFacts Tryz.prog 3 Tryz.f3 (Rows.OpenSpec.upto Rows.deskFrontSpec).bare Rows.deskFrontUptoRow = true := by
  unfold joinedFacts
  repeat' with_reducible apply and_t_DeskFront
  all_goals first | with_reducible exact z1_DeskFront | with_reducible exact z2_DeskFront | with_reducible exact z3_DeskFront | with_reducible exact z4_DeskFront | with_reducible exact z5_DeskFront | with_reducible exact z6_DeskFront | with_reducible exact z7_DeskFront | with_reducible exact z8_DeskFront | with_reducible exact z9_DeskFront | with_reducible exact z10_DeskFront | with_reducible exact z11_DeskFront | with_reducible exact z12_DeskFront | with_reducible exact z13_DeskFront | kernel_rfl
end Go.Proofs.YtcceeahmcecbnaaGreatDoor
