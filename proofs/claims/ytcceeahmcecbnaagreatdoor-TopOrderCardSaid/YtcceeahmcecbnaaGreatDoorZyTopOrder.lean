/- The row's facts, put together. -/
import Derived.Test.YtcceeahmcecbnaaGreatDoorZzTopOrder
namespace Go.Proofs.YtcceeahmcecbnaaGreatDoor
open Go.RowKit
theorem and_t_TopOrder {a b : Bool} (h : a = true) (k : b = true) : (a && b) = true := by rw [h, k]; rfl
set_option maxRecDepth 100000 in
set_option maxHeartbeats 2000000 in
theorem joined_TopOrder : joinedFacts Tryz.prog 8 Tryz.f8 Rows.topOrderSpec Rows.topOrderRow = true := by
  unfold joinedFacts
  repeat' with_reducible apply and_t_TopOrder
  all_goals first | with_reducible exact z1_TopOrder | with_reducible exact z2_TopOrder | with_reducible exact z3_TopOrder | with_reducible exact z4_TopOrder | with_reducible exact z5_TopOrder | with_reducible exact z6_TopOrder | with_reducible exact z7_TopOrder | with_reducible exact z8_TopOrder | with_reducible exact z9_TopOrder | with_reducible exact z10_TopOrder | with_reducible exact z11_TopOrder | with_reducible exact z12_TopOrder | with_reducible exact z13_TopOrder | kernel_rfl
end Go.Proofs.YtcceeahmcecbnaaGreatDoor
