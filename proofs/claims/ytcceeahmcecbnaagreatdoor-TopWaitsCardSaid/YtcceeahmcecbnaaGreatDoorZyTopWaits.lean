/- The row's facts, put together. -/
import Derived.Test.YtcceeahmcecbnaaGreatDoorZzTopWaits
namespace Go.Proofs.YtcceeahmcecbnaaGreatDoor
open Go.RowKit
theorem and_t_TopWaits {a b : Bool} (h : a = true) (k : b = true) : (a && b) = true := by rw [h, k]; rfl
set_option maxRecDepth 100000 in
set_option maxHeartbeats 2000000 in
theorem joined_TopWaits : joinedFacts Tryz.prog 7 Tryz.f7 Rows.topWaitsSpec Rows.topWaitsRow = true := by
  unfold joinedFacts
  repeat' with_reducible apply and_t_TopWaits
  all_goals first | with_reducible exact z1_TopWaits | with_reducible exact z2_TopWaits | with_reducible exact z3_TopWaits | with_reducible exact z4_TopWaits | with_reducible exact z5_TopWaits | with_reducible exact z6_TopWaits | with_reducible exact z7_TopWaits | with_reducible exact z8_TopWaits | with_reducible exact z9_TopWaits | with_reducible exact z10_TopWaits | with_reducible exact z11_TopWaits | with_reducible exact z12_TopWaits | with_reducible exact z13_TopWaits | kernel_rfl
end Go.Proofs.YtcceeahmcecbnaaGreatDoor
