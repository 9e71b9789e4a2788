/- The row's facts, put together. -/
import Derived.Test.YtcceeahmcecbnaaGreatDoorZzTopDone
namespace Go.Proofs.YtcceeahmcecbnaaGreatDoor
open Go.RowKit
theorem and_t_TopDone {a b : Bool} (h : a = true) (k : b = true) : (a && b) = true := by rw [h, k]; rfl
set_option maxRecDepth 100000 in
set_option maxHeartbeats 2000000 in
theorem joined_TopDone : joinedFacts Tryz.prog 6 Tryz.f6 Rows.topDoneSpec Rows.topDoneRow = true := by
  unfold joinedFacts
  repeat' with_reducible apply and_t_TopDone
  all_goals first | with_reducible exact z1_TopDone | with_reducible exact z2_TopDone | with_reducible exact z3_TopDone | with_reducible exact z4_TopDone | with_reducible exact z5_TopDone | with_reducible exact z6_TopDone | with_reducible exact z7_TopDone | with_reducible exact z8_TopDone | with_reducible exact z9_TopDone | with_reducible exact z10_TopDone | with_reducible exact z11_TopDone | with_reducible exact z12_TopDone | with_reducible exact z13_TopDone | kernel_rfl
end Go.Proofs.YtcceeahmcecbnaaGreatDoor
