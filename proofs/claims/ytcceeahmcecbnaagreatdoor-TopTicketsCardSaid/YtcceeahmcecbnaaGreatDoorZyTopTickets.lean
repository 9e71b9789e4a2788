/- The row's facts, put together. -/
import Derived.Test.YtcceeahmcecbnaaGreatDoorZzTopTickets
namespace Go.Proofs.YtcceeahmcecbnaaGreatDoor
open Go.RowKit
theorem and_t_TopTickets {a b : Bool} (h : a = true) (k : b = true) : (a && b) = true := by rw [h, k]; rfl
set_option maxRecDepth 100000 in
set_option maxHeartbeats 2000000 in
theorem joined_TopTickets : joinedFacts Tryz.prog 10 Tryz.f10 Rows.topTicketsSpec Rows.topTicketsRow = true := by
  unfold joinedFacts
  repeat' with_reducible apply and_t_TopTickets
  all_goals first | with_reducible exact z1_TopTickets | with_reducible exact z2_TopTickets | with_reducible exact z3_TopTickets | with_reducible exact z4_TopTickets | with_reducible exact z5_TopTickets | with_reducible exact z6_TopTickets | with_reducible exact z7_TopTickets | with_reducible exact z8_TopTickets | with_reducible exact z9_TopTickets | with_reducible exact z10_TopTickets | with_reducible exact z11_TopTickets | with_reducible exact z12_TopTickets | with_reducible exact z13_TopTickets | kernel_rfl
end Go.Proofs.YtcceeahmcecbnaaGreatDoor
