/- The law JournalOne. -/
import Derived.Test.YtenppnomdejmlaaGreatDoorEvC
set_option linter.unusedVariables false
set_option linter.unusedSimpArgs false
namespace Go.Proofs.YtenppnomdejmlaaGreatDoor
open Go.Sx Go.RowKit

theorem frs_le (L : List Ev) {k : Nat} : (frs (L.take k)).length ≤ (frs L).length := by
  conv => rhs; rw [← List.take_append_drop k L]
  rw [frs_app, List.length_append]
  omega
/-- An event's cells in a row. -/
theorem rec_cells {w : World} {p : Option Addr} {rs : List EvR} (h : Recs 15 encR w p rs) {k : Int} (h0 : 0 ≤ k) {r : EvR} (hr : rs[k.toNat]? = some r) {m : Nat} {u : Value} (hu : (encR r)[m]? = some u) : Go.Sx.cell w (pIdx p k 15) m = some u := h.at h0 hr hu

end Go.Proofs.YtenppnomdejmlaaGreatDoor
