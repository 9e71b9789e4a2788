/- The texts of this seat's functions: what each computes, as its symbolic run says it. -/
import Derived.Test.YthhpepdchbdaoaaDoorRows
import Derived.Test.YthhpepdchbdaoaaDoorSxD
import Derived.Test.YthhpepdchbdaoaaDoorSxN
import Derived.Test.YthhpepdchbdaoaaDoorTxt
set_option linter.unusedVariables false
set_option linter.unusedSimpArgs false
set_option maxRecDepth 100000
namespace Go.Proofs.YthhpepdchbdaoaaDoor
open Go.Sx Go.RowKit

abbrev F_shiftbellkeep_CronWider : FuncId := 3

/-- shiftbell/shiftbellkeep.CronWider -/
def wp_shiftbellkeep_CronWider (c_0 : Int) (c_1 : Int) (c_2 : Int) (c_3 : Int) (c_4 : Int) (d_0 : Int) (d_1 : Int) (d_2 : Int) (d_3 : Int) (d_4 : Int) (t : Int) (w : World) (Q : Value → World → Prop) : Prop :=
  ∀ b0 : Nat, w.heap.size ≤ b0 → ∀ b1 : Nat, w.heap.size ≤ b1 → ∀ w2, Ext w w2 →
  FnP Tryd.prog F_shiftbellkeep_crons #[] w2 fun v3 w3 =>
   Ext w2 w3 ∧
   ∃ t4 : Bool, v3 = (.bool t4) ∧
   ((t4 = false) →
    ∀ w5, Ext w w5 →
    Q (.bool false) w5) ∧
   ((t4 = true) →
    ∀ b5 : Nat, w.heap.size ≤ b5 → ∃ (J6 : Int → Int → Int → Int → Int → World → Prop), ((((J6 (iBit .or .u64 c_0 d_0) (iBit .or .u64 c_1 d_1) c_2 (iBit .or .u64 c_3 d_3) c_4 w ∧
     J6 (iBit .or .u64 c_0 d_0) (iBit .or .u64 c_1 d_1) c_2 (iBit .or .u64 c_3 d_3) c_4 w ∧
     J6 (iBit .or .u64 c_0 d_0) (iBit .or .u64 c_1 d_1) c_2 (iBit .or .u64 c_3 d_3) c_4 w) ∧
     (J6 (iBit .or .u64 c_0 d_0) (iBit .or .u64 c_1 d_1) c_2 (iBit .or .u64 c_3 d_3) c_4 w ∧
     J6 (iBit .or .u64 c_0 d_0) (iBit .or .u64 c_1 d_1) c_2 (iBit .or .u64 c_3 d_3) c_4 w ∧
     J6 (iBit .or .u64 c_0 d_0) (iBit .or .u64 c_1 d_1) c_2 (iBit .or .u64 c_3 d_3) c_4 w) ∧
     (J6 (iBit .or .u64 c_0 d_0) (iBit .or .u64 c_1 d_1) c_2 (iBit .or .u64 c_3 d_3) c_4 w ∧
     J6 (iBit .or .u64 c_0 d_0) (iBit .or .u64 c_1 d_1) c_2 (iBit .or .u64 c_3 d_3) c_4 w) ∧
     (J6 (iBit .or .u64 c_0 d_0) (iBit .or .u64 c_1 d_1) c_2 (iBit .or .u64 c_3 d_3) c_4 w ∧
     J6 (iBit .or .u64 c_0 d_0) (iBit .or .u64 c_1 d_1) c_2 (iBit .or .u64 c_3 d_3) c_4 w) ∧
     J6 (iBit .or .u64 c_0 d_0) (iBit .or .u64 c_1 d_1) c_2 (iBit .or .u64 c_3 d_3) c_4 w) ∧
     ((J6 (iBit .or .u64 c_0 d_0) (iBit .or .u64 c_1 d_1) c_2 (iBit .or .u64 c_3 d_3) c_4 w ∧
     J6 (iBit .or .u64 c_0 d_0) (iBit .or .u64 c_1 d_1) c_2 (iBit .or .u64 c_3 d_3) c_4 w ∧
     J6 (iBit .or .u64 c_0 d_0) (iBit .or .u64 c_1 d_1) c_2 (iBit .or .u64 c_3 d_3) c_4 w) ∧
     (J6 (iBit .or .u64 c_0 d_0) (iBit .or .u64 c_1 d_1) c_2 (iBit .or .u64 c_3 d_3) c_4 w ∧
     J6 (iBit .or .u64 c_0 d_0) (iBit .or .u64 c_1 d_1) c_2 (iBit .or .u64 c_3 d_3) c_4 w) ∧
     J6 (iBit .or .u64 c_0 d_0) (iBit .or .u64 c_1 d_1) c_2 (iBit .or .u64 c_3 d_3) c_4 w ∧
     J6 (iBit .or .u64 c_0 d_0) (iBit .or .u64 c_1 d_1) c_2 (iBit .or .u64 c_3 d_3) c_4 w) ∧
     ((J6 (iBit .or .u64 c_0 d_0) (iBit .or .u64 c_1 d_1) c_2 (iBit .or .u64 c_3 d_3) c_4 w ∧
     J6 (iBit .or .u64 c_0 d_0) (iBit .or .u64 c_1 d_1) c_2 (iBit .or .u64 c_3 d_3) c_4 w ∧
     J6 (iBit .or .u64 c_0 d_0) (iBit .or .u64 c_1 d_1) c_2 (iBit .or .u64 c_3 d_3) c_4 w) ∧
     (J6 (iBit .or .u64 c_0 d_0) (iBit .or .u64 c_1 d_1) c_2 (iBit .or .u64 c_3 d_3) c_4 w ∧
     J6 (iBit .or .u64 c_0 d_0) (iBit .or .u64 c_1 d_1) c_2 (iBit .or .u64 c_3 d_3) c_4 w) ∧
     J6 (iBit .or .u64 c_0 d_0) (iBit .or .u64 c_1 d_1) c_2 (iBit .or .u64 c_3 d_3) c_4 w ∧
     J6 (iBit .or .u64 c_0 d_0) (iBit .or .u64 c_1 d_1) c_2 (iBit .or .u64 c_3 d_3) c_4 w) ∧
     (J6 (iBit .or .u64 c_0 d_0) (iBit .or .u64 c_1 d_1) c_2 (iBit .or .u64 c_3 d_3) c_4 w ∧
     J6 (iBit .or .u64 c_0 d_0) (iBit .or .u64 c_1 d_1) c_2 (iBit .or .u64 c_3 d_3) c_4 w) ∧
     (J6 (iBit .or .u64 c_0 d_0) (iBit .or .u64 c_1 d_1) c_2 (iBit .or .u64 c_3 d_3) c_4 w ∧
     J6 (iBit .or .u64 c_0 d_0) (iBit .or .u64 c_1 d_1) c_2 (iBit .or .u64 c_3 d_3) c_4 w) ∧
     J6 (iBit .or .u64 c_0 d_0) (iBit .or .u64 c_1 d_1) c_2 (iBit .or .u64 c_3 d_3) c_4 w) ∧
     (((J6 (iBit .or .u64 c_0 d_0) (iBit .or .u64 c_1 d_1) c_2 (iBit .or .u64 c_3 d_3) c_4 w ∧
     J6 (iBit .or .u64 c_0 d_0) (iBit .or .u64 c_1 d_1) c_2 (iBit .or .u64 c_3 d_3) c_4 w ∧
     J6 (iBit .or .u64 c_0 d_0) (iBit .or .u64 c_1 d_1) c_2 (iBit .or .u64 c_3 d_3) c_4 w) ∧
     (J6 (iBit .or .u64 c_0 d_0) (iBit .or .u64 c_1 d_1) c_2 (iBit .or .u64 c_3 d_3) c_4 w ∧
     J6 (iBit .or .u64 c_0 d_0) (iBit .or .u64 c_1 d_1) c_2 (iBit .or .u64 c_3 d_3) c_4 w ∧
     J6 (iBit .or .u64 c_0 d_0) (iBit .or .u64 c_1 d_1) c_2 (iBit .or .u64 c_3 d_3) c_4 w) ∧
     (J6 (iBit .or .u64 c_0 d_0) (iBit .or .u64 c_1 d_1) c_2 (iBit .or .u64 c_3 d_3) c_4 w ∧
     J6 (iBit .or .u64 c_0 d_0) (iBit .or .u64 c_1 d_1) c_2 (iBit .or .u64 c_3 d_3) c_4 w) ∧
     (J6 (iBit .or .u64 c_0 d_0) (iBit .or .u64 c_1 d_1) c_2 (iBit .or .u64 c_3 d_3) c_4 w ∧
     J6 (iBit .or .u64 c_0 d_0) (iBit .or .u64 c_1 d_1) c_2 (iBit .or .u64 c_3 d_3) c_4 w) ∧
     J6 (iBit .or .u64 c_0 d_0) (iBit .or .u64 c_1 d_1) c_2 (iBit .or .u64 c_3 d_3) c_4 w) ∧
     ((J6 (iBit .or .u64 c_0 d_0) (iBit .or .u64 c_1 d_1) c_2 (iBit .or .u64 c_3 d_3) c_4 w ∧
     J6 (iBit .or .u64 c_0 d_0) (iBit .or .u64 c_1 d_1) c_2 (iBit .or .u64 c_3 d_3) c_4 w ∧
     J6 (iBit .or .u64 c_0 d_0) (iBit .or .u64 c_1 d_1) c_2 (iBit .or .u64 c_3 d_3) c_4 w) ∧
     (J6 (iBit .or .u64 c_0 d_0) (iBit .or .u64 c_1 d_1) c_2 (iBit .or .u64 c_3 d_3) c_4 w ∧
     J6 (iBit .or .u64 c_0 d_0) (iBit .or .u64 c_1 d_1) c_2 (iBit .or .u64 c_3 d_3) c_4 w) ∧
     J6 (iBit .or .u64 c_0 d_0) (iBit .or .u64 c_1 d_1) c_2 (iBit .or .u64 c_3 d_3) c_4 w ∧
     J6 (iBit .or .u64 c_0 d_0) (iBit .or .u64 c_1 d_1) c_2 (iBit .or .u64 c_3 d_3) c_4 w) ∧
     ((J6 (iBit .or .u64 c_0 d_0) (iBit .or .u64 c_1 d_1) c_2 (iBit .or .u64 c_3 d_3) c_4 w ∧
     J6 (iBit .or .u64 c_0 d_0) (iBit .or .u64 c_1 d_1) c_2 (iBit .or .u64 c_3 d_3) c_4 w ∧
     J6 (iBit .or .u64 c_0 d_0) (iBit .or .u64 c_1 d_1) c_2 (iBit .or .u64 c_3 d_3) c_4 w) ∧
     (J6 (iBit .or .u64 c_0 d_0) (iBit .or .u64 c_1 d_1) c_2 (iBit .or .u64 c_3 d_3) c_4 w ∧
     J6 (iBit .or .u64 c_0 d_0) (iBit .or .u64 c_1 d_1) c_2 (iBit .or .u64 c_3 d_3) c_4 w) ∧
     J6 (iBit .or .u64 c_0 d_0) (iBit .or .u64 c_1 d_1) c_2 (iBit .or .u64 c_3 d_3) c_4 w ∧
     J6 (iBit .or .u64 c_0 d_0) (iBit .or .u64 c_1 d_1) c_2 (iBit .or .u64 c_3 d_3) c_4 w) ∧
     (J6 (iBit .or .u64 c_0 d_0) (iBit .or .u64 c_1 d_1) c_2 (iBit .or .u64 c_3 d_3) c_4 w ∧
     J6 (iBit .or .u64 c_0 d_0) (iBit .or .u64 c_1 d_1) c_2 (iBit .or .u64 c_3 d_3) c_4 w) ∧
     (J6 (iBit .or .u64 c_0 d_0) (iBit .or .u64 c_1 d_1) c_2 (iBit .or .u64 c_3 d_3) c_4 w ∧
     J6 (iBit .or .u64 c_0 d_0) (iBit .or .u64 c_1 d_1) c_2 (iBit .or .u64 c_3 d_3) c_4 w) ∧
     J6 (iBit .or .u64 c_0 d_0) (iBit .or .u64 c_1 d_1) c_2 (iBit .or .u64 c_3 d_3) c_4 w) ∧
     (((J6 (iBit .or .u64 c_0 d_0) (iBit .or .u64 c_1 d_1) c_2 (iBit .or .u64 c_3 d_3) c_4 w ∧
     J6 (iBit .or .u64 c_0 d_0) (iBit .or .u64 c_1 d_1) c_2 (iBit .or .u64 c_3 d_3) c_4 w ∧
     J6 (iBit .or .u64 c_0 d_0) (iBit .or .u64 c_1 d_1) c_2 (iBit .or .u64 c_3 d_3) c_4 w) ∧
     (J6 (iBit .or .u64 c_0 d_0) (iBit .or .u64 c_1 d_1) c_2 (iBit .or .u64 c_3 d_3) c_4 w ∧
     J6 (iBit .or .u64 c_0 d_0) (iBit .or .u64 c_1 d_1) c_2 (iBit .or .u64 c_3 d_3) c_4 w) ∧
     J6 (iBit .or .u64 c_0 d_0) (iBit .or .u64 c_1 d_1) c_2 (iBit .or .u64 c_3 d_3) c_4 w ∧
     J6 (iBit .or .u64 c_0 d_0) (iBit .or .u64 c_1 d_1) c_2 (iBit .or .u64 c_3 d_3) c_4 w) ∧
     ((J6 (iBit .or .u64 c_0 d_0) (iBit .or .u64 c_1 d_1) c_2 (iBit .or .u64 c_3 d_3) c_4 w ∧
     J6 (iBit .or .u64 c_0 d_0) (iBit .or .u64 c_1 d_1) c_2 (iBit .or .u64 c_3 d_3) c_4 w ∧
     J6 (iBit .or .u64 c_0 d_0) (iBit .or .u64 c_1 d_1) c_2 (iBit .or .u64 c_3 d_3) c_4 w) ∧
     (J6 (iBit .or .u64 c_0 d_0) (iBit .or .u64 c_1 d_1) c_2 (iBit .or .u64 c_3 d_3) c_4 w ∧
     J6 (iBit .or .u64 c_0 d_0) (iBit .or .u64 c_1 d_1) c_2 (iBit .or .u64 c_3 d_3) c_4 w) ∧
     J6 (iBit .or .u64 c_0 d_0) (iBit .or .u64 c_1 d_1) c_2 (iBit .or .u64 c_3 d_3) c_4 w ∧
     J6 (iBit .or .u64 c_0 d_0) (iBit .or .u64 c_1 d_1) c_2 (iBit .or .u64 c_3 d_3) c_4 w) ∧
     ((J6 (iBit .or .u64 c_0 d_0) (iBit .or .u64 c_1 d_1) c_2 (iBit .or .u64 c_3 d_3) c_4 w ∧
     J6 (iBit .or .u64 c_0 d_0) (iBit .or .u64 c_1 d_1) c_2 (iBit .or .u64 c_3 d_3) c_4 w) ∧
     (J6 (iBit .or .u64 c_0 d_0) (iBit .or .u64 c_1 d_1) c_2 (iBit .or .u64 c_3 d_3) c_4 w ∧
     J6 (iBit .or .u64 c_0 d_0) (iBit .or .u64 c_1 d_1) c_2 (iBit .or .u64 c_3 d_3) c_4 w) ∧
     J6 (iBit .or .u64 c_0 d_0) (iBit .or .u64 c_1 d_1) c_2 (iBit .or .u64 c_3 d_3) c_4 w) ∧
     J6 (iBit .or .u64 c_0 d_0) (iBit .or .u64 c_1 d_1) c_2 (iBit .or .u64 c_3 d_3) c_4 w ∧
     J6 (iBit .or .u64 c_0 d_0) (iBit .or .u64 c_1 d_1) c_2 (iBit .or .u64 c_3 d_3) c_4 w) ∧
     (((J6 (iBit .or .u64 c_0 d_0) (iBit .or .u64 c_1 d_1) c_2 (iBit .or .u64 c_3 d_3) c_4 w ∧
     J6 (iBit .or .u64 c_0 d_0) (iBit .or .u64 c_1 d_1) c_2 (iBit .or .u64 c_3 d_3) c_4 w ∧
     J6 (iBit .or .u64 c_0 d_0) (iBit .or .u64 c_1 d_1) c_2 (iBit .or .u64 c_3 d_3) c_4 w) ∧
     (J6 (iBit .or .u64 c_0 d_0) (iBit .or .u64 c_1 d_1) c_2 (iBit .or .u64 c_3 d_3) c_4 w ∧
     J6 (iBit .or .u64 c_0 d_0) (iBit .or .u64 c_1 d_1) c_2 (iBit .or .u64 c_3 d_3) c_4 w) ∧
     J6 (iBit .or .u64 c_0 d_0) (iBit .or .u64 c_1 d_1) c_2 (iBit .or .u64 c_3 d_3) c_4 w ∧
     J6 (iBit .or .u64 c_0 d_0) (iBit .or .u64 c_1 d_1) c_2 (iBit .or .u64 c_3 d_3) c_4 w) ∧
     ((J6 (iBit .or .u64 c_0 d_0) (iBit .or .u64 c_1 d_1) c_2 (iBit .or .u64 c_3 d_3) c_4 w ∧
     J6 (iBit .or .u64 c_0 d_0) (iBit .or .u64 c_1 d_1) c_2 (iBit .or .u64 c_3 d_3) c_4 w ∧
     J6 (iBit .or .u64 c_0 d_0) (iBit .or .u64 c_1 d_1) c_2 (iBit .or .u64 c_3 d_3) c_4 w) ∧
     (J6 (iBit .or .u64 c_0 d_0) (iBit .or .u64 c_1 d_1) c_2 (iBit .or .u64 c_3 d_3) c_4 w ∧
     J6 (iBit .or .u64 c_0 d_0) (iBit .or .u64 c_1 d_1) c_2 (iBit .or .u64 c_3 d_3) c_4 w) ∧
     J6 (iBit .or .u64 c_0 d_0) (iBit .or .u64 c_1 d_1) c_2 (iBit .or .u64 c_3 d_3) c_4 w ∧
     J6 (iBit .or .u64 c_0 d_0) (iBit .or .u64 c_1 d_1) c_2 (iBit .or .u64 c_3 d_3) c_4 w) ∧
     ((J6 (iBit .or .u64 c_0 d_0) (iBit .or .u64 c_1 d_1) c_2 (iBit .or .u64 c_3 d_3) c_4 w ∧
     J6 (iBit .or .u64 c_0 d_0) (iBit .or .u64 c_1 d_1) c_2 (iBit .or .u64 c_3 d_3) c_4 w) ∧
     (J6 (iBit .or .u64 c_0 d_0) (iBit .or .u64 c_1 d_1) c_2 (iBit .or .u64 c_3 d_3) c_4 w ∧
     J6 (iBit .or .u64 c_0 d_0) (iBit .or .u64 c_1 d_1) c_2 (iBit .or .u64 c_3 d_3) c_4 w) ∧
     J6 (iBit .or .u64 c_0 d_0) (iBit .or .u64 c_1 d_1) c_2 (iBit .or .u64 c_3 d_3) c_4 w) ∧
     J6 (iBit .or .u64 c_0 d_0) (iBit .or .u64 c_1 d_1) c_2 (iBit .or .u64 c_3 d_3) c_4 w ∧
     J6 (iBit .or .u64 c_0 d_0) (iBit .or .u64 c_1 d_1) c_2 (iBit .or .u64 c_3 d_3) c_4 w) ∧
     (J6 (iBit .or .u64 c_0 d_0) (iBit .or .u64 c_1 d_1) c_2 (iBit .or .u64 c_3 d_3) c_4 w ∧
     J6 (iBit .or .u64 c_0 d_0) (iBit .or .u64 c_1 d_1) c_2 (iBit .or .u64 c_3 d_3) c_4 w) ∧
     (J6 (iBit .or .u64 c_0 d_0) (iBit .or .u64 c_1 d_1) c_2 (iBit .or .u64 c_3 d_3) c_4 w ∧
     J6 (iBit .or .u64 c_0 d_0) (iBit .or .u64 c_1 d_1) c_2 (iBit .or .u64 c_3 d_3) c_4 w) ∧
     J6 (iBit .or .u64 c_0 d_0) (iBit .or .u64 c_1 d_1) c_2 (iBit .or .u64 c_3 d_3) c_4 w) ∧
    ∀ (c7 : Int) (c8 : Int) (c9 : Int) (c10 : Int) (c11 : Int) (w12 : World), J6 c7 c8 c9 c10 c11 w12 →
     ∀ w13, ExtB [b5] [] w12 w13 →
     FnP Tryd.prog F_cron_Next #[(.agg #[(.int .u64 c_0), (.int .u64 c_1), (.int .u64 c_2), (.int .u64 c_3), (.int .u64 c_4)]), (.int .i64 t)] w13 fun v14 w14 =>
      Ext w13 w14 ∧
      ∃ t15 : Int, ∃ t16 : Int, v14 = (.tuple #[(.int .i64 t15), (.int .i64 t16)]) ∧
      ∀ w17, ExtB [b5] [] w12 w17 →
      FnP Tryd.prog F_cron_Next #[(.agg #[(.int .u64 c7), (.int .u64 c8), (.int .u64 c9), (.int .u64 c10), (.int .u64 c11)]), (.int .i64 t)] w17 fun v18 w18 =>
       Ext w17 w18 ∧
       ∃ t19 : Int, ∃ t20 : Int, v18 = (.tuple #[(.int .i64 t19), (.int .i64 t20)]) ∧
       ((t16 ≠ 0) →
        ∀ w21, ExtB [b5] [] w12 w21 →
        Q (.bool ((decide (t16 = 0)) || (decide (t15 = 0)))) w21) ∧
       ((t16 = 0) →
        ∀ w21, ExtB [b5] [] w12 w21 →
        FnP Tryd.prog F_cron_Check #[(.agg #[(.int .u64 c7), (.int .u64 c8), (.int .u64 c9), (.int .u64 c10), (.int .u64 c11)])] w21 fun v22 w22 =>
         Ext w21 w22 ∧
         ∃ t23 : Int, v22 = (.int .i64 t23) ∧
         ((t23 ≠ 0) →
          ∀ w24, ExtB [b5] [] w12 w24 →
          Q (.bool ((decide (t16 = 0)) || (decide (t15 = 0)))) w24) ∧
         ((t23 = 0) →
          ∀ w24, ExtB [b5] [] w12 w24 →
          Q (.bool (((decide (t20 = 0)) && (decide (t19 ≤ t15))) && (decide (t < t19)))) w24)))

theorem ok_shiftbellkeep_CronWider (c_0 : Int) (c_1 : Int) (c_2 : Int) (c_3 : Int) (c_4 : Int) (d_0 : Int) (d_1 : Int) (d_2 : Int) (d_3 : Int) (d_4 : Int) (t : Int) (w : World) (Q : Value → World → Prop) (h : wp_shiftbellkeep_CronWider c_0 c_1 c_2 c_3 c_4 d_0 d_1 d_2 d_3 d_4 t w Q) : FnP Tryd.prog F_shiftbellkeep_CronWider #[(.agg #[(.int .u64 c_0), (.int .u64 c_1), (.int .u64 c_2), (.int .u64 c_3), (.int .u64 c_4)]), (.agg #[(.int .u64 d_0), (.int .u64 d_1), (.int .u64 d_2), (.int .u64 d_3), (.int .u64 d_4)]), (.int .i64 t)] w Q := by
  have e_ : wp_shiftbellkeep_CronWider c_0 c_1 c_2 c_3 c_4 d_0 d_1 d_2 d_3 d_4 t w Q = Runs Tryd.prog Q ({ N := 70, wrap := [], pub := [], muts := [], joins := [] } : Cfg) Tryd.f3 (Tryd.f3.body.getD .skip) [.agg [.int .u64 c_0, .int .u64 c_1, .int .u64 c_2, .int .u64 c_3, .int .u64 c_4], .agg [.int .u64 d_0, .int .u64 d_1, .int .u64 d_2, .int .u64 d_3, .int .u64 d_4], .sc (.int .i64 t)] w := by kernel_rfl
  rw [e_] at h
  exact runs_fn h Tryd.func3 (by kernel_rfl) (fun args w => Tryd.call3 args w) (by kernel_rfl) (by kernel_rfl) rfl rfl

theorem open_shiftbellkeep_CronWider (W : World) (R : Array Value → Prop) (h : ∀ c_0 : Int, InR .u64 c_0 → ∀ c_1 : Int, InR .u64 c_1 → ∀ c_2 : Int, InR .u64 c_2 → ∀ c_3 : Int, InR .u64 c_3 → ∀ c_4 : Int, InR .u64 c_4 → ∀ d_0 : Int, InR .u64 d_0 → ∀ d_1 : Int, InR .u64 d_1 → ∀ d_2 : Int, InR .u64 d_2 → ∀ d_3 : Int, InR .u64 d_3 → ∀ d_4 : Int, InR .u64 d_4 → ∀ t : Int, InR .i64 t → R #[(.agg #[(.int .u64 c_0), (.int .u64 c_1), (.int .u64 c_2), (.int .u64 c_3), (.int .u64 c_4)]), (.agg #[(.int .u64 d_0), (.int .u64 d_1), (.int .u64 d_2), (.int .u64 d_3), (.int .u64 d_4)]), (.int .i64 t)]) (args : Array Value) (hg : GoodAll Tryd.prog W Tryd.f3.params.toList args.toList) : R args := by
  have e_ : (ArgsAll Tryd.prog W Tryd.f3.params.toList fun l => R l.toArray) = (∀ c_0 : Int, InR .u64 c_0 → ∀ c_1 : Int, InR .u64 c_1 → ∀ c_2 : Int, InR .u64 c_2 → ∀ c_3 : Int, InR .u64 c_3 → ∀ c_4 : Int, InR .u64 c_4 → ∀ d_0 : Int, InR .u64 d_0 → ∀ d_1 : Int, InR .u64 d_1 → ∀ d_2 : Int, InR .u64 d_2 → ∀ d_3 : Int, InR .u64 d_3 → ∀ d_4 : Int, InR .u64 d_4 → ∀ t : Int, InR .i64 t → R #[(.agg #[(.int .u64 c_0), (.int .u64 c_1), (.int .u64 c_2), (.int .u64 c_3), (.int .u64 c_4)]), (.agg #[(.int .u64 d_0), (.int .u64 d_1), (.int .u64 d_2), (.int .u64 d_3), (.int .u64 d_4)]), (.int .i64 t)]) := by kernel_rfl
  exact args_open (by rw [e_]; exact h) args hg
-- wit 3 #[(.agg #[(.int .u64 0), (.int .u64 0), (.int .u64 0), (.int .u64 0), (.int .u64 0)]), (.agg #[(.int .u64 0), (.int .u64 0), (.int .u64 0), (.int .u64 0), (.int .u64 0)]), (.int .i64 0)]

end Go.Proofs.YthhpepdchbdaoaaDoor
