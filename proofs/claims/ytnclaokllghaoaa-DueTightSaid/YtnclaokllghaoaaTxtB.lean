/- The texts of this seat's functions: what each computes, as its symbolic run says it. -/
import Derived.Test.YtnclaokllghaoaaRows
import Derived.Test.YtnclaokllghaoaaSxD
import Derived.Test.YtnclaokllghaoaaSxN
import Derived.Test.YtnclaokllghaoaaTxt
set_option linter.unusedVariables false
set_option linter.unusedSimpArgs false
set_option maxRecDepth 100000
namespace Go.Proofs.Ytnclaokllghaoaa
open Go.Sx Go.RowKit

abbrev F_shiftbellkeep_DueLess : FuncId := 5
abbrev F_slices_Clone_api_Task_api_Task : FuncId := 11
abbrev F_slices_Delete_api_Task_api_Task : FuncId := 12

/-- slices.Clone[[]shiftbell/api.Task,shiftbell/api.Task] -/
def wp_slices_Clone_api_Task_api_Task (s : Option Addr) (sl : Nat) (sc : Nat) (w : World) (Q : Value → World → Prop) : Prop :=
  ((s = none) →
   ∀ w0, Ext w w0 →
   Q (.slice none 0 0) w0) ∧
  ((s ≠ none) →
   ∀ w0, Ext w w0 →
   Run Try.prog (.buildSlice 22 0 []) w0 fun v1 w1 =>
    Ext w0 w1 ∧
    ∃ t2 : Option Addr, ∃ tl3 : Nat, ∃ tc4 : Nat, v1 = (.slice t2 tl3 tc4) ∧
    ∀ w5, Ext w1 w5 →
    Run Try.prog (.append #[22, 22] 22 [(.slice t2 tl3 tc4), (.slice s sl sc)]) w5 fun v6 w6 =>
     ∃ t7 : Option Addr, ∃ tl8 : Nat, ∃ tc9 : Nat, v6 = (.slice t7 tl8 tc9) ∧
     ∀ w10, Ext w6 w10 →
     Q (.slice t7 tl8 tc9) w10)

theorem ok_slices_Clone_api_Task_api_Task (s : Option Addr) (sl : Nat) (sc : Nat) (w : World) (Q : Value → World → Prop) (h : wp_slices_Clone_api_Task_api_Task s sl sc w Q) : FnP Try.prog F_slices_Clone_api_Task_api_Task #[(.slice s sl sc)] w Q := by
  have e_ : wp_slices_Clone_api_Task_api_Task s sl sc w Q = Runs Try.prog Q ({ N := 8, wrap := [], pub := [], muts := [] } : Cfg) Try.f11 (Try.f11.body.getD .skip) [.sc (.slc s sl sc)] w := by kernel_rfl
  rw [e_] at h
  exact runs_fn h Try.func11 (by kernel_rfl) (fun args w => Try.call11 args w) (by kernel_rfl) (by kernel_rfl) rfl rfl

/-- slices.Delete[[]shiftbell/api.Task,shiftbell/api.Task] -/
def wp_slices_Delete_api_Task_api_Task (s : Option Addr) (sl : Nat) (sc : Nat) (i : Int) (j : Int) (w : World) (Q : Value → World → Prop) : Prop :=
  (0 : Int) ≤ i ∧
  (i : Int) ≤ j ∧
  (j : Int) ≤ (sl : Int) ∧
  ((sl : Int) : Int) ≤ (sc : Int) ∧
  ((i = j) →
   ∀ w0, Ext w w0 →
   Q (.slice s sl sc) w0) ∧
  ((i ≠ j) →
   (0 : Int) ≤ 0 ∧
   (0 : Int) ≤ i ∧
   (i : Int) ≤ (sc : Int) ∧
   (0 : Int) ≤ j ∧
   (j : Int) ≤ (sl : Int) ∧
   ((sl : Int) : Int) ≤ (sc : Int) ∧
   ∀ w0, Ext w w0 →
   Run Try.prog (.append #[22, 22] 22 [(.slice (pCut s sc 0 3) (i - 0).toNat (sc - (0 : Int).toNat)), (.slice (pCut s sc j 3) ((sl : Int) - j).toNat (sc - j.toNat))]) w0 fun v1 w1 =>
    ∃ t2 : Option Addr, ∃ tl3 : Nat, ∃ tc4 : Nat, v1 = (.slice t2 tl3 tc4) ∧
    (0 : Int) ≤ (tl3 : Int) ∧
    ((tl3 : Int) : Int) ≤ (sl : Int) ∧
    ((sl : Int) : Int) ≤ (tc4 : Int) ∧
    ∀ w5, Ext w1 w5 →
    Run Try.prog (.clear #[22] 0 [(.slice (pCut t2 tc4 (tl3 : Int) 3) ((sl : Int) - (tl3 : Int)).toNat (tc4 - (tl3 : Int).toNat))]) w5 fun v6 w6 =>
     v6 = (.tuple #[]) ∧
     ∀ w7, Ext w6 w7 →
     Q (.slice t2 tl3 tc4) w7)

theorem ok_slices_Delete_api_Task_api_Task (s : Option Addr) (sl : Nat) (sc : Nat) (i : Int) (j : Int) (w : World) (Q : Value → World → Prop) (h : wp_slices_Delete_api_Task_api_Task s sl sc i j w Q) : FnP Try.prog F_slices_Delete_api_Task_api_Task #[(.slice s sl sc), (.int .i64 i), (.int .i64 j)] w Q := by
  have e_ : wp_slices_Delete_api_Task_api_Task s sl sc i j w Q = Runs Try.prog Q ({ N := 33, wrap := [], pub := [], muts := [] } : Cfg) Try.f12 (Try.f12.body.getD .skip) [.sc (.slc s sl sc), .sc (.int .i64 i), .sc (.int .i64 j)] w := by kernel_rfl
  rw [e_] at h
  exact runs_fn h Try.func12 (by kernel_rfl) (fun args w => Try.call12 args w) (by kernel_rfl) (by kernel_rfl) rfl rfl

/-- shiftbell/shiftbellkeep.DueLess -/
def wp_shiftbellkeep_DueLess (l : Option Addr) (ll : Nat) (lc : Nat) (at_v : Int) (x_0 : Int) (x_1 : Int) (x_2 : Int) (w : World) (Q : Value → World → Prop) : Prop :=
  ∀ b0 : Nat, w.heap.size ≤ b0 → ∀ w1, Ext w w1 →
  FnP Try.prog F_shiftbellkeep_dues #[] w1 fun v2 w2 =>
   Ext w1 w2 ∧
   ∃ t3 : Bool, v2 = (.bool t3) ∧
   ((t3 = false) →
    ∀ w4, Ext w w4 →
    Q (.bool false) w4) ∧
   ((t3 = true) →
    ∀ w4, Ext w w4 →
    FnP Try.prog F_due_Fits #[(.slice l ll lc)] w4 fun v5 w5 =>
     Ext w4 w5 ∧
     ∃ t6 : Bool, ∃ t7 : Int, v5 = (.tuple #[(.bool t6), (.int .i64 t7)]) ∧
     (((((t7 ≠ 0) ∨ (t6 = false)) ∨ (at_v < 0)) ∨ ((ll : Int) ≤ at_v)) →
      ∀ w8, Ext w w8 →
      Q (.bool ((decide (t7 = 0)) || (!t6))) w8) ∧
     (((((t7 = 0) ∧ (t6 = true)) ∧ (0 ≤ at_v)) ∧ (at_v < (ll : Int))) →
      l ≠ none ∧
      (0 : Int) ≤ at_v ∧
      (at_v : Int) < (ll : Int) ∧
      (pIdx l at_v 3) ≠ none ∧
      ∃ t8 : Int, cell w (pIdx l at_v 3) 0 = some (.int .i64 t8) ∧
      ∃ t9 : Int, cell w (pIdx l at_v 3) 1 = some (.int .i64 t9) ∧
      ∃ t10 : Int, cell w (pIdx l at_v 3) 2 = some (.int .i64 t10) ∧
      ∀ b11 : Nat, w.heap.size ≤ b11 → ((((t8 < x_0) ∨ (x_1 < t9)) ∨ (t10 < x_2)) →
       ∀ w12, Ext w w12 →
       Q (.bool true) w12) ∧
      ((((x_0 ≤ t8) ∧ (t9 ≤ x_1)) ∧ (x_2 ≤ t10)) →
       ∀ w12, ExtB [] [b0, b11] w w12 →
       FnP Try.prog F_slices_Clone_api_Task_api_Task #[(.slice l ll lc)] w12 fun v13 w13 =>
        Ext w12 w13 ∧
        ∃ t14 : Option Addr, ∃ tl15 : Nat, ∃ tc16 : Nat, v13 = (.slice t14 tl15 tc16) ∧
        t14 ≠ none ∧
        (0 : Int) ≤ at_v ∧
        (at_v : Int) < (tl15 : Int) ∧
        Store w13 (pIdx t14 at_v 3) [(.int .i64 x_0), (.int .i64 x_1), (.int .i64 x_2)] [b0, b11] fun w17 =>
         ∀ w18, Ext w17 w18 →
         FnP Try.prog F_due_Fits #[(.slice t14 tl15 tc16)] w18 fun v19 w19 =>
          Ext w18 w19 ∧
          ∃ t20 : Bool, ∃ t21 : Int, v19 = (.tuple #[(.bool t20), (.int .i64 t21)]) ∧
          ∀ w22, ExtB [] [b0, b11] w17 w22 →
          FnP Try.prog F_slices_Clone_api_Task_api_Task #[(.slice l ll lc)] w22 fun v23 w23 =>
           Ext w22 w23 ∧
           ∃ t24 : Option Addr, ∃ tl25 : Nat, ∃ tc26 : Nat, v23 = (.slice t24 tl25 tc26) ∧
           InR .i64 (at_v + 1) ∧
           ∀ w27, ExtB [] [b0, b11] w23 w27 →
           FnP Try.prog F_slices_Delete_api_Task_api_Task #[(.slice t24 tl25 tc26), (.int .i64 at_v), (.int .i64 (at_v + 1))] w27 fun v28 w28 =>
            Kept [b0, b11] w27 w28 ∧
            ∃ t29 : Option Addr, ∃ tl30 : Nat, ∃ tc31 : Nat, v28 = (.slice t29 tl30 tc31) ∧
            ∀ w32, Ext w28 w32 →
            FnP Try.prog F_due_Fits #[(.slice t29 tl30 tc31)] w32 fun v33 w33 =>
             Ext w32 w33 ∧
             ∃ t34 : Bool, ∃ t35 : Int, v33 = (.tuple #[(.bool t34), (.int .i64 t35)]) ∧
             ∀ w36, Ext w28 w36 →
             Q (.bool ((((decide (t21 ≠ 0)) || t20) && (decide (t35 = 0))) && t34)) w36)))

theorem ok_shiftbellkeep_DueLess (l : Option Addr) (ll : Nat) (lc : Nat) (at_v : Int) (x_0 : Int) (x_1 : Int) (x_2 : Int) (w : World) (Q : Value → World → Prop) (h : wp_shiftbellkeep_DueLess l ll lc at_v x_0 x_1 x_2 w Q) : FnP Try.prog F_shiftbellkeep_DueLess #[(.slice l ll lc), (.int .i64 at_v), (.agg #[(.int .i64 x_0), (.int .i64 x_1), (.int .i64 x_2)])] w Q := by
  have e_ : wp_shiftbellkeep_DueLess l ll lc at_v x_0 x_1 x_2 w Q = Runs Try.prog Q ({ N := 100, wrap := [], pub := [], muts := [12] } : Cfg) Try.f5 (Try.f5.body.getD .skip) [.sc (.slc l ll lc), .sc (.int .i64 at_v), .agg [.int .i64 x_0, .int .i64 x_1, .int .i64 x_2]] w := by kernel_rfl
  rw [e_] at h
  exact runs_fn h Try.func5 (by kernel_rfl) (fun args w => Try.call5 args w) (by kernel_rfl) (by kernel_rfl) rfl rfl

theorem open_shiftbellkeep_DueLess (W : World) (R : Array Value → Prop) (h : ∀ l : Option Addr, ∀ ll : Nat, ∀ lc : Nat, SlcArg Try.prog W 29 l ll lc → ∀ at_v : Int, InR .i64 at_v → ∀ x_0 : Int, InR .i64 x_0 → ∀ x_1 : Int, InR .i64 x_1 → ∀ x_2 : Int, InR .i64 x_2 → R #[(.slice l ll lc), (.int .i64 at_v), (.agg #[(.int .i64 x_0), (.int .i64 x_1), (.int .i64 x_2)])]) (args : Array Value) (hg : GoodAll Try.prog W Try.f5.params.toList args.toList) : R args := by
  have e_ : (ArgsAll Try.prog W Try.f5.params.toList fun l => R l.toArray) = (∀ l : Option Addr, ∀ ll : Nat, ∀ lc : Nat, SlcArg Try.prog W 29 l ll lc → ∀ at_v : Int, InR .i64 at_v → ∀ x_0 : Int, InR .i64 x_0 → ∀ x_1 : Int, InR .i64 x_1 → ∀ x_2 : Int, InR .i64 x_2 → R #[(.slice l ll lc), (.int .i64 at_v), (.agg #[(.int .i64 x_0), (.int .i64 x_1), (.int .i64 x_2)])]) := by kernel_rfl
  exact args_open (by rw [e_]; exact h) args hg
-- wit 5 #[(.slice none 0 0), (.int .i64 0), (.agg #[(.int .i64 0), (.int .i64 0), (.int .i64 0)])]

end Go.Proofs.Ytnclaokllghaoaa
