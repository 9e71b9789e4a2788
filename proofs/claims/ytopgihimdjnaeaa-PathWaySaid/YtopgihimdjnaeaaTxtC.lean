/- The texts of this seat's functions: what each computes, as its symbolic run says it. -/
import Derived.Test.YtopgihimdjnaeaaRows
import Derived.Test.YtopgihimdjnaeaaSxD
import Derived.Test.YtopgihimdjnaeaaSxN
import Derived.Test.YtopgihimdjnaeaaTxt
import Derived.Test.YtopgihimdjnaeaaTxtB
set_option linter.unusedVariables false
set_option linter.unusedSimpArgs false
set_option maxRecDepth 100000
namespace Go.Proofs.Ytopgihimdjnaeaa
open Go.Sx Go.RowKit

abbrev F_shiftbellkeep_PathSlack : FuncId := 7

/-- shiftbell/shiftbellkeep.PathSlack -/
def wp_shiftbellkeep_PathSlack (n : Int) (l : Option Addr) (ll : Nat) (lc : Nat) (d : Option Addr) (dl : Nat) (dc : Nat) (i : Int) (more : Int) (w : World) (Q : Value → World → Prop) : Prop :=
  ∀ w0, Ext w w0 →
  FnP Try.prog F_shiftbellkeep_paths #[] w0 fun v1 w1 =>
   Ext w0 w1 ∧
   ∃ t2 : Bool, v1 = (.bool t2) ∧
   ((t2 = false) →
    ∀ w3, Ext w w3 →
    Q (.bool false) w3) ∧
   ((t2 = true) →
    ∀ w3, Ext w w3 →
    FnP Try.prog F_path_Times #[(.int .i64 n), (.slice l ll lc), (.slice d dl dc)] w3 fun v4 w4 =>
     Ext w3 w4 ∧
     ∃ t_05 : Option Addr, ∃ t_0l6 : Nat, ∃ t_0c7 : Nat, ∃ t_18 : Option Addr, ∃ t_1l9 : Nat, ∃ t_1c10 : Nat, ∃ t_211 : Int, ∃ t12 : Int, v4 = (.tuple #[(.agg #[(.slice t_05 t_0l6 t_0c7), (.slice t_18 t_1l9 t_1c10), (.int .i64 t_211)]), (.int .i64 t12)]) ∧
     ∀ b13 : Nat, w4.heap.size ≤ b13 → ((((((t12 ≠ 0) ∨ (i < 0)) ∨ (n ≤ i)) ∨ (more < 0)) ∨ (1000000 < more)) →
      ∀ w14, Ext w4 w14 →
      Q (.bool ((decide (t12 = 0)) || (decide (t_211 = 0)))) w14) ∧
     ((((((t12 = 0) ∧ (0 ≤ i)) ∧ (i < n)) ∧ (0 ≤ more)) ∧ (more ≤ 1000000)) →
      t_18 ≠ none ∧
      (0 : Int) ≤ i ∧
      (i : Int) < (t_1l9 : Int) ∧
      ∃ t14 : Int, cell w4 (pIdx t_18 i 1) 0 = some (.int .i64 t14) ∧
      t_05 ≠ none ∧
      (0 : Int) ≤ i ∧
      (i : Int) < (t_0l6 : Int) ∧
      ∃ t15 : Int, cell w4 (pIdx t_05 i 1) 0 = some (.int .i64 t15) ∧
      InR .i64 (t14 - t15) ∧
      ((0 ≤ (t14 - t15)) →
       d ≠ none) ∧
      ((0 ≤ (t14 - t15)) →
       (0 : Int) ≤ i) ∧
      ((0 ≤ (t14 - t15)) →
       (i : Int) < (dl : Int)) ∧
      (((t14 - t15) < 0) →
       ∀ w16, Ext w4 w16 →
       Q (.bool (decide (0 ≤ (t14 - t15)))) w16) ∧
      ((0 ≤ (t14 - t15)) →
       ∃ t16 : Int, cell w4 (pIdx d i 1) 0 = some (.int .i64 t16) ∧
       InR .i64 (t16 + (t14 - t15)) ∧
       InR .i64 ((t16 + (t14 - t15)) + more) ∧
       ((1000000000 < ((t16 + (t14 - t15)) + more)) →
        ∀ w17, Ext w4 w17 →
        Q (.bool (decide (0 ≤ (t14 - t15)))) w17) ∧
       ((((t16 + (t14 - t15)) + more) ≤ 1000000000) →
        ∀ w17, ExtB [] [b13] w4 w17 →
        FnP Try.prog F_slices_Clone_int64_int64 #[(.slice d dl dc)] w17 fun v18 w18 =>
         Ext w17 w18 ∧
         ∃ t19 : Option Addr, ∃ tl20 : Nat, ∃ tc21 : Nat, v18 = (.slice t19 tl20 tc21) ∧
         t19 ≠ none ∧
         (0 : Int) ≤ i ∧
         (i : Int) < (tl20 : Int) ∧
         ∃ t22 : Int, cell w18 (pIdx t19 i 1) 0 = some (.int .i64 t22) ∧
         InR .i64 (t22 + (t14 - t15)) ∧
         t19 ≠ none ∧
         (0 : Int) ≤ i ∧
         (i : Int) < (tl20 : Int) ∧
         Store w18 (pIdx t19 i 1) [(.int .i64 (t22 + (t14 - t15)))] [b13] fun w23 =>
          ∀ w24, ExtB [] [b13] w23 w24 →
          FnP Try.prog F_path_Times #[(.int .i64 n), (.slice l ll lc), (.slice t19 tl20 tc21)] w24 fun v25 w25 =>
           Ext w24 w25 ∧
           ∃ t_026 : Option Addr, ∃ t_0l27 : Nat, ∃ t_0c28 : Nat, ∃ t_129 : Option Addr, ∃ t_1l30 : Nat, ∃ t_1c31 : Nat, ∃ t_232 : Int, ∃ t33 : Int, v25 = (.tuple #[(.agg #[(.slice t_026 t_0l27 t_0c28), (.slice t_129 t_1l30 t_1c31), (.int .i64 t_232)]), (.int .i64 t33)]) ∧
           ∀ b34 : Nat, w25.heap.size ≤ b34 → t19 ≠ none ∧
           (0 : Int) ≤ i ∧
           (i : Int) < (tl20 : Int) ∧
           ∃ t35 : Int, cell w25 (pIdx t19 i 1) 0 = some (.int .i64 t35) ∧
           InR .i64 (t35 + more) ∧
           t19 ≠ none ∧
           (0 : Int) ≤ i ∧
           (i : Int) < (tl20 : Int) ∧
           Store w25 (pIdx t19 i 1) [(.int .i64 (t35 + more))] [b13, b34] fun w36 =>
            ∀ w37, ExtB [] [b13, b34] w36 w37 →
            FnP Try.prog F_path_Times #[(.int .i64 n), (.slice l ll lc), (.slice t19 tl20 tc21)] w37 fun v38 w38 =>
             Ext w37 w38 ∧
             ∃ t_039 : Option Addr, ∃ t_0l40 : Nat, ∃ t_0c41 : Nat, ∃ t_142 : Option Addr, ∃ t_1l43 : Nat, ∃ t_1c44 : Nat, ∃ t_245 : Int, ∃ t46 : Int, v38 = (.tuple #[(.agg #[(.slice t_039 t_0l40 t_0c41), (.slice t_142 t_1l43 t_1c44), (.int .i64 t_245)]), (.int .i64 t46)]) ∧
             ∀ b47 : Nat, w38.heap.size ≤ b47 → ∀ w48, ExtB [] [b13, b34, b47] w38 w48 →
             Run Try.prog (.buildSlice 52 2 [(0, (.int .i64 t33)), (1, (.int .i64 t46))]) w48 fun v49 w49 =>
              Ext w48 w49 ∧
              ∃ t50 : Option Addr, ∃ tl51 : Nat, ∃ tc52 : Nat, v49 = (.slice t50 tl51 tc52) ∧
              ∀ w53, Ext w49 w53 →
              FnP Try.prog F_shiftbellkeep_good #[(.slice t50 tl51 tc52)] w53 fun v54 w54 =>
               Ext w53 w54 ∧
               ∃ t55 : Bool, v54 = (.bool t55) ∧
               (((t55 = true) ∧ (t_232 = t_211)) →
                InR .i64 (t_211 + more)) ∧
               ∀ w56, Ext w49 w56 →
               Q (.bool ((t55 && (decide (t_232 = t_211))) && (decide (t_245 = (t_211 + more))))) w56))))

theorem ok_shiftbellkeep_PathSlack (n : Int) (l : Option Addr) (ll : Nat) (lc : Nat) (d : Option Addr) (dl : Nat) (dc : Nat) (i : Int) (more : Int) (w : World) (Q : Value → World → Prop) (h : wp_shiftbellkeep_PathSlack n l ll lc d dl dc i more w Q) : FnP Try.prog F_shiftbellkeep_PathSlack #[(.int .i64 n), (.slice l ll lc), (.slice d dl dc), (.int .i64 i), (.int .i64 more)] w Q := by
  have e_ : wp_shiftbellkeep_PathSlack n l ll lc d dl dc i more w Q = Runs Try.prog Q ({ N := 130, wrap := [], pub := [], muts := [] } : Cfg) Try.f7 (Try.f7.body.getD .skip) [.sc (.int .i64 n), .sc (.slc l ll lc), .sc (.slc d dl dc), .sc (.int .i64 i), .sc (.int .i64 more)] w := by kernel_rfl
  rw [e_] at h
  exact runs_fn h Try.func7 (by kernel_rfl) (fun args w => Try.call7 args w) (by kernel_rfl) (by kernel_rfl) rfl rfl

theorem open_shiftbellkeep_PathSlack (W : World) (R : Array Value → Prop) (h : ∀ n : Int, InR .i64 n → ∀ l : Option Addr, ∀ ll : Nat, ∀ lc : Nat, SlcArg Try.prog W 29 l ll lc → ∀ d : Option Addr, ∀ dl : Nat, ∀ dc : Nat, SlcArg Try.prog W 2 d dl dc → ∀ i : Int, InR .i64 i → ∀ more : Int, InR .i64 more → R #[(.int .i64 n), (.slice l ll lc), (.slice d dl dc), (.int .i64 i), (.int .i64 more)]) (args : Array Value) (hg : GoodAll Try.prog W Try.f7.params.toList args.toList) : R args := by
  have e_ : (ArgsAll Try.prog W Try.f7.params.toList fun l => R l.toArray) = (∀ n : Int, InR .i64 n → ∀ l : Option Addr, ∀ ll : Nat, ∀ lc : Nat, SlcArg Try.prog W 29 l ll lc → ∀ d : Option Addr, ∀ dl : Nat, ∀ dc : Nat, SlcArg Try.prog W 2 d dl dc → ∀ i : Int, InR .i64 i → ∀ more : Int, InR .i64 more → R #[(.int .i64 n), (.slice l ll lc), (.slice d dl dc), (.int .i64 i), (.int .i64 more)]) := by kernel_rfl
  exact args_open (by rw [e_]; exact h) args hg
-- wit 7 #[(.int .i64 0), (.slice none 0 0), (.slice none 0 0), (.int .i64 0), (.int .i64 0)]

end Go.Proofs.Ytopgihimdjnaeaa
