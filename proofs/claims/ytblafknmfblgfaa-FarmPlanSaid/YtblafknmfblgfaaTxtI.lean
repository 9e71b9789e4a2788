/- The texts of this seat's functions: what each computes, as its symbolic run says it. -/
import Derived.Test.YtblafknmfblgfaaRows
import Derived.Test.YtblafknmfblgfaaSxD
import Derived.Test.YtblafknmfblgfaaSxN
import Derived.Test.YtblafknmfblgfaaTxt
import Derived.Test.YtblafknmfblgfaaTxtB
import Derived.Test.YtblafknmfblgfaaTxtC
import Derived.Test.YtblafknmfblgfaaTxtD
import Derived.Test.YtblafknmfblgfaaTxtE
import Derived.Test.YtblafknmfblgfaaTxtF
import Derived.Test.YtblafknmfblgfaaTxtG
import Derived.Test.YtblafknmfblgfaaTxtH
set_option linter.unusedVariables false
set_option linter.unusedSimpArgs false
set_option maxRecDepth 100000
namespace Go.Proofs.Ytblafknmfblgfaa
open Go.Sx Go.RowKit

abbrev F_shiftbellkeep_FarmPlan : FuncId := 6

/-- shiftbell/shiftbellkeep.FarmPlan -/
def wp_shiftbellkeep_FarmPlan (x_0 : Option Addr) (x_0l : Nat) (x_0c : Nat) (x_1 : Int) (x_2 : Int) (x_3 : Int) (x_4 : Int) (l : Option Addr) (ll : Nat) (lc : Nat) (w : World) (Q : Value → World → Prop) : Prop :=
  ∀ b0 : Nat, w.heap.size ≤ b0 → ∀ w1, Ext w w1 →
  FnP Try.prog F_shiftbellkeep_farms #[] w1 fun v2 w2 =>
   Ext w1 w2 ∧
   ∃ t3 : Bool, v2 = (.bool t3) ∧
   ((t3 = false) →
    ∀ w4, Ext w w4 →
    Q (.bool false) w4) ∧
   ((t3 = true) →
    ∀ w4, ExtB [] [b0] w w4 →
    FnP Try.prog F_shiftbellkeep_played #[(.agg #[(.slice x_0 x_0l x_0c), (.int .i64 x_1), (.int .i64 x_2), (.int .i64 x_3), (.int .i64 x_4)]), (.slice l ll lc)] w4 fun v5 w5 =>
     Ext w4 w5 ∧
     ∃ t6 : Option Addr, v5 = (.pointer t6) ∧
     (((t6 = none) ∨ (80 < (ll : Int))) →
      ∀ w7, Ext w5 w7 →
      Q (.bool true) w7) ∧
     (((t6 ≠ none) ∧ ((ll : Int) ≤ 80)) →
      ∀ w7, ExtB [] [b0] w5 w7 →
      FnP Try.prog F_farm_Farm_Jobs #[(.pointer t6)] w7 fun v8 w8 =>
       Ext w7 w8 ∧
       ∃ t9 : Option Addr, ∃ tl10 : Nat, ∃ tc11 : Nat, v8 = (.slice t9 tl10 tc11) ∧
       ∀ w12, ExtB [] [b0] w8 w12 →
       FnP Try.prog F_farm_Farm_Plan #[(.pointer t6)] w12 fun v13 w13 =>
        Kept [b0] w12 w13 ∧
        ∃ t14 : Option Addr, ∃ tl15 : Nat, ∃ tc16 : Nat, ∃ t17 : Int, v13 = (.tuple #[(.slice t14 tl15 tc16), (.int .i64 t17)]) ∧
        ∀ w18, ExtB [] [b0] w13 w18 →
        FnP Try.prog F_farm_Farm_Jobs #[(.pointer t6)] w18 fun v19 w19 =>
         Ext w18 w19 ∧
         ∃ t20 : Option Addr, ∃ tl21 : Nat, ∃ tc22 : Nat, v19 = (.slice t20 tl21 tc22) ∧
         ∀ w23, ExtB [] [b0] w19 w23 →
         Run Try.prog (.makeMap 58) w23 fun v24 w24 =>
          Ext w23 w24 ∧
          ∃ t25 : Value, v24 = t25 ∧
          ∃ (I26 : Int → World → Prop) (M26 : Int → World → Nat), I26 0 w24 ∧
          ∀ (k27 : Int) (w28 : World), I26 k27 w28 →
           (((k27 < (tl15 : Int)) →
            t14 ≠ none ∧
            (0 : Int) ≤ k27 ∧
            (k27 : Int) < (tl15 : Int) ∧
            (pIdx t14 k27 2) ≠ none ∧
            ∃ t29 : Int, cell w28 (pIdx t14 k27 2) 0 = some (.int .i64 t29) ∧
            ∃ t30 : Int, cell w28 (pIdx t14 k27 2) 1 = some (.int .i64 t30) ∧
            ∀ b31 : Nat, w28.heap.size ≤ b31 → (((t29 < 1) ∨ ((tl10 : Int) < t29)) →
             ∀ w32, Ext w28 w32 →
             Q (.bool false) w32) ∧
            (((1 ≤ t29) ∧ (t29 ≤ (tl10 : Int))) →
             ∀ w32, Ext w28 w32 →
             Run Try.prog (.lookup 58 t25 (.int .i64 t29) false) w32 fun v33 w33 =>
              Ext w32 w33 ∧
              ∃ t34 : Bool, v33 = (.bool t34) ∧
              ((t34 = false) →
               InR .i64 (t29 - 1)) ∧
              ((t34 = false) →
               t9 ≠ none) ∧
              ((t34 = false) →
               (0 : Int) ≤ (t29 - 1)) ∧
              ((t34 = false) →
               ((t29 - 1) : Int) < (tl10 : Int)) ∧
              ((t34 = false) →
               (pIdx t9 (t29 - 1) 16) ≠ none) ∧
              ((t34 = true) →
               ∀ w35, Ext w28 w35 →
               Q (.bool false) w35) ∧
              ((t34 = false) →
               ∃ t35 : Int, cell w28 (pAdd (pIdx t9 (t29 - 1) 16) 11) 0 = some (.int .i64 t35) ∧
               ((t35 = 1) →
                InR .i64 (t29 - 1)) ∧
               ((t35 = 1) →
                t9 ≠ none) ∧
               ((t35 = 1) →
                (0 : Int) ≤ (t29 - 1)) ∧
               ((t35 = 1) →
                ((t29 - 1) : Int) < (tl10 : Int)) ∧
               ((t35 = 1) →
                (pIdx t9 (t29 - 1) 16) ≠ none) ∧
               ((t35 ≠ 1) →
                ∀ w36, Ext w28 w36 →
                Q (.bool false) w36) ∧
               ((t35 = 1) →
                ∃ t36 : Int, cell w28 (pAdd (pIdx t9 (t29 - 1) 16) 14) 0 = some (.int .i64 t36) ∧
                ∀ w37, Ext w28 w37 →
                FnP Try.prog F_farm_Farm_Now #[(.pointer t6)] w37 fun v38 w38 =>
                 Ext w37 w38 ∧
                 ∃ t39 : Int, v38 = (.int .i64 t39) ∧
                 ((t36 ≤ t39) →
                  InR .i64 (t29 - 1)) ∧
                 ((t36 ≤ t39) →
                  t20 ≠ none) ∧
                 ((t36 ≤ t39) →
                  (0 : Int) ≤ (t29 - 1)) ∧
                 ((t36 ≤ t39) →
                  ((t29 - 1) : Int) < (tl21 : Int)) ∧
                 ((t36 ≤ t39) →
                  (pIdx t20 (t29 - 1) 16) ≠ none) ∧
                 ((t39 < t36) →
                  ∀ w40, Ext w28 w40 →
                  Q (.bool false) w40) ∧
                 ((t36 ≤ t39) →
                  ∃ t40 : Int, cell w28 (pAdd (pIdx t20 (t29 - 1) 16) 11) 0 = some (.int .i64 t40) ∧
                  ((t40 = 2) →
                   InR .i64 (t29 - 1)) ∧
                  ((t40 = 2) →
                   t20 ≠ none) ∧
                  ((t40 = 2) →
                   (0 : Int) ≤ (t29 - 1)) ∧
                  ((t40 = 2) →
                   ((t29 - 1) : Int) < (tl21 : Int)) ∧
                  ((t40 = 2) →
                   (pIdx t20 (t29 - 1) 16) ≠ none) ∧
                  ((t40 ≠ 2) →
                   ∀ w41, Ext w28 w41 →
                   Q (.bool false) w41) ∧
                  ((t40 = 2) →
                   ∃ t41 : Int, cell w28 (pAdd (pIdx t20 (t29 - 1) 16) 12) 0 = some (.int .i64 t41) ∧
                   ((t41 = t30) →
                    InR .i64 (t29 - 1)) ∧
                   ((t41 = t30) →
                    t20 ≠ none) ∧
                   ((t41 = t30) →
                    (0 : Int) ≤ (t29 - 1)) ∧
                   ((t41 = t30) →
                    ((t29 - 1) : Int) < (tl21 : Int)) ∧
                   ((t41 = t30) →
                    (pIdx t20 (t29 - 1) 16) ≠ none) ∧
                   ((t41 ≠ t30) →
                    ∀ w42, Ext w28 w42 →
                    Q (.bool false) w42) ∧
                   ((t41 = t30) →
                    ∃ t42 : Int, cell w28 (pAdd (pIdx t20 (t29 - 1) 16) 13) 0 = some (.int .i64 t42) ∧
                    ∀ w43, Ext w28 w43 →
                    FnP Try.prog F_farm_Farm_Now #[(.pointer t6)] w43 fun v44 w44 =>
                     Ext w43 w44 ∧
                     ∃ t45 : Int, v44 = (.int .i64 t45) ∧
                     ((t42 ≠ t45) →
                      ∀ w46, Ext w28 w46 →
                      Q (.bool false) w46) ∧
                     ((t42 = t45) →
                      ∀ w46, ExtB [] [b0, b31] w28 w46 →
                      Run Try.prog (.mapUpdate 58 t25 (.int .i64 t29) (.bool true)) w46 fun v47 w47 =>
                       Kept [b0, b31] w46 w47 ∧
                       InR .i64 (k27 + 1) ∧
                       (I26 (k27 + 1) w47 ∧ M26 (k27 + 1) w47 < M26 k27 w28)))))))))) ∧
           (((tl15 : Int) ≤ k27) →
            ∃ (I29 : Int → World → Prop) (M29 : Int → World → Nat), I29 0 w28 ∧
            ∀ (k30 : Int) (w31 : World), I29 k30 w31 →
             (((k30 < (tl10 : Int)) →
              InR .i64 (k30 + 1) ∧
              ∀ w32, Ext w31 w32 →
              Run Try.prog (.lookup 58 t25 (.int .i64 (k30 + 1)) false) w32 fun v33 w33 =>
               Ext w32 w33 ∧
               ∃ t34 : Bool, v33 = (.bool t34) ∧
               ((t34 = false) →
                InR .i64 (k30 + 1)) ∧
               ((t34 = false) →
                (0 : Int) ≤ k30) ∧
               ((t34 = false) →
                (k30 : Int) ≤ (k30 + 1)) ∧
               ((t34 = false) →
                ((k30 + 1) : Int) ≤ (tc11 : Int)) ∧
               ((t34 = false) →
                InR .i64 (k30 + 1)) ∧
               ((t34 = false) →
                (0 : Int) ≤ k30) ∧
               ((t34 = false) →
                (k30 : Int) ≤ (k30 + 1)) ∧
               ((t34 = false) →
                ((k30 + 1) : Int) ≤ (tc22 : Int)) ∧
               (((t34 = false) →
                ∀ w35, Ext w31 w35 →
                FnP Try.prog F_shiftbellkeep_sameStates #[(.slice (pCut t9 tc11 k30 16) ((k30 + 1) - k30).toNat (tc11 - k30.toNat)), (.slice (pCut t20 tc22 k30 16) ((k30 + 1) - k30).toNat (tc22 - k30.toNat))] w35 fun v36 w36 =>
                 Ext w35 w36 ∧
                 ∃ t37 : Bool, v36 = (.bool t37) ∧
                 ((t37 = false) →
                  ∀ w38, Ext w31 w38 →
                  Q (.bool false) w38) ∧
                 ((t37 = true) →
                  InR .i64 (k30 + 1) ∧
                  (I29 (k30 + 1) w31 ∧ M29 (k30 + 1) w31 < M29 k30 w31)))) ∧
               ((t34 = true) →
                InR .i64 (k30 + 1) ∧
                (I29 (k30 + 1) w31 ∧ M29 (k30 + 1) w31 < M29 k30 w31)))) ∧
             (((tl10 : Int) ≤ k30) →
              ∀ w32, ExtB [] [b0] w31 w32 →
              FnP Try.prog F_farm_Farm_Plan #[(.pointer t6)] w32 fun v33 w33 =>
               Kept [b0] w32 w33 ∧
               ∃ t34 : Option Addr, ∃ tl35 : Nat, ∃ tc36 : Nat, ∃ t37 : Int, v33 = (.tuple #[(.slice t34 tl35 tc36), (.int .i64 t37)]) ∧
               ∀ w38, ExtB [] [b0] w33 w38 →
               Run Try.prog (.buildSlice 107 2 [(0, (.int .i64 t17)), (1, (.int .i64 t37))]) w38 fun v39 w39 =>
                Ext w38 w39 ∧
                ∃ t40 : Option Addr, ∃ tl41 : Nat, ∃ tc42 : Nat, v39 = (.slice t40 tl41 tc42) ∧
                ∀ w43, Ext w39 w43 →
                FnP Try.prog F_shiftbellkeep_good #[(.slice t40 tl41 tc42)] w43 fun v44 w44 =>
                 Ext w43 w44 ∧
                 ∃ t45 : Bool, v44 = (.bool t45) ∧
                 ∀ w46, Ext w39 w46 →
                 Q (.bool (t45 && (decide ((tl35 : Int) = 0)))) w46))))

theorem ok_shiftbellkeep_FarmPlan (x_0 : Option Addr) (x_0l : Nat) (x_0c : Nat) (x_1 : Int) (x_2 : Int) (x_3 : Int) (x_4 : Int) (l : Option Addr) (ll : Nat) (lc : Nat) (w : World) (Q : Value → World → Prop) (h : wp_shiftbellkeep_FarmPlan x_0 x_0l x_0c x_1 x_2 x_3 x_4 l ll lc w Q) : FnP Try.prog F_shiftbellkeep_FarmPlan #[(.agg #[(.slice x_0 x_0l x_0c), (.int .i64 x_1), (.int .i64 x_2), (.int .i64 x_3), (.int .i64 x_4)]), (.slice l ll lc)] w Q := by
  have e_ : wp_shiftbellkeep_FarmPlan x_0 x_0l x_0c x_1 x_2 x_3 x_4 l ll lc w Q = Runs Try.prog Q ({ N := 159, wrap := [], pub := [], muts := [29, 61, 17, 24], joins := [] } : Cfg) Try.f6 (Try.f6.body.getD .skip) [.agg [.slc x_0 x_0l x_0c, .int .i64 x_1, .int .i64 x_2, .int .i64 x_3, .int .i64 x_4], .sc (.slc l ll lc)] w := by kernel_rfl
  rw [e_] at h
  exact runs_fn h Try.func6 (by kernel_rfl) (fun args w => Try.call6 args w) (by kernel_rfl) (by kernel_rfl) rfl rfl

theorem open_shiftbellkeep_FarmPlan (W : World) (R : Array Value → Prop) (h : ∀ x_0 : Option Addr, ∀ x_0l : Nat, ∀ x_0c : Nat, SlcArg Try.prog W 50 x_0 x_0l x_0c → ∀ x_1 : Int, InR .i64 x_1 → ∀ x_2 : Int, InR .i64 x_2 → ∀ x_3 : Int, InR .i64 x_3 → ∀ x_4 : Int, InR .i64 x_4 → ∀ l : Option Addr, ∀ ll : Nat, ∀ lc : Nat, SlcArg Try.prog W 70 l ll lc → R #[(.agg #[(.slice x_0 x_0l x_0c), (.int .i64 x_1), (.int .i64 x_2), (.int .i64 x_3), (.int .i64 x_4)]), (.slice l ll lc)]) (args : Array Value) (hg : GoodAll Try.prog W Try.f6.params.toList args.toList) : R args := by
  have e_ : (ArgsAll Try.prog W Try.f6.params.toList fun l => R l.toArray) = (∀ x_0 : Option Addr, ∀ x_0l : Nat, ∀ x_0c : Nat, SlcArg Try.prog W 50 x_0 x_0l x_0c → ∀ x_1 : Int, InR .i64 x_1 → ∀ x_2 : Int, InR .i64 x_2 → ∀ x_3 : Int, InR .i64 x_3 → ∀ x_4 : Int, InR .i64 x_4 → ∀ l : Option Addr, ∀ ll : Nat, ∀ lc : Nat, SlcArg Try.prog W 70 l ll lc → R #[(.agg #[(.slice x_0 x_0l x_0c), (.int .i64 x_1), (.int .i64 x_2), (.int .i64 x_3), (.int .i64 x_4)]), (.slice l ll lc)]) := by kernel_rfl
  exact args_open (by rw [e_]; exact h) args hg
-- wit 6 #[(.agg #[(.slice none 0 0), (.int .i64 0), (.int .i64 0), (.int .i64 0), (.int .i64 0)]), (.slice none 0 0)]

end Go.Proofs.Ytblafknmfblgfaa
