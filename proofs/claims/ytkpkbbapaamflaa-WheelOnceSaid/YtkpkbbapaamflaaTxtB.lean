/- The texts of this seat's functions: what each computes, as its symbolic run says it. -/
import Derived.Test.YtkpkbbapaamflaaRows
import Derived.Test.YtkpkbbapaamflaaSxD
import Derived.Test.YtkpkbbapaamflaaSxN
import Derived.Test.YtkpkbbapaamflaaTxt
set_option linter.unusedVariables false
set_option linter.unusedSimpArgs false
set_option maxRecDepth 100000
namespace Go.Proofs.Ytkpkbbapaamflaa
open Go.Sx Go.RowKit

abbrev F_shiftbellkeep_WheelOnce : FuncId := 3
abbrev F_shiftbellkeep_WheelPieces : FuncId := 5
abbrev F_shiftbellkeep_WheelOnce_1 : FuncId := 8
abbrev F_shiftbellkeep_WheelPieces_1 : FuncId := 14

/-- shiftbell/shiftbellkeep.WheelOnce$1 -/
def wp_shiftbellkeep_WheelOnce_1 (all_v : Option Addr) (all_vl : Nat) (all_vc : Nat) (c0 : Option Addr) (w : World) (Q : Value → World → Prop) : Prop :=
  ∃ (I0 : Int → World → Prop) (M0 : Int → World → Nat), I0 0 w ∧
  ∀ (k1 : Int) (w2 : World), I0 k1 w2 →
   (((k1 < (all_vl : Int)) →
    all_v ≠ none ∧
    (0 : Int) ≤ k1 ∧
    (k1 : Int) < (all_vl : Int) ∧
    (pIdx all_v k1 2) ≠ none ∧
    ∃ t3 : Int, cell w2 (pIdx all_v k1 2) 0 = some (.int .i64 t3) ∧
    ∃ t4 : Int, cell w2 (pIdx all_v k1 2) 1 = some (.int .i64 t4) ∧
    ∀ b5 : Nat, w2.heap.size ≤ b5 → ∃ t6 : Value, cell w2 c0 0 = some t6 ∧
    ∀ w7, Ext w2 w7 →
    Run Try.prog (.lookup 26 t6 (.int .i64 t4) true) w7 fun v8 w8 =>
     Ext w7 w8 ∧
     ∃ t9 : Int, ∃ t10 : Bool, v8 = (.tuple #[(.int .i64 t9), (.bool t10)]) ∧
     (((t10 = false) ∨ (t9 ≠ t3)) →
      ∀ w11, Ext w2 w11 →
      Q (.bool false) w11) ∧
     (((t10 = true) ∧ (t9 = t3)) →
      ∃ t11 : Value, cell w2 c0 0 = some t11 ∧
      ∀ w12, ExtB [] [b5] w2 w12 →
      Run Try.prog (.delete #[26, 3] 0 [t11, (.int .i64 t4)]) w12 fun v13 w13 =>
       Kept [b5] w12 w13 ∧
       v13 = (.tuple #[]) ∧
       InR .i64 (k1 + 1) ∧
       (I0 (k1 + 1) w13 ∧ M0 (k1 + 1) w13 < M0 k1 w2)))) ∧
   (((all_vl : Int) ≤ k1) →
    ∀ w3, Ext w2 w3 →
    Q (.bool true) w3)

theorem ok_shiftbellkeep_WheelOnce_1 (all_v : Option Addr) (all_vl : Nat) (all_vc : Nat) (c0 : Option Addr) (w : World) (Q : Value → World → Prop) (h : wp_shiftbellkeep_WheelOnce_1 all_v all_vl all_vc c0 w Q) : FnP Try.prog F_shiftbellkeep_WheelOnce_1 #[(.slice all_v all_vl all_vc), (.pointer c0)] w Q := by
  have e_ : wp_shiftbellkeep_WheelOnce_1 all_v all_vl all_vc c0 w Q = Runs Try.prog Q ({ N := 33, wrap := [], pub := [], muts := [], joins := [] } : Cfg) Try.f8 (Try.f8.body.getD .skip) [.sc (.slc all_v all_vl all_vc), .sc (.ptr c0)] w := by kernel_rfl
  rw [e_] at h
  exact runs_fn h Try.func8 (by kernel_rfl) (fun args w => Try.call8 args w) (by kernel_rfl) (by kernel_rfl) rfl rfl

/-- shiftbell/shiftbellkeep.WheelPieces$1 -/
def wp_shiftbellkeep_WheelPieces_1 (c0 : Option Addr) (w : World) (Q : Value → World → Prop) : Prop :=
  ∀ w0, Ext w w0 →
  FnP Try.prog F_wheel_New #[] w0 fun v1 w1 =>
   Ext w0 w1 ∧
   ∃ t2 : Option Addr, v1 = (.pointer t2) ∧
   ∃ t3 : Option Addr, ∃ tl4 : Nat, ∃ tc5 : Nat, cell w1 c0 0 = some (.slice t3 tl4 tc5) ∧
   ∃ (I6 : Int → World → Prop) (M6 : Int → World → Nat), I6 0 w1 ∧
   ∀ (k7 : Int) (w8 : World), I6 k7 w8 →
    (((k7 < (tl4 : Int)) →
     t3 ≠ none ∧
     (0 : Int) ≤ k7 ∧
     (k7 : Int) < (tl4 : Int) ∧
     (pIdx t3 k7 4) ≠ none ∧
     ∃ t9 : Int, cell w8 (pIdx t3 k7 4) 0 = some (.int .i64 t9) ∧
     ∃ t10 : Int, cell w8 (pIdx t3 k7 4) 1 = some (.int .i64 t10) ∧
     ∃ t11 : Int, cell w8 (pIdx t3 k7 4) 2 = some (.int .i64 t11) ∧
     ∃ t12 : Int, cell w8 (pIdx t3 k7 4) 3 = some (.int .i64 t12) ∧
     ∀ b13 : Nat, w8.heap.size ≤ b13 → (((t9 = 1) →
      ∀ w14, ExtB [] [b13] w8 w14 →
      FnP Try.prog F_wheel_Wheel_Add #[(.pointer t2), (.int .i64 t12), (.int .i64 t10)] w14 fun v15 w15 =>
       Kept [b13] w14 w15 ∧
       ∃ t16 : Int, v15 = (.int .i64 t16) ∧
       InR .i64 (k7 + 1) ∧
       (I6 (k7 + 1) w15 ∧ M6 (k7 + 1) w15 < M6 k7 w8))) ∧
     ((t9 ≠ 1) →
      (((t9 = 2) →
       ∀ w14, ExtB [] [b13] w8 w14 →
       FnP Try.prog F_wheel_Wheel_Cancel #[(.pointer t2), (.int .i64 t10)] w14 fun v15 w15 =>
        Kept [b13] w14 w15 ∧
        ∃ t16 : Int, v15 = (.int .i64 t16) ∧
        InR .i64 (k7 + 1) ∧
        (I6 (k7 + 1) w15 ∧ M6 (k7 + 1) w15 < M6 k7 w8))) ∧
      ((t9 ≠ 2) →
       ∀ w14, ExtB [] [b13] w8 w14 →
       FnP Try.prog F_wheel_Wheel_Advance #[(.pointer t2), (.int .i64 t12)] w14 fun v15 w15 =>
        Kept [b13] w14 w15 ∧
        ∃ t16 : Option Addr, ∃ tl17 : Nat, ∃ tc18 : Nat, ∃ t19 : Int, v15 = (.tuple #[(.slice t16 tl17 tc18), (.int .i64 t19)]) ∧
        InR .i64 (k7 + 1) ∧
        (I6 (k7 + 1) w15 ∧ M6 (k7 + 1) w15 < M6 k7 w8))))) ∧
    (((tl4 : Int) ≤ k7) →
     ∀ w9, Ext w8 w9 →
     Q (.pointer t2) w9)

theorem ok_shiftbellkeep_WheelPieces_1 (c0 : Option Addr) (w : World) (Q : Value → World → Prop) (h : wp_shiftbellkeep_WheelPieces_1 c0 w Q) : FnP Try.prog F_shiftbellkeep_WheelPieces_1 #[(.pointer c0)] w Q := by
  have e_ : wp_shiftbellkeep_WheelPieces_1 c0 w Q = Runs Try.prog Q ({ N := 34, wrap := [], pub := [], muts := [9, 10, 11], joins := [] } : Cfg) Try.f14 (Try.f14.body.getD .skip) [.sc (.ptr c0)] w := by kernel_rfl
  rw [e_] at h
  exact runs_fn h Try.func14 (by kernel_rfl) (fun args w => Try.call14 args w) (by kernel_rfl) (by kernel_rfl) rfl rfl

/-- shiftbell/shiftbellkeep.WheelOnce -/
def wp_shiftbellkeep_WheelOnce (l : Option Addr) (ll : Nat) (lc : Nat) (w : World) (Q : Value → World → Prop) : Prop :=
  ∀ w0, Ext w w0 →
  FnP Try.prog F_shiftbellkeep_wheels #[] w0 fun v1 w1 =>
   Ext w0 w1 ∧
   ∃ t2 : Bool, v1 = (.bool t2) ∧
   ((t2 = false) →
    ∀ w3, Ext w w3 →
    Q (.bool false) w3) ∧
   ((t2 = true) →
    ((150 < (ll : Int)) →
     ∀ w3, Ext w w3 →
     Q (.bool true) w3) ∧
    (((ll : Int) ≤ 150) →
     ∀ w3, Ext w w3 →
     FnP Try.prog F_wheel_New #[] w3 fun v4 w4 =>
      Ext w3 w4 ∧
      ∃ t5 : Option Addr, v4 = (.pointer t5) ∧
      ∀ w6, Ext w4 w6 →
      Run Try.prog (.makeMap 26) w6 fun v7 w7 =>
       Ext w6 w7 ∧
       ∃ t8 : Value, v7 = t8 ∧
       ∀ w9, Ext w7 w9 →
       New w9 26 [(.map none)] fun p10 w10 =>
        Store w10 p10 [t8] [] fun w11 =>
         ∃ (I12 : Int → World → Prop) (M12 : Int → World → Nat), I12 0 w11 ∧
         ∀ (k13 : Int) (w14 : World), I12 k13 w14 →
          (((k13 < (ll : Int)) →
           l ≠ none ∧
           (0 : Int) ≤ k13 ∧
           (k13 : Int) < (ll : Int) ∧
           (pIdx l k13 4) ≠ none ∧
           ∃ t15 : Int, cell w14 (pIdx l k13 4) 0 = some (.int .i64 t15) ∧
           ∃ t16 : Int, cell w14 (pIdx l k13 4) 1 = some (.int .i64 t16) ∧
           ∃ t17 : Int, cell w14 (pIdx l k13 4) 2 = some (.int .i64 t17) ∧
           ∃ t18 : Int, cell w14 (pIdx l k13 4) 3 = some (.int .i64 t18) ∧
           ∀ b19 : Nat, w14.heap.size ≤ b19 → (((t15 = 1) →
            ∀ w20, ExtB [] [b19] w14 w20 →
            FnP Try.prog F_wheel_Wheel_Add #[(.pointer t5), (.int .i64 t18), (.int .i64 t16)] w20 fun v21 w21 =>
             Kept [b19] w20 w21 ∧
             ∃ t22 : Int, v21 = (.int .i64 t22) ∧
             (((t22 = 0) →
              ∃ t23 : Value, cell w21 p10 0 = some t23 ∧
              ∀ w24, ExtB [] [b19] w21 w24 →
              Run Try.prog (.mapUpdate 26 t23 (.int .i64 t16) (.int .i64 t18)) w24 fun v25 w25 =>
               Kept [b19] w24 w25 ∧
               InR .i64 (k13 + 1) ∧
               (I12 (k13 + 1) w25 ∧ M12 (k13 + 1) w25 < M12 k13 w14))) ∧
             ((t22 ≠ 0) →
              InR .i64 (k13 + 1) ∧
              (I12 (k13 + 1) w21 ∧ M12 (k13 + 1) w21 < M12 k13 w14)))) ∧
           ((t15 ≠ 1) →
            (((t15 = 2) →
             ∃ t20 : Value, cell w14 p10 0 = some t20 ∧
             ∀ w21, Ext w14 w21 →
             Run Try.prog (.lookup 26 t20 (.int .i64 t16) true) w21 fun v22 w22 =>
              Ext w21 w22 ∧
              ∃ t23 : Int, ∃ t24 : Bool, v22 = (.tuple #[(.int .i64 t23), (.bool t24)]) ∧
              ∀ w25, ExtB [] [b19] w14 w25 →
              FnP Try.prog F_wheel_Wheel_Cancel #[(.pointer t5), (.int .i64 t16)] w25 fun v26 w26 =>
               Kept [b19] w25 w26 ∧
               ∃ t27 : Int, v26 = (.int .i64 t27) ∧
               ∃ t28 : Value, cell w26 p10 0 = some t28 ∧
               ∀ w29, ExtB [] [b19] w26 w29 →
               Run Try.prog (.delete #[26, 3] 0 [t28, (.int .i64 t16)]) w29 fun v30 w30 =>
                Kept [b19] w29 w30 ∧
                v30 = (.tuple #[]) ∧
                (((((t27 ≠ 0) ∨ (t24 = false)) ∧ ((t27 = 0) ∨ (t24 = true))) →
                 ∀ w31, Ext w30 w31 →
                 Q (.bool false) w31)) ∧
                ((((t27 = 0) ∧ (t24 = true)) ∨ ((t27 ≠ 0) ∧ (t24 = false))) →
                 InR .i64 (k13 + 1) ∧
                 (I12 (k13 + 1) w30 ∧ M12 (k13 + 1) w30 < M12 k13 w14)))) ∧
            ((t15 ≠ 2) →
             ∀ w20, ExtB [] [b19] w14 w20 →
             FnP Try.prog F_wheel_Wheel_Advance #[(.pointer t5), (.int .i64 t18)] w20 fun v21 w21 =>
              Kept [b19] w20 w21 ∧
              ∃ t22 : Option Addr, ∃ tl23 : Nat, ∃ tc24 : Nat, ∃ t25 : Int, v21 = (.tuple #[(.slice t22 tl23 tc24), (.int .i64 t25)]) ∧
              ∀ w26, ExtB [] [b19] w21 w26 →
              FnP Try.prog F_shiftbellkeep_WheelOnce_1 #[(.slice t22 tl23 tc24), (.pointer p10)] w26 fun v27 w27 =>
               Kept [b19] w26 w27 ∧
               ∃ t28 : Bool, v27 = (.bool t28) ∧
               ((t28 = false) →
                ∀ w29, Ext w27 w29 →
                Q (.bool false) w29) ∧
               ((t28 = true) →
                InR .i64 (k13 + 1) ∧
                (I12 (k13 + 1) w27 ∧ M12 (k13 + 1) w27 < M12 k13 w14)))))) ∧
          (((ll : Int) ≤ k13) →
           ∀ w15, Ext w14 w15 →
           FnP Try.prog F_wheel_Wheel_Advance #[(.pointer t5), (.int .i64 16777216)] w15 fun v16 w16 =>
            ∃ t17 : Option Addr, ∃ tl18 : Nat, ∃ tc19 : Nat, ∃ t20 : Int, v16 = (.tuple #[(.slice t17 tl18 tc19), (.int .i64 t20)]) ∧
            ∀ w21, Ext w16 w21 →
            FnP Try.prog F_wheel_Wheel_Next #[(.pointer t5)] w21 fun v22 w22 =>
             Ext w21 w22 ∧
             ∃ t23 : Int, ∃ t24 : Bool, v22 = (.tuple #[(.int .i64 t23), (.bool t24)]) ∧
             (((t20 = 0) →
              ∀ w25, Ext w16 w25 →
              FnP Try.prog F_shiftbellkeep_WheelOnce_1 #[(.slice t17 tl18 tc19), (.pointer p10)] w25 fun v26 w26 =>
               ∃ t27 : Bool, v26 = (.bool t27) ∧
               (((t27 = true) →
                ∃ t28 : Value, cell w26 p10 0 = some t28 ∧
                ∀ w29, Ext w26 w29 →
                Run Try.prog (.len #[26] 3 [t28]) w29 fun v30 w30 =>
                 Ext w29 w30 ∧
                 ∃ t31 : Int, v30 = (.int .i64 t31) ∧
                 ∀ w32, Ext w26 w32 →
                 Q (.bool ((decide (t31 = 0)) && (!t24))) w32)) ∧
               ((t27 = false) →
                ∀ w28, Ext w26 w28 →
                Q (.bool false) w28))) ∧
             ((t20 ≠ 0) →
              ∀ w25, Ext w16 w25 →
              Q (.bool false) w25))))

theorem ok_shiftbellkeep_WheelOnce (l : Option Addr) (ll : Nat) (lc : Nat) (w : World) (Q : Value → World → Prop) (h : wp_shiftbellkeep_WheelOnce l ll lc w Q) : FnP Try.prog F_shiftbellkeep_WheelOnce #[(.slice l ll lc)] w Q := by
  have e_ : wp_shiftbellkeep_WheelOnce l ll lc w Q = Runs Try.prog Q ({ N := 105, wrap := [], pub := [4], muts := [9, 10, 11, 8], joins := [] } : Cfg) Try.f3 (Try.f3.body.getD .skip) [.sc (.slc l ll lc)] w := by kernel_rfl
  rw [e_] at h
  exact runs_fn h Try.func3 (by kernel_rfl) (fun args w => Try.call3 args w) (by kernel_rfl) (by kernel_rfl) rfl rfl

theorem open_shiftbellkeep_WheelOnce (W : World) (R : Array Value → Prop) (h : ∀ l : Option Addr, ∀ ll : Nat, ∀ lc : Nat, SlcArg Try.prog W 33 l ll lc → R #[(.slice l ll lc)]) (args : Array Value) (hg : GoodAll Try.prog W Try.f3.params.toList args.toList) : R args := by
  have e_ : (ArgsAll Try.prog W Try.f3.params.toList fun l => R l.toArray) = (∀ l : Option Addr, ∀ ll : Nat, ∀ lc : Nat, SlcArg Try.prog W 33 l ll lc → R #[(.slice l ll lc)]) := by kernel_rfl
  exact args_open (by rw [e_]; exact h) args hg
-- wit 3 #[(.slice none 0 0)]

/-- shiftbell/shiftbellkeep.WheelPieces -/
def wp_shiftbellkeep_WheelPieces (l : Option Addr) (ll : Nat) (lc : Nat) (a : Int) (b : Int) (w : World) (Q : Value → World → Prop) : Prop :=
  ∀ w0, Ext w w0 →
  New w0 22 [(.slice l ll lc)] fun p1 w1 =>
   ∀ w2, Ext w1 w2 →
   FnP Try.prog F_shiftbellkeep_wheels #[] w2 fun v3 w3 =>
    Ext w2 w3 ∧
    ∃ t4 : Bool, v3 = (.bool t4) ∧
    ((t4 = false) →
     ∀ w5, Ext w1 w5 →
     Q (.bool false) w5) ∧
    ((t4 = true) →
     ∃ t5 : Option Addr, ∃ tl6 : Nat, ∃ tc7 : Nat, cell w1 p1 0 = some (.slice t5 tl6 tc7) ∧
     ((((((tl6 : Int) ≤ 100) ∧ (0 ≤ a)) ∧ (0 ≤ b)) →
      InR .i64 (16777216 - b))) ∧
     (((((100 < (tl6 : Int)) ∨ (a < 0)) ∨ (b < 0)) ∨ ((16777216 - b) < a)) →
      ∀ w8, Ext w1 w8 →
      Q (.bool true) w8) ∧
     ((((((tl6 : Int) ≤ 100) ∧ (0 ≤ a)) ∧ (0 ≤ b)) ∧ (a ≤ (16777216 - b))) →
      ∀ w8, Ext w1 w8 →
      FnP Try.prog F_shiftbellkeep_WheelPieces_1 #[(.pointer p1)] w8 fun v9 w9 =>
       ∃ t10 : Option Addr, v9 = (.pointer t10) ∧
       ∀ w11, Ext w9 w11 →
       FnP Try.prog F_shiftbellkeep_WheelPieces_1 #[(.pointer p1)] w11 fun v12 w12 =>
        ∃ t13 : Option Addr, v12 = (.pointer t13) ∧
        ∀ w14, Ext w12 w14 →
        FnP Try.prog F_wheel_Wheel_Advance #[(.pointer t10), (.int .i64 a)] w14 fun v15 w15 =>
         ∃ t16 : Option Addr, ∃ tl17 : Nat, ∃ tc18 : Nat, ∃ t19 : Int, v15 = (.tuple #[(.slice t16 tl17 tc18), (.int .i64 t19)]) ∧
         ∀ w20, Ext w15 w20 →
         FnP Try.prog F_wheel_Wheel_Advance #[(.pointer t10), (.int .i64 b)] w20 fun v21 w21 =>
          ∃ t22 : Option Addr, ∃ tl23 : Nat, ∃ tc24 : Nat, ∃ t25 : Int, v21 = (.tuple #[(.slice t22 tl23 tc24), (.int .i64 t25)]) ∧
          InR .i64 (a + b) ∧
          ∀ w26, Ext w21 w26 →
          FnP Try.prog F_wheel_Wheel_Advance #[(.pointer t13), (.int .i64 (a + b))] w26 fun v27 w27 =>
           ∃ t28 : Option Addr, ∃ tl29 : Nat, ∃ tc30 : Nat, ∃ t31 : Int, v27 = (.tuple #[(.slice t28 tl29 tc30), (.int .i64 t31)]) ∧
           ∀ w32, Ext w27 w32 →
           Run Try.prog (.buildSlice 61 3 [(0, (.int .i64 t19)), (1, (.int .i64 t25)), (2, (.int .i64 t31))]) w32 fun v33 w33 =>
            Ext w32 w33 ∧
            ∃ t34 : Option Addr, ∃ tl35 : Nat, ∃ tc36 : Nat, v33 = (.slice t34 tl35 tc36) ∧
            ∀ w37, Ext w33 w37 →
            FnP Try.prog F_shiftbellkeep_good #[(.slice t34 tl35 tc36)] w37 fun v38 w38 =>
             Ext w37 w38 ∧
             ∃ t39 : Bool, v38 = (.bool t39) ∧
             (((t39 = true) →
              ∀ w40, Ext w33 w40 →
              Run Try.prog (.append #[27, 27] 27 [(.slice t16 tl17 tc18), (.slice t22 tl23 tc24)]) w40 fun v41 w41 =>
               ∃ t42 : Option Addr, ∃ tl43 : Nat, ∃ tc44 : Nat, v41 = (.slice t42 tl43 tc44) ∧
               ∀ w45, Ext w41 w45 →
               FnP Try.prog F_slices_Equal_api_Fire_api_Fire #[(.slice t42 tl43 tc44), (.slice t28 tl29 tc30)] w45 fun v46 w46 =>
                Ext w45 w46 ∧
                ∃ t47 : Bool, v46 = (.bool t47) ∧
                (((t47 = true) →
                 ∀ w48, Ext w41 w48 →
                 FnP Try.prog F_wheel_Wheel_Now #[(.pointer t10)] w48 fun v49 w49 =>
                  Ext w48 w49 ∧
                  ∃ t50 : Int, v49 = (.int .i64 t50) ∧
                  ∀ w51, Ext w41 w51 →
                  FnP Try.prog F_wheel_Wheel_Now #[(.pointer t13)] w51 fun v52 w52 =>
                   Ext w51 w52 ∧
                   ∃ t53 : Int, v52 = (.int .i64 t53) ∧
                   ∀ w54, Ext w41 w54 →
                   Q (.bool (decide (t50 = t53))) w54)) ∧
                ((t47 = false) →
                 ∀ w48, Ext w41 w48 →
                 Q (.bool false) w48))) ∧
             ((t39 = false) →
              ∀ w40, Ext w33 w40 →
              Q (.bool false) w40)))

theorem ok_shiftbellkeep_WheelPieces (l : Option Addr) (ll : Nat) (lc : Nat) (a : Int) (b : Int) (w : World) (Q : Value → World → Prop) (h : wp_shiftbellkeep_WheelPieces l ll lc a b w Q) : FnP Try.prog F_shiftbellkeep_WheelPieces #[(.slice l ll lc), (.int .i64 a), (.int .i64 b)] w Q := by
  have e_ : wp_shiftbellkeep_WheelPieces l ll lc a b w Q = Runs Try.prog Q ({ N := 79, wrap := [], pub := [3], muts := [11, 14], joins := [] } : Cfg) Try.f5 (Try.f5.body.getD .skip) [.sc (.slc l ll lc), .sc (.int .i64 a), .sc (.int .i64 b)] w := by kernel_rfl
  rw [e_] at h
  exact runs_fn h Try.func5 (by kernel_rfl) (fun args w => Try.call5 args w) (by kernel_rfl) (by kernel_rfl) rfl rfl

theorem open_shiftbellkeep_WheelPieces (W : World) (R : Array Value → Prop) (h : ∀ l : Option Addr, ∀ ll : Nat, ∀ lc : Nat, SlcArg Try.prog W 33 l ll lc → ∀ a : Int, InR .i64 a → ∀ b : Int, InR .i64 b → R #[(.slice l ll lc), (.int .i64 a), (.int .i64 b)]) (args : Array Value) (hg : GoodAll Try.prog W Try.f5.params.toList args.toList) : R args := by
  have e_ : (ArgsAll Try.prog W Try.f5.params.toList fun l => R l.toArray) = (∀ l : Option Addr, ∀ ll : Nat, ∀ lc : Nat, SlcArg Try.prog W 33 l ll lc → ∀ a : Int, InR .i64 a → ∀ b : Int, InR .i64 b → R #[(.slice l ll lc), (.int .i64 a), (.int .i64 b)]) := by kernel_rfl
  exact args_open (by rw [e_]; exact h) args hg
-- wit 5 #[(.slice none 0 0), (.int .i64 0), (.int .i64 0)]

end Go.Proofs.Ytkpkbbapaamflaa
