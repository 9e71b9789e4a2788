/- The texts of this seat's functions: what each computes, as its symbolic run says it. -/
import Derived.Test.YtnclaokllghaoaaRows
import Derived.Test.YtnclaokllghaoaaSxD
import Derived.Test.YtnclaokllghaoaaSxN
set_option linter.unusedVariables false
set_option linter.unusedSimpArgs false
set_option maxRecDepth 100000
namespace Go.Proofs.Ytnclaokllghaoaa
open Go.Sx Go.RowKit

abbrev F_shiftbellkeep_DueBusy : FuncId := 3
abbrev F_shiftbellkeep_DueBest : FuncId := 6
abbrev F_shiftbellkeep_dues : FuncId := 7
abbrev F_due_Run : FuncId := 8
abbrev F_due_Fits : FuncId := 9
abbrev F_due_Valid : FuncId := 13
abbrev F_shiftbellkeep_good : FuncId := 14
abbrev F_due_Check : FuncId := 15
abbrev F_due_run : FuncId := 16
abbrev F_slices_ContainsFunc_api_Errno_api_Errno : FuncId := 17
abbrev F_shiftbellkeep_good_1 : FuncId := 18
abbrev F_slices_IndexFunc_api_Errno_api_Errno : FuncId := 19
abbrev T__0 : TypeId := 0
abbrev T_int64 : TypeId := 2
abbrev T_int : TypeId := 3
abbrev T_bool : TypeId := 4
abbrev T_uint8 : TypeId := 5
abbrev T_string : TypeId := 9
abbrev T_uintptr : TypeId := 12
abbrev T_int32 : TypeId := 21
abbrev T_sl_Task : TypeId := 22
abbrev T_sl_int : TypeId := 24
abbrev T_Errno : TypeId := 25
abbrev T_sl_int_sl_int_Errno : TypeId := 26
abbrev T_Task : TypeId := 29
abbrev T_bool_Errno : TypeId := 31
abbrev T_int_int_bool_Errno : TypeId := 33
abbrev T_sl_int_sl_int : TypeId := 42
abbrev T_sl_Errno : TypeId := 45
abbrev T_sl_bool : TypeId := 48
abbrev T_uint32 : TypeId := 57
abbrev T_ptr_uint8 : TypeId := 61
abbrev T_unsafe_Pointer : TypeId := 66
theorem elem_sl_Task : slEl Try.prog 22 = some (29, 3, 24, (.agg #[(.int .i64 0), (.int .i64 0), (.int .i64 0)])) := by kernel_rfl
theorem elem_sl_int : slEl Try.prog 24 = some (3, 1, 8, (.int .i64 0)) := by kernel_rfl
theorem elem_sl_Errno : slEl Try.prog 45 = some (25, 1, 8, (.int .i64 0)) := by kernel_rfl
theorem elem_sl_bool : slEl Try.prog 48 = some (4, 1, 1, (.bool false)) := by kernel_rfl

/-- shiftbell/due.Check -/
def wp_due_Check (l : Option Addr) (ll : Nat) (lc : Nat) (w : World) (Q : Value → World → Prop) : Prop :=
  ((20 < (ll : Int)) →
   ∀ w0, Ext w w0 →
   Q (.int .i64 2) w0) ∧
  (((ll : Int) ≤ 20) →
   ∃ (I0 : Int → World → Prop) (M0 : Int → World → Nat), I0 0 w ∧
   ∀ (k1 : Int) (w2 : World), I0 k1 w2 →
    ((k1 < (ll : Int)) →
     l ≠ none ∧
     (0 : Int) ≤ k1 ∧
     (k1 : Int) < (ll : Int) ∧
     (pIdx l k1 3) ≠ none ∧
     ∃ t3 : Int, cell w2 (pIdx l k1 3) 0 = some (.int .i64 t3) ∧
     ∃ t4 : Int, cell w2 (pIdx l k1 3) 1 = some (.int .i64 t4) ∧
     ∃ t5 : Int, cell w2 (pIdx l k1 3) 2 = some (.int .i64 t5) ∧
     ∀ b6 : Nat, w2.heap.size ≤ b6 → ((((((0 ≤ t3) ∧ (0 ≤ t4)) ∧ (t4 ≤ 200)) ∧ (1 ≤ t5)) ∧ (t5 ≤ 200)) →
      InR .i64 (t4 - t5)) ∧
     (((((((t3 < 0) ∨ (t4 < 0)) ∨ (200 < t4)) ∨ (t5 < 1)) ∨ (200 < t5)) ∨ ((t4 - t5) < t3)) →
      ∀ w7, Ext w2 w7 →
      Q (.int .i64 4) w7) ∧
     (((((((0 ≤ t3) ∧ (0 ≤ t4)) ∧ (t4 ≤ 200)) ∧ (1 ≤ t5)) ∧ (t5 ≤ 200)) ∧ (t3 ≤ (t4 - t5))) →
      InR .i64 (k1 + 1) ∧
      (I0 (k1 + 1) w2 ∧ M0 (k1 + 1) w2 < M0 k1 w2))) ∧
    (((ll : Int) ≤ k1) →
     ∀ w3, Ext w2 w3 →
     Q (.int .i64 0) w3))

theorem ok_due_Check (l : Option Addr) (ll : Nat) (lc : Nat) (w : World) (Q : Value → World → Prop) (h : wp_due_Check l ll lc w Q) : FnP Try.prog F_due_Check #[(.slice l ll lc)] w Q := by
  have e_ : wp_due_Check l ll lc w Q = Runs Try.prog Q ({ N := 48, wrap := [], pub := [], muts := [] } : Cfg) Try.f15 (Try.f15.body.getD .skip) [.sc (.slc l ll lc)] w := by kernel_rfl
  rw [e_] at h
  exact runs_fn h Try.func15 (by kernel_rfl) (fun args w => Try.call15 args w) (by kernel_rfl) (by kernel_rfl) rfl rfl

/-- shiftbell/due.run -/
def wp_due_run (l : Option Addr) (ll : Nat) (lc : Nat) (w : World) (Q : Value → World → Prop) : Prop :=
  ∀ w0, Ext w w0 →
  Run Try.prog (.makeSlice 24 (.int .i64 (ll : Int)) (.int .i64 (ll : Int))) w0 fun v1 w1 =>
   Ext w0 w1 ∧
   ∃ t2 : Option Addr, ∃ tl3 : Nat, ∃ tc4 : Nat, v1 = (.slice t2 tl3 tc4) ∧
   ∀ w5, Ext w1 w5 →
   Run Try.prog (.makeSlice 48 (.int .i64 (ll : Int)) (.int .i64 (ll : Int))) w5 fun v6 w6 =>
    Ext w5 w6 ∧
    ∃ t7 : Option Addr, ∃ tl8 : Nat, ∃ tc9 : Nat, v6 = (.slice t7 tl8 tc9) ∧
    ∃ (I10 : Int → World → Prop) (M10 : Int → World → Nat), I10 0 w6 ∧
    ∀ (k11 : Int) (w12 : World), I10 k11 w12 →
     ((k11 < (ll : Int)) →
      l ≠ none ∧
      (0 : Int) ≤ k11 ∧
      (k11 : Int) < (ll : Int) ∧
      (pIdx l k11 3) ≠ none ∧
      ∃ t13 : Int, cell w12 (pIdx l k11 3) 0 = some (.int .i64 t13) ∧
      ∃ t14 : Int, cell w12 (pIdx l k11 3) 1 = some (.int .i64 t14) ∧
      ∃ t15 : Int, cell w12 (pIdx l k11 3) 2 = some (.int .i64 t15) ∧
      ∀ b16 : Nat, w12.heap.size ≤ b16 → t2 ≠ none ∧
      (0 : Int) ≤ k11 ∧
      (k11 : Int) < (tl3 : Int) ∧
      Store w12 (pIdx t2 k11 1) [(.int .i64 t15)] [b16] fun w17 =>
       InR .i64 (k11 + 1) ∧
       (I10 (k11 + 1) w17 ∧ M10 (k11 + 1) w17 < M10 k11 w12)) ∧
     (((ll : Int) ≤ k11) →
      ∃ (I13 : Option Addr → Nat → Nat → Int → World → Prop) (M13 : Option Addr → Nat → Nat → Int → World → Nat), I13 none 0 0 0 w12 ∧
      ∀ (row14 : Option Addr) (rowl14 : Nat) (rowc14 : Nat) (k15 : Int) (w16 : World), I13 row14 rowl14 rowc14 k15 w16 →
       ((k15 < 200) →
        ∃ (I17 : Int → Int → World → Prop) (M17 : Int → Int → World → Nat), I17 (-1) 0 w16 ∧
        ∀ (best18 : Int) (k19 : Int) (w20 : World), I17 best18 k19 w20 →
         ((k19 < (ll : Int)) →
          l ≠ none ∧
          (0 : Int) ≤ k19 ∧
          (k19 : Int) < (ll : Int) ∧
          (pIdx l k19 3) ≠ none ∧
          ∃ t21 : Int, cell w20 (pIdx l k19 3) 0 = some (.int .i64 t21) ∧
          ∃ t22 : Int, cell w20 (pIdx l k19 3) 1 = some (.int .i64 t22) ∧
          ∃ t23 : Int, cell w20 (pIdx l k19 3) 2 = some (.int .i64 t23) ∧
          ∀ b24 : Nat, w20.heap.size ≤ b24 → ((t21 ≤ k15) →
           t2 ≠ none) ∧
          ((t21 ≤ k15) →
           (0 : Int) ≤ k19) ∧
          ((t21 ≤ k15) →
           (k19 : Int) < (tl3 : Int)) ∧
          ((t21 ≤ k15) →
           ∃ t25 : Int, cell w20 (pIdx t2 k19 1) 0 = some (.int .i64 t25) ∧
           ((0 < t25) →
            ((0 ≤ best18) →
             l ≠ none)) ∧
           ((0 < t25) →
            ((0 ≤ best18) →
             (0 : Int) ≤ best18)) ∧
           ((0 < t25) →
            ((0 ≤ best18) →
             (best18 : Int) < (ll : Int))) ∧
           ((0 < t25) →
            ((0 ≤ best18) →
             (pIdx l best18 3) ≠ none)) ∧
           ((0 < t25) →
            ((best18 < 0) →
             InR .i64 (k19 + 1) ∧
             (I17 k19 (k19 + 1) w20 ∧ M17 k19 (k19 + 1) w20 < M17 best18 k19 w20)) ∧
            ((0 ≤ best18) →
             ∃ t26 : Int, cell w20 (pAdd (pIdx l best18 3) 1) 0 = some (.int .i64 t26) ∧
             ((t22 < t26) →
              InR .i64 (k19 + 1) ∧
              (I17 k19 (k19 + 1) w20 ∧ M17 k19 (k19 + 1) w20 < M17 best18 k19 w20)) ∧
             ((t26 ≤ t22) →
              InR .i64 (k19 + 1) ∧
              (I17 best18 (k19 + 1) w20 ∧ M17 best18 (k19 + 1) w20 < M17 best18 k19 w20)))) ∧
           ((t25 ≤ 0) →
            InR .i64 (k19 + 1) ∧
            (I17 best18 (k19 + 1) w20 ∧ M17 best18 (k19 + 1) w20 < M17 best18 k19 w20))) ∧
          ((k15 < t21) →
           InR .i64 (k19 + 1) ∧
           (I17 best18 (k19 + 1) w20 ∧ M17 best18 (k19 + 1) w20 < M17 best18 k19 w20))) ∧
         (((ll : Int) ≤ k19) →
          ∀ w21, Ext w20 w21 →
          Run Try.prog (.buildSlice 24 1 [(0, (.int .i64 best18))]) w21 fun v22 w22 =>
           Ext w21 w22 ∧
           ∃ t23 : Option Addr, ∃ tl24 : Nat, ∃ tc25 : Nat, v22 = (.slice t23 tl24 tc25) ∧
           ∀ w26, Ext w22 w26 →
           Run Try.prog (.append #[24, 24] 24 [(.slice row14 rowl14 rowc14), (.slice t23 tl24 tc25)]) w26 fun v27 w27 =>
            ∃ t28 : Option Addr, ∃ tl29 : Nat, ∃ tc30 : Nat, v27 = (.slice t28 tl29 tc30) ∧
            ((0 ≤ best18) →
             t2 ≠ none ∧
             (0 : Int) ≤ best18 ∧
             (best18 : Int) < (tl3 : Int) ∧
             ∃ t31 : Int, cell w27 (pIdx t2 best18 1) 0 = some (.int .i64 t31) ∧
             InR .i64 (t31 - 1) ∧
             t2 ≠ none ∧
             (0 : Int) ≤ best18 ∧
             (best18 : Int) < (tl3 : Int) ∧
             Store w27 (pIdx t2 best18 1) [(.int .i64 (t31 - 1))] [] fun w32 =>
              t7 ≠ none ∧
              (0 : Int) ≤ best18 ∧
              (best18 : Int) < (tl8 : Int) ∧
              ∃ t33 : Bool, cell w32 (pIdx t7 best18 1) 0 = some (.bool t33) ∧
              ((t33 = false) →
               l ≠ none) ∧
              ((t33 = false) →
               (0 : Int) ≤ best18) ∧
              ((t33 = false) →
               (best18 : Int) < (ll : Int)) ∧
              ((t33 = false) →
               (pIdx l best18 3) ≠ none) ∧
              ((t33 = true) →
               t7 ≠ none ∧
               (0 : Int) ≤ best18 ∧
               (best18 : Int) < (tl8 : Int) ∧
               Store w32 (pIdx t7 best18 1) [(.bool true)] [] fun w34 =>
                InR .i64 (k15 + 1) ∧
                (I13 t28 tl29 tc30 (k15 + 1) w34 ∧ M13 t28 tl29 tc30 (k15 + 1) w34 < M13 row14 rowl14 rowc14 k15 w16)) ∧
              ((t33 = false) →
               ∃ t34 : Int, cell w32 (pAdd (pIdx l best18 3) 1) 0 = some (.int .i64 t34) ∧
               t7 ≠ none ∧
               (0 : Int) ≤ best18 ∧
               (best18 : Int) < (tl8 : Int) ∧
               Store w32 (pIdx t7 best18 1) [(.bool (decide (t34 ≤ k15)))] [] fun w35 =>
                InR .i64 (k15 + 1) ∧
                (I13 t28 tl29 tc30 (k15 + 1) w35 ∧ M13 t28 tl29 tc30 (k15 + 1) w35 < M13 row14 rowl14 rowc14 k15 w16))) ∧
            ((best18 < 0) →
             InR .i64 (k15 + 1) ∧
             (I13 t28 tl29 tc30 (k15 + 1) w27 ∧ M13 t28 tl29 tc30 (k15 + 1) w27 < M13 row14 rowl14 rowc14 k15 w16)))) ∧
       ((200 ≤ k15) →
        ∃ (I17 : Option Addr → Nat → Nat → Int → World → Prop) (M17 : Option Addr → Nat → Nat → Int → World → Nat), I17 none 0 0 0 w16 ∧
        ∀ (late18 : Option Addr) (latel18 : Nat) (latec18 : Nat) (k19 : Int) (w20 : World), I17 late18 latel18 latec18 k19 w20 →
         ((k19 < (ll : Int)) →
          t7 ≠ none ∧
          (0 : Int) ≤ k19 ∧
          (k19 : Int) < (tl8 : Int) ∧
          ∃ t21 : Bool, cell w20 (pIdx t7 k19 1) 0 = some (.bool t21) ∧
          ((t21 = false) →
           t2 ≠ none) ∧
          ((t21 = false) →
           (0 : Int) ≤ k19) ∧
          ((t21 = false) →
           (k19 : Int) < (tl3 : Int)) ∧
          ((t21 = true) →
           ∀ w22, Ext w20 w22 →
           Run Try.prog (.buildSlice 24 1 [(0, (.int .i64 k19))]) w22 fun v23 w23 =>
            Ext w22 w23 ∧
            ∃ t24 : Option Addr, ∃ tl25 : Nat, ∃ tc26 : Nat, v23 = (.slice t24 tl25 tc26) ∧
            ∀ w27, Ext w23 w27 →
            Run Try.prog (.append #[24, 24] 24 [(.slice late18 latel18 latec18), (.slice t24 tl25 tc26)]) w27 fun v28 w28 =>
             ∃ t29 : Option Addr, ∃ tl30 : Nat, ∃ tc31 : Nat, v28 = (.slice t29 tl30 tc31) ∧
             InR .i64 (k19 + 1) ∧
             (I17 t29 tl30 tc31 (k19 + 1) w28 ∧ M17 t29 tl30 tc31 (k19 + 1) w28 < M17 late18 latel18 latec18 k19 w20)) ∧
          ((t21 = false) →
           ∃ t22 : Int, cell w20 (pIdx t2 k19 1) 0 = some (.int .i64 t22) ∧
           ((0 < t22) →
            ∀ w23, Ext w20 w23 →
            Run Try.prog (.buildSlice 24 1 [(0, (.int .i64 k19))]) w23 fun v24 w24 =>
             Ext w23 w24 ∧
             ∃ t25 : Option Addr, ∃ tl26 : Nat, ∃ tc27 : Nat, v24 = (.slice t25 tl26 tc27) ∧
             ∀ w28, Ext w24 w28 →
             Run Try.prog (.append #[24, 24] 24 [(.slice late18 latel18 latec18), (.slice t25 tl26 tc27)]) w28 fun v29 w29 =>
              ∃ t30 : Option Addr, ∃ tl31 : Nat, ∃ tc32 : Nat, v29 = (.slice t30 tl31 tc32) ∧
              InR .i64 (k19 + 1) ∧
              (I17 t30 tl31 tc32 (k19 + 1) w29 ∧ M17 t30 tl31 tc32 (k19 + 1) w29 < M17 late18 latel18 latec18 k19 w20)) ∧
           ((t22 ≤ 0) →
            InR .i64 (k19 + 1) ∧
            (I17 late18 latel18 latec18 (k19 + 1) w20 ∧ M17 late18 latel18 latec18 (k19 + 1) w20 < M17 late18 latel18 latec18 k19 w20)))) ∧
         (((ll : Int) ≤ k19) →
          ∀ w21, Ext w20 w21 →
          Q (.tuple #[(.slice row14 rowl14 rowc14), (.slice late18 latel18 latec18)]) w21)))

theorem ok_due_run (l : Option Addr) (ll : Nat) (lc : Nat) (w : World) (Q : Value → World → Prop) (h : wp_due_run l ll lc w Q) : FnP Try.prog F_due_run #[(.slice l ll lc)] w Q := by
  have e_ : wp_due_run l ll lc w Q = Runs Try.prog Q ({ N := 121, wrap := [], pub := [], muts := [] } : Cfg) Try.f16 (Try.f16.body.getD .skip) [.sc (.slc l ll lc)] w := by kernel_rfl
  rw [e_] at h
  exact runs_fn h Try.func16 (by kernel_rfl) (fun args w => Try.call16 args w) (by kernel_rfl) (by kernel_rfl) rfl rfl

/-- shiftbell/due.Run -/
def wp_due_Run (l : Option Addr) (ll : Nat) (lc : Nat) (w : World) (Q : Value → World → Prop) : Prop :=
  ∀ w0, Ext w w0 →
  FnP Try.prog F_due_Check #[(.slice l ll lc)] w0 fun v1 w1 =>
   Ext w0 w1 ∧
   ∃ t2 : Int, v1 = (.int .i64 t2) ∧
   ((t2 ≠ 0) →
    ∀ w3, Ext w w3 →
    Q (.tuple #[(.slice none 0 0), (.slice none 0 0), (.int .i64 t2)]) w3) ∧
   ((t2 = 0) →
    ∀ w3, Ext w w3 →
    FnP Try.prog F_due_run #[(.slice l ll lc)] w3 fun v4 w4 =>
     Ext w3 w4 ∧
     ∃ t5 : Option Addr, ∃ tl6 : Nat, ∃ tc7 : Nat, ∃ t8 : Option Addr, ∃ tl9 : Nat, ∃ tc10 : Nat, v4 = (.tuple #[(.slice t5 tl6 tc7), (.slice t8 tl9 tc10)]) ∧
     ∀ w11, Ext w4 w11 →
     Q (.tuple #[(.slice t5 tl6 tc7), (.slice t8 tl9 tc10), (.int .i64 0)]) w11)

theorem ok_due_Run (l : Option Addr) (ll : Nat) (lc : Nat) (w : World) (Q : Value → World → Prop) (h : wp_due_Run l ll lc w Q) : FnP Try.prog F_due_Run #[(.slice l ll lc)] w Q := by
  have e_ : wp_due_Run l ll lc w Q = Runs Try.prog Q ({ N := 20, wrap := [], pub := [], muts := [] } : Cfg) Try.f8 (Try.f8.body.getD .skip) [.sc (.slc l ll lc)] w := by kernel_rfl
  rw [e_] at h
  exact runs_fn h Try.func8 (by kernel_rfl) (fun args w => Try.call8 args w) (by kernel_rfl) (by kernel_rfl) rfl rfl

/-- shiftbell/due.Fits -/
def wp_due_Fits (l : Option Addr) (ll : Nat) (lc : Nat) (w : World) (Q : Value → World → Prop) : Prop :=
  ∀ w0, Ext w w0 →
  FnP Try.prog F_due_Check #[(.slice l ll lc)] w0 fun v1 w1 =>
   Ext w0 w1 ∧
   ∃ t2 : Int, v1 = (.int .i64 t2) ∧
   ((t2 ≠ 0) →
    ∀ w3, Ext w w3 →
    Q (.tuple #[(.bool false), (.int .i64 t2)]) w3) ∧
   ((t2 = 0) →
    ∀ w3, Ext w w3 →
    FnP Try.prog F_due_run #[(.slice l ll lc)] w3 fun v4 w4 =>
     Ext w3 w4 ∧
     ∃ t5 : Option Addr, ∃ tl6 : Nat, ∃ tc7 : Nat, ∃ t8 : Option Addr, ∃ tl9 : Nat, ∃ tc10 : Nat, v4 = (.tuple #[(.slice t5 tl6 tc7), (.slice t8 tl9 tc10)]) ∧
     ∀ w11, Ext w4 w11 →
     Q (.tuple #[(.bool (decide ((tl9 : Int) = 0))), (.int .i64 0)]) w11)

theorem ok_due_Fits (l : Option Addr) (ll : Nat) (lc : Nat) (w : World) (Q : Value → World → Prop) (h : wp_due_Fits l ll lc w Q) : FnP Try.prog F_due_Fits #[(.slice l ll lc)] w Q := by
  have e_ : wp_due_Fits l ll lc w Q = Runs Try.prog Q ({ N := 20, wrap := [], pub := [], muts := [] } : Cfg) Try.f9 (Try.f9.body.getD .skip) [.sc (.slc l ll lc)] w := by kernel_rfl
  rw [e_] at h
  exact runs_fn h Try.func9 (by kernel_rfl) (fun args w => Try.call9 args w) (by kernel_rfl) (by kernel_rfl) rfl rfl

/-- shiftbell/due.Valid -/
def wp_due_Valid (l : Option Addr) (ll : Nat) (lc : Nat) (row : Option Addr) (rowl : Nat) (rowc : Nat) (w : World) (Q : Value → World → Prop) : Prop :=
  ∀ w0, Ext w w0 →
  FnP Try.prog F_due_Check #[(.slice l ll lc)] w0 fun v1 w1 =>
   Ext w0 w1 ∧
   ∃ t2 : Int, v1 = (.int .i64 t2) ∧
   ((t2 ≠ 0) →
    ∀ w3, Ext w w3 →
    Q (.tuple #[(.bool false), (.int .i64 t2)]) w3) ∧
   ((t2 = 0) →
    (((rowl : Int) ≠ 200) →
     ∀ w3, Ext w w3 →
     Q (.tuple #[(.bool false), (.int .i64 0)]) w3) ∧
    (((rowl : Int) = 200) →
     ∀ w3, Ext w w3 →
     Run Try.prog (.makeSlice 24 (.int .i64 (ll : Int)) (.int .i64 (ll : Int))) w3 fun v4 w4 =>
      Ext w3 w4 ∧
      ∃ t5 : Option Addr, ∃ tl6 : Nat, ∃ tc7 : Nat, v4 = (.slice t5 tl6 tc7) ∧
      ∃ (I8 : Int → World → Prop) (M8 : Int → World → Nat), I8 0 w4 ∧
      ∀ (k9 : Int) (w10 : World), I8 k9 w10 →
       ((k9 < (ll : Int)) →
        l ≠ none ∧
        (0 : Int) ≤ k9 ∧
        (k9 : Int) < (ll : Int) ∧
        (pIdx l k9 3) ≠ none ∧
        ∃ t11 : Int, cell w10 (pIdx l k9 3) 0 = some (.int .i64 t11) ∧
        ∃ t12 : Int, cell w10 (pIdx l k9 3) 1 = some (.int .i64 t12) ∧
        ∃ t13 : Int, cell w10 (pIdx l k9 3) 2 = some (.int .i64 t13) ∧
        ∀ b14 : Nat, w10.heap.size ≤ b14 → t5 ≠ none ∧
        (0 : Int) ≤ k9 ∧
        (k9 : Int) < (tl6 : Int) ∧
        Store w10 (pIdx t5 k9 1) [(.int .i64 t13)] [b14] fun w15 =>
         InR .i64 (k9 + 1) ∧
         (I8 (k9 + 1) w15 ∧ M8 (k9 + 1) w15 < M8 k9 w10)) ∧
       (((ll : Int) ≤ k9) →
        ∃ (I11 : Int → World → Prop) (M11 : Int → World → Nat), I11 0 w10 ∧
        ∀ (k12 : Int) (w13 : World), I11 k12 w13 →
         ((k12 < (rowl : Int)) →
          row ≠ none ∧
          (0 : Int) ≤ k12 ∧
          (k12 : Int) < (rowl : Int) ∧
          ∃ t14 : Int, cell w13 (pIdx row k12 1) 0 = some (.int .i64 t14) ∧
          ((t14 = (-1)) →
           InR .i64 (k12 + 1) ∧
           (I11 (k12 + 1) w13 ∧ M11 (k12 + 1) w13 < M11 k12 w13)) ∧
          ((t14 ≠ (-1)) →
           (((0 ≤ t14) ∧ (t14 < (ll : Int))) →
            l ≠ none) ∧
           (((0 ≤ t14) ∧ (t14 < (ll : Int))) →
            (0 : Int) ≤ t14) ∧
           (((0 ≤ t14) ∧ (t14 < (ll : Int))) →
            (t14 : Int) < (ll : Int)) ∧
           (((0 ≤ t14) ∧ (t14 < (ll : Int))) →
            (pIdx l t14 3) ≠ none) ∧
           (((t14 < 0) ∨ ((ll : Int) ≤ t14)) →
            ∀ w15, Ext w13 w15 →
            Q (.tuple #[(.bool false), (.int .i64 0)]) w15) ∧
           (((0 ≤ t14) ∧ (t14 < (ll : Int))) →
            ∃ t15 : Int, cell w13 (pAdd (pIdx l t14 3) 0) 0 = some (.int .i64 t15) ∧
            ((t15 ≤ k12) →
             l ≠ none) ∧
            ((t15 ≤ k12) →
             (0 : Int) ≤ t14) ∧
            ((t15 ≤ k12) →
             (t14 : Int) < (ll : Int)) ∧
            ((t15 ≤ k12) →
             (pIdx l t14 3) ≠ none) ∧
            ((k12 < t15) →
             ∀ w16, Ext w13 w16 →
             Q (.tuple #[(.bool false), (.int .i64 0)]) w16) ∧
            ((t15 ≤ k12) →
             ∃ t16 : Int, cell w13 (pAdd (pIdx l t14 3) 1) 0 = some (.int .i64 t16) ∧
             ((t16 ≤ k12) →
              ∀ w17, Ext w13 w17 →
              Q (.tuple #[(.bool false), (.int .i64 0)]) w17) ∧
             ((k12 < t16) →
              t5 ≠ none ∧
              (0 : Int) ≤ t14 ∧
              (t14 : Int) < (tl6 : Int) ∧
              ∃ t17 : Int, cell w13 (pIdx t5 t14 1) 0 = some (.int .i64 t17) ∧
              InR .i64 (t17 - 1) ∧
              t5 ≠ none ∧
              (0 : Int) ≤ t14 ∧
              (t14 : Int) < (tl6 : Int) ∧
              Store w13 (pIdx t5 t14 1) [(.int .i64 (t17 - 1))] [] fun w18 =>
               InR .i64 (k12 + 1) ∧
               (I11 (k12 + 1) w18 ∧ M11 (k12 + 1) w18 < M11 k12 w13)))))) ∧
         (((rowl : Int) ≤ k12) →
          ∃ (I14 : Int → World → Prop) (M14 : Int → World → Nat), I14 0 w13 ∧
          ∀ (k15 : Int) (w16 : World), I14 k15 w16 →
           ((k15 < (tl6 : Int)) →
            t5 ≠ none ∧
            (0 : Int) ≤ k15 ∧
            (k15 : Int) < (tl6 : Int) ∧
            ∃ t17 : Int, cell w16 (pIdx t5 k15 1) 0 = some (.int .i64 t17) ∧
            ((t17 ≠ 0) →
             ∀ w18, Ext w16 w18 →
             Q (.tuple #[(.bool false), (.int .i64 0)]) w18) ∧
            ((t17 = 0) →
             InR .i64 (k15 + 1) ∧
             (I14 (k15 + 1) w16 ∧ M14 (k15 + 1) w16 < M14 k15 w16))) ∧
           (((tl6 : Int) ≤ k15) →
            ∀ w17, Ext w16 w17 →
            Q (.tuple #[(.bool true), (.int .i64 0)]) w17)))))

theorem ok_due_Valid (l : Option Addr) (ll : Nat) (lc : Nat) (row : Option Addr) (rowl : Nat) (rowc : Nat) (w : World) (Q : Value → World → Prop) (h : wp_due_Valid l ll lc row rowl rowc w Q) : FnP Try.prog F_due_Valid #[(.slice l ll lc), (.slice row rowl rowc)] w Q := by
  have e_ : wp_due_Valid l ll lc row rowl rowc w Q = Runs Try.prog Q ({ N := 91, wrap := [], pub := [], muts := [] } : Cfg) Try.f13 (Try.f13.body.getD .skip) [.sc (.slc l ll lc), .sc (.slc row rowl rowc)] w := by kernel_rfl
  rw [e_] at h
  exact runs_fn h Try.func13 (by kernel_rfl) (fun args w => Try.call13 args w) (by kernel_rfl) (by kernel_rfl) rfl rfl

/-- shiftbell/shiftbellkeep.dues -/
def wp_shiftbellkeep_dues  (w : World) (Q : Value → World → Prop) : Prop :=
  ∀ w0, Ext w w0 →
  Run Try.prog (.buildSlice 22 1 [(0, (.agg #[(.int .i64 0), (.int .i64 2), (.int .i64 2)]))]) w0 fun v1 w1 =>
   Ext w0 w1 ∧
   ∃ t2 : Option Addr, ∃ tl3 : Nat, ∃ tc4 : Nat, v1 = (.slice t2 tl3 tc4) ∧
   ∀ w5, Ext w1 w5 →
   FnP Try.prog F_due_Fits #[(.slice t2 tl3 tc4)] w5 fun v6 w6 =>
    Ext w5 w6 ∧
    ∃ t7 : Bool, ∃ t8 : Int, v6 = (.tuple #[(.bool t7), (.int .i64 t8)]) ∧
    ∀ w9, Ext w1 w9 →
    Q (.bool ((decide (t8 = 0)) && t7)) w9

theorem ok_shiftbellkeep_dues  (w : World) (Q : Value → World → Prop) (h : wp_shiftbellkeep_dues  w Q) : FnP Try.prog F_shiftbellkeep_dues #[] w Q := by
  have e_ : wp_shiftbellkeep_dues  w Q = Runs Try.prog Q ({ N := 14, wrap := [], pub := [], muts := [] } : Cfg) Try.f7 (Try.f7.body.getD .skip) [] w := by kernel_rfl
  rw [e_] at h
  exact runs_fn h Try.func7 (by kernel_rfl) (fun args w => Try.call7 args w) (by kernel_rfl) (by kernel_rfl) rfl rfl

/-- shiftbell/shiftbellkeep.DueBusy -/
def wp_shiftbellkeep_DueBusy (l : Option Addr) (ll : Nat) (lc : Nat) (now : Int) (i : Int) (w : World) (Q : Value → World → Prop) : Prop :=
  ∀ w0, Ext w w0 →
  FnP Try.prog F_shiftbellkeep_dues #[] w0 fun v1 w1 =>
   Ext w0 w1 ∧
   ∃ t2 : Bool, v1 = (.bool t2) ∧
   ((t2 = false) →
    ∀ w3, Ext w w3 →
    Q (.bool false) w3) ∧
   ((t2 = true) →
    ∀ w3, Ext w w3 →
    FnP Try.prog F_due_Run #[(.slice l ll lc)] w3 fun v4 w4 =>
     Ext w3 w4 ∧
     ∃ t5 : Option Addr, ∃ tl6 : Nat, ∃ tc7 : Nat, ∃ t8 : Option Addr, ∃ tl9 : Nat, ∃ tc10 : Nat, ∃ t11 : Int, v4 = (.tuple #[(.slice t5 tl6 tc7), (.slice t8 tl9 tc10), (.int .i64 t11)]) ∧
     (((t11 ≠ 0) ∨ ((tl6 : Int) ≠ 200)) →
      ((t11 ≠ 0) →
       InR .i64 ((tl6 : Int) + (tl9 : Int))) ∧
      ∀ w12, Ext w4 w12 →
      Q (.bool ((decide (t11 ≠ 0)) && (decide (((tl6 : Int) + (tl9 : Int)) = 0)))) w12) ∧
     (((t11 = 0) ∧ ((tl6 : Int) = 200)) →
      (((((0 ≤ now) ∧ (now < (tl6 : Int))) ∧ (0 ≤ i)) ∧ (i < (ll : Int))) →
       l ≠ none) ∧
      (((((0 ≤ now) ∧ (now < (tl6 : Int))) ∧ (0 ≤ i)) ∧ (i < (ll : Int))) →
       (0 : Int) ≤ i) ∧
      (((((0 ≤ now) ∧ (now < (tl6 : Int))) ∧ (0 ≤ i)) ∧ (i < (ll : Int))) →
       (i : Int) < (ll : Int)) ∧
      (((((0 ≤ now) ∧ (now < (tl6 : Int))) ∧ (0 ≤ i)) ∧ (i < (ll : Int))) →
       (pIdx l i 3) ≠ none) ∧
      (((((now < 0) ∨ ((tl6 : Int) ≤ now)) ∨ (i < 0)) ∨ ((ll : Int) ≤ i)) →
       ∀ w12, Ext w4 w12 →
       Q (.bool true) w12) ∧
      (((((0 ≤ now) ∧ (now < (tl6 : Int))) ∧ (0 ≤ i)) ∧ (i < (ll : Int))) →
       ∃ t12 : Int, cell w4 (pAdd (pIdx l i 3) 0) 0 = some (.int .i64 t12) ∧
       ((now < t12) →
        ∀ w13, Ext w4 w13 →
        Q (.bool true) w13) ∧
       ((t12 ≤ now) →
        (0 : Int) ≤ 0 ∧
        (0 : Int) ≤ now ∧
        (now : Int) ≤ (tc7 : Int) ∧
        ∃ (I13 : Int → Int → World → Prop) (M13 : Int → Int → World → Nat), I13 0 0 w4 ∧
        ∀ (done14 : Int) (k15 : Int) (w16 : World), I13 done14 k15 w16 →
         ((k15 < ((now - 0).toNat : Int)) →
          (pCut t5 tc7 0 1) ≠ none ∧
          (0 : Int) ≤ k15 ∧
          (k15 : Int) < ((now - 0).toNat : Int) ∧
          ∃ t17 : Int, cell w16 (pIdx (pCut t5 tc7 0 1) k15 1) 0 = some (.int .i64 t17) ∧
          ((t17 = i) →
           InR .i64 (done14 + 1) ∧
           InR .i64 (k15 + 1) ∧
           (I13 (done14 + 1) (k15 + 1) w16 ∧ M13 (done14 + 1) (k15 + 1) w16 < M13 done14 k15 w16)) ∧
          ((t17 ≠ i) →
           InR .i64 (k15 + 1) ∧
           (I13 done14 (k15 + 1) w16 ∧ M13 done14 (k15 + 1) w16 < M13 done14 k15 w16))) ∧
         ((((now - 0).toNat : Int) ≤ k15) →
          t5 ≠ none ∧
          (0 : Int) ≤ now ∧
          (now : Int) < (tl6 : Int) ∧
          ∃ t17 : Int, cell w16 (pIdx t5 now 1) 0 = some (.int .i64 t17) ∧
          l ≠ none ∧
          (0 : Int) ≤ i ∧
          (i : Int) < (ll : Int) ∧
          (pIdx l i 3) ≠ none ∧
          ∃ t18 : Int, cell w16 (pAdd (pIdx l i 3) 2) 0 = some (.int .i64 t18) ∧
          ((done14 < t18) →
           (((0 ≤ t17) ∧ (t17 < (ll : Int))) →
            l ≠ none)) ∧
          ((done14 < t18) →
           (((0 ≤ t17) ∧ (t17 < (ll : Int))) →
            (0 : Int) ≤ t17)) ∧
          ((done14 < t18) →
           (((0 ≤ t17) ∧ (t17 < (ll : Int))) →
            (t17 : Int) < (ll : Int))) ∧
          ((done14 < t18) →
           (((0 ≤ t17) ∧ (t17 < (ll : Int))) →
            (pIdx l t17 3) ≠ none)) ∧
          ((t18 ≤ done14) →
           ∀ w19, Ext w16 w19 →
           Q (.bool true) w19) ∧
          ((done14 < t18) →
           (((0 ≤ t17) ∧ (t17 < (ll : Int))) →
            ∃ t19 : Int, cell w16 (pAdd (pIdx l t17 3) 1) 0 = some (.int .i64 t19) ∧
            l ≠ none ∧
            (0 : Int) ≤ i ∧
            (i : Int) < (ll : Int) ∧
            (pIdx l i 3) ≠ none ∧
            ∃ t20 : Int, cell w16 (pAdd (pIdx l i 3) 1) 0 = some (.int .i64 t20) ∧
            ∀ w21, Ext w16 w21 →
            Q (.bool (decide (t19 ≤ t20))) w21) ∧
           (((t17 < 0) ∨ ((ll : Int) ≤ t17)) →
            ∀ w19, Ext w16 w19 →
            Q (.bool false) w19)))))))

theorem ok_shiftbellkeep_DueBusy (l : Option Addr) (ll : Nat) (lc : Nat) (now : Int) (i : Int) (w : World) (Q : Value → World → Prop) (h : wp_shiftbellkeep_DueBusy l ll lc now i w Q) : FnP Try.prog F_shiftbellkeep_DueBusy #[(.slice l ll lc), (.int .i64 now), (.int .i64 i)] w Q := by
  have e_ : wp_shiftbellkeep_DueBusy l ll lc now i w Q = Runs Try.prog Q ({ N := 114, wrap := [], pub := [], muts := [] } : Cfg) Try.f3 (Try.f3.body.getD .skip) [.sc (.slc l ll lc), .sc (.int .i64 now), .sc (.int .i64 i)] w := by kernel_rfl
  rw [e_] at h
  exact runs_fn h Try.func3 (by kernel_rfl) (fun args w => Try.call3 args w) (by kernel_rfl) (by kernel_rfl) rfl rfl

theorem open_shiftbellkeep_DueBusy (W : World) (R : Array Value → Prop) (h : ∀ l : Option Addr, ∀ ll : Nat, ∀ lc : Nat, SlcArg Try.prog W 29 l ll lc → ∀ now : Int, InR .i64 now → ∀ i : Int, InR .i64 i → R #[(.slice l ll lc), (.int .i64 now), (.int .i64 i)]) (args : Array Value) (hg : GoodAll Try.prog W Try.f3.params.toList args.toList) : R args := by
  have e_ : (ArgsAll Try.prog W Try.f3.params.toList fun l => R l.toArray) = (∀ l : Option Addr, ∀ ll : Nat, ∀ lc : Nat, SlcArg Try.prog W 29 l ll lc → ∀ now : Int, InR .i64 now → ∀ i : Int, InR .i64 i → R #[(.slice l ll lc), (.int .i64 now), (.int .i64 i)]) := by kernel_rfl
  exact args_open (by rw [e_]; exact h) args hg
-- wit 3 #[(.slice none 0 0), (.int .i64 0), (.int .i64 0)]

/-- shiftbell/shiftbellkeep.DueBest -/
def wp_shiftbellkeep_DueBest (l : Option Addr) (ll : Nat) (lc : Nat) (row : Option Addr) (rowl : Nat) (rowc : Nat) (w : World) (Q : Value → World → Prop) : Prop :=
  ∀ w0, Ext w w0 →
  FnP Try.prog F_shiftbellkeep_dues #[] w0 fun v1 w1 =>
   Ext w0 w1 ∧
   ∃ t2 : Bool, v1 = (.bool t2) ∧
   ((t2 = false) →
    ∀ w3, Ext w w3 →
    Q (.bool false) w3) ∧
   ((t2 = true) →
    ∀ w3, Ext w w3 →
    FnP Try.prog F_due_Valid #[(.slice l ll lc), (.slice row rowl rowc)] w3 fun v4 w4 =>
     Ext w3 w4 ∧
     ∃ t5 : Bool, ∃ t6 : Int, v4 = (.tuple #[(.bool t5), (.int .i64 t6)]) ∧
     ∀ w7, Ext w w7 →
     FnP Try.prog F_due_Fits #[(.slice l ll lc)] w7 fun v8 w8 =>
      Ext w7 w8 ∧
      ∃ t9 : Bool, ∃ t10 : Int, v8 = (.tuple #[(.bool t9), (.int .i64 t10)]) ∧
      ∀ w11, Ext w w11 →
      FnP Try.prog F_due_Run #[(.slice l ll lc)] w11 fun v12 w12 =>
       Ext w11 w12 ∧
       ∃ t13 : Option Addr, ∃ tl14 : Nat, ∃ tc15 : Nat, ∃ t16 : Option Addr, ∃ tl17 : Nat, ∃ tc18 : Nat, ∃ t19 : Int, v12 = (.tuple #[(.slice t13 tl14 tc15), (.slice t16 tl17 tc18), (.int .i64 t19)]) ∧
       ((t6 ≠ 0) →
        (((((t5 = false) ∧ (t9 = false)) ∧ (t10 = t6)) ∧ (t19 = t6)) →
         InR .i64 ((tl14 : Int) + (tl17 : Int))) ∧
        ∀ w20, Ext w12 w20 →
        Q (.bool (((((!t5) && (!t9)) && (decide (t10 = t6))) && (decide (t19 = t6))) && (decide (((tl14 : Int) + (tl17 : Int)) = 0)))) w20) ∧
       ((t6 = 0) →
        ∀ w20, Ext w12 w20 →
        FnP Try.prog F_due_Valid #[(.slice l ll lc), (.slice t13 tl14 tc15)] w20 fun v21 w21 =>
         Ext w20 w21 ∧
         ∃ t22 : Bool, ∃ t23 : Int, v21 = (.tuple #[(.bool t22), (.int .i64 t23)]) ∧
         ∀ w24, Ext w12 w24 →
         Run Try.prog (.buildSlice 45 3 [(0, (.int .i64 t10)), (1, (.int .i64 t19)), (2, (.int .i64 t23))]) w24 fun v25 w25 =>
          Ext w24 w25 ∧
          ∃ t26 : Option Addr, ∃ tl27 : Nat, ∃ tc28 : Nat, v25 = (.slice t26 tl27 tc28) ∧
          ∀ w29, Ext w25 w29 →
          FnP Try.prog F_shiftbellkeep_good #[(.slice t26 tl27 tc28)] w29 fun v30 w30 =>
           Ext w29 w30 ∧
           ∃ t31 : Bool, v30 = (.bool t31) ∧
           ∀ w32, Ext w25 w32 →
           Q (.bool (((t31 && ((!t5) || t9)) && ((t22 && t9) || ((!t22) && (!t9)))) && (((decide ((tl17 : Int) = 0)) && t9) || ((decide ((tl17 : Int) ≠ 0)) && (!t9))))) w32))

theorem ok_shiftbellkeep_DueBest (l : Option Addr) (ll : Nat) (lc : Nat) (row : Option Addr) (rowl : Nat) (rowc : Nat) (w : World) (Q : Value → World → Prop) (h : wp_shiftbellkeep_DueBest l ll lc row rowl rowc w Q) : FnP Try.prog F_shiftbellkeep_DueBest #[(.slice l ll lc), (.slice row rowl rowc)] w Q := by
  have e_ : wp_shiftbellkeep_DueBest l ll lc row rowl rowc w Q = Runs Try.prog Q ({ N := 89, wrap := [], pub := [], muts := [] } : Cfg) Try.f6 (Try.f6.body.getD .skip) [.sc (.slc l ll lc), .sc (.slc row rowl rowc)] w := by kernel_rfl
  rw [e_] at h
  exact runs_fn h Try.func6 (by kernel_rfl) (fun args w => Try.call6 args w) (by kernel_rfl) (by kernel_rfl) rfl rfl

theorem open_shiftbellkeep_DueBest (W : World) (R : Array Value → Prop) (h : ∀ l : Option Addr, ∀ ll : Nat, ∀ lc : Nat, SlcArg Try.prog W 29 l ll lc → ∀ row : Option Addr, ∀ rowl : Nat, ∀ rowc : Nat, SlcArg Try.prog W 3 row rowl rowc → R #[(.slice l ll lc), (.slice row rowl rowc)]) (args : Array Value) (hg : GoodAll Try.prog W Try.f6.params.toList args.toList) : R args := by
  have e_ : (ArgsAll Try.prog W Try.f6.params.toList fun l => R l.toArray) = (∀ l : Option Addr, ∀ ll : Nat, ∀ lc : Nat, SlcArg Try.prog W 29 l ll lc → ∀ row : Option Addr, ∀ rowl : Nat, ∀ rowc : Nat, SlcArg Try.prog W 3 row rowl rowc → R #[(.slice l ll lc), (.slice row rowl rowc)]) := by kernel_rfl
  exact args_open (by rw [e_]; exact h) args hg
-- wit 6 #[(.slice none 0 0), (.slice none 0 0)]

/-- shiftbell/shiftbellkeep.good -/
def wp_shiftbellkeep_good (l : Option Addr) (ll : Nat) (lc : Nat) (w : World) (Q : Value → World → Prop) : Prop :=
  ∀ w0, Ext w w0 →
  FnP Try.prog F_slices_ContainsFunc_api_Errno_api_Errno #[(.slice l ll lc), (.func (.func 18) #[] #[])] w0 fun v1 w1 =>
   Ext w0 w1 ∧
   ∃ t2 : Bool, v1 = (.bool t2) ∧
   ∀ w3, Ext w w3 →
   Q (.bool (!t2)) w3

theorem ok_shiftbellkeep_good (l : Option Addr) (ll : Nat) (lc : Nat) (w : World) (Q : Value → World → Prop) (h : wp_shiftbellkeep_good l ll lc w Q) : FnP Try.prog F_shiftbellkeep_good #[(.slice l ll lc)] w Q := by
  have e_ : wp_shiftbellkeep_good l ll lc w Q = Runs Try.prog Q ({ N := 6, wrap := [], pub := [], muts := [] } : Cfg) Try.f14 (Try.f14.body.getD .skip) [.sc (.slc l ll lc)] w := by kernel_rfl
  rw [e_] at h
  exact runs_fn h Try.func14 (by kernel_rfl) (fun args w => Try.call14 args w) (by kernel_rfl) (by kernel_rfl) rfl rfl

/-- shiftbell/shiftbellkeep.good$1 -/
def wp_shiftbellkeep_good_1 (e : Int) (w : World) (Q : Value → World → Prop) : Prop :=
  ∀ w0, Ext w w0 →
  Q (.bool (decide (e ≠ 0))) w0

theorem ok_shiftbellkeep_good_1 (e : Int) (w : World) (Q : Value → World → Prop) (h : wp_shiftbellkeep_good_1 e w Q) : FnP Try.prog F_shiftbellkeep_good_1 #[(.int .i64 e)] w Q := by
  have e_ : wp_shiftbellkeep_good_1 e w Q = Runs Try.prog Q ({ N := 5, wrap := [], pub := [], muts := [] } : Cfg) Try.f18 (Try.f18.body.getD .skip) [.sc (.int .i64 e)] w := by kernel_rfl
  rw [e_] at h
  exact runs_fn h Try.func18 (by kernel_rfl) (fun args w => Try.call18 args w) (by kernel_rfl) (by kernel_rfl) rfl rfl

/-- slices.ContainsFunc[[]shiftbell/api.Errno,shiftbell/api.Errno] -/
def wp_slices_ContainsFunc_api_Errno_api_Errno (s : Option Addr) (sl : Nat) (sc : Nat) (f : Value) (w : World) (Q : Value → World → Prop) : Prop :=
  ∀ w0, Ext w w0 →
  FnP Try.prog F_slices_IndexFunc_api_Errno_api_Errno #[(.slice s sl sc), f] w0 fun v1 w1 =>
   Ext w0 w1 ∧
   ∃ t2 : Int, v1 = (.int .i64 t2) ∧
   ∀ w3, Ext w w3 →
   Q (.bool (decide (0 ≤ t2))) w3

theorem ok_slices_ContainsFunc_api_Errno_api_Errno (s : Option Addr) (sl : Nat) (sc : Nat) (f : Value) (w : World) (Q : Value → World → Prop) (h : wp_slices_ContainsFunc_api_Errno_api_Errno s sl sc f w Q) : FnP Try.prog F_slices_ContainsFunc_api_Errno_api_Errno #[(.slice s sl sc), f] w Q := by
  have e_ : wp_slices_ContainsFunc_api_Errno_api_Errno s sl sc f w Q = Runs Try.prog Q ({ N := 9, wrap := [], pub := [], muts := [] } : Cfg) Try.f17 (Try.f17.body.getD .skip) [.sc (.slc s sl sc), .sc (.val f)] w := by kernel_rfl
  rw [e_] at h
  exact runs_fn h Try.func17 (by kernel_rfl) (fun args w => Try.call17 args w) (by kernel_rfl) (by kernel_rfl) rfl rfl

/-- slices.IndexFunc[[]shiftbell/api.Errno,shiftbell/api.Errno] -/
def wp_slices_IndexFunc_api_Errno_api_Errno (s : Option Addr) (sl : Nat) (sc : Nat) (f : Value) (w : World) (Q : Value → World → Prop) : Prop :=
  ∃ (I0 : Int → World → Prop) (M0 : Int → World → Nat), I0 0 w ∧
  ∀ (k1 : Int) (w2 : World), I0 k1 w2 →
   ((k1 < (sl : Int)) →
    s ≠ none ∧
    (0 : Int) ≤ k1 ∧
    (k1 : Int) < (sl : Int) ∧
    ∃ t3 : Int, cell w2 (pIdx s k1 1) 0 = some (.int .i64 t3) ∧
    ∀ w4, Ext w2 w4 →
    FnVP Try.prog f [(.int .i64 t3)] w4 fun v5 w5 =>
     Ext w4 w5 ∧
     ∃ t6 : Bool, v5 = (.bool t6) ∧
     ((t6 = true) →
      ∀ w7, Ext w2 w7 →
      Q (.int .i64 k1) w7) ∧
     ((t6 = false) →
      InR .i64 (k1 + 1) ∧
      (I0 (k1 + 1) w2 ∧ M0 (k1 + 1) w2 < M0 k1 w2))) ∧
   (((sl : Int) ≤ k1) →
    ∀ w3, Ext w2 w3 →
    Q (.int .i64 (-1)) w3)

theorem ok_slices_IndexFunc_api_Errno_api_Errno (s : Option Addr) (sl : Nat) (sc : Nat) (f : Value) (w : World) (Q : Value → World → Prop) (h : wp_slices_IndexFunc_api_Errno_api_Errno s sl sc f w Q) : FnP Try.prog F_slices_IndexFunc_api_Errno_api_Errno #[(.slice s sl sc), f] w Q := by
  have e_ : wp_slices_IndexFunc_api_Errno_api_Errno s sl sc f w Q = Runs Try.prog Q ({ N := 19, wrap := [], pub := [], muts := [] } : Cfg) Try.f19 (Try.f19.body.getD .skip) [.sc (.slc s sl sc), .sc (.val f)] w := by kernel_rfl
  rw [e_] at h
  exact runs_fn h Try.func19 (by kernel_rfl) (fun args w => Try.call19 args w) (by kernel_rfl) (by kernel_rfl) rfl rfl

end Go.Proofs.Ytnclaokllghaoaa
