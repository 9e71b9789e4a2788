/- The texts of this seat's functions: what each computes, as its symbolic run says it. -/
import Derived.Test.YthhpepdchbdaoaaDoorRows
import Derived.Test.YthhpepdchbdaoaaDoorSxD
import Derived.Test.YthhpepdchbdaoaaDoorSxN
set_option linter.unusedVariables false
set_option linter.unusedSimpArgs false
set_option maxRecDepth 100000
namespace Go.Proofs.YthhpepdchbdaoaaDoor
open Go.Sx Go.RowKit

abbrev F_shiftbellkeep_CronLeast : FuncId := 4
abbrev F_shiftbellkeep_CronNow : FuncId := 5
abbrev F_shiftbellkeep_CronAgain : FuncId := 6
abbrev F_shiftbellkeep_crons : FuncId := 9
abbrev F_cron_Next : FuncId := 10
abbrev F_cron_Check : FuncId := 11
abbrev F_cron_Match : FuncId := 12
abbrev F_cron_day : FuncId := 15
abbrev F_cron_within : FuncId := 16
abbrev F_cron_fields : FuncId := 17
abbrev F_cron_field_all : FuncId := 18
abbrev F_cron_has : FuncId := 19
abbrev F_civil_Date : FuncId := 24
abbrev F_civil_Weekday : FuncId := 25
abbrev F_cron_span : FuncId := 26
abbrev F_math_bits_TrailingZeros64 : FuncId := 27
abbrev F_civil_before : FuncId := 35
abbrev F_civil_length : FuncId := 36
abbrev F_civil_long : FuncId := 45
abbrev T__0 : TypeId := 0
abbrev T_int64 : TypeId := 2
abbrev T_int : TypeId := 3
abbrev T_bool : TypeId := 4
abbrev T_uint8 : TypeId := 5
abbrev T_string : TypeId := 9
abbrev T_uintptr : TypeId := 12
abbrev T_int32 : TypeId := 21
abbrev T_uint64 : TypeId := 22
abbrev T_Cron : TypeId := 24
abbrev T_Errno : TypeId := 26
abbrev T_int_Errno : TypeId := 27
abbrev T_bool_Errno : TypeId := 31
abbrev T_string_Errno : TypeId := 35
abbrev T_Cron_Errno : TypeId := 37
abbrev T_int_bool : TypeId := 41
abbrev T_sl_cron_field : TypeId := 43
abbrev T_ptr_Cron : TypeId := 45
abbrev T_ptr_uint64 : TypeId := 46
abbrev T_cron_field : TypeId := 48
abbrev T_sl_string : TypeId := 51
abbrev T_uint64_bool : TypeId := 55
abbrev T_int_int_int_Errno : TypeId := 57
abbrev T_ptr_strings_Builder : TypeId := 63
abbrev T_sl_uint8 : TypeId := 64
abbrev T_strings_Builder : TypeId := 66
abbrev T_error : TypeId := 69
abbrev T_int_error : TypeId := 70
abbrev T_string_string_bool : TypeId := 73
abbrev T_uint : TypeId := 79
abbrev T_ptr_uint8 : TypeId := 80
abbrev T_unsafe_Pointer : TypeId := 86
abbrev T_int32_int : TypeId := 90
abbrev T_sl_uint8_string : TypeId := 96
abbrev T_strconv_Error : TypeId := 98
abbrev T_int64_error : TypeId := 99
abbrev T_ptr_strconv_NumError : TypeId := 101
abbrev T_uint32 : TypeId := 106
abbrev T_utf8_acceptRange : TypeId := 111
abbrev T_uint32_uint32 : TypeId := 113
abbrev T_uint64_error : TypeId := 115
abbrev T_strconv_NumError : TypeId := 119
abbrev T_ptr_errors_errorString : TypeId := 123
abbrev T_errors_errorString : TypeId := 125
theorem elem_sl_cron_field : slEl Tryd.prog 43 = some (48, 3, 24, (.agg #[(.pointer none), (.int .i64 0), (.int .i64 0)])) := by kernel_rfl
theorem elem_sl_string : slEl Tryd.prog 51 = some (9, 1, 16, (.string (⟨#[]⟩ : ByteArray))) := by kernel_rfl
theorem elem_sl_uint8 : slEl Tryd.prog 64 = some (5, 1, 1, (.int .u8 0)) := by kernel_rfl

/-- shiftbell/shiftbellkeep.crons -/
def wp_shiftbellkeep_crons  (w : World) (Q : Value → World → Prop) : Prop :=
  ∀ w0, Ext w w0 →
  FnP Tryd.prog F_cron_Next #[(.agg #[(.int .u64 1), (.int .u64 1), (.int .u64 4294967294), (.int .u64 8190), (.int .u64 127)]), (.int .i64 0)] w0 fun v1 w1 =>
   Ext w0 w1 ∧
   ∃ t2 : Int, ∃ t3 : Int, v1 = (.tuple #[(.int .i64 t2), (.int .i64 t3)]) ∧
   ∀ w4, Ext w w4 →
   Q (.bool ((decide (t3 = 0)) && (decide (t2 = 1440)))) w4

theorem ok_shiftbellkeep_crons  (w : World) (Q : Value → World → Prop) (h : wp_shiftbellkeep_crons  w Q) : FnP Tryd.prog F_shiftbellkeep_crons #[] w Q := by
  have e_ : wp_shiftbellkeep_crons  w Q = Runs Tryd.prog Q ({ N := 14, wrap := [], pub := [], muts := [], joins := [] } : Cfg) Tryd.f9 (Tryd.f9.body.getD .skip) [] w := by kernel_rfl
  rw [e_] at h
  exact runs_fn h Tryd.func9 (by kernel_rfl) (fun args w => Tryd.call9 args w) (by kernel_rfl) (by kernel_rfl) rfl rfl

/-- shiftbell/cron.Next -/
def wp_cron_Next (c_0 : Int) (c_1 : Int) (c_2 : Int) (c_3 : Int) (c_4 : Int) (t : Int) (w : World) (Q : Value → World → Prop) : Prop :=
  ∀ b0 : Nat, w.heap.size ≤ b0 → ∀ w1, Ext w w1 →
  FnP Tryd.prog F_cron_Check #[(.agg #[(.int .u64 c_0), (.int .u64 c_1), (.int .u64 c_2), (.int .u64 c_3), (.int .u64 c_4)])] w1 fun v2 w2 =>
   Ext w1 w2 ∧
   ∃ t3 : Int, v2 = (.int .i64 t3) ∧
   ((t3 ≠ 0) →
    ∀ w4, Ext w w4 →
    Q (.tuple #[(.int .i64 0), (.int .i64 t3)]) w4) ∧
   ((t3 = 0) →
    (((t < (-1)) ∨ (5258964959 < t)) →
     ∀ w4, Ext w w4 →
     Q (.tuple #[(.int .i64 0), (.int .i64 4)]) w4) ∧
    ((((-1) ≤ t) ∧ (t ≤ 5258964959)) →
     InR .i64 (t + 1) ∧
     InR .i64 ((t + 1).tdiv 1440) ∧
     ∃ (I4 : Int → World → Prop) (M4 : Int → World → Nat), I4 ((t + 1).tdiv 1440) w ∧
     ∀ (n5 : Int) (w6 : World), I4 n5 w6 →
      InR .i64 (((t + 1).tdiv 1440) + 146097) ∧
      ((n5 ≤ (min 3652058 (((t + 1).tdiv 1440) + 146097))) →
       ∀ w7, Ext w6 w7 →
       FnP Tryd.prog F_cron_day #[(.agg #[(.int .u64 c_0), (.int .u64 c_1), (.int .u64 c_2), (.int .u64 c_3), (.int .u64 c_4)]), (.int .i64 n5)] w7 fun v8 w8 =>
        Ext w7 w8 ∧
        ∃ t9 : Bool, v8 = (.bool t9) ∧
        ((t9 = false) →
         InR .i64 (n5 + 1) ∧
         (I4 (n5 + 1) w6 ∧ M4 (n5 + 1) w6 < M4 n5 w6)) ∧
        ((t9 = true) →
         ((n5 = ((t + 1).tdiv 1440)) →
          ∀ w10, Ext w6 w10 →
          FnP Tryd.prog F_cron_within #[(.agg #[(.int .u64 c_0), (.int .u64 c_1), (.int .u64 c_2), (.int .u64 c_3), (.int .u64 c_4)]), (.int .i64 ((t + 1).tmod 1440))] w10 fun v11 w11 =>
           Ext w10 w11 ∧
           ∃ t12 : Int, ∃ t13 : Bool, v11 = (.tuple #[(.int .i64 t12), (.bool t13)]) ∧
           ((t13 = true) →
            InR .i64 (1440 * n5) ∧
            InR .i64 ((1440 * n5) + t12) ∧
            ∀ w14, Ext w6 w14 →
            Q (.tuple #[(.int .i64 ((1440 * n5) + t12)), (.int .i64 0)]) w14) ∧
           ((t13 = false) →
            InR .i64 (n5 + 1) ∧
            (I4 (n5 + 1) w6 ∧ M4 (n5 + 1) w6 < M4 n5 w6))) ∧
         ((n5 ≠ ((t + 1).tdiv 1440)) →
          ∀ w10, Ext w6 w10 →
          FnP Tryd.prog F_cron_within #[(.agg #[(.int .u64 c_0), (.int .u64 c_1), (.int .u64 c_2), (.int .u64 c_3), (.int .u64 c_4)]), (.int .i64 0)] w10 fun v11 w11 =>
           Ext w10 w11 ∧
           ∃ t12 : Int, ∃ t13 : Bool, v11 = (.tuple #[(.int .i64 t12), (.bool t13)]) ∧
           ((t13 = true) →
            InR .i64 (1440 * n5) ∧
            InR .i64 ((1440 * n5) + t12) ∧
            ∀ w14, Ext w6 w14 →
            Q (.tuple #[(.int .i64 ((1440 * n5) + t12)), (.int .i64 0)]) w14) ∧
           ((t13 = false) →
            InR .i64 (n5 + 1) ∧
            (I4 (n5 + 1) w6 ∧ M4 (n5 + 1) w6 < M4 n5 w6))))) ∧
      (((min 3652058 (((t + 1).tdiv 1440) + 146097)) < n5) →
       ∀ w7, Ext w6 w7 →
       Q (.tuple #[(.int .i64 0), (.int .i64 5)]) w7)))

theorem ok_cron_Next (c_0 : Int) (c_1 : Int) (c_2 : Int) (c_3 : Int) (c_4 : Int) (t : Int) (w : World) (Q : Value → World → Prop) (h : wp_cron_Next c_0 c_1 c_2 c_3 c_4 t w Q) : FnP Tryd.prog F_cron_Next #[(.agg #[(.int .u64 c_0), (.int .u64 c_1), (.int .u64 c_2), (.int .u64 c_3), (.int .u64 c_4)]), (.int .i64 t)] w Q := by
  have e_ : wp_cron_Next c_0 c_1 c_2 c_3 c_4 t w Q = Runs Tryd.prog Q ({ N := 55, wrap := [], pub := [], muts := [], joins := [] } : Cfg) Tryd.f10 (Tryd.f10.body.getD .skip) [.agg [.int .u64 c_0, .int .u64 c_1, .int .u64 c_2, .int .u64 c_3, .int .u64 c_4], .sc (.int .i64 t)] w := by kernel_rfl
  rw [e_] at h
  exact runs_fn h Tryd.func10 (by kernel_rfl) (fun args w => Tryd.call10 args w) (by kernel_rfl) (by kernel_rfl) rfl rfl

/-- shiftbell/cron.Check -/
def wp_cron_Check (c_0 : Int) (c_1 : Int) (c_2 : Int) (c_3 : Int) (c_4 : Int) (w : World) (Q : Value → World → Prop) : Prop :=
  ∀ w0, Ext w w0 →
  New w0 24 [(.int .u64 c_0), (.int .u64 c_1), (.int .u64 c_2), (.int .u64 c_3), (.int .u64 c_4)] fun p1 w1 =>
   ∀ w2, Ext w1 w2 →
   FnP Tryd.prog F_cron_fields #[(.pointer p1)] w2 fun v3 w3 =>
    Ext w2 w3 ∧
    ∃ t4 : Option Addr, ∃ tl5 : Nat, ∃ tc6 : Nat, v3 = (.slice t4 tl5 tc6) ∧
    ∃ (I7 : Int → World → Prop) (M7 : Int → World → Nat), I7 0 w3 ∧
    ∀ (k8 : Int) (w9 : World), I7 k8 w9 →
     ((k8 < (tl5 : Int)) →
      t4 ≠ none ∧
      (0 : Int) ≤ k8 ∧
      (k8 : Int) < (tl5 : Int) ∧
      (pIdx t4 k8 3) ≠ none ∧
      ∃ t10 : Option Addr, cell w9 (pIdx t4 k8 3) 0 = some (.pointer t10) ∧
      ∃ t11 : Int, cell w9 (pIdx t4 k8 3) 1 = some (.int .i64 t11) ∧
      ∃ t12 : Int, cell w9 (pIdx t4 k8 3) 2 = some (.int .i64 t12) ∧
      ∀ b13 : Nat, w9.heap.size ≤ b13 → t10 ≠ none ∧
      ∃ t14 : Int, cell w9 t10 0 = some (.int .u64 t14) ∧
      ((t14 ≠ 0) →
       t10 ≠ none) ∧
      ((t14 = 0) →
       ∀ w15, Ext w9 w15 →
       Q (.int .i64 3) w15) ∧
      ((t14 ≠ 0) →
       ∃ t15 : Int, cell w9 t10 0 = some (.int .u64 t15) ∧
       ∀ w16, Ext w9 w16 →
       FnP Tryd.prog F_cron_field_all #[(.agg #[(.pointer t10), (.int .i64 t11), (.int .i64 t12)])] w16 fun v17 w17 =>
        Ext w16 w17 ∧
        ∃ t18 : Int, v17 = (.int .u64 t18) ∧
        (((iBit .andNot .u64 t15 t18) ≠ 0) →
         ∀ w19, Ext w9 w19 →
         Q (.int .i64 3) w19) ∧
        (((iBit .andNot .u64 t15 t18) = 0) →
         InR .i64 (k8 + 1) ∧
         (I7 (k8 + 1) w9 ∧ M7 (k8 + 1) w9 < M7 k8 w9)))) ∧
     (((tl5 : Int) ≤ k8) →
      ∀ w10, Ext w9 w10 →
      Q (.int .i64 0) w10)

theorem ok_cron_Check (c_0 : Int) (c_1 : Int) (c_2 : Int) (c_3 : Int) (c_4 : Int) (w : World) (Q : Value → World → Prop) (h : wp_cron_Check c_0 c_1 c_2 c_3 c_4 w Q) : FnP Tryd.prog F_cron_Check #[(.agg #[(.int .u64 c_0), (.int .u64 c_1), (.int .u64 c_2), (.int .u64 c_3), (.int .u64 c_4)])] w Q := by
  have e_ : wp_cron_Check c_0 c_1 c_2 c_3 c_4 w Q = Runs Tryd.prog Q ({ N := 27, wrap := [], pub := [1], muts := [], joins := [] } : Cfg) Tryd.f11 (Tryd.f11.body.getD .skip) [.agg [.int .u64 c_0, .int .u64 c_1, .int .u64 c_2, .int .u64 c_3, .int .u64 c_4]] w := by kernel_rfl
  rw [e_] at h
  exact runs_fn h Tryd.func11 (by kernel_rfl) (fun args w => Tryd.call11 args w) (by kernel_rfl) (by kernel_rfl) rfl rfl

/-- shiftbell/cron.Match -/
def wp_cron_Match (c_0 : Int) (c_1 : Int) (c_2 : Int) (c_3 : Int) (c_4 : Int) (t : Int) (w : World) (Q : Value → World → Prop) : Prop :=
  ∀ b0 : Nat, w.heap.size ≤ b0 → ∀ w1, Ext w w1 →
  FnP Tryd.prog F_cron_Check #[(.agg #[(.int .u64 c_0), (.int .u64 c_1), (.int .u64 c_2), (.int .u64 c_3), (.int .u64 c_4)])] w1 fun v2 w2 =>
   Ext w1 w2 ∧
   ∃ t3 : Int, v2 = (.int .i64 t3) ∧
   ((t3 ≠ 0) →
    ∀ w4, Ext w w4 →
    Q (.tuple #[(.bool false), (.int .i64 t3)]) w4) ∧
   ((t3 = 0) →
    (((t < 0) ∨ (5258964959 < t)) →
     ∀ w4, Ext w w4 →
     Q (.tuple #[(.bool false), (.int .i64 4)]) w4) ∧
    (((0 ≤ t) ∧ (t ≤ 5258964959)) →
     ∀ w4, Ext w w4 →
     FnP Tryd.prog F_cron_has #[(.int .u64 c_0), (.int .i64 (t.tmod 60))] w4 fun v5 w5 =>
      Ext w4 w5 ∧
      ∃ t6 : Bool, v5 = (.bool t6) ∧
      ((t6 = true) →
       InR .i64 (t.tdiv 60)) ∧
      ((t6 = true) →
       ∀ w7, Ext w w7 →
       FnP Tryd.prog F_cron_has #[(.int .u64 c_1), (.int .i64 ((t.tdiv 60).tmod 24))] w7 fun v8 w8 =>
        Ext w7 w8 ∧
        ∃ t9 : Bool, v8 = (.bool t9) ∧
        ((t9 = true) →
         InR .i64 (t.tdiv 1440)) ∧
        ((t9 = true) →
         ∀ w10, Ext w w10 →
         FnP Tryd.prog F_cron_day #[(.agg #[(.int .u64 c_0), (.int .u64 c_1), (.int .u64 c_2), (.int .u64 c_3), (.int .u64 c_4)]), (.int .i64 (t.tdiv 1440))] w10 fun v11 w11 =>
          Ext w10 w11 ∧
          ∃ t12 : Bool, v11 = (.bool t12) ∧
          ∀ w13, Ext w w13 →
          Q (.tuple #[(.bool t12), (.int .i64 0)]) w13) ∧
        ((t9 = false) →
         ∀ w10, Ext w w10 →
         Q (.tuple #[(.bool false), (.int .i64 0)]) w10)) ∧
      ((t6 = false) →
       ∀ w7, Ext w w7 →
       Q (.tuple #[(.bool false), (.int .i64 0)]) w7)))

theorem ok_cron_Match (c_0 : Int) (c_1 : Int) (c_2 : Int) (c_3 : Int) (c_4 : Int) (t : Int) (w : World) (Q : Value → World → Prop) (h : wp_cron_Match c_0 c_1 c_2 c_3 c_4 t w Q) : FnP Tryd.prog F_cron_Match #[(.agg #[(.int .u64 c_0), (.int .u64 c_1), (.int .u64 c_2), (.int .u64 c_3), (.int .u64 c_4)]), (.int .i64 t)] w Q := by
  have e_ : wp_cron_Match c_0 c_1 c_2 c_3 c_4 t w Q = Runs Tryd.prog Q ({ N := 37, wrap := [], pub := [], muts := [], joins := [] } : Cfg) Tryd.f12 (Tryd.f12.body.getD .skip) [.agg [.int .u64 c_0, .int .u64 c_1, .int .u64 c_2, .int .u64 c_3, .int .u64 c_4], .sc (.int .i64 t)] w := by kernel_rfl
  rw [e_] at h
  exact runs_fn h Tryd.func12 (by kernel_rfl) (fun args w => Tryd.call12 args w) (by kernel_rfl) (by kernel_rfl) rfl rfl

/-- shiftbell/cron.day -/
def wp_cron_day (c_0 : Int) (c_1 : Int) (c_2 : Int) (c_3 : Int) (c_4 : Int) (n : Int) (w : World) (Q : Value → World → Prop) : Prop :=
  ∀ b0 : Nat, w.heap.size ≤ b0 → ∀ w1, Ext w w1 →
  FnP Tryd.prog F_civil_Date #[(.int .i64 n)] w1 fun v2 w2 =>
   Ext w1 w2 ∧
   ∃ t3 : Int, ∃ t4 : Int, ∃ t5 : Int, ∃ t6 : Int, v2 = (.tuple #[(.int .i64 t3), (.int .i64 t4), (.int .i64 t5), (.int .i64 t6)]) ∧
   ∀ w7, Ext w w7 →
   FnP Tryd.prog F_civil_Weekday #[(.int .i64 n)] w7 fun v8 w8 =>
    Ext w7 w8 ∧
    ∃ t9 : Int, ∃ t10 : Int, v8 = (.tuple #[(.int .i64 t9), (.int .i64 t10)]) ∧
    ∀ w11, Ext w w11 →
    FnP Tryd.prog F_cron_has #[(.int .u64 c_3), (.int .i64 t4)] w11 fun v12 w12 =>
     Ext w11 w12 ∧
     ∃ t13 : Bool, v12 = (.bool t13) ∧
     ((t13 = false) →
      ∀ w14, Ext w w14 →
      Q (.bool false) w14) ∧
     ((t13 = true) →
      ∀ w14, Ext w w14 →
      FnP Tryd.prog F_cron_span #[(.int .i64 1), (.int .i64 31)] w14 fun v15 w15 =>
       Ext w14 w15 ∧
       ∃ t16 : Int, v15 = (.int .u64 t16) ∧
       ((c_2 = t16) →
        ∀ w17, Ext w w17 →
        FnP Tryd.prog F_cron_has #[(.int .u64 c_4), (.int .i64 t9)] w17 fun v18 w18 =>
         Ext w17 w18 ∧
         ∃ t19 : Bool, v18 = (.bool t19) ∧
         ∀ w20, Ext w w20 →
         Q (.bool t19) w20) ∧
       ((c_2 ≠ t16) →
        ∀ w17, Ext w w17 →
        FnP Tryd.prog F_cron_span #[(.int .i64 0), (.int .i64 6)] w17 fun v18 w18 =>
         Ext w17 w18 ∧
         ∃ t19 : Int, v18 = (.int .u64 t19) ∧
         ((c_4 = t19) →
          ∀ w20, Ext w w20 →
          FnP Tryd.prog F_cron_has #[(.int .u64 c_2), (.int .i64 t5)] w20 fun v21 w21 =>
           Ext w20 w21 ∧
           ∃ t22 : Bool, v21 = (.bool t22) ∧
           ∀ w23, Ext w w23 →
           Q (.bool t22) w23) ∧
         ((c_4 ≠ t19) →
          ∀ w20, Ext w w20 →
          FnP Tryd.prog F_cron_has #[(.int .u64 c_2), (.int .i64 t5)] w20 fun v21 w21 =>
           Ext w20 w21 ∧
           ∃ t22 : Bool, v21 = (.bool t22) ∧
           ((t22 = true) →
            ∀ w23, Ext w w23 →
            Q (.bool true) w23) ∧
           ((t22 = false) →
            ∀ w23, Ext w w23 →
            FnP Tryd.prog F_cron_has #[(.int .u64 c_4), (.int .i64 t9)] w23 fun v24 w24 =>
             Ext w23 w24 ∧
             ∃ t25 : Bool, v24 = (.bool t25) ∧
             ∀ w26, Ext w w26 →
             Q (.bool t25) w26))))

theorem ok_cron_day (c_0 : Int) (c_1 : Int) (c_2 : Int) (c_3 : Int) (c_4 : Int) (n : Int) (w : World) (Q : Value → World → Prop) (h : wp_cron_day c_0 c_1 c_2 c_3 c_4 n w Q) : FnP Tryd.prog F_cron_day #[(.agg #[(.int .u64 c_0), (.int .u64 c_1), (.int .u64 c_2), (.int .u64 c_3), (.int .u64 c_4)]), (.int .i64 n)] w Q := by
  have e_ : wp_cron_day c_0 c_1 c_2 c_3 c_4 n w Q = Runs Tryd.prog Q ({ N := 57, wrap := [], pub := [], muts := [], joins := [] } : Cfg) Tryd.f15 (Tryd.f15.body.getD .skip) [.agg [.int .u64 c_0, .int .u64 c_1, .int .u64 c_2, .int .u64 c_3, .int .u64 c_4], .sc (.int .i64 n)] w := by kernel_rfl
  rw [e_] at h
  exact runs_fn h Tryd.func15 (by kernel_rfl) (fun args w => Tryd.call15 args w) (by kernel_rfl) (by kernel_rfl) rfl rfl

/-- shiftbell/cron.within -/
def wp_cron_within (c_0 : Int) (c_1 : Int) (c_2 : Int) (c_3 : Int) (c_4 : Int) (from_v : Int) (w : World) (Q : Value → World → Prop) : Prop :=
  ∀ b0 : Nat, w.heap.size ≤ b0 → InR .i64 (from_v.tdiv 60) ∧
  ∃ (I1 : Int → World → Prop) (M1 : Int → World → Nat), I1 (from_v.tdiv 60) w ∧
  ∀ (h2 : Int) (w3 : World), I1 h2 w3 →
   ((h2 < 24) →
    ∀ w4, Ext w3 w4 →
    FnP Tryd.prog F_cron_has #[(.int .u64 c_1), (.int .i64 h2)] w4 fun v5 w5 =>
     Ext w4 w5 ∧
     ∃ t6 : Bool, v5 = (.bool t6) ∧
     ((t6 = false) →
      InR .i64 (h2 + 1) ∧
      (I1 (h2 + 1) w3 ∧ M1 (h2 + 1) w3 < M1 h2 w3)) ∧
     ((t6 = true) →
      InR .i64 (from_v.tdiv 60) ∧
      ((h2 = (from_v.tdiv 60)) →
       0 ≤ ((from_v.tmod 60) : Int) ∧
       (((iBit .shr .u64 c_0 (from_v.tmod 60)) ≠ 0) →
        InR .i64 (60 * h2) ∧
        InR .i64 ((60 * h2) + (from_v.tmod 60)) ∧
        ∀ w7, Ext w3 w7 →
        FnP Tryd.prog F_math_bits_TrailingZeros64 #[(.int .u64 (iBit .shr .u64 c_0 (from_v.tmod 60)))] w7 fun v8 w8 =>
         Ext w7 w8 ∧
         ∃ t9 : Int, v8 = (.int .i64 t9) ∧
         InR .i64 (((60 * h2) + (from_v.tmod 60)) + t9) ∧
         ∀ w10, Ext w3 w10 →
         Q (.tuple #[(.int .i64 (((60 * h2) + (from_v.tmod 60)) + t9)), (.bool true)]) w10) ∧
       (((iBit .shr .u64 c_0 (from_v.tmod 60)) = 0) →
        InR .i64 (h2 + 1) ∧
        (I1 (h2 + 1) w3 ∧ M1 (h2 + 1) w3 < M1 h2 w3))) ∧
      ((h2 ≠ (from_v.tdiv 60)) →
       (((iBit .shr .u64 c_0 0) ≠ 0) →
        InR .i64 (60 * h2) ∧
        InR .i64 ((60 * h2) + 0) ∧
        ∀ w7, Ext w3 w7 →
        FnP Tryd.prog F_math_bits_TrailingZeros64 #[(.int .u64 (iBit .shr .u64 c_0 0))] w7 fun v8 w8 =>
         Ext w7 w8 ∧
         ∃ t9 : Int, v8 = (.int .i64 t9) ∧
         InR .i64 (((60 * h2) + 0) + t9) ∧
         ∀ w10, Ext w3 w10 →
         Q (.tuple #[(.int .i64 (((60 * h2) + 0) + t9)), (.bool true)]) w10) ∧
       (((iBit .shr .u64 c_0 0) = 0) →
        InR .i64 (h2 + 1) ∧
        (I1 (h2 + 1) w3 ∧ M1 (h2 + 1) w3 < M1 h2 w3))))) ∧
   ((24 ≤ h2) →
    ∀ w4, Ext w3 w4 →
    Q (.tuple #[(.int .i64 0), (.bool false)]) w4)

theorem ok_cron_within (c_0 : Int) (c_1 : Int) (c_2 : Int) (c_3 : Int) (c_4 : Int) (from_v : Int) (w : World) (Q : Value → World → Prop) (h : wp_cron_within c_0 c_1 c_2 c_3 c_4 from_v w Q) : FnP Tryd.prog F_cron_within #[(.agg #[(.int .u64 c_0), (.int .u64 c_1), (.int .u64 c_2), (.int .u64 c_3), (.int .u64 c_4)]), (.int .i64 from_v)] w Q := by
  have e_ : wp_cron_within c_0 c_1 c_2 c_3 c_4 from_v w Q = Runs Tryd.prog Q ({ N := 39, wrap := [], pub := [], muts := [], joins := [] } : Cfg) Tryd.f16 (Tryd.f16.body.getD .skip) [.agg [.int .u64 c_0, .int .u64 c_1, .int .u64 c_2, .int .u64 c_3, .int .u64 c_4], .sc (.int .i64 from_v)] w := by kernel_rfl
  rw [e_] at h
  exact runs_fn h Tryd.func16 (by kernel_rfl) (fun args w => Tryd.call16 args w) (by kernel_rfl) (by kernel_rfl) rfl rfl

/-- shiftbell/cron.fields -/
def wp_cron_fields (c : Option Addr) (w : World) (Q : Value → World → Prop) : Prop :=
  c ≠ none ∧
  c ≠ none ∧
  c ≠ none ∧
  c ≠ none ∧
  c ≠ none ∧
  c ≠ none ∧
  c ≠ none ∧
  c ≠ none ∧
  c ≠ none ∧
  c ≠ none ∧
  ∀ w0, Ext w w0 →
  Run Tryd.prog (.buildSlice 43 5 [(0, (.agg #[(.pointer (pAdd c 0)), (.int .i64 0), (.int .i64 59)])), (1, (.agg #[(.pointer (pAdd c 1)), (.int .i64 0), (.int .i64 23)])), (2, (.agg #[(.pointer (pAdd c 2)), (.int .i64 1), (.int .i64 31)])), (3, (.agg #[(.pointer (pAdd c 3)), (.int .i64 1), (.int .i64 12)])), (4, (.agg #[(.pointer (pAdd c 4)), (.int .i64 0), (.int .i64 6)]))]) w0 fun v1 w1 =>
   Ext w0 w1 ∧
   ∃ t2 : Option Addr, ∃ tl3 : Nat, ∃ tc4 : Nat, v1 = (.slice t2 tl3 tc4) ∧
   ∀ w5, Ext w1 w5 →
   Q (.slice t2 tl3 tc4) w5

theorem ok_cron_fields (c : Option Addr) (w : World) (Q : Value → World → Prop) (h : wp_cron_fields c w Q) : FnP Tryd.prog F_cron_fields #[(.pointer c)] w Q := by
  have e_ : wp_cron_fields c w Q = Runs Tryd.prog Q ({ N := 24, wrap := [], pub := [], muts := [], joins := [] } : Cfg) Tryd.f17 (Tryd.f17.body.getD .skip) [.sc (.ptr c)] w := by kernel_rfl
  rw [e_] at h
  exact runs_fn h Tryd.func17 (by kernel_rfl) (fun args w => Tryd.call17 args w) (by kernel_rfl) (by kernel_rfl) rfl rfl

/-- (shiftbell/cron.field).all -/
def wp_cron_field_all (f_0 : Option Addr) (f_1 : Int) (f_2 : Int) (w : World) (Q : Value → World → Prop) : Prop :=
  ∀ b0 : Nat, w.heap.size ≤ b0 → ∀ w1, Ext w w1 →
  FnP Tryd.prog F_cron_span #[(.int .i64 f_1), (.int .i64 f_2)] w1 fun v2 w2 =>
   Ext w1 w2 ∧
   ∃ t3 : Int, v2 = (.int .u64 t3) ∧
   ∀ w4, Ext w w4 →
   Q (.int .u64 t3) w4

theorem ok_cron_field_all (f_0 : Option Addr) (f_1 : Int) (f_2 : Int) (w : World) (Q : Value → World → Prop) (h : wp_cron_field_all f_0 f_1 f_2 w Q) : FnP Tryd.prog F_cron_field_all #[(.agg #[(.pointer f_0), (.int .i64 f_1), (.int .i64 f_2)])] w Q := by
  have e_ : wp_cron_field_all f_0 f_1 f_2 w Q = Runs Tryd.prog Q ({ N := 8, wrap := [], pub := [], muts := [], joins := [] } : Cfg) Tryd.f18 (Tryd.f18.body.getD .skip) [.agg [.ptr f_0, .int .i64 f_1, .int .i64 f_2]] w := by kernel_rfl
  rw [e_] at h
  exact runs_fn h Tryd.func18 (by kernel_rfl) (fun args w => Tryd.call18 args w) (by kernel_rfl) (by kernel_rfl) rfl rfl

/-- shiftbell/cron.has -/
def wp_cron_has (set_v : Int) (n : Int) (w : World) (Q : Value → World → Prop) : Prop :=
  0 ≤ (n : Int) ∧
  ∀ w0, Ext w w0 →
  Q (.bool (decide ((iBit .and .u64 (iBit .shr .u64 set_v n) 1) = 1))) w0

theorem ok_cron_has (set_v : Int) (n : Int) (w : World) (Q : Value → World → Prop) (h : wp_cron_has set_v n w Q) : FnP Tryd.prog F_cron_has #[(.int .u64 set_v), (.int .i64 n)] w Q := by
  have e_ : wp_cron_has set_v n w Q = Runs Tryd.prog Q ({ N := 10, wrap := [], pub := [], muts := [], joins := [] } : Cfg) Tryd.f19 (Tryd.f19.body.getD .skip) [.sc (.int .u64 set_v), .sc (.int .i64 n)] w := by kernel_rfl
  rw [e_] at h
  exact runs_fn h Tryd.func19 (by kernel_rfl) (fun args w => Tryd.call19 args w) (by kernel_rfl) (by kernel_rfl) rfl rfl

/-- shiftbell/civil.Date -/
def wp_civil_Date (n : Int) (w : World) (Q : Value → World → Prop) : Prop :=
  (((n < 0) ∨ (3652058 < n)) →
   ∀ w0, Ext w w0 →
   Q (.tuple #[(.int .i64 0), (.int .i64 0), (.int .i64 0), (.int .i64 4)]) w0) ∧
  (((0 ≤ n) ∧ (n ≤ 3652058)) →
   InR .i64 (n.tdiv 366) ∧
   InR .i64 ((n.tdiv 366) + 1) ∧
   ∃ (I0 : Int → World → Prop) (M0 : Int → World → Nat), I0 ((n.tdiv 366) + 1) w ∧
   ∀ (y1 : Int) (w2 : World), I0 y1 w2 →
    InR .i64 (y1 + 1) ∧
    ∀ w3, Ext w2 w3 →
    FnP Tryd.prog F_civil_before #[(.int .i64 (y1 + 1))] w3 fun v4 w4 =>
     Ext w3 w4 ∧
     ∃ t5 : Int, v4 = (.int .i64 t5) ∧
     ((t5 ≤ n) →
      InR .i64 (y1 + 1) ∧
      (I0 (y1 + 1) w2 ∧ M0 (y1 + 1) w2 < M0 y1 w2)) ∧
     ((n < t5) →
      ∀ w6, Ext w2 w6 →
      FnP Tryd.prog F_civil_before #[(.int .i64 y1)] w6 fun v7 w7 =>
       Ext w6 w7 ∧
       ∃ t8 : Int, v7 = (.int .i64 t8) ∧
       InR .i64 (n - t8) ∧
       ∃ (I9 : Int → Int → World → Prop) (M9 : Int → Int → World → Nat), I9 (n - t8) 1 w2 ∧
       ∀ (n10 : Int) (m11 : Int) (w12 : World), I9 n10 m11 w12 →
        ∀ w13, Ext w12 w13 →
        FnP Tryd.prog F_civil_length #[(.int .i64 y1), (.int .i64 m11)] w13 fun v14 w14 =>
         Ext w13 w14 ∧
         ∃ t15 : Int, v14 = (.int .i64 t15) ∧
         ((t15 ≤ n10) →
          ∀ w16, Ext w12 w16 →
          FnP Tryd.prog F_civil_length #[(.int .i64 y1), (.int .i64 m11)] w16 fun v17 w17 =>
           Ext w16 w17 ∧
           ∃ t18 : Int, v17 = (.int .i64 t18) ∧
           InR .i64 (n10 - t18) ∧
           InR .i64 (m11 + 1) ∧
           (I9 (n10 - t18) (m11 + 1) w12 ∧ M9 (n10 - t18) (m11 + 1) w12 < M9 n10 m11 w12)) ∧
         ((n10 < t15) →
          InR .i64 (n10 + 1) ∧
          ∀ w16, Ext w12 w16 →
          Q (.tuple #[(.int .i64 y1), (.int .i64 m11), (.int .i64 (n10 + 1)), (.int .i64 0)]) w16)))

theorem ok_civil_Date (n : Int) (w : World) (Q : Value → World → Prop) (h : wp_civil_Date n w Q) : FnP Tryd.prog F_civil_Date #[(.int .i64 n)] w Q := by
  have e_ : wp_civil_Date n w Q = Runs Tryd.prog Q ({ N := 42, wrap := [], pub := [], muts := [], joins := [] } : Cfg) Tryd.f24 (Tryd.f24.body.getD .skip) [.sc (.int .i64 n)] w := by kernel_rfl
  rw [e_] at h
  exact runs_fn h Tryd.func24 (by kernel_rfl) (fun args w => Tryd.call24 args w) (by kernel_rfl) (by kernel_rfl) rfl rfl

/-- shiftbell/civil.Weekday -/
def wp_civil_Weekday (n : Int) (w : World) (Q : Value → World → Prop) : Prop :=
  (((n < 0) ∨ (3652058 < n)) →
   ∀ w0, Ext w w0 →
   Q (.tuple #[(.int .i64 0), (.int .i64 4)]) w0) ∧
  (((0 ≤ n) ∧ (n ≤ 3652058)) →
   InR .i64 (n + 1) ∧
   ∀ w0, Ext w w0 →
   Q (.tuple #[(.int .i64 ((n + 1).tmod 7)), (.int .i64 0)]) w0)

theorem ok_civil_Weekday (n : Int) (w : World) (Q : Value → World → Prop) (h : wp_civil_Weekday n w Q) : FnP Tryd.prog F_civil_Weekday #[(.int .i64 n)] w Q := by
  have e_ : wp_civil_Weekday n w Q = Runs Tryd.prog Q ({ N := 13, wrap := [], pub := [], muts := [], joins := [] } : Cfg) Tryd.f25 (Tryd.f25.body.getD .skip) [.sc (.int .i64 n)] w := by kernel_rfl
  rw [e_] at h
  exact runs_fn h Tryd.func25 (by kernel_rfl) (fun args w => Tryd.call25 args w) (by kernel_rfl) (by kernel_rfl) rfl rfl

/-- shiftbell/cron.span -/
def wp_cron_span (low : Int) (top : Int) (w : World) (Q : Value → World → Prop) : Prop :=
  InR .i64 (top + 1) ∧
  0 ≤ ((top + 1) : Int) ∧
  0 ≤ (low : Int) ∧
  ∀ w0, Ext w w0 →
  Q (.int .u64 (IntKind.wrap .u64 ((iBit .shl .u64 1 (top + 1)) - (iBit .shl .u64 1 low)))) w0

theorem ok_cron_span (low : Int) (top : Int) (w : World) (Q : Value → World → Prop) (h : wp_cron_span low top w Q) : FnP Tryd.prog F_cron_span #[(.int .i64 low), (.int .i64 top)] w Q := by
  have e_ : wp_cron_span low top w Q = Runs Tryd.prog Q ({ N := 11, wrap := [7, 9, 10], pub := [], muts := [], joins := [] } : Cfg) Tryd.f26 (Tryd.f26.body.getD .skip) [.sc (.int .i64 low), .sc (.int .i64 top)] w := by kernel_rfl
  rw [e_] at h
  exact runs_fn h Tryd.func26 (by kernel_rfl) (fun args w => Tryd.call26 args w) (by kernel_rfl) (by kernel_rfl) rfl rfl

/-- math/bits.TrailingZeros64 -/
def wp_math_bits_TrailingZeros64 (x : Int) (w : World) (Q : Value → World → Prop) : Prop :=
  ((x = 0) →
   ∀ w0, Ext w w0 →
   Q (.int .i64 64) w0) ∧
  ((x ≠ 0) →
   (some (⟨0, 0, none⟩ : Addr)) ≠ none ∧
   (0 : Int) ≤ (iBit .shr .u64 (IntKind.wrap .u64 ((iBit .and .u64 x (IntKind.wrap .u64 (0 - x))) * 285870213051353865)) 58) ∧
   ((iBit .shr .u64 (IntKind.wrap .u64 ((iBit .and .u64 x (IntKind.wrap .u64 (0 - x))) * 285870213051353865)) 58) : Int) < 64 ∧
   ∃ t0 : Int, cell w (pIdx (some (⟨0, 0, none⟩ : Addr)) (iBit .shr .u64 (IntKind.wrap .u64 ((iBit .and .u64 x (IntKind.wrap .u64 (0 - x))) * 285870213051353865)) 58) 1) 0 = some (.int .u8 t0) ∧
   InR .i64 t0 ∧
   ∀ w1, Ext w w1 →
   Q (.int .i64 t0) w1)

theorem ok_math_bits_TrailingZeros64 (x : Int) (w : World) (Q : Value → World → Prop) (h : wp_math_bits_TrailingZeros64 x w Q) : FnP Tryd.prog F_math_bits_TrailingZeros64 #[(.int .u64 x)] w Q := by
  have e_ : wp_math_bits_TrailingZeros64 x w Q = Runs Tryd.prog Q ({ N := 14, wrap := [7, 9], pub := [], muts := [], joins := [] } : Cfg) Tryd.f27 (Tryd.f27.body.getD .skip) [.sc (.int .u64 x)] w := by kernel_rfl
  rw [e_] at h
  exact runs_fn h Tryd.func27 (by kernel_rfl) (fun args w => Tryd.call27 args w) (by kernel_rfl) (by kernel_rfl) rfl rfl

/-- shiftbell/civil.before -/
def wp_civil_before (y : Int) (w : World) (Q : Value → World → Prop) : Prop :=
  InR .i64 (y - 1) ∧
  InR .i64 (365 * (y - 1)) ∧
  InR .i64 ((y - 1).tdiv 4) ∧
  InR .i64 ((365 * (y - 1)) + ((y - 1).tdiv 4)) ∧
  InR .i64 ((y - 1).tdiv 100) ∧
  InR .i64 (((365 * (y - 1)) + ((y - 1).tdiv 4)) - ((y - 1).tdiv 100)) ∧
  InR .i64 ((y - 1).tdiv 400) ∧
  InR .i64 ((((365 * (y - 1)) + ((y - 1).tdiv 4)) - ((y - 1).tdiv 100)) + ((y - 1).tdiv 400)) ∧
  ∀ w0, Ext w w0 →
  Q (.int .i64 ((((365 * (y - 1)) + ((y - 1).tdiv 4)) - ((y - 1).tdiv 100)) + ((y - 1).tdiv 400))) w0

theorem ok_civil_before (y : Int) (w : World) (Q : Value → World → Prop) (h : wp_civil_before y w Q) : FnP Tryd.prog F_civil_before #[(.int .i64 y)] w Q := by
  have e_ : wp_civil_before y w Q = Runs Tryd.prog Q ({ N := 16, wrap := [], pub := [], muts := [], joins := [] } : Cfg) Tryd.f35 (Tryd.f35.body.getD .skip) [.sc (.int .i64 y)] w := by kernel_rfl
  rw [e_] at h
  exact runs_fn h Tryd.func35 (by kernel_rfl) (fun args w => Tryd.call35 args w) (by kernel_rfl) (by kernel_rfl) rfl rfl

/-- shiftbell/civil.length -/
def wp_civil_length (y : Int) (m : Int) (w : World) (Q : Value → World → Prop) : Prop :=
  ((m = 2) →
   ∀ w0, Ext w w0 →
   FnP Tryd.prog F_civil_long #[(.int .i64 y)] w0 fun v1 w1 =>
    Ext w0 w1 ∧
    ∃ t2 : Bool, v1 = (.bool t2) ∧
    ((t2 = true) →
     ∀ w3, Ext w w3 →
     Q (.int .i64 29) w3) ∧
    ((t2 = false) →
     ((m = 12) →
      ∀ w3, Ext w w3 →
      Q (.int .i64 31) w3) ∧
     ((m ≠ 12) →
      InR .i64 (m + 1) ∧
      (some (⟨1, 0, none⟩ : Addr)) ≠ none ∧
      (0 : Int) ≤ (m + 1) ∧
      ((m + 1) : Int) < 13 ∧
      ∃ t3 : Int, cell w (pIdx (some (⟨1, 0, none⟩ : Addr)) (m + 1) 1) 0 = some (.int .i64 t3) ∧
      (some (⟨1, 0, none⟩ : Addr)) ≠ none ∧
      (0 : Int) ≤ m ∧
      (m : Int) < 13 ∧
      ∃ t4 : Int, cell w (pIdx (some (⟨1, 0, none⟩ : Addr)) m 1) 0 = some (.int .i64 t4) ∧
      InR .i64 (t3 - t4) ∧
      ∀ w5, Ext w w5 →
      Q (.int .i64 (t3 - t4)) w5))) ∧
  ((m ≠ 2) →
   ((m = 12) →
    ∀ w0, Ext w w0 →
    Q (.int .i64 31) w0) ∧
   ((m ≠ 12) →
    InR .i64 (m + 1) ∧
    (some (⟨1, 0, none⟩ : Addr)) ≠ none ∧
    (0 : Int) ≤ (m + 1) ∧
    ((m + 1) : Int) < 13 ∧
    ∃ t0 : Int, cell w (pIdx (some (⟨1, 0, none⟩ : Addr)) (m + 1) 1) 0 = some (.int .i64 t0) ∧
    (some (⟨1, 0, none⟩ : Addr)) ≠ none ∧
    (0 : Int) ≤ m ∧
    (m : Int) < 13 ∧
    ∃ t1 : Int, cell w (pIdx (some (⟨1, 0, none⟩ : Addr)) m 1) 0 = some (.int .i64 t1) ∧
    InR .i64 (t0 - t1) ∧
    ∀ w2, Ext w w2 →
    Q (.int .i64 (t0 - t1)) w2))

theorem ok_civil_length (y : Int) (m : Int) (w : World) (Q : Value → World → Prop) (h : wp_civil_length y m w Q) : FnP Tryd.prog F_civil_length #[(.int .i64 y), (.int .i64 m)] w Q := by
  have e_ : wp_civil_length y m w Q = Runs Tryd.prog Q ({ N := 23, wrap := [], pub := [], muts := [], joins := [] } : Cfg) Tryd.f36 (Tryd.f36.body.getD .skip) [.sc (.int .i64 y), .sc (.int .i64 m)] w := by kernel_rfl
  rw [e_] at h
  exact runs_fn h Tryd.func36 (by kernel_rfl) (fun args w => Tryd.call36 args w) (by kernel_rfl) (by kernel_rfl) rfl rfl

/-- shiftbell/civil.long -/
def wp_civil_long (y : Int) (w : World) (Q : Value → World → Prop) : Prop :=
  ∀ w0, Ext w w0 →
  Q (.bool (((decide ((y.tmod 4) = 0)) && (decide ((y.tmod 100) ≠ 0))) || (decide ((y.tmod 400) = 0)))) w0

theorem ok_civil_long (y : Int) (w : World) (Q : Value → World → Prop) (h : wp_civil_long y w Q) : FnP Tryd.prog F_civil_long #[(.int .i64 y)] w Q := by
  have e_ : wp_civil_long y w Q = Runs Tryd.prog Q ({ N := 16, wrap := [], pub := [], muts := [], joins := [] } : Cfg) Tryd.f45 (Tryd.f45.body.getD .skip) [.sc (.int .i64 y)] w := by kernel_rfl
  rw [e_] at h
  exact runs_fn h Tryd.func45 (by kernel_rfl) (fun args w => Tryd.call45 args w) (by kernel_rfl) (by kernel_rfl) rfl rfl

/-- shiftbell/shiftbellkeep.CronLeast -/
def wp_shiftbellkeep_CronLeast (c_0 : Int) (c_1 : Int) (c_2 : Int) (c_3 : Int) (c_4 : Int) (t : Int) (u : Int) (w : World) (Q : Value → World → Prop) : Prop :=
  ∀ b0 : Nat, w.heap.size ≤ b0 → ∀ w1, Ext w w1 →
  FnP Tryd.prog F_shiftbellkeep_crons #[] w1 fun v2 w2 =>
   Ext w1 w2 ∧
   ∃ t3 : Bool, v2 = (.bool t3) ∧
   ((t3 = false) →
    ∀ w4, Ext w w4 →
    Q (.bool false) w4) ∧
   ((t3 = true) →
    ∀ w4, Ext w w4 →
    FnP Tryd.prog F_cron_Next #[(.agg #[(.int .u64 c_0), (.int .u64 c_1), (.int .u64 c_2), (.int .u64 c_3), (.int .u64 c_4)]), (.int .i64 t)] w4 fun v5 w5 =>
     Ext w4 w5 ∧
     ∃ t6 : Int, ∃ t7 : Int, v5 = (.tuple #[(.int .i64 t6), (.int .i64 t7)]) ∧
     ∀ w8, Ext w w8 →
     FnP Tryd.prog F_cron_Match #[(.agg #[(.int .u64 c_0), (.int .u64 c_1), (.int .u64 c_2), (.int .u64 c_3), (.int .u64 c_4)]), (.int .i64 u)] w8 fun v9 w9 =>
      Ext w8 w9 ∧
      ∃ t10 : Bool, ∃ t11 : Int, v9 = (.tuple #[(.bool t10), (.int .i64 t11)]) ∧
      ((t7 ≠ 0) →
       ∀ w12, Ext w w12 →
       Q (.bool ((decide (t6 = 0)) && ((((decide (t7 ≠ 5)) || (decide (t11 ≠ 0))) || (decide (u ≤ t))) || (!t10)))) w12) ∧
      ((t7 = 0) →
       ∀ w12, Ext w w12 →
       FnP Tryd.prog F_cron_Match #[(.agg #[(.int .u64 c_0), (.int .u64 c_1), (.int .u64 c_2), (.int .u64 c_3), (.int .u64 c_4)]), (.int .i64 t6)] w12 fun v13 w13 =>
        Ext w12 w13 ∧
        ∃ t14 : Bool, ∃ t15 : Int, v13 = (.tuple #[(.bool t14), (.int .i64 t15)]) ∧
        ∀ w16, Ext w w16 →
        Q (.bool ((((decide (t < t6)) && (decide (t15 = 0))) && t14) && ((((decide (t11 ≠ 0)) || (!t10)) || (decide (u ≤ t))) || (decide (t6 ≤ u))))) w16))

theorem ok_shiftbellkeep_CronLeast (c_0 : Int) (c_1 : Int) (c_2 : Int) (c_3 : Int) (c_4 : Int) (t : Int) (u : Int) (w : World) (Q : Value → World → Prop) (h : wp_shiftbellkeep_CronLeast c_0 c_1 c_2 c_3 c_4 t u w Q) : FnP Tryd.prog F_shiftbellkeep_CronLeast #[(.agg #[(.int .u64 c_0), (.int .u64 c_1), (.int .u64 c_2), (.int .u64 c_3), (.int .u64 c_4)]), (.int .i64 t), (.int .i64 u)] w Q := by
  have e_ : wp_shiftbellkeep_CronLeast c_0 c_1 c_2 c_3 c_4 t u w Q = Runs Tryd.prog Q ({ N := 82, wrap := [], pub := [], muts := [], joins := [] } : Cfg) Tryd.f4 (Tryd.f4.body.getD .skip) [.agg [.int .u64 c_0, .int .u64 c_1, .int .u64 c_2, .int .u64 c_3, .int .u64 c_4], .sc (.int .i64 t), .sc (.int .i64 u)] w := by kernel_rfl
  rw [e_] at h
  exact runs_fn h Tryd.func4 (by kernel_rfl) (fun args w => Tryd.call4 args w) (by kernel_rfl) (by kernel_rfl) rfl rfl

theorem open_shiftbellkeep_CronLeast (W : World) (R : Array Value → Prop) (h : ∀ c_0 : Int, InR .u64 c_0 → ∀ c_1 : Int, InR .u64 c_1 → ∀ c_2 : Int, InR .u64 c_2 → ∀ c_3 : Int, InR .u64 c_3 → ∀ c_4 : Int, InR .u64 c_4 → ∀ t : Int, InR .i64 t → ∀ u : Int, InR .i64 u → R #[(.agg #[(.int .u64 c_0), (.int .u64 c_1), (.int .u64 c_2), (.int .u64 c_3), (.int .u64 c_4)]), (.int .i64 t), (.int .i64 u)]) (args : Array Value) (hg : GoodAll Tryd.prog W Tryd.f4.params.toList args.toList) : R args := by
  have e_ : (ArgsAll Tryd.prog W Tryd.f4.params.toList fun l => R l.toArray) = (∀ c_0 : Int, InR .u64 c_0 → ∀ c_1 : Int, InR .u64 c_1 → ∀ c_2 : Int, InR .u64 c_2 → ∀ c_3 : Int, InR .u64 c_3 → ∀ c_4 : Int, InR .u64 c_4 → ∀ t : Int, InR .i64 t → ∀ u : Int, InR .i64 u → R #[(.agg #[(.int .u64 c_0), (.int .u64 c_1), (.int .u64 c_2), (.int .u64 c_3), (.int .u64 c_4)]), (.int .i64 t), (.int .i64 u)]) := by kernel_rfl
  exact args_open (by rw [e_]; exact h) args hg
-- wit 4 #[(.agg #[(.int .u64 0), (.int .u64 0), (.int .u64 0), (.int .u64 0), (.int .u64 0)]), (.int .i64 0), (.int .i64 0)]

/-- shiftbell/shiftbellkeep.CronNow -/
def wp_shiftbellkeep_CronNow (c_0 : Int) (c_1 : Int) (c_2 : Int) (c_3 : Int) (c_4 : Int) (t : Int) (w : World) (Q : Value → World → Prop) : Prop :=
  ∀ b0 : Nat, w.heap.size ≤ b0 → ∀ w1, Ext w w1 →
  FnP Tryd.prog F_shiftbellkeep_crons #[] w1 fun v2 w2 =>
   Ext w1 w2 ∧
   ∃ t3 : Bool, v2 = (.bool t3) ∧
   ((t3 = false) →
    ∀ w4, Ext w w4 →
    Q (.bool false) w4) ∧
   ((t3 = true) →
    ∀ w4, Ext w w4 →
    FnP Tryd.prog F_cron_Match #[(.agg #[(.int .u64 c_0), (.int .u64 c_1), (.int .u64 c_2), (.int .u64 c_3), (.int .u64 c_4)]), (.int .i64 t)] w4 fun v5 w5 =>
     Ext w4 w5 ∧
     ∃ t6 : Bool, ∃ t7 : Int, v5 = (.tuple #[(.bool t6), (.int .i64 t7)]) ∧
     ((t7 ≠ 0) →
      ∀ w8, Ext w w8 →
      Q (.bool (!t6)) w8) ∧
     ((t7 = 0) →
      InR .i64 (t - 1) ∧
      ∀ w8, Ext w w8 →
      FnP Tryd.prog F_cron_Next #[(.agg #[(.int .u64 c_0), (.int .u64 c_1), (.int .u64 c_2), (.int .u64 c_3), (.int .u64 c_4)]), (.int .i64 (t - 1))] w8 fun v9 w9 =>
       Ext w8 w9 ∧
       ∃ t10 : Int, ∃ t11 : Int, v9 = (.tuple #[(.int .i64 t10), (.int .i64 t11)]) ∧
       ((t11 ≠ 0) →
        ∀ w12, Ext w w12 →
        Q (.bool ((decide (t11 = 5)) && (!t6))) w12) ∧
       ((t11 = 0) →
        ∀ w12, Ext w w12 →
        Q (.bool ((((decide (t10 = t)) && t6) || ((decide (t10 ≠ t)) && (!t6))) && (decide (t ≤ t10)))) w12)))

theorem ok_shiftbellkeep_CronNow (c_0 : Int) (c_1 : Int) (c_2 : Int) (c_3 : Int) (c_4 : Int) (t : Int) (w : World) (Q : Value → World → Prop) (h : wp_shiftbellkeep_CronNow c_0 c_1 c_2 c_3 c_4 t w Q) : FnP Tryd.prog F_shiftbellkeep_CronNow #[(.agg #[(.int .u64 c_0), (.int .u64 c_1), (.int .u64 c_2), (.int .u64 c_3), (.int .u64 c_4)]), (.int .i64 t)] w Q := by
  have e_ : wp_shiftbellkeep_CronNow c_0 c_1 c_2 c_3 c_4 t w Q = Runs Tryd.prog Q ({ N := 46, wrap := [], pub := [], muts := [], joins := [] } : Cfg) Tryd.f5 (Tryd.f5.body.getD .skip) [.agg [.int .u64 c_0, .int .u64 c_1, .int .u64 c_2, .int .u64 c_3, .int .u64 c_4], .sc (.int .i64 t)] w := by kernel_rfl
  rw [e_] at h
  exact runs_fn h Tryd.func5 (by kernel_rfl) (fun args w => Tryd.call5 args w) (by kernel_rfl) (by kernel_rfl) rfl rfl

theorem open_shiftbellkeep_CronNow (W : World) (R : Array Value → Prop) (h : ∀ c_0 : Int, InR .u64 c_0 → ∀ c_1 : Int, InR .u64 c_1 → ∀ c_2 : Int, InR .u64 c_2 → ∀ c_3 : Int, InR .u64 c_3 → ∀ c_4 : Int, InR .u64 c_4 → ∀ t : Int, InR .i64 t → R #[(.agg #[(.int .u64 c_0), (.int .u64 c_1), (.int .u64 c_2), (.int .u64 c_3), (.int .u64 c_4)]), (.int .i64 t)]) (args : Array Value) (hg : GoodAll Tryd.prog W Tryd.f5.params.toList args.toList) : R args := by
  have e_ : (ArgsAll Tryd.prog W Tryd.f5.params.toList fun l => R l.toArray) = (∀ c_0 : Int, InR .u64 c_0 → ∀ c_1 : Int, InR .u64 c_1 → ∀ c_2 : Int, InR .u64 c_2 → ∀ c_3 : Int, InR .u64 c_3 → ∀ c_4 : Int, InR .u64 c_4 → ∀ t : Int, InR .i64 t → R #[(.agg #[(.int .u64 c_0), (.int .u64 c_1), (.int .u64 c_2), (.int .u64 c_3), (.int .u64 c_4)]), (.int .i64 t)]) := by kernel_rfl
  exact args_open (by rw [e_]; exact h) args hg
-- wit 5 #[(.agg #[(.int .u64 0), (.int .u64 0), (.int .u64 0), (.int .u64 0), (.int .u64 0)]), (.int .i64 0)]

/-- shiftbell/shiftbellkeep.CronAgain -/
def wp_shiftbellkeep_CronAgain (c_0 : Int) (c_1 : Int) (c_2 : Int) (c_3 : Int) (c_4 : Int) (t : Int) (w : World) (Q : Value → World → Prop) : Prop :=
  ∀ b0 : Nat, w.heap.size ≤ b0 → ∀ w1, Ext w w1 →
  FnP Tryd.prog F_shiftbellkeep_crons #[] w1 fun v2 w2 =>
   Ext w1 w2 ∧
   ∃ t3 : Bool, v2 = (.bool t3) ∧
   ((t3 = false) →
    ∀ w4, Ext w w4 →
    Q (.bool false) w4) ∧
   ((t3 = true) →
    ∀ w4, Ext w w4 →
    FnP Tryd.prog F_cron_Match #[(.agg #[(.int .u64 c_0), (.int .u64 c_1), (.int .u64 c_2), (.int .u64 c_3), (.int .u64 c_4)]), (.int .i64 t)] w4 fun v5 w5 =>
     Ext w4 w5 ∧
     ∃ t6 : Bool, ∃ t7 : Int, v5 = (.tuple #[(.bool t6), (.int .i64 t7)]) ∧
     ∀ w8, Ext w w8 →
     FnP Tryd.prog F_cron_Match #[(.agg #[(.int .u64 c_0), (.int .u64 c_1), (.int .u64 c_2), (.int .u64 c_3), (.int .u64 c_4)]), (.int .i64 (IntKind.wrap .i64 (t + 210379680)))] w8 fun v9 w9 =>
      Ext w8 w9 ∧
      ∃ t10 : Bool, ∃ t11 : Int, v9 = (.tuple #[(.bool t10), (.int .i64 t11)]) ∧
      ∀ w12, Ext w w12 →
      Q (.bool (((decide (t < 0)) || (decide (5048585279 < t))) || ((decide (t7 = t11)) && ((t6 && t10) || ((!t6) && (!t10)))))) w12)

theorem ok_shiftbellkeep_CronAgain (c_0 : Int) (c_1 : Int) (c_2 : Int) (c_3 : Int) (c_4 : Int) (t : Int) (w : World) (Q : Value → World → Prop) (h : wp_shiftbellkeep_CronAgain c_0 c_1 c_2 c_3 c_4 t w Q) : FnP Tryd.prog F_shiftbellkeep_CronAgain #[(.agg #[(.int .u64 c_0), (.int .u64 c_1), (.int .u64 c_2), (.int .u64 c_3), (.int .u64 c_4)]), (.int .i64 t)] w Q := by
  have e_ : wp_shiftbellkeep_CronAgain c_0 c_1 c_2 c_3 c_4 t w Q = Runs Tryd.prog Q ({ N := 40, wrap := [20], pub := [], muts := [], joins := [] } : Cfg) Tryd.f6 (Tryd.f6.body.getD .skip) [.agg [.int .u64 c_0, .int .u64 c_1, .int .u64 c_2, .int .u64 c_3, .int .u64 c_4], .sc (.int .i64 t)] w := by kernel_rfl
  rw [e_] at h
  exact runs_fn h Tryd.func6 (by kernel_rfl) (fun args w => Tryd.call6 args w) (by kernel_rfl) (by kernel_rfl) rfl rfl

theorem open_shiftbellkeep_CronAgain (W : World) (R : Array Value → Prop) (h : ∀ c_0 : Int, InR .u64 c_0 → ∀ c_1 : Int, InR .u64 c_1 → ∀ c_2 : Int, InR .u64 c_2 → ∀ c_3 : Int, InR .u64 c_3 → ∀ c_4 : Int, InR .u64 c_4 → ∀ t : Int, InR .i64 t → R #[(.agg #[(.int .u64 c_0), (.int .u64 c_1), (.int .u64 c_2), (.int .u64 c_3), (.int .u64 c_4)]), (.int .i64 t)]) (args : Array Value) (hg : GoodAll Tryd.prog W Tryd.f6.params.toList args.toList) : R args := by
  have e_ : (ArgsAll Tryd.prog W Tryd.f6.params.toList fun l => R l.toArray) = (∀ c_0 : Int, InR .u64 c_0 → ∀ c_1 : Int, InR .u64 c_1 → ∀ c_2 : Int, InR .u64 c_2 → ∀ c_3 : Int, InR .u64 c_3 → ∀ c_4 : Int, InR .u64 c_4 → ∀ t : Int, InR .i64 t → R #[(.agg #[(.int .u64 c_0), (.int .u64 c_1), (.int .u64 c_2), (.int .u64 c_3), (.int .u64 c_4)]), (.int .i64 t)]) := by kernel_rfl
  exact args_open (by rw [e_]; exact h) args hg
-- wit 6 #[(.agg #[(.int .u64 0), (.int .u64 0), (.int .u64 0), (.int .u64 0), (.int .u64 0)]), (.int .i64 0)]

end Go.Proofs.YthhpepdchbdaoaaDoor
