/- The texts of this seat's functions: what each computes, as its symbolic run says it. -/
import Derived.Test.YteelndoflikliaaDoorRows
import Derived.Test.YteelndoflikliaaDoorSxD
import Derived.Test.YteelndoflikliaaDoorSxN
import Derived.Test.YteelndoflikliaaDoorTxt
set_option linter.unusedVariables false
set_option linter.unusedSimpArgs false
set_option maxRecDepth 100000
namespace Go.Proofs.YteelndoflikliaaDoor
open Go.Sx Go.RowKit

abbrev F_shiftbellkeep_CronBack : FuncId := 6
abbrev F_shiftbellkeep_CronOne : FuncId := 7
abbrev F_shiftbellkeep_crons : FuncId := 19
abbrev F_cron_Print : FuncId := 20
abbrev F_cron_Parse : FuncId := 21
abbrev F_cron_Check : FuncId := 22
abbrev F_cron_Next : FuncId := 45
abbrev F_cron_fields : FuncId := 46
abbrev F_cron_field_text : FuncId := 47
abbrev F_cron_field_item : FuncId := 49
abbrev F_cron_field_all : FuncId := 50
abbrev F_cron_day : FuncId := 63
abbrev F_cron_within : FuncId := 64
abbrev F_math_bits_TrailingZeros64 : FuncId := 65
abbrev F_strconv_Itoa : FuncId := 66
abbrev F_cron_span : FuncId := 67
abbrev F_cron_number : FuncId := 71
abbrev F_civil_Date : FuncId := 85
abbrev F_civil_Weekday : FuncId := 86
abbrev F_cron_has : FuncId := 87
abbrev F_strconv_Atoi : FuncId := 91
abbrev F_civil_before : FuncId := 111
abbrev F_civil_length : FuncId := 112
abbrev F_civil_long : FuncId := 126

/-- shiftbell/cron.fields -/
def wp_cron_fields (c : Option Addr) (w : World) (Q : Value → World → Prop) : Prop :=
  c ≠ none ∧
  c ≠ none ∧
  c ≠ none ∧
  c ≠ none ∧
  c ≠ none ∧
  c ≠ none ∧
  c ≠ none ∧
  c ≠ none ∧
  c ≠ none ∧
  c ≠ none ∧
  ∀ w0, Ext w w0 →
  Run Tryd.prog (.buildSlice 97 5 [(0, (.agg #[(.pointer (pAdd c 0)), (.int .i64 0), (.int .i64 59)])), (1, (.agg #[(.pointer (pAdd c 1)), (.int .i64 0), (.int .i64 23)])), (2, (.agg #[(.pointer (pAdd c 2)), (.int .i64 1), (.int .i64 31)])), (3, (.agg #[(.pointer (pAdd c 3)), (.int .i64 1), (.int .i64 12)])), (4, (.agg #[(.pointer (pAdd c 4)), (.int .i64 0), (.int .i64 6)]))]) w0 fun v1 w1 =>
   Ext w0 w1 ∧
   ∃ t2 : Option Addr, ∃ tl3 : Nat, ∃ tc4 : Nat, v1 = (.slice t2 tl3 tc4) ∧
   ∀ w5, Ext w1 w5 →
   Q (.slice t2 tl3 tc4) w5

theorem ok_cron_fields (c : Option Addr) (w : World) (Q : Value → World → Prop) (h : wp_cron_fields c w Q) : FnP Tryd.prog F_cron_fields #[(.pointer c)] w Q := by
  have e_ : wp_cron_fields c w Q = Runs Tryd.prog Q ({ N := 24, wrap := [], pub := [], muts := [], joins := [] } : Cfg) Tryd.f46 (Tryd.f46.body.getD .skip) [.sc (.ptr c)] w := by kernel_rfl
  rw [e_] at h
  exact runs_fn h Tryd.func46 (by kernel_rfl) (fun args w => Tryd.call46 args w) (by kernel_rfl) (by kernel_rfl) rfl rfl

/-- shiftbell/cron.span -/
def wp_cron_span (low : Int) (top : Int) (w : World) (Q : Value → World → Prop) : Prop :=
  InR .i64 (top + 1) ∧
  0 ≤ ((top + 1) : Int) ∧
  0 ≤ (low : Int) ∧
  ∀ w0, Ext w w0 →
  Q (.int .u64 (IntKind.wrap .u64 ((iBit .shl .u64 1 (top + 1)) - (iBit .shl .u64 1 low)))) w0

theorem ok_cron_span (low : Int) (top : Int) (w : World) (Q : Value → World → Prop) (h : wp_cron_span low top w Q) : FnP Tryd.prog F_cron_span #[(.int .i64 low), (.int .i64 top)] w Q := by
  have e_ : wp_cron_span low top w Q = Runs Tryd.prog Q ({ N := 11, wrap := [7, 9, 10], pub := [], muts := [], joins := [] } : Cfg) Tryd.f67 (Tryd.f67.body.getD .skip) [.sc (.int .i64 low), .sc (.int .i64 top)] w := by kernel_rfl
  rw [e_] at h
  exact runs_fn h Tryd.func67 (by kernel_rfl) (fun args w => Tryd.call67 args w) (by kernel_rfl) (by kernel_rfl) rfl rfl

/-- (shiftbell/cron.field).all -/
def wp_cron_field_all (f_0 : Option Addr) (f_1 : Int) (f_2 : Int) (w : World) (Q : Value → World → Prop) : Prop :=
  ∀ b0 : Nat, w.heap.size ≤ b0 → ∀ w1, Ext w w1 →
  FnP Tryd.prog F_cron_span #[(.int .i64 f_1), (.int .i64 f_2)] w1 fun v2 w2 =>
   Ext w1 w2 ∧
   ∃ t3 : Int, v2 = (.int .u64 t3) ∧
   ∀ w4, Ext w w4 →
   Q (.int .u64 t3) w4

theorem ok_cron_field_all (f_0 : Option Addr) (f_1 : Int) (f_2 : Int) (w : World) (Q : Value → World → Prop) (h : wp_cron_field_all f_0 f_1 f_2 w Q) : FnP Tryd.prog F_cron_field_all #[(.agg #[(.pointer f_0), (.int .i64 f_1), (.int .i64 f_2)])] w Q := by
  have e_ : wp_cron_field_all f_0 f_1 f_2 w Q = Runs Tryd.prog Q ({ N := 8, wrap := [], pub := [], muts := [], joins := [] } : Cfg) Tryd.f50 (Tryd.f50.body.getD .skip) [.agg [.ptr f_0, .int .i64 f_1, .int .i64 f_2]] w := by kernel_rfl
  rw [e_] at h
  exact runs_fn h Tryd.func50 (by kernel_rfl) (fun args w => Tryd.call50 args w) (by kernel_rfl) (by kernel_rfl) rfl rfl

/-- shiftbell/cron.Check -/
def wp_cron_Check (c_0 : Int) (c_1 : Int) (c_2 : Int) (c_3 : Int) (c_4 : Int) (w : World) (Q : Value → World → Prop) : Prop :=
  ∀ w0, Ext w w0 →
  New w0 50 [(.int .u64 c_0), (.int .u64 c_1), (.int .u64 c_2), (.int .u64 c_3), (.int .u64 c_4)] fun p1 w1 =>
   ∀ w2, Ext w1 w2 →
   FnP Tryd.prog F_cron_fields #[(.pointer p1)] w2 fun v3 w3 =>
    Ext w2 w3 ∧
    ∃ t4 : Option Addr, ∃ tl5 : Nat, ∃ tc6 : Nat, v3 = (.slice t4 tl5 tc6) ∧
    ∃ (I7 : Int → World → Prop) (M7 : Int → World → Nat), I7 0 w3 ∧
    ∀ (k8 : Int) (w9 : World), I7 k8 w9 →
     (((k8 < (tl5 : Int)) →
      t4 ≠ none ∧
      (0 : Int) ≤ k8 ∧
      (k8 : Int) < (tl5 : Int) ∧
      (pIdx t4 k8 3) ≠ none ∧
      ∃ t10 : Option Addr, cell w9 (pIdx t4 k8 3) 0 = some (.pointer t10) ∧
      ∃ t11 : Int, cell w9 (pIdx t4 k8 3) 1 = some (.int .i64 t11) ∧
      ∃ t12 : Int, cell w9 (pIdx t4 k8 3) 2 = some (.int .i64 t12) ∧
      ∀ b13 : Nat, w9.heap.size ≤ b13 → t10 ≠ none ∧
      ∃ t14 : Int, cell w9 t10 0 = some (.int .u64 t14) ∧
      ((t14 ≠ 0) →
       t10 ≠ none) ∧
      ((t14 = 0) →
       ∀ w15, Ext w9 w15 →
       Q (.int .i64 3) w15) ∧
      ((t14 ≠ 0) →
       ∃ t15 : Int, cell w9 t10 0 = some (.int .u64 t15) ∧
       ∀ w16, Ext w9 w16 →
       FnP Tryd.prog F_cron_field_all #[(.agg #[(.pointer t10), (.int .i64 t11), (.int .i64 t12)])] w16 fun v17 w17 =>
        Ext w16 w17 ∧
        ∃ t18 : Int, v17 = (.int .u64 t18) ∧
        (((iBit .andNot .u64 t15 t18) ≠ 0) →
         ∀ w19, Ext w9 w19 →
         Q (.int .i64 3) w19) ∧
        (((iBit .andNot .u64 t15 t18) = 0) →
         InR .i64 (k8 + 1) ∧
         (I7 (k8 + 1) w9 ∧ M7 (k8 + 1) w9 < M7 k8 w9))))) ∧
     (((tl5 : Int) ≤ k8) →
      ∀ w10, Ext w9 w10 →
      Q (.int .i64 0) w10)

theorem ok_cron_Check (c_0 : Int) (c_1 : Int) (c_2 : Int) (c_3 : Int) (c_4 : Int) (w : World) (Q : Value → World → Prop) (h : wp_cron_Check c_0 c_1 c_2 c_3 c_4 w Q) : FnP Tryd.prog F_cron_Check #[(.agg #[(.int .u64 c_0), (.int .u64 c_1), (.int .u64 c_2), (.int .u64 c_3), (.int .u64 c_4)])] w Q := by
  have e_ : wp_cron_Check c_0 c_1 c_2 c_3 c_4 w Q = Runs Tryd.prog Q ({ N := 27, wrap := [], pub := [1], muts := [], joins := [] } : Cfg) Tryd.f22 (Tryd.f22.body.getD .skip) [.agg [.int .u64 c_0, .int .u64 c_1, .int .u64 c_2, .int .u64 c_3, .int .u64 c_4]] w := by kernel_rfl
  rw [e_] at h
  exact runs_fn h Tryd.func22 (by kernel_rfl) (fun args w => Tryd.call22 args w) (by kernel_rfl) (by kernel_rfl) rfl rfl

/-- (shiftbell/cron.field).text -/
def wp_cron_field_text (f_0 : Option Addr) (f_1 : Int) (f_2 : Int) (w : World) (Q : Value → World → Prop) : Prop :=
  ∀ b0 : Nat, w.heap.size ≤ b0 → f_0 ≠ none ∧
  ∃ t1 : Int, cell w f_0 0 = some (.int .u64 t1) ∧
  ∀ w2, Ext w w2 →
  FnP Tryd.prog F_cron_field_all #[(.agg #[(.pointer f_0), (.int .i64 f_1), (.int .i64 f_2)])] w2 fun v3 w3 =>
   Ext w2 w3 ∧
   ∃ t4 : Int, v3 = (.int .u64 t4) ∧
   ((t1 = t4) →
    ∀ w5, Ext w w5 →
    Q (.string (⟨#[42]⟩ : ByteArray)) w5) ∧
   ((t1 ≠ t4) →
    f_0 ≠ none ∧
    ∃ t5 : Int, cell w f_0 0 = some (.int .u64 t5) ∧
    ∃ (I6 : Option Addr → Nat → Nat → Int → World → Prop) (M6 : Option Addr → Nat → Nat → Int → World → Nat), I6 none 0 0 t5 w ∧
    ∀ (out7 : Option Addr) (outl7 : Nat) (outc7 : Nat) (left8 : Int) (w9 : World), I6 out7 outl7 outc7 left8 w9 →
     (((left8 ≠ 0) →
      ∀ w10, Ext w9 w10 →
      FnP Tryd.prog F_math_bits_TrailingZeros64 #[(.int .u64 left8)] w10 fun v11 w11 =>
       Ext w10 w11 ∧
       ∃ t12 : Int, v11 = (.int .i64 t12) ∧
       0 ≤ (t12 : Int) ∧
       ∀ w13, Ext w9 w13 →
       FnP Tryd.prog F_math_bits_TrailingZeros64 #[(.int .u64 (iBit .xor .u64 18446744073709551615 (iBit .shr .u64 left8 t12)))] w13 fun v14 w14 =>
        Ext w13 w14 ∧
        ∃ t15 : Int, v14 = (.int .i64 t15) ∧
        InR .i64 (t12 + t15) ∧
        InR .i64 ((t12 + t15) - 1) ∧
        ∀ w16, Ext w9 w16 →
        FnP Tryd.prog F_strconv_Itoa #[(.int .i64 t12)] w16 fun v17 w17 =>
         Ext w16 w17 ∧
         ∃ t18 : ByteArray, v17 = (.string t18) ∧
         (((t12 < ((t12 + t15) - 1)) →
          ∀ w19, Ext w9 w19 →
          FnP Tryd.prog F_strconv_Itoa #[(.int .i64 ((t12 + t15) - 1))] w19 fun v20 w20 =>
           Ext w19 w20 ∧
           ∃ t21 : ByteArray, v20 = (.string t21) ∧
           CatOk (⟨#[45]⟩ : ByteArray) t21 ∧
           CatOk t18 ((⟨#[45]⟩ : ByteArray) ++ t21) ∧
           ∀ w22, ExtB [] [b0] w9 w22 →
           Run Tryd.prog (.buildSlice 58 1 [(0, (.string (t18 ++ ((⟨#[45]⟩ : ByteArray) ++ t21))))]) w22 fun v23 w23 =>
            Ext w22 w23 ∧
            ∃ t24 : Option Addr, ∃ tl25 : Nat, ∃ tc26 : Nat, v23 = (.slice t24 tl25 tc26) ∧
            ∀ w27, ExtB [] [b0] w23 w27 →
            Run Tryd.prog (.append #[58, 58] 58 [(.slice out7 outl7 outc7), (.slice t24 tl25 tc26)]) w27 fun v28 w28 =>
             Kept [b0] w27 w28 ∧
             ∃ t29 : Option Addr, ∃ tl30 : Nat, ∃ tc31 : Nat, v28 = (.slice t29 tl30 tc31) ∧
             ∀ w32, Ext w28 w32 →
             FnP Tryd.prog F_cron_span #[(.int .i64 t12), (.int .i64 ((t12 + t15) - 1))] w32 fun v33 w33 =>
              Ext w32 w33 ∧
              ∃ t34 : Int, v33 = (.int .u64 t34) ∧
              (I6 t29 tl30 tc31 (iBit .andNot .u64 left8 t34) w28 ∧ M6 t29 tl30 tc31 (iBit .andNot .u64 left8 t34) w28 < M6 out7 outl7 outc7 left8 w9))) ∧
         ((((t12 + t15) - 1) ≤ t12) →
          ∀ w19, ExtB [] [b0] w9 w19 →
          Run Tryd.prog (.buildSlice 58 1 [(0, (.string t18))]) w19 fun v20 w20 =>
           Ext w19 w20 ∧
           ∃ t21 : Option Addr, ∃ tl22 : Nat, ∃ tc23 : Nat, v20 = (.slice t21 tl22 tc23) ∧
           ∀ w24, ExtB [] [b0] w20 w24 →
           Run Tryd.prog (.append #[58, 58] 58 [(.slice out7 outl7 outc7), (.slice t21 tl22 tc23)]) w24 fun v25 w25 =>
            Kept [b0] w24 w25 ∧
            ∃ t26 : Option Addr, ∃ tl27 : Nat, ∃ tc28 : Nat, v25 = (.slice t26 tl27 tc28) ∧
            ∀ w29, Ext w25 w29 →
            FnP Tryd.prog F_cron_span #[(.int .i64 t12), (.int .i64 ((t12 + t15) - 1))] w29 fun v30 w30 =>
             Ext w29 w30 ∧
             ∃ t31 : Int, v30 = (.int .u64 t31) ∧
             (I6 t26 tl27 tc28 (iBit .andNot .u64 left8 t31) w25 ∧ M6 t26 tl27 tc28 (iBit .andNot .u64 left8 t31) w25 < M6 out7 outl7 outc7 left8 w9)))) ∧
     ((left8 = 0) →
      ∀ w10, Ext w9 w10 →
      FnP Tryd.prog F_strings_Join #[(.slice out7 outl7 outc7), (.string (⟨#[44]⟩ : ByteArray))] w10 fun v11 w11 =>
       Ext w10 w11 ∧
       ∃ t12 : ByteArray, v11 = (.string t12) ∧
       ∀ w13, Ext w9 w13 →
       Q (.string t12) w13))

theorem ok_cron_field_text (f_0 : Option Addr) (f_1 : Int) (f_2 : Int) (w : World) (Q : Value → World → Prop) (h : wp_cron_field_text f_0 f_1 f_2 w Q) : FnP Tryd.prog F_cron_field_text #[(.agg #[(.pointer f_0), (.int .i64 f_1), (.int .i64 f_2)])] w Q := by
  have e_ : wp_cron_field_text f_0 f_1 f_2 w Q = Runs Tryd.prog Q ({ N := 52, wrap := [], pub := [], muts := [], joins := [] } : Cfg) Tryd.f47 (Tryd.f47.body.getD .skip) [.agg [.ptr f_0, .int .i64 f_1, .int .i64 f_2]] w := by kernel_rfl
  rw [e_] at h
  exact runs_fn h Tryd.func47 (by kernel_rfl) (fun args w => Tryd.call47 args w) (by kernel_rfl) (by kernel_rfl) rfl rfl

/-- shiftbell/cron.Print -/
def wp_cron_Print (c_0 : Int) (c_1 : Int) (c_2 : Int) (c_3 : Int) (c_4 : Int) (w : World) (Q : Value → World → Prop) : Prop :=
  ∀ w0, Ext w w0 →
  New w0 50 [(.int .u64 c_0), (.int .u64 c_1), (.int .u64 c_2), (.int .u64 c_3), (.int .u64 c_4)] fun p1 w1 =>
   p1 ≠ none ∧
   ∃ t2 : Int, cell w1 p1 0 = some (.int .u64 t2) ∧
   ∃ t3 : Int, cell w1 p1 1 = some (.int .u64 t3) ∧
   ∃ t4 : Int, cell w1 p1 2 = some (.int .u64 t4) ∧
   ∃ t5 : Int, cell w1 p1 3 = some (.int .u64 t5) ∧
   ∃ t6 : Int, cell w1 p1 4 = some (.int .u64 t6) ∧
   ∀ w7, Ext w1 w7 →
   FnP Tryd.prog F_cron_Check #[(.agg #[(.int .u64 t2), (.int .u64 t3), (.int .u64 t4), (.int .u64 t5), (.int .u64 t6)])] w7 fun v8 w8 =>
    Ext w7 w8 ∧
    ∃ t9 : Int, v8 = (.int .i64 t9) ∧
    ((t9 ≠ 0) →
     ∀ w10, Ext w1 w10 →
     Q (.tuple #[(.string (⟨#[]⟩ : ByteArray)), (.int .i64 t9)]) w10) ∧
    ((t9 = 0) →
     ∀ w10, Ext w1 w10 →
     FnP Tryd.prog F_cron_fields #[(.pointer p1)] w10 fun v11 w11 =>
      Ext w10 w11 ∧
      ∃ t12 : Option Addr, ∃ tl13 : Nat, ∃ tc14 : Nat, v11 = (.slice t12 tl13 tc14) ∧
      ∃ (I15 : Option Addr → Nat → Nat → Int → World → Prop) (M15 : Option Addr → Nat → Nat → Int → World → Nat), I15 none 0 0 0 w11 ∧
      ∀ (out16 : Option Addr) (outl16 : Nat) (outc16 : Nat) (k17 : Int) (w18 : World), I15 out16 outl16 outc16 k17 w18 →
       (((k17 < (tl13 : Int)) →
        t12 ≠ none ∧
        (0 : Int) ≤ k17 ∧
        (k17 : Int) < (tl13 : Int) ∧
        (pIdx t12 k17 3) ≠ none ∧
        ∃ t19 : Option Addr, cell w18 (pIdx t12 k17 3) 0 = some (.pointer t19) ∧
        ∃ t20 : Int, cell w18 (pIdx t12 k17 3) 1 = some (.int .i64 t20) ∧
        ∃ t21 : Int, cell w18 (pIdx t12 k17 3) 2 = some (.int .i64 t21) ∧
        ∀ b22 : Nat, w18.heap.size ≤ b22 → ∀ w23, Ext w18 w23 →
        FnP Tryd.prog F_cron_field_text #[(.agg #[(.pointer t19), (.int .i64 t20), (.int .i64 t21)])] w23 fun v24 w24 =>
         Ext w23 w24 ∧
         ∃ t25 : ByteArray, v24 = (.string t25) ∧
         ∀ w26, ExtB [] [b22] w18 w26 →
         Run Tryd.prog (.buildSlice 58 1 [(0, (.string t25))]) w26 fun v27 w27 =>
          Ext w26 w27 ∧
          ∃ t28 : Option Addr, ∃ tl29 : Nat, ∃ tc30 : Nat, v27 = (.slice t28 tl29 tc30) ∧
          ∀ w31, ExtB [] [b22] w27 w31 →
          Run Tryd.prog (.append #[58, 58] 58 [(.slice out16 outl16 outc16), (.slice t28 tl29 tc30)]) w31 fun v32 w32 =>
           Kept [b22] w31 w32 ∧
           ∃ t33 : Option Addr, ∃ tl34 : Nat, ∃ tc35 : Nat, v32 = (.slice t33 tl34 tc35) ∧
           InR .i64 (k17 + 1) ∧
           (I15 t33 tl34 tc35 (k17 + 1) w32 ∧ M15 t33 tl34 tc35 (k17 + 1) w32 < M15 out16 outl16 outc16 k17 w18))) ∧
       (((tl13 : Int) ≤ k17) →
        ∀ w19, Ext w18 w19 →
        FnP Tryd.prog F_strings_Join #[(.slice out16 outl16 outc16), (.string (⟨#[32]⟩ : ByteArray))] w19 fun v20 w20 =>
         Ext w19 w20 ∧
         ∃ t21 : ByteArray, v20 = (.string t21) ∧
         ∀ w22, Ext w18 w22 →
         Q (.tuple #[(.string t21), (.int .i64 0)]) w22))

theorem ok_cron_Print (c_0 : Int) (c_1 : Int) (c_2 : Int) (c_3 : Int) (c_4 : Int) (w : World) (Q : Value → World → Prop) (h : wp_cron_Print c_0 c_1 c_2 c_3 c_4 w Q) : FnP Tryd.prog F_cron_Print #[(.agg #[(.int .u64 c_0), (.int .u64 c_1), (.int .u64 c_2), (.int .u64 c_3), (.int .u64 c_4)])] w Q := by
  have e_ : wp_cron_Print c_0 c_1 c_2 c_3 c_4 w Q = Runs Tryd.prog Q ({ N := 27, wrap := [], pub := [1], muts := [], joins := [] } : Cfg) Tryd.f20 (Tryd.f20.body.getD .skip) [.agg [.int .u64 c_0, .int .u64 c_1, .int .u64 c_2, .int .u64 c_3, .int .u64 c_4]] w := by kernel_rfl
  rw [e_] at h
  exact runs_fn h Tryd.func20 (by kernel_rfl) (fun args w => Tryd.call20 args w) (by kernel_rfl) (by kernel_rfl) rfl rfl

/-- shiftbell/cron.number -/
def wp_cron_number (s : ByteArray) (low : Int) (top : Int) (w : World) (Q : Value → World → Prop) : Prop :=
  ∀ w0, Ext w w0 →
  FnP Tryd.prog F_strconv_Atoi #[(.string s)] w0 fun v1 w1 =>
   Ext w0 w1 ∧
   ∃ t2 : Int, ∃ t3 : Value, v1 = (.tuple #[(.int .i64 t2), t3]) ∧
   ∀ w4, Ext w1 w4 →
   Run Tryd.prog (.eq .eql 86 false true t3 .nilIface) w4 fun v5 w5 =>
    Ext w4 w5 ∧
    ∃ t6 : Bool, v5 = (.bool t6) ∧
    ((((t6 = true) ∧ ((s.size : Int) ≤ 2)) →
     ∀ w7, Ext w1 w7 →
     FnP Tryd.prog F_strconv_Itoa #[(.int .i64 t2)] w7 fun v8 w8 =>
      Ext w7 w8 ∧
      ∃ t9 : ByteArray, v8 = (.string t9) ∧
      ∀ w10, Ext w1 w10 →
      Q (.tuple #[(.int .i64 t2), (.bool (((decide (t9 = s)) && (decide (low ≤ t2))) && (decide (t2 ≤ top))))]) w10)) ∧
    (((t6 = false) ∨ (2 < (s.size : Int))) →
     ∀ w7, Ext w1 w7 →
     Q (.tuple #[(.int .i64 t2), (.bool false)]) w7)

theorem ok_cron_number (s : ByteArray) (low : Int) (top : Int) (w : World) (Q : Value → World → Prop) (h : wp_cron_number s low top w Q) : FnP Tryd.prog F_cron_number #[(.string s), (.int .i64 low), (.int .i64 top)] w Q := by
  have e_ : wp_cron_number s low top w Q = Runs Tryd.prog Q ({ N := 39, wrap := [], pub := [], muts := [], joins := [] } : Cfg) Tryd.f71 (Tryd.f71.body.getD .skip) [.sc (.str s), .sc (.int .i64 low), .sc (.int .i64 top)] w := by kernel_rfl
  rw [e_] at h
  exact runs_fn h Tryd.func71 (by kernel_rfl) (fun args w => Tryd.call71 args w) (by kernel_rfl) (by kernel_rfl) rfl rfl

/-- (shiftbell/cron.field).item -/
def wp_cron_field_item (f_0 : Option Addr) (f_1 : Int) (f_2 : Int) (s : ByteArray) (w : World) (Q : Value → World → Prop) : Prop :=
  ∀ b0 : Nat, w.heap.size ≤ b0 → ∀ w1, Ext w w1 →
  FnP Tryd.prog F_strings_Cut #[(.string s), (.string (⟨#[47]⟩ : ByteArray))] w1 fun v2 w2 =>
   Ext w1 w2 ∧
   ∃ t3 : ByteArray, ∃ t4 : ByteArray, ∃ t5 : Bool, v2 = (.tuple #[(.string t3), (.string t4), (.bool t5)]) ∧
   ∀ w6, Ext w w6 →
   FnP Tryd.prog F_strings_Cut #[(.string t3), (.string (⟨#[45]⟩ : ByteArray))] w6 fun v7 w7 =>
    Ext w6 w7 ∧
    ∃ t8 : ByteArray, ∃ t9 : ByteArray, ∃ t10 : Bool, v7 = (.tuple #[(.string t8), (.string t9), (.bool t10)]) ∧
    (((t3 ≠ (⟨#[42]⟩ : ByteArray)) →
     ∀ w11, Ext w w11 →
     FnP Tryd.prog F_cron_number #[(.string t8), (.int .i64 f_1), (.int .i64 f_2)] w11 fun v12 w12 =>
      Ext w11 w12 ∧
      ∃ t13 : Int, ∃ t14 : Bool, v12 = (.tuple #[(.int .i64 t13), (.bool t14)]) ∧
      ((t14 = false) →
       ∀ w15, Ext w w15 →
       Q (.tuple #[(.int .u64 0), (.bool false)]) w15) ∧
      ((t14 = true) →
       (((t10 = true) →
        ∀ w15, Ext w w15 →
        FnP Tryd.prog F_cron_number #[(.string t9), (.int .i64 t13), (.int .i64 f_2)] w15 fun v16 w16 =>
         Ext w15 w16 ∧
         ∃ t17 : Int, ∃ t18 : Bool, v16 = (.tuple #[(.int .i64 t17), (.bool t18)]) ∧
         ((((t18 = false) ∨ ((t5 = true) ∧ (t10 = false))) →
          ∀ w19, Ext w w19 →
          Q (.tuple #[(.int .u64 0), (.bool false)]) w19)) ∧
         (((t18 = true) ∧ ((t5 = false) ∨ (t10 = true))) →
          (((t5 = true) →
           ∀ w19, Ext w w19 →
           FnP Tryd.prog F_cron_number #[(.string t4), (.int .i64 1), (.int .i64 99)] w19 fun v20 w20 =>
            Ext w19 w20 ∧
            ∃ t21 : Int, ∃ t22 : Bool, v20 = (.tuple #[(.int .i64 t21), (.bool t22)]) ∧
            ((t22 = false) →
             ∀ w23, Ext w w23 →
             Q (.tuple #[(.int .u64 0), (.bool false)]) w23) ∧
            ((t22 = true) →
             ∃ (I23 : Int → Int → World → Prop) (M23 : Int → Int → World → Nat), I23 0 t13 w ∧
             ∀ (out24 : Int) (n25 : Int) (w26 : World), I23 out24 n25 w26 →
              (((n25 ≤ t17) →
               0 ≤ (n25 : Int) ∧
               InR .i64 (n25 + t21) ∧
               (I23 (iBit .or .u64 out24 (iBit .shl .u64 1 n25)) (n25 + t21) w26 ∧ M23 (iBit .or .u64 out24 (iBit .shl .u64 1 n25)) (n25 + t21) w26 < M23 out24 n25 w26))) ∧
              ((t17 < n25) →
               ∀ w27, Ext w26 w27 →
               Q (.tuple #[(.int .u64 out24), (.bool true)]) w27)))) ∧
          ((t5 = false) →
           ∃ (I19 : Int → Int → World → Prop) (M19 : Int → Int → World → Nat), I19 0 t13 w ∧
           ∀ (out20 : Int) (n21 : Int) (w22 : World), I19 out20 n21 w22 →
            (((n21 ≤ t17) →
             0 ≤ (n21 : Int) ∧
             InR .i64 (n21 + 1) ∧
             (I19 (iBit .or .u64 out20 (iBit .shl .u64 1 n21)) (n21 + 1) w22 ∧ M19 (iBit .or .u64 out20 (iBit .shl .u64 1 n21)) (n21 + 1) w22 < M19 out20 n21 w22))) ∧
            ((t17 < n21) →
             ∀ w23, Ext w22 w23 →
             Q (.tuple #[(.int .u64 out20), (.bool true)]) w23))))) ∧
       ((t10 = false) →
        ((((t5 = true) ∧ (t10 = false)) →
         ∀ w15, Ext w w15 →
         Q (.tuple #[(.int .u64 0), (.bool false)]) w15)) ∧
        (((t5 = false) ∨ (t10 = true)) →
         (((t5 = true) →
          ∀ w15, Ext w w15 →
          FnP Tryd.prog F_cron_number #[(.string t4), (.int .i64 1), (.int .i64 99)] w15 fun v16 w16 =>
           Ext w15 w16 ∧
           ∃ t17 : Int, ∃ t18 : Bool, v16 = (.tuple #[(.int .i64 t17), (.bool t18)]) ∧
           ((t18 = false) →
            ∀ w19, Ext w w19 →
            Q (.tuple #[(.int .u64 0), (.bool false)]) w19) ∧
           ((t18 = true) →
            ∃ (I19 : Int → Int → World → Prop) (M19 : Int → Int → World → Nat), I19 0 t13 w ∧
            ∀ (out20 : Int) (n21 : Int) (w22 : World), I19 out20 n21 w22 →
             (((n21 ≤ t13) →
              0 ≤ (n21 : Int) ∧
              InR .i64 (n21 + t17) ∧
              (I19 (iBit .or .u64 out20 (iBit .shl .u64 1 n21)) (n21 + t17) w22 ∧ M19 (iBit .or .u64 out20 (iBit .shl .u64 1 n21)) (n21 + t17) w22 < M19 out20 n21 w22))) ∧
             ((t13 < n21) →
              ∀ w23, Ext w22 w23 →
              Q (.tuple #[(.int .u64 out20), (.bool true)]) w23)))) ∧
         ((t5 = false) →
          ∃ (I15 : Int → Int → World → Prop) (M15 : Int → Int → World → Nat), I15 0 t13 w ∧
          ∀ (out16 : Int) (n17 : Int) (w18 : World), I15 out16 n17 w18 →
           (((n17 ≤ t13) →
            0 ≤ (n17 : Int) ∧
            InR .i64 (n17 + 1) ∧
            (I15 (iBit .or .u64 out16 (iBit .shl .u64 1 n17)) (n17 + 1) w18 ∧ M15 (iBit .or .u64 out16 (iBit .shl .u64 1 n17)) (n17 + 1) w18 < M15 out16 n17 w18))) ∧
           ((t13 < n17) →
            ∀ w19, Ext w18 w19 →
            Q (.tuple #[(.int .u64 out16), (.bool true)]) w19))))))) ∧
    ((t3 = (⟨#[42]⟩ : ByteArray)) →
     (((t5 = true) →
      ∀ w11, Ext w w11 →
      FnP Tryd.prog F_cron_number #[(.string t4), (.int .i64 1), (.int .i64 99)] w11 fun v12 w12 =>
       Ext w11 w12 ∧
       ∃ t13 : Int, ∃ t14 : Bool, v12 = (.tuple #[(.int .i64 t13), (.bool t14)]) ∧
       ((t14 = false) →
        ∀ w15, Ext w w15 →
        Q (.tuple #[(.int .u64 0), (.bool false)]) w15) ∧
       ((t14 = true) →
        ∃ (I15 : Int → Int → World → Prop) (M15 : Int → Int → World → Nat), I15 0 f_1 w ∧
        ∀ (out16 : Int) (n17 : Int) (w18 : World), I15 out16 n17 w18 →
         (((n17 ≤ f_2) →
          0 ≤ (n17 : Int) ∧
          InR .i64 (n17 + t13) ∧
          (I15 (iBit .or .u64 out16 (iBit .shl .u64 1 n17)) (n17 + t13) w18 ∧ M15 (iBit .or .u64 out16 (iBit .shl .u64 1 n17)) (n17 + t13) w18 < M15 out16 n17 w18))) ∧
         ((f_2 < n17) →
          ∀ w19, Ext w18 w19 →
          Q (.tuple #[(.int .u64 out16), (.bool true)]) w19)))) ∧
     ((t5 = false) →
      ∃ (I11 : Int → Int → World → Prop) (M11 : Int → Int → World → Nat), I11 0 f_1 w ∧
      ∀ (out12 : Int) (n13 : Int) (w14 : World), I11 out12 n13 w14 →
       (((n13 ≤ f_2) →
        0 ≤ (n13 : Int) ∧
        InR .i64 (n13 + 1) ∧
        (I11 (iBit .or .u64 out12 (iBit .shl .u64 1 n13)) (n13 + 1) w14 ∧ M11 (iBit .or .u64 out12 (iBit .shl .u64 1 n13)) (n13 + 1) w14 < M11 out12 n13 w14))) ∧
       ((f_2 < n13) →
        ∀ w15, Ext w14 w15 →
        Q (.tuple #[(.int .u64 out12), (.bool true)]) w15)))

theorem ok_cron_field_item (f_0 : Option Addr) (f_1 : Int) (f_2 : Int) (s : ByteArray) (w : World) (Q : Value → World → Prop) (h : wp_cron_field_item f_0 f_1 f_2 s w Q) : FnP Tryd.prog F_cron_field_item #[(.agg #[(.pointer f_0), (.int .i64 f_1), (.int .i64 f_2)]), (.string s)] w Q := by
  have e_ : wp_cron_field_item f_0 f_1 f_2 s w Q = Runs Tryd.prog Q ({ N := 88, wrap := [85], pub := [], muts := [], joins := [] } : Cfg) Tryd.f49 (Tryd.f49.body.getD .skip) [.agg [.ptr f_0, .int .i64 f_1, .int .i64 f_2], .sc (.str s)] w := by kernel_rfl
  rw [e_] at h
  exact runs_fn h Tryd.func49 (by kernel_rfl) (fun args w => Tryd.call49 args w) (by kernel_rfl) (by kernel_rfl) rfl rfl

/-- shiftbell/cron.Parse -/
def wp_cron_Parse (s : ByteArray) (w : World) (Q : Value → World → Prop) : Prop :=
  ∀ b0 : Nat, w.heap.size ≤ b0 → ((200 < (s.size : Int)) →
   ∀ w1, Ext w w1 →
   Q (.tuple #[(.agg #[(.int .u64 0), (.int .u64 0), (.int .u64 0), (.int .u64 0), (.int .u64 0)]), (.int .i64 2)]) w1) ∧
  (((s.size : Int) ≤ 200) →
   ∀ w1, ExtB [] [b0] w w1 →
   New w1 50 [(.int .u64 0), (.int .u64 0), (.int .u64 0), (.int .u64 0), (.int .u64 0)] fun p2 w2 =>
    ∀ w3, ExtB [] [b0] w2 w3 →
    FnP Tryd.prog F_strings_Split #[(.string s), (.string (⟨#[32]⟩ : ByteArray))] w3 fun v4 w4 =>
     Ext w3 w4 ∧
     ∃ t5 : Option Addr, ∃ tl6 : Nat, ∃ tc7 : Nat, v4 = (.slice t5 tl6 tc7) ∧
     (((tl6 : Int) ≠ 5) →
      ∀ w8, ExtB [b0] [] w4 w8 →
      Q (.tuple #[(.agg #[(.int .u64 0), (.int .u64 0), (.int .u64 0), (.int .u64 0), (.int .u64 0)]), (.int .i64 3)]) w8) ∧
     (((tl6 : Int) = 5) →
      ∀ w8, ExtB [] [b0] w4 w8 →
      FnP Tryd.prog F_cron_fields #[(.pointer p2)] w8 fun v9 w9 =>
       Ext w8 w9 ∧
       ∃ t10 : Option Addr, ∃ tl11 : Nat, ∃ tc12 : Nat, v9 = (.slice t10 tl11 tc12) ∧
       ∃ (I13 : Int → World → Prop) (M13 : Int → World → Nat), I13 0 w9 ∧
       ∀ (k14 : Int) (w15 : World), I13 k14 w15 →
        (((k14 < (tl11 : Int)) →
         t10 ≠ none ∧
         (0 : Int) ≤ k14 ∧
         (k14 : Int) < (tl11 : Int) ∧
         (pIdx t10 k14 3) ≠ none ∧
         ∃ t16 : Option Addr, cell w15 (pIdx t10 k14 3) 0 = some (.pointer t16) ∧
         ∃ t17 : Int, cell w15 (pIdx t10 k14 3) 1 = some (.int .i64 t17) ∧
         ∃ t18 : Int, cell w15 (pIdx t10 k14 3) 2 = some (.int .i64 t18) ∧
         ∀ b19 : Nat, w15.heap.size ≤ b19 → t5 ≠ none ∧
         (0 : Int) ≤ k14 ∧
         (k14 : Int) < (tl6 : Int) ∧
         ∃ t20 : ByteArray, cell w15 (pIdx t5 k14 1) 0 = some (.string t20) ∧
         ∀ w21, ExtB [] [b0, b19] w15 w21 →
         FnP Tryd.prog F_strings_Split #[(.string t20), (.string (⟨#[44]⟩ : ByteArray))] w21 fun v22 w22 =>
          Ext w21 w22 ∧
          ∃ t23 : Option Addr, ∃ tl24 : Nat, ∃ tc25 : Nat, v22 = (.slice t23 tl24 tc25) ∧
          ∃ (I26 : Int → World → Prop) (M26 : Int → World → Nat), I26 0 w22 ∧
          ∀ (k27 : Int) (w28 : World), I26 k27 w28 →
           (((k27 < (tl24 : Int)) →
            t23 ≠ none ∧
            (0 : Int) ≤ k27 ∧
            (k27 : Int) < (tl24 : Int) ∧
            ∃ t29 : ByteArray, cell w28 (pIdx t23 k27 1) 0 = some (.string t29) ∧
            ∀ w30, Ext w28 w30 →
            FnP Tryd.prog F_cron_field_item #[(.agg #[(.pointer t16), (.int .i64 t17), (.int .i64 t18)]), (.string t29)] w30 fun v31 w31 =>
             Ext w30 w31 ∧
             ∃ t32 : Int, ∃ t33 : Bool, v31 = (.tuple #[(.int .u64 t32), (.bool t33)]) ∧
             ((t33 = false) →
              ∀ w34, ExtB [b0] [] w28 w34 →
              Q (.tuple #[(.agg #[(.int .u64 0), (.int .u64 0), (.int .u64 0), (.int .u64 0), (.int .u64 0)]), (.int .i64 3)]) w34) ∧
             ((t33 = true) →
              t16 ≠ none ∧
              ∃ t34 : Int, cell w28 t16 0 = some (.int .u64 t34) ∧
              t16 ≠ none ∧
              Store w28 t16 [(.int .u64 (iBit .or .u64 t34 t32))] [b0, b19] fun w35 =>
               InR .i64 (k27 + 1) ∧
               (I26 (k27 + 1) w35 ∧ M26 (k27 + 1) w35 < M26 k27 w28)))) ∧
           (((tl24 : Int) ≤ k27) →
            InR .i64 (k14 + 1) ∧
            (I13 (k14 + 1) w28 ∧ M13 (k14 + 1) w28 < M13 k14 w15)))) ∧
        (((tl11 : Int) ≤ k14) →
         p2 ≠ none ∧
         ∃ t16 : Int, cell w15 p2 0 = some (.int .u64 t16) ∧
         ∃ t17 : Int, cell w15 p2 1 = some (.int .u64 t17) ∧
         ∃ t18 : Int, cell w15 p2 2 = some (.int .u64 t18) ∧
         ∃ t19 : Int, cell w15 p2 3 = some (.int .u64 t19) ∧
         ∃ t20 : Int, cell w15 p2 4 = some (.int .u64 t20) ∧
         ∀ w21, ExtB [b0] [] w15 w21 →
         Q (.tuple #[(.agg #[(.int .u64 t16), (.int .u64 t17), (.int .u64 t18), (.int .u64 t19), (.int .u64 t20)]), (.int .i64 0)]) w21)))

theorem ok_cron_Parse (s : ByteArray) (w : World) (Q : Value → World → Prop) (h : wp_cron_Parse s w Q) : FnP Tryd.prog F_cron_Parse #[(.string s)] w Q := by
  have e_ : wp_cron_Parse s w Q = Runs Tryd.prog Q ({ N := 58, wrap := [], pub := [4], muts := [], joins := [] } : Cfg) Tryd.f21 (Tryd.f21.body.getD .skip) [.sc (.str s)] w := by kernel_rfl
  rw [e_] at h
  exact runs_fn h Tryd.func21 (by kernel_rfl) (fun args w => Tryd.call21 args w) (by kernel_rfl) (by kernel_rfl) rfl rfl

/-- shiftbell/shiftbellkeep.crons -/
def wp_shiftbellkeep_crons  (w : World) (Q : Value → World → Prop) : Prop :=
  ∀ w0, Ext w w0 →
  FnP Tryd.prog F_cron_Next #[(.agg #[(.int .u64 1), (.int .u64 1), (.int .u64 4294967294), (.int .u64 8190), (.int .u64 127)]), (.int .i64 0)] w0 fun v1 w1 =>
   Ext w0 w1 ∧
   ∃ t2 : Int, ∃ t3 : Int, v1 = (.tuple #[(.int .i64 t2), (.int .i64 t3)]) ∧
   ∀ w4, Ext w w4 →
   Q (.bool ((decide (t3 = 0)) && (decide (t2 = 1440)))) w4

theorem ok_shiftbellkeep_crons  (w : World) (Q : Value → World → Prop) (h : wp_shiftbellkeep_crons  w Q) : FnP Tryd.prog F_shiftbellkeep_crons #[] w Q := by
  have e_ : wp_shiftbellkeep_crons  w Q = Runs Tryd.prog Q ({ N := 14, wrap := [], pub := [], muts := [], joins := [] } : Cfg) Tryd.f19 (Tryd.f19.body.getD .skip) [] w := by kernel_rfl
  rw [e_] at h
  exact runs_fn h Tryd.func19 (by kernel_rfl) (fun args w => Tryd.call19 args w) (by kernel_rfl) (by kernel_rfl) rfl rfl

/-- shiftbell/cron.Next -/
def wp_cron_Next (c_0 : Int) (c_1 : Int) (c_2 : Int) (c_3 : Int) (c_4 : Int) (t : Int) (w : World) (Q : Value → World → Prop) : Prop :=
  ∀ b0 : Nat, w.heap.size ≤ b0 → ∀ w1, Ext w w1 →
  FnP Tryd.prog F_cron_Check #[(.agg #[(.int .u64 c_0), (.int .u64 c_1), (.int .u64 c_2), (.int .u64 c_3), (.int .u64 c_4)])] w1 fun v2 w2 =>
   Ext w1 w2 ∧
   ∃ t3 : Int, v2 = (.int .i64 t3) ∧
   ((t3 ≠ 0) →
    ∀ w4, Ext w w4 →
    Q (.tuple #[(.int .i64 0), (.int .i64 t3)]) w4) ∧
   ((t3 = 0) →
    (((t < (-1)) ∨ (5258964959 < t)) →
     ∀ w4, Ext w w4 →
     Q (.tuple #[(.int .i64 0), (.int .i64 4)]) w4) ∧
    ((((-1) ≤ t) ∧ (t ≤ 5258964959)) →
     InR .i64 (t + 1) ∧
     InR .i64 ((t + 1).tdiv 1440) ∧
     ∃ (I4 : Int → World → Prop) (M4 : Int → World → Nat), I4 ((t + 1).tdiv 1440) w ∧
     ∀ (n5 : Int) (w6 : World), I4 n5 w6 →
      InR .i64 (((t + 1).tdiv 1440) + 146097) ∧
      (((n5 ≤ (min 3652058 (((t + 1).tdiv 1440) + 146097))) →
       ∀ w7, Ext w6 w7 →
       FnP Tryd.prog F_cron_day #[(.agg #[(.int .u64 c_0), (.int .u64 c_1), (.int .u64 c_2), (.int .u64 c_3), (.int .u64 c_4)]), (.int .i64 n5)] w7 fun v8 w8 =>
        Ext w7 w8 ∧
        ∃ t9 : Bool, v8 = (.bool t9) ∧
        (((t9 = false) →
         InR .i64 (n5 + 1) ∧
         (I4 (n5 + 1) w6 ∧ M4 (n5 + 1) w6 < M4 n5 w6))) ∧
        ((t9 = true) →
         (((n5 = ((t + 1).tdiv 1440)) →
          ∀ w10, Ext w6 w10 →
          FnP Tryd.prog F_cron_within #[(.agg #[(.int .u64 c_0), (.int .u64 c_1), (.int .u64 c_2), (.int .u64 c_3), (.int .u64 c_4)]), (.int .i64 ((t + 1).tmod 1440))] w10 fun v11 w11 =>
           Ext w10 w11 ∧
           ∃ t12 : Int, ∃ t13 : Bool, v11 = (.tuple #[(.int .i64 t12), (.bool t13)]) ∧
           (((t13 = true) →
            InR .i64 (1440 * n5) ∧
            InR .i64 ((1440 * n5) + t12) ∧
            ∀ w14, Ext w6 w14 →
            Q (.tuple #[(.int .i64 ((1440 * n5) + t12)), (.int .i64 0)]) w14)) ∧
           ((t13 = false) →
            InR .i64 (n5 + 1) ∧
            (I4 (n5 + 1) w6 ∧ M4 (n5 + 1) w6 < M4 n5 w6)))) ∧
         ((n5 ≠ ((t + 1).tdiv 1440)) →
          ∀ w10, Ext w6 w10 →
          FnP Tryd.prog F_cron_within #[(.agg #[(.int .u64 c_0), (.int .u64 c_1), (.int .u64 c_2), (.int .u64 c_3), (.int .u64 c_4)]), (.int .i64 0)] w10 fun v11 w11 =>
           Ext w10 w11 ∧
           ∃ t12 : Int, ∃ t13 : Bool, v11 = (.tuple #[(.int .i64 t12), (.bool t13)]) ∧
           (((t13 = true) →
            InR .i64 (1440 * n5) ∧
            InR .i64 ((1440 * n5) + t12) ∧
            ∀ w14, Ext w6 w14 →
            Q (.tuple #[(.int .i64 ((1440 * n5) + t12)), (.int .i64 0)]) w14)) ∧
           ((t13 = false) →
            InR .i64 (n5 + 1) ∧
            (I4 (n5 + 1) w6 ∧ M4 (n5 + 1) w6 < M4 n5 w6)))))) ∧
      (((min 3652058 (((t + 1).tdiv 1440) + 146097)) < n5) →
       ∀ w7, Ext w6 w7 →
       Q (.tuple #[(.int .i64 0), (.int .i64 5)]) w7)))

theorem ok_cron_Next (c_0 : Int) (c_1 : Int) (c_2 : Int) (c_3 : Int) (c_4 : Int) (t : Int) (w : World) (Q : Value → World → Prop) (h : wp_cron_Next c_0 c_1 c_2 c_3 c_4 t w Q) : FnP Tryd.prog F_cron_Next #[(.agg #[(.int .u64 c_0), (.int .u64 c_1), (.int .u64 c_2), (.int .u64 c_3), (.int .u64 c_4)]), (.int .i64 t)] w Q := by
  have e_ : wp_cron_Next c_0 c_1 c_2 c_3 c_4 t w Q = Runs Tryd.prog Q ({ N := 55, wrap := [], pub := [], muts := [], joins := [] } : Cfg) Tryd.f45 (Tryd.f45.body.getD .skip) [.agg [.int .u64 c_0, .int .u64 c_1, .int .u64 c_2, .int .u64 c_3, .int .u64 c_4], .sc (.int .i64 t)] w := by kernel_rfl
  rw [e_] at h
  exact runs_fn h Tryd.func45 (by kernel_rfl) (fun args w => Tryd.call45 args w) (by kernel_rfl) (by kernel_rfl) rfl rfl

-- no function shiftbell/cron.Match
/-- shiftbell/cron.day -/
def wp_cron_day (c_0 : Int) (c_1 : Int) (c_2 : Int) (c_3 : Int) (c_4 : Int) (n : Int) (w : World) (Q : Value → World → Prop) : Prop :=
  ∀ b0 : Nat, w.heap.size ≤ b0 → ∀ w1, Ext w w1 →
  FnP Tryd.prog F_civil_Date #[(.int .i64 n)] w1 fun v2 w2 =>
   Ext w1 w2 ∧
   ∃ t3 : Int, ∃ t4 : Int, ∃ t5 : Int, ∃ t6 : Int, v2 = (.tuple #[(.int .i64 t3), (.int .i64 t4), (.int .i64 t5), (.int .i64 t6)]) ∧
   ∀ w7, Ext w w7 →
   FnP Tryd.prog F_civil_Weekday #[(.int .i64 n)] w7 fun v8 w8 =>
    Ext w7 w8 ∧
    ∃ t9 : Int, ∃ t10 : Int, v8 = (.tuple #[(.int .i64 t9), (.int .i64 t10)]) ∧
    ∀ w11, Ext w w11 →
    FnP Tryd.prog F_cron_has #[(.int .u64 c_3), (.int .i64 t4)] w11 fun v12 w12 =>
     Ext w11 w12 ∧
     ∃ t13 : Bool, v12 = (.bool t13) ∧
     ((t13 = false) →
      ∀ w14, Ext w w14 →
      Q (.bool false) w14) ∧
     ((t13 = true) →
      ∀ w14, Ext w w14 →
      FnP Tryd.prog F_cron_span #[(.int .i64 1), (.int .i64 31)] w14 fun v15 w15 =>
       Ext w14 w15 ∧
       ∃ t16 : Int, v15 = (.int .u64 t16) ∧
       (((c_2 = t16) →
        ∀ w17, Ext w w17 →
        FnP Tryd.prog F_cron_has #[(.int .u64 c_4), (.int .i64 t9)] w17 fun v18 w18 =>
         Ext w17 w18 ∧
         ∃ t19 : Bool, v18 = (.bool t19) ∧
         ∀ w20, Ext w w20 →
         Q (.bool t19) w20)) ∧
       ((c_2 ≠ t16) →
        ∀ w17, Ext w w17 →
        FnP Tryd.prog F_cron_span #[(.int .i64 0), (.int .i64 6)] w17 fun v18 w18 =>
         Ext w17 w18 ∧
         ∃ t19 : Int, v18 = (.int .u64 t19) ∧
         (((c_4 = t19) →
          ∀ w20, Ext w w20 →
          FnP Tryd.prog F_cron_has #[(.int .u64 c_2), (.int .i64 t5)] w20 fun v21 w21 =>
           Ext w20 w21 ∧
           ∃ t22 : Bool, v21 = (.bool t22) ∧
           ∀ w23, Ext w w23 →
           Q (.bool t22) w23)) ∧
         ((c_4 ≠ t19) →
          ∀ w20, Ext w w20 →
          FnP Tryd.prog F_cron_has #[(.int .u64 c_2), (.int .i64 t5)] w20 fun v21 w21 =>
           Ext w20 w21 ∧
           ∃ t22 : Bool, v21 = (.bool t22) ∧
           ((t22 = true) →
            ∀ w23, Ext w w23 →
            Q (.bool true) w23) ∧
           ((t22 = false) →
            ∀ w23, Ext w w23 →
            FnP Tryd.prog F_cron_has #[(.int .u64 c_4), (.int .i64 t9)] w23 fun v24 w24 =>
             Ext w23 w24 ∧
             ∃ t25 : Bool, v24 = (.bool t25) ∧
             ∀ w26, Ext w w26 →
             Q (.bool t25) w26))))

theorem ok_cron_day (c_0 : Int) (c_1 : Int) (c_2 : Int) (c_3 : Int) (c_4 : Int) (n : Int) (w : World) (Q : Value → World → Prop) (h : wp_cron_day c_0 c_1 c_2 c_3 c_4 n w Q) : FnP Tryd.prog F_cron_day #[(.agg #[(.int .u64 c_0), (.int .u64 c_1), (.int .u64 c_2), (.int .u64 c_3), (.int .u64 c_4)]), (.int .i64 n)] w Q := by
  have e_ : wp_cron_day c_0 c_1 c_2 c_3 c_4 n w Q = Runs Tryd.prog Q ({ N := 57, wrap := [], pub := [], muts := [], joins := [] } : Cfg) Tryd.f63 (Tryd.f63.body.getD .skip) [.agg [.int .u64 c_0, .int .u64 c_1, .int .u64 c_2, .int .u64 c_3, .int .u64 c_4], .sc (.int .i64 n)] w := by kernel_rfl
  rw [e_] at h
  exact runs_fn h Tryd.func63 (by kernel_rfl) (fun args w => Tryd.call63 args w) (by kernel_rfl) (by kernel_rfl) rfl rfl

/-- shiftbell/cron.within -/
def wp_cron_within (c_0 : Int) (c_1 : Int) (c_2 : Int) (c_3 : Int) (c_4 : Int) (from_v : Int) (w : World) (Q : Value → World → Prop) : Prop :=
  ∀ b0 : Nat, w.heap.size ≤ b0 → InR .i64 (from_v.tdiv 60) ∧
  ∃ (I1 : Int → World → Prop) (M1 : Int → World → Nat), I1 (from_v.tdiv 60) w ∧
  ∀ (h2 : Int) (w3 : World), I1 h2 w3 →
   (((h2 < 24) →
    ∀ w4, Ext w3 w4 →
    FnP Tryd.prog F_cron_has #[(.int .u64 c_1), (.int .i64 h2)] w4 fun v5 w5 =>
     Ext w4 w5 ∧
     ∃ t6 : Bool, v5 = (.bool t6) ∧
     (((t6 = false) →
      InR .i64 (h2 + 1) ∧
      (I1 (h2 + 1) w3 ∧ M1 (h2 + 1) w3 < M1 h2 w3))) ∧
     ((t6 = true) →
      InR .i64 (from_v.tdiv 60) ∧
      (((h2 = (from_v.tdiv 60)) →
       0 ≤ ((from_v.tmod 60) : Int) ∧
       ((((iBit .shr .u64 c_0 (from_v.tmod 60)) ≠ 0) →
        InR .i64 (60 * h2) ∧
        InR .i64 ((60 * h2) + (from_v.tmod 60)) ∧
        ∀ w7, Ext w3 w7 →
        FnP Tryd.prog F_math_bits_TrailingZeros64 #[(.int .u64 (iBit .shr .u64 c_0 (from_v.tmod 60)))] w7 fun v8 w8 =>
         Ext w7 w8 ∧
         ∃ t9 : Int, v8 = (.int .i64 t9) ∧
         InR .i64 (((60 * h2) + (from_v.tmod 60)) + t9) ∧
         ∀ w10, Ext w3 w10 →
         Q (.tuple #[(.int .i64 (((60 * h2) + (from_v.tmod 60)) + t9)), (.bool true)]) w10)) ∧
       (((iBit .shr .u64 c_0 (from_v.tmod 60)) = 0) →
        InR .i64 (h2 + 1) ∧
        (I1 (h2 + 1) w3 ∧ M1 (h2 + 1) w3 < M1 h2 w3)))) ∧
      ((h2 ≠ (from_v.tdiv 60)) →
       ((((iBit .shr .u64 c_0 0) ≠ 0) →
        InR .i64 (60 * h2) ∧
        InR .i64 ((60 * h2) + 0) ∧
        ∀ w7, Ext w3 w7 →
        FnP Tryd.prog F_math_bits_TrailingZeros64 #[(.int .u64 (iBit .shr .u64 c_0 0))] w7 fun v8 w8 =>
         Ext w7 w8 ∧
         ∃ t9 : Int, v8 = (.int .i64 t9) ∧
         InR .i64 (((60 * h2) + 0) + t9) ∧
         ∀ w10, Ext w3 w10 →
         Q (.tuple #[(.int .i64 (((60 * h2) + 0) + t9)), (.bool true)]) w10)) ∧
       (((iBit .shr .u64 c_0 0) = 0) →
        InR .i64 (h2 + 1) ∧
        (I1 (h2 + 1) w3 ∧ M1 (h2 + 1) w3 < M1 h2 w3)))))) ∧
   ((24 ≤ h2) →
    ∀ w4, Ext w3 w4 →
    Q (.tuple #[(.int .i64 0), (.bool false)]) w4)

theorem ok_cron_within (c_0 : Int) (c_1 : Int) (c_2 : Int) (c_3 : Int) (c_4 : Int) (from_v : Int) (w : World) (Q : Value → World → Prop) (h : wp_cron_within c_0 c_1 c_2 c_3 c_4 from_v w Q) : FnP Tryd.prog F_cron_within #[(.agg #[(.int .u64 c_0), (.int .u64 c_1), (.int .u64 c_2), (.int .u64 c_3), (.int .u64 c_4)]), (.int .i64 from_v)] w Q := by
  have e_ : wp_cron_within c_0 c_1 c_2 c_3 c_4 from_v w Q = Runs Tryd.prog Q ({ N := 39, wrap := [], pub := [], muts := [], joins := [] } : Cfg) Tryd.f64 (Tryd.f64.body.getD .skip) [.agg [.int .u64 c_0, .int .u64 c_1, .int .u64 c_2, .int .u64 c_3, .int .u64 c_4], .sc (.int .i64 from_v)] w := by kernel_rfl
  rw [e_] at h
  exact runs_fn h Tryd.func64 (by kernel_rfl) (fun args w => Tryd.call64 args w) (by kernel_rfl) (by kernel_rfl) rfl rfl

/-- shiftbell/cron.has -/
def wp_cron_has (set_v : Int) (n : Int) (w : World) (Q : Value → World → Prop) : Prop :=
  0 ≤ (n : Int) ∧
  ∀ w0, Ext w w0 →
  Q (.bool (decide ((iBit .and .u64 (iBit .shr .u64 set_v n) 1) = 1))) w0

theorem ok_cron_has (set_v : Int) (n : Int) (w : World) (Q : Value → World → Prop) (h : wp_cron_has set_v n w Q) : FnP Tryd.prog F_cron_has #[(.int .u64 set_v), (.int .i64 n)] w Q := by
  have e_ : wp_cron_has set_v n w Q = Runs Tryd.prog Q ({ N := 10, wrap := [], pub := [], muts := [], joins := [] } : Cfg) Tryd.f87 (Tryd.f87.body.getD .skip) [.sc (.int .u64 set_v), .sc (.int .i64 n)] w := by kernel_rfl
  rw [e_] at h
  exact runs_fn h Tryd.func87 (by kernel_rfl) (fun args w => Tryd.call87 args w) (by kernel_rfl) (by kernel_rfl) rfl rfl

/-- shiftbell/civil.Date -/
def wp_civil_Date (n : Int) (w : World) (Q : Value → World → Prop) : Prop :=
  (((n < 0) ∨ (3652058 < n)) →
   ∀ w0, Ext w w0 →
   Q (.tuple #[(.int .i64 0), (.int .i64 0), (.int .i64 0), (.int .i64 4)]) w0) ∧
  (((0 ≤ n) ∧ (n ≤ 3652058)) →
   InR .i64 (n.tdiv 366) ∧
   InR .i64 ((n.tdiv 366) + 1) ∧
   ∃ (I0 : Int → World → Prop) (M0 : Int → World → Nat), I0 ((n.tdiv 366) + 1) w ∧
   ∀ (y1 : Int) (w2 : World), I0 y1 w2 →
    InR .i64 (y1 + 1) ∧
    ∀ w3, Ext w2 w3 →
    FnP Tryd.prog F_civil_before #[(.int .i64 (y1 + 1))] w3 fun v4 w4 =>
     Ext w3 w4 ∧
     ∃ t5 : Int, v4 = (.int .i64 t5) ∧
     (((t5 ≤ n) →
      InR .i64 (y1 + 1) ∧
      (I0 (y1 + 1) w2 ∧ M0 (y1 + 1) w2 < M0 y1 w2))) ∧
     ((n < t5) →
      ∀ w6, Ext w2 w6 →
      FnP Tryd.prog F_civil_before #[(.int .i64 y1)] w6 fun v7 w7 =>
       Ext w6 w7 ∧
       ∃ t8 : Int, v7 = (.int .i64 t8) ∧
       InR .i64 (n - t8) ∧
       ∃ (I9 : Int → Int → World → Prop) (M9 : Int → Int → World → Nat), I9 (n - t8) 1 w2 ∧
       ∀ (n10 : Int) (m11 : Int) (w12 : World), I9 n10 m11 w12 →
        ∀ w13, Ext w12 w13 →
        FnP Tryd.prog F_civil_length #[(.int .i64 y1), (.int .i64 m11)] w13 fun v14 w14 =>
         Ext w13 w14 ∧
         ∃ t15 : Int, v14 = (.int .i64 t15) ∧
         (((t15 ≤ n10) →
          ∀ w16, Ext w12 w16 →
          FnP Tryd.prog F_civil_length #[(.int .i64 y1), (.int .i64 m11)] w16 fun v17 w17 =>
           Ext w16 w17 ∧
           ∃ t18 : Int, v17 = (.int .i64 t18) ∧
           InR .i64 (n10 - t18) ∧
           InR .i64 (m11 + 1) ∧
           (I9 (n10 - t18) (m11 + 1) w12 ∧ M9 (n10 - t18) (m11 + 1) w12 < M9 n10 m11 w12))) ∧
         ((n10 < t15) →
          InR .i64 (n10 + 1) ∧
          ∀ w16, Ext w12 w16 →
          Q (.tuple #[(.int .i64 y1), (.int .i64 m11), (.int .i64 (n10 + 1)), (.int .i64 0)]) w16)))

theorem ok_civil_Date (n : Int) (w : World) (Q : Value → World → Prop) (h : wp_civil_Date n w Q) : FnP Tryd.prog F_civil_Date #[(.int .i64 n)] w Q := by
  have e_ : wp_civil_Date n w Q = Runs Tryd.prog Q ({ N := 42, wrap := [], pub := [], muts := [], joins := [] } : Cfg) Tryd.f85 (Tryd.f85.body.getD .skip) [.sc (.int .i64 n)] w := by kernel_rfl
  rw [e_] at h
  exact runs_fn h Tryd.func85 (by kernel_rfl) (fun args w => Tryd.call85 args w) (by kernel_rfl) (by kernel_rfl) rfl rfl

/-- shiftbell/civil.Weekday -/
def wp_civil_Weekday (n : Int) (w : World) (Q : Value → World → Prop) : Prop :=
  (((n < 0) ∨ (3652058 < n)) →
   ∀ w0, Ext w w0 →
   Q (.tuple #[(.int .i64 0), (.int .i64 4)]) w0) ∧
  (((0 ≤ n) ∧ (n ≤ 3652058)) →
   InR .i64 (n + 1) ∧
   ∀ w0, Ext w w0 →
   Q (.tuple #[(.int .i64 ((n + 1).tmod 7)), (.int .i64 0)]) w0)

theorem ok_civil_Weekday (n : Int) (w : World) (Q : Value → World → Prop) (h : wp_civil_Weekday n w Q) : FnP Tryd.prog F_civil_Weekday #[(.int .i64 n)] w Q := by
  have e_ : wp_civil_Weekday n w Q = Runs Tryd.prog Q ({ N := 13, wrap := [], pub := [], muts := [], joins := [] } : Cfg) Tryd.f86 (Tryd.f86.body.getD .skip) [.sc (.int .i64 n)] w := by kernel_rfl
  rw [e_] at h
  exact runs_fn h Tryd.func86 (by kernel_rfl) (fun args w => Tryd.call86 args w) (by kernel_rfl) (by kernel_rfl) rfl rfl

/-- math/bits.TrailingZeros64 -/
def wp_math_bits_TrailingZeros64 (x : Int) (w : World) (Q : Value → World → Prop) : Prop :=
  ((x = 0) →
   ∀ w0, Ext w w0 →
   Q (.int .i64 64) w0) ∧
  ((x ≠ 0) →
   (some (⟨0, 0, none⟩ : Addr)) ≠ none ∧
   (0 : Int) ≤ (iBit .shr .u64 (IntKind.wrap .u64 ((iBit .and .u64 x (IntKind.wrap .u64 (0 - x))) * 285870213051353865)) 58) ∧
   ((iBit .shr .u64 (IntKind.wrap .u64 ((iBit .and .u64 x (IntKind.wrap .u64 (0 - x))) * 285870213051353865)) 58) : Int) < 64 ∧
   ∃ t0 : Int, cell w (pIdx (some (⟨0, 0, none⟩ : Addr)) (iBit .shr .u64 (IntKind.wrap .u64 ((iBit .and .u64 x (IntKind.wrap .u64 (0 - x))) * 285870213051353865)) 58) 1) 0 = some (.int .u8 t0) ∧
   InR .i64 t0 ∧
   ∀ w1, Ext w w1 →
   Q (.int .i64 t0) w1)

theorem ok_math_bits_TrailingZeros64 (x : Int) (w : World) (Q : Value → World → Prop) (h : wp_math_bits_TrailingZeros64 x w Q) : FnP Tryd.prog F_math_bits_TrailingZeros64 #[(.int .u64 x)] w Q := by
  have e_ : wp_math_bits_TrailingZeros64 x w Q = Runs Tryd.prog Q ({ N := 14, wrap := [7, 9], pub := [], muts := [], joins := [] } : Cfg) Tryd.f65 (Tryd.f65.body.getD .skip) [.sc (.int .u64 x)] w := by kernel_rfl
  rw [e_] at h
  exact runs_fn h Tryd.func65 (by kernel_rfl) (fun args w => Tryd.call65 args w) (by kernel_rfl) (by kernel_rfl) rfl rfl

/-- shiftbell/civil.before -/
def wp_civil_before (y : Int) (w : World) (Q : Value → World → Prop) : Prop :=
  InR .i64 (y - 1) ∧
  InR .i64 (365 * (y - 1)) ∧
  InR .i64 ((y - 1).tdiv 4) ∧
  InR .i64 ((365 * (y - 1)) + ((y - 1).tdiv 4)) ∧
  InR .i64 ((y - 1).tdiv 100) ∧
  InR .i64 (((365 * (y - 1)) + ((y - 1).tdiv 4)) - ((y - 1).tdiv 100)) ∧
  InR .i64 ((y - 1).tdiv 400) ∧
  InR .i64 ((((365 * (y - 1)) + ((y - 1).tdiv 4)) - ((y - 1).tdiv 100)) + ((y - 1).tdiv 400)) ∧
  ∀ w0, Ext w w0 →
  Q (.int .i64 ((((365 * (y - 1)) + ((y - 1).tdiv 4)) - ((y - 1).tdiv 100)) + ((y - 1).tdiv 400))) w0

theorem ok_civil_before (y : Int) (w : World) (Q : Value → World → Prop) (h : wp_civil_before y w Q) : FnP Tryd.prog F_civil_before #[(.int .i64 y)] w Q := by
  have e_ : wp_civil_before y w Q = Runs Tryd.prog Q ({ N := 16, wrap := [], pub := [], muts := [], joins := [] } : Cfg) Tryd.f111 (Tryd.f111.body.getD .skip) [.sc (.int .i64 y)] w := by kernel_rfl
  rw [e_] at h
  exact runs_fn h Tryd.func111 (by kernel_rfl) (fun args w => Tryd.call111 args w) (by kernel_rfl) (by kernel_rfl) rfl rfl

/-- shiftbell/civil.length -/
def wp_civil_length (y : Int) (m : Int) (w : World) (Q : Value → World → Prop) : Prop :=
  (((m = 2) →
   ∀ w0, Ext w w0 →
   FnP Tryd.prog F_civil_long #[(.int .i64 y)] w0 fun v1 w1 =>
    Ext w0 w1 ∧
    ∃ t2 : Bool, v1 = (.bool t2) ∧
    ((t2 = true) →
     ∀ w3, Ext w w3 →
     Q (.int .i64 29) w3) ∧
    ((t2 = false) →
     ((m = 12) →
      ∀ w3, Ext w w3 →
      Q (.int .i64 31) w3) ∧
     ((m ≠ 12) →
      InR .i64 (m + 1) ∧
      (some (⟨5, 0, none⟩ : Addr)) ≠ none ∧
      (0 : Int) ≤ (m + 1) ∧
      ((m + 1) : Int) < 13 ∧
      ∃ t3 : Int, cell w (pIdx (some (⟨5, 0, none⟩ : Addr)) (m + 1) 1) 0 = some (.int .i64 t3) ∧
      (some (⟨5, 0, none⟩ : Addr)) ≠ none ∧
      (0 : Int) ≤ m ∧
      (m : Int) < 13 ∧
      ∃ t4 : Int, cell w (pIdx (some (⟨5, 0, none⟩ : Addr)) m 1) 0 = some (.int .i64 t4) ∧
      InR .i64 (t3 - t4) ∧
      ∀ w5, Ext w w5 →
      Q (.int .i64 (t3 - t4)) w5)))) ∧
  ((m ≠ 2) →
   ((m = 12) →
    ∀ w0, Ext w w0 →
    Q (.int .i64 31) w0) ∧
   ((m ≠ 12) →
    InR .i64 (m + 1) ∧
    (some (⟨5, 0, none⟩ : Addr)) ≠ none ∧
    (0 : Int) ≤ (m + 1) ∧
    ((m + 1) : Int) < 13 ∧
    ∃ t0 : Int, cell w (pIdx (some (⟨5, 0, none⟩ : Addr)) (m + 1) 1) 0 = some (.int .i64 t0) ∧
    (some (⟨5, 0, none⟩ : Addr)) ≠ none ∧
    (0 : Int) ≤ m ∧
    (m : Int) < 13 ∧
    ∃ t1 : Int, cell w (pIdx (some (⟨5, 0, none⟩ : Addr)) m 1) 0 = some (.int .i64 t1) ∧
    InR .i64 (t0 - t1) ∧
    ∀ w2, Ext w w2 →
    Q (.int .i64 (t0 - t1)) w2))

theorem ok_civil_length (y : Int) (m : Int) (w : World) (Q : Value → World → Prop) (h : wp_civil_length y m w Q) : FnP Tryd.prog F_civil_length #[(.int .i64 y), (.int .i64 m)] w Q := by
  have e_ : wp_civil_length y m w Q = Runs Tryd.prog Q ({ N := 23, wrap := [], pub := [], muts := [], joins := [] } : Cfg) Tryd.f112 (Tryd.f112.body.getD .skip) [.sc (.int .i64 y), .sc (.int .i64 m)] w := by kernel_rfl
  rw [e_] at h
  exact runs_fn h Tryd.func112 (by kernel_rfl) (fun args w => Tryd.call112 args w) (by kernel_rfl) (by kernel_rfl) rfl rfl

/-- shiftbell/civil.long -/
def wp_civil_long (y : Int) (w : World) (Q : Value → World → Prop) : Prop :=
  ∀ w0, Ext w w0 →
  Q (.bool (((decide ((y.tmod 4) = 0)) && (decide ((y.tmod 100) ≠ 0))) || (decide ((y.tmod 400) = 0)))) w0

theorem ok_civil_long (y : Int) (w : World) (Q : Value → World → Prop) (h : wp_civil_long y w Q) : FnP Tryd.prog F_civil_long #[(.int .i64 y)] w Q := by
  have e_ : wp_civil_long y w Q = Runs Tryd.prog Q ({ N := 16, wrap := [], pub := [], muts := [], joins := [] } : Cfg) Tryd.f126 (Tryd.f126.body.getD .skip) [.sc (.int .i64 y)] w := by kernel_rfl
  rw [e_] at h
  exact runs_fn h Tryd.func126 (by kernel_rfl) (fun args w => Tryd.call126 args w) (by kernel_rfl) (by kernel_rfl) rfl rfl

/-- shiftbell/shiftbellkeep.CronBack -/
def wp_shiftbellkeep_CronBack (c_0 : Int) (c_1 : Int) (c_2 : Int) (c_3 : Int) (c_4 : Int) (w : World) (Q : Value → World → Prop) : Prop :=
  ∀ b0 : Nat, w.heap.size ≤ b0 → ∀ w1, Ext w w1 →
  FnP Tryd.prog F_shiftbellkeep_crons #[] w1 fun v2 w2 =>
   Ext w1 w2 ∧
   ∃ t3 : Bool, v2 = (.bool t3) ∧
   ((t3 = false) →
    ∀ w4, Ext w w4 →
    Q (.bool false) w4) ∧
   ((t3 = true) →
    ∀ w4, Ext w w4 →
    FnP Tryd.prog F_cron_Print #[(.agg #[(.int .u64 c_0), (.int .u64 c_1), (.int .u64 c_2), (.int .u64 c_3), (.int .u64 c_4)])] w4 fun v5 w5 =>
     Ext w4 w5 ∧
     ∃ t6 : ByteArray, ∃ t7 : Int, v5 = (.tuple #[(.string t6), (.int .i64 t7)]) ∧
     ((t7 ≠ 0) →
      ∀ w8, Ext w w8 →
      Q (.bool (decide (t6 = (⟨#[]⟩ : ByteArray)))) w8) ∧
     ((t7 = 0) →
      ∀ w8, Ext w w8 →
      FnP Tryd.prog F_cron_Parse #[(.string t6)] w8 fun v9 w9 =>
       Ext w8 w9 ∧
       ∃ t_010 : Int, ∃ t_111 : Int, ∃ t_212 : Int, ∃ t_313 : Int, ∃ t_414 : Int, ∃ t15 : Int, v9 = (.tuple #[(.agg #[(.int .u64 t_010), (.int .u64 t_111), (.int .u64 t_212), (.int .u64 t_313), (.int .u64 t_414)]), (.int .i64 t15)]) ∧
       ∀ b16 : Nat, w.heap.size ≤ b16 → ((200 < (t6.size : Int)) →
        ∀ w17, Ext w w17 →
        Q (.bool (decide (t15 = 2))) w17) ∧
       (((t6.size : Int) ≤ 200) →
        (((t15 = 0) →
         ∀ w17, Ext w w17 →
         Run Tryd.prog (.eq .eql 50 false false (.agg #[(.int .u64 t_010), (.int .u64 t_111), (.int .u64 t_212), (.int .u64 t_313), (.int .u64 t_414)]) (.agg #[(.int .u64 c_0), (.int .u64 c_1), (.int .u64 c_2), (.int .u64 c_3), (.int .u64 c_4)])) w17 fun v18 w18 =>
          Ext w17 w18 ∧
          ∃ t19 : Bool, v18 = (.bool t19) ∧
          ∀ w20, Ext w w20 →
          Q (.bool t19) w20)) ∧
        ((t15 ≠ 0) →
         ∀ w17, Ext w w17 →
         Q (.bool false) w17))))

theorem ok_shiftbellkeep_CronBack (c_0 : Int) (c_1 : Int) (c_2 : Int) (c_3 : Int) (c_4 : Int) (w : World) (Q : Value → World → Prop) (h : wp_shiftbellkeep_CronBack c_0 c_1 c_2 c_3 c_4 w Q) : FnP Tryd.prog F_shiftbellkeep_CronBack #[(.agg #[(.int .u64 c_0), (.int .u64 c_1), (.int .u64 c_2), (.int .u64 c_3), (.int .u64 c_4)])] w Q := by
  have e_ : wp_shiftbellkeep_CronBack c_0 c_1 c_2 c_3 c_4 w Q = Runs Tryd.prog Q ({ N := 35, wrap := [], pub := [], muts := [], joins := [] } : Cfg) Tryd.f6 (Tryd.f6.body.getD .skip) [.agg [.int .u64 c_0, .int .u64 c_1, .int .u64 c_2, .int .u64 c_3, .int .u64 c_4]] w := by kernel_rfl
  rw [e_] at h
  exact runs_fn h Tryd.func6 (by kernel_rfl) (fun args w => Tryd.call6 args w) (by kernel_rfl) (by kernel_rfl) rfl rfl

theorem open_shiftbellkeep_CronBack (W : World) (R : Array Value → Prop) (h : ∀ c_0 : Int, InR .u64 c_0 → ∀ c_1 : Int, InR .u64 c_1 → ∀ c_2 : Int, InR .u64 c_2 → ∀ c_3 : Int, InR .u64 c_3 → ∀ c_4 : Int, InR .u64 c_4 → R #[(.agg #[(.int .u64 c_0), (.int .u64 c_1), (.int .u64 c_2), (.int .u64 c_3), (.int .u64 c_4)])]) (args : Array Value) (hg : GoodAll Tryd.prog W Tryd.f6.params.toList args.toList) : R args := by
  have e_ : (ArgsAll Tryd.prog W Tryd.f6.params.toList fun l => R l.toArray) = (∀ c_0 : Int, InR .u64 c_0 → ∀ c_1 : Int, InR .u64 c_1 → ∀ c_2 : Int, InR .u64 c_2 → ∀ c_3 : Int, InR .u64 c_3 → ∀ c_4 : Int, InR .u64 c_4 → R #[(.agg #[(.int .u64 c_0), (.int .u64 c_1), (.int .u64 c_2), (.int .u64 c_3), (.int .u64 c_4)])]) := by kernel_rfl
  exact args_open (by rw [e_]; exact h) args hg
-- wit 6 #[(.agg #[(.int .u64 0), (.int .u64 0), (.int .u64 0), (.int .u64 0), (.int .u64 0)])]

/-- shiftbell/shiftbellkeep.CronOne -/
def wp_shiftbellkeep_CronOne (s : ByteArray) (w : World) (Q : Value → World → Prop) : Prop :=
  ∀ w0, Ext w w0 →
  FnP Tryd.prog F_shiftbellkeep_crons #[] w0 fun v1 w1 =>
   Ext w0 w1 ∧
   ∃ t2 : Bool, v1 = (.bool t2) ∧
   ((t2 = false) →
    ∀ w3, Ext w w3 →
    Q (.bool false) w3) ∧
   ((t2 = true) →
    ∀ w3, Ext w w3 →
    FnP Tryd.prog F_cron_Parse #[(.string s)] w3 fun v4 w4 =>
     Ext w3 w4 ∧
     ∃ t_05 : Int, ∃ t_16 : Int, ∃ t_27 : Int, ∃ t_38 : Int, ∃ t_49 : Int, ∃ t10 : Int, v4 = (.tuple #[(.agg #[(.int .u64 t_05), (.int .u64 t_16), (.int .u64 t_27), (.int .u64 t_38), (.int .u64 t_49)]), (.int .i64 t10)]) ∧
     ∀ b11 : Nat, w.heap.size ≤ b11 → (((t10 ≠ 0) →
      ∀ w12, Ext w w12 →
      Run Tryd.prog (.eq .eql 50 false false (.agg #[(.int .u64 t_05), (.int .u64 t_16), (.int .u64 t_27), (.int .u64 t_38), (.int .u64 t_49)]) (.agg #[(.int .u64 0), (.int .u64 0), (.int .u64 0), (.int .u64 0), (.int .u64 0)])) w12 fun v13 w13 =>
       Ext w12 w13 ∧
       ∃ t14 : Bool, v13 = (.bool t14) ∧
       ∀ w15, Ext w w15 →
       Q (.bool t14) w15)) ∧
     ((t10 = 0) →
      ∀ w12, Ext w w12 →
      FnP Tryd.prog F_cron_Print #[(.agg #[(.int .u64 t_05), (.int .u64 t_16), (.int .u64 t_27), (.int .u64 t_38), (.int .u64 t_49)])] w12 fun v13 w13 =>
       Ext w12 w13 ∧
       ∃ t14 : ByteArray, ∃ t15 : Int, v13 = (.tuple #[(.string t14), (.int .i64 t15)]) ∧
       ((t15 ≠ 0) →
        ∀ w16, Ext w w16 →
        Q (.bool false) w16) ∧
       ((t15 = 0) →
        ∀ w16, Ext w w16 →
        FnP Tryd.prog F_cron_Check #[(.agg #[(.int .u64 t_05), (.int .u64 t_16), (.int .u64 t_27), (.int .u64 t_38), (.int .u64 t_49)])] w16 fun v17 w17 =>
         Ext w16 w17 ∧
         ∃ t18 : Int, v17 = (.int .i64 t18) ∧
         ((t18 ≠ 0) →
          ∀ w19, Ext w w19 →
          Q (.bool false) w19) ∧
         ((t18 = 0) →
          ∀ w19, Ext w w19 →
          FnP Tryd.prog F_cron_Parse #[(.string t14)] w19 fun v20 w20 =>
           Ext w19 w20 ∧
           ∃ t_021 : Int, ∃ t_122 : Int, ∃ t_223 : Int, ∃ t_324 : Int, ∃ t_425 : Int, ∃ t26 : Int, v20 = (.tuple #[(.agg #[(.int .u64 t_021), (.int .u64 t_122), (.int .u64 t_223), (.int .u64 t_324), (.int .u64 t_425)]), (.int .i64 t26)]) ∧
           ∀ b27 : Nat, w.heap.size ≤ b27 → ((200 < (t14.size : Int)) →
            ∀ w28, Ext w w28 →
            Q (.bool true) w28) ∧
           (((t14.size : Int) ≤ 200) →
            (((t26 = 0) →
             ∀ w28, Ext w w28 →
             Run Tryd.prog (.eq .eql 50 false false (.agg #[(.int .u64 t_021), (.int .u64 t_122), (.int .u64 t_223), (.int .u64 t_324), (.int .u64 t_425)]) (.agg #[(.int .u64 t_05), (.int .u64 t_16), (.int .u64 t_27), (.int .u64 t_38), (.int .u64 t_49)])) w28 fun v29 w29 =>
              Ext w28 w29 ∧
              ∃ t30 : Bool, v29 = (.bool t30) ∧
              ∀ w31, Ext w w31 →
              Q (.bool t30) w31)) ∧
            ((t26 ≠ 0) →
             ∀ w28, Ext w w28 →
             Q (.bool false) w28))))))

theorem ok_shiftbellkeep_CronOne (s : ByteArray) (w : World) (Q : Value → World → Prop) (h : wp_shiftbellkeep_CronOne s w Q) : FnP Tryd.prog F_shiftbellkeep_CronOne #[(.string s)] w Q := by
  have e_ : wp_shiftbellkeep_CronOne s w Q = Runs Tryd.prog Q ({ N := 50, wrap := [], pub := [], muts := [], joins := [] } : Cfg) Tryd.f7 (Tryd.f7.body.getD .skip) [.sc (.str s)] w := by kernel_rfl
  rw [e_] at h
  exact runs_fn h Tryd.func7 (by kernel_rfl) (fun args w => Tryd.call7 args w) (by kernel_rfl) (by kernel_rfl) rfl rfl

theorem open_shiftbellkeep_CronOne (W : World) (R : Array Value → Prop) (h : ∀ s : ByteArray, s.size ≤ 9223372036854775807 → R #[(.string s)]) (args : Array Value) (hg : GoodAll Tryd.prog W Tryd.f7.params.toList args.toList) : R args := by
  have e_ : (ArgsAll Tryd.prog W Tryd.f7.params.toList fun l => R l.toArray) = (∀ s : ByteArray, s.size ≤ 9223372036854775807 → R #[(.string s)]) := by kernel_rfl
  exact args_open (by rw [e_]; exact h) args hg
-- wit 7 #[(.string (⟨#[]⟩ : ByteArray))]

end Go.Proofs.YteelndoflikliaaDoor
