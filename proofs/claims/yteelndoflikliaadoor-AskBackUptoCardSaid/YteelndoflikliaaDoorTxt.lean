/- The texts of this seat's functions: what each computes, as its symbolic run says it. -/
import Derived.Test.YteelndoflikliaaDoorRows
import Derived.Test.YteelndoflikliaaDoorSxD
import Derived.Test.YteelndoflikliaaDoorSxN
set_option linter.unusedVariables false
set_option linter.unusedSimpArgs false
set_option maxRecDepth 100000
namespace Go.Proofs.YteelndoflikliaaDoor
open Go.Sx Go.RowKit

abbrev F_shiftbellkeep_NeedText : FuncId := 5
abbrev F_shiftbellkeep_needs : FuncId := 16
abbrev F_need_Text : FuncId := 17
abbrev F_need_Read : FuncId := 18
abbrev F_need_Check : FuncId := 39
abbrev F_need_text : FuncId := 40
abbrev F_strings_Split : FuncId := 41
abbrev F_strings_Cut : FuncId := 42
abbrev F_strconv_ParseInt : FuncId := 43
abbrev F_need_parts : FuncId := 44
abbrev F_strings_Join : FuncId := 48
abbrev F_strconv_FormatInt : FuncId := 53
abbrev T__0 : TypeId := 0
abbrev T_int64 : TypeId := 2
abbrev T_int : TypeId := 3
abbrev T_bool : TypeId := 4
abbrev T_uint8 : TypeId := 5
abbrev T_string : TypeId := 9
abbrev T_uintptr : TypeId := 12
abbrev T_int32 : TypeId := 21
abbrev T_sl_Ask : TypeId := 22
abbrev T_Ask : TypeId := 24
abbrev T_sl_Label : TypeId := 25
abbrev T_Need : TypeId := 27
abbrev T_Host : TypeId := 29
abbrev T_Errno : TypeId := 31
abbrev T_bool_Errno : TypeId := 32
abbrev T_Ask_Errno : TypeId := 36
abbrev T_string_Errno : TypeId := 39
abbrev T_Need_Errno : TypeId := 45
abbrev T_uint64 : TypeId := 48
abbrev T_Cron : TypeId := 50
abbrev T_Cron_Errno : TypeId := 52
abbrev T_sl_string : TypeId := 58
abbrev T_Label : TypeId := 67
abbrev T_sl_Errno : TypeId := 69
abbrev T_ptr_ask_reader : TypeId := 74
abbrev T_ask_reader : TypeId := 76
abbrev T_Ask_bool : TypeId := 77
abbrev T_string_string_bool : TypeId := 83
abbrev T_error : TypeId := 86
abbrev T_int64_error : TypeId := 87
abbrev T_sl_need_part : TypeId := 89
abbrev T_ptr_Need : TypeId := 91
abbrev T_ptr_int64 : TypeId := 92
abbrev T_need_part : TypeId := 94
abbrev T_int_Errno : TypeId := 95
abbrev T_sl_cron_field : TypeId := 97
abbrev T_ptr_Cron : TypeId := 99
abbrev T_ptr_uint64 : TypeId := 100
abbrev T_cron_field : TypeId := 102
abbrev T_uint64_bool : TypeId := 105
abbrev T_int_bool : TypeId := 116
abbrev T_ptr_strings_Builder : TypeId := 121
abbrev T_sl_uint8 : TypeId := 122
abbrev T_strings_Builder : TypeId := 124
abbrev T_int_error : TypeId := 126
abbrev T_strconv_Error : TypeId := 131
abbrev T_uint64_error : TypeId := 132
abbrev T_uint : TypeId := 134
abbrev T_ptr_strconv_NumError : TypeId := 135
abbrev T_int_int_int_Errno : TypeId := 138
abbrev T_ptr_uint8 : TypeId := 143
abbrev T_sl_uint8_string : TypeId := 146
abbrev T_strings_asciiSet : TypeId := 151
abbrev T_strings_asciiSet_bool : TypeId := 152
abbrev T_int32_int : TypeId := 155
abbrev T_strconv_NumError : TypeId := 162
abbrev T_unsafe_Pointer : TypeId := 165
abbrev T_uint32 : TypeId := 170
abbrev T_ptr_strings_asciiSet : TypeId := 174
abbrev T_uint32_uint32 : TypeId := 175
abbrev T_ptr_errors_errorString : TypeId := 177
abbrev T_errors_errorString : TypeId := 179
abbrev T_utf8_acceptRange : TypeId := 184
theorem elem_sl_Ask : slEl Tryd.prog 22 = some (24, 5, 72, (.agg #[(.int .i64 0), (.string (⟨#[]⟩ : ByteArray)), (.string (⟨#[]⟩ : ByteArray)), (.int .i64 0), (.slice none 0 0)])) := by kernel_rfl
theorem elem_sl_Label : slEl Tryd.prog 25 = some (67, 2, 32, (.agg #[(.string (⟨#[]⟩ : ByteArray)), (.string (⟨#[]⟩ : ByteArray))])) := by kernel_rfl
theorem elem_sl_string : slEl Tryd.prog 58 = some (9, 1, 16, (.string (⟨#[]⟩ : ByteArray))) := by kernel_rfl
theorem elem_sl_Errno : slEl Tryd.prog 69 = some (31, 1, 8, (.int .i64 0)) := by kernel_rfl
theorem elem_sl_need_part : slEl Tryd.prog 89 = some (94, 2, 24, (.agg #[(.string (⟨#[]⟩ : ByteArray)), (.pointer none)])) := by kernel_rfl
theorem elem_sl_cron_field : slEl Tryd.prog 97 = some (102, 3, 24, (.agg #[(.pointer none), (.int .i64 0), (.int .i64 0)])) := by kernel_rfl
theorem elem_sl_uint8 : slEl Tryd.prog 122 = some (5, 1, 1, (.int .u8 0)) := by kernel_rfl

/-- shiftbell/need.parts -/
def wp_need_parts (a : Option Addr) (w : World) (Q : Value → World → Prop) : Prop :=
  a ≠ none ∧
  a ≠ none ∧
  a ≠ none ∧
  a ≠ none ∧
  a ≠ none ∧
  a ≠ none ∧
  ∀ w0, Ext w w0 →
  Run Tryd.prog (.buildSlice 89 3 [(0, (.agg #[(.string (⟨#[99, 112, 117]⟩ : ByteArray)), (.pointer (pAdd a 0))])), (1, (.agg #[(.string (⟨#[109, 101, 109]⟩ : ByteArray)), (.pointer (pAdd a 1))])), (2, (.agg #[(.string (⟨#[103, 112, 117]⟩ : ByteArray)), (.pointer (pAdd a 2))]))]) w0 fun v1 w1 =>
   Ext w0 w1 ∧
   ∃ t2 : Option Addr, ∃ tl3 : Nat, ∃ tc4 : Nat, v1 = (.slice t2 tl3 tc4) ∧
   ∀ w5, Ext w1 w5 →
   Q (.slice t2 tl3 tc4) w5

theorem ok_need_parts (a : Option Addr) (w : World) (Q : Value → World → Prop) (h : wp_need_parts a w Q) : FnP Tryd.prog F_need_parts #[(.pointer a)] w Q := by
  have e_ : wp_need_parts a w Q = Runs Tryd.prog Q ({ N := 16, wrap := [], pub := [], muts := [], joins := [] } : Cfg) Tryd.f44 (Tryd.f44.body.getD .skip) [.sc (.ptr a)] w := by kernel_rfl
  rw [e_] at h
  exact runs_fn h Tryd.func44 (by kernel_rfl) (fun args w => Tryd.call44 args w) (by kernel_rfl) (by kernel_rfl) rfl rfl

/-- shiftbell/need.Check -/
def wp_need_Check (a_0 : Int) (a_1 : Int) (a_2 : Int) (w : World) (Q : Value → World → Prop) : Prop :=
  ∀ w0, Ext w w0 →
  New w0 27 [(.int .i64 a_0), (.int .i64 a_1), (.int .i64 a_2)] fun p1 w1 =>
   ∀ w2, Ext w1 w2 →
   FnP Tryd.prog F_need_parts #[(.pointer p1)] w2 fun v3 w3 =>
    Ext w2 w3 ∧
    ∃ t4 : Option Addr, ∃ tl5 : Nat, ∃ tc6 : Nat, v3 = (.slice t4 tl5 tc6) ∧
    ∃ (I7 : Int → World → Prop) (M7 : Int → World → Nat), I7 0 w3 ∧
    ∀ (k8 : Int) (w9 : World), I7 k8 w9 →
     (((k8 < (tl5 : Int)) →
      t4 ≠ none ∧
      (0 : Int) ≤ k8 ∧
      (k8 : Int) < (tl5 : Int) ∧
      (pIdx t4 k8 2) ≠ none ∧
      ∃ t10 : ByteArray, cell w9 (pIdx t4 k8 2) 0 = some (.string t10) ∧
      ∃ t11 : Option Addr, cell w9 (pIdx t4 k8 2) 1 = some (.pointer t11) ∧
      ∀ b12 : Nat, w9.heap.size ≤ b12 → t11 ≠ none ∧
      ∃ t13 : Int, cell w9 t11 0 = some (.int .i64 t13) ∧
      ((0 ≤ t13) →
       t11 ≠ none) ∧
      ((t13 < 0) →
       ∀ w14, Ext w9 w14 →
       Q (.int .i64 4) w14) ∧
      ((0 ≤ t13) →
       ∃ t14 : Int, cell w9 t11 0 = some (.int .i64 t14) ∧
       ((1099511627776 < t14) →
        ∀ w15, Ext w9 w15 →
        Q (.int .i64 4) w15) ∧
       ((t14 ≤ 1099511627776) →
        InR .i64 (k8 + 1) ∧
        (I7 (k8 + 1) w9 ∧ M7 (k8 + 1) w9 < M7 k8 w9))))) ∧
     (((tl5 : Int) ≤ k8) →
      ∀ w10, Ext w9 w10 →
      Q (.int .i64 0) w10)

theorem ok_need_Check (a_0 : Int) (a_1 : Int) (a_2 : Int) (w : World) (Q : Value → World → Prop) (h : wp_need_Check a_0 a_1 a_2 w Q) : FnP Tryd.prog F_need_Check #[(.agg #[(.int .i64 a_0), (.int .i64 a_1), (.int .i64 a_2)])] w Q := by
  have e_ : wp_need_Check a_0 a_1 a_2 w Q = Runs Tryd.prog Q ({ N := 24, wrap := [], pub := [1], muts := [], joins := [] } : Cfg) Tryd.f39 (Tryd.f39.body.getD .skip) [.agg [.int .i64 a_0, .int .i64 a_1, .int .i64 a_2]] w := by kernel_rfl
  rw [e_] at h
  exact runs_fn h Tryd.func39 (by kernel_rfl) (fun args w => Tryd.call39 args w) (by kernel_rfl) (by kernel_rfl) rfl rfl

/-- shiftbell/need.Text -/
def wp_need_Text (a_0 : Int) (a_1 : Int) (a_2 : Int) (w : World) (Q : Value → World → Prop) : Prop :=
  ∀ b0 : Nat, w.heap.size ≤ b0 → ∀ w1, Ext w w1 →
  FnP Tryd.prog F_need_Check #[(.agg #[(.int .i64 a_0), (.int .i64 a_1), (.int .i64 a_2)])] w1 fun v2 w2 =>
   Ext w1 w2 ∧
   ∃ t3 : Int, v2 = (.int .i64 t3) ∧
   ((t3 ≠ 0) →
    ∀ w4, Ext w w4 →
    Q (.tuple #[(.string (⟨#[]⟩ : ByteArray)), (.int .i64 t3)]) w4) ∧
   ((t3 = 0) →
    ∀ w4, Ext w w4 →
    FnP Tryd.prog F_need_text #[(.agg #[(.int .i64 a_0), (.int .i64 a_1), (.int .i64 a_2)])] w4 fun v5 w5 =>
     Ext w4 w5 ∧
     ∃ t6 : ByteArray, v5 = (.string t6) ∧
     ∀ w7, Ext w w7 →
     Q (.tuple #[(.string t6), (.int .i64 0)]) w7)

theorem ok_need_Text (a_0 : Int) (a_1 : Int) (a_2 : Int) (w : World) (Q : Value → World → Prop) (h : wp_need_Text a_0 a_1 a_2 w Q) : FnP Tryd.prog F_need_Text #[(.agg #[(.int .i64 a_0), (.int .i64 a_1), (.int .i64 a_2)])] w Q := by
  have e_ : wp_need_Text a_0 a_1 a_2 w Q = Runs Tryd.prog Q ({ N := 12, wrap := [], pub := [], muts := [], joins := [] } : Cfg) Tryd.f17 (Tryd.f17.body.getD .skip) [.agg [.int .i64 a_0, .int .i64 a_1, .int .i64 a_2]] w := by kernel_rfl
  rw [e_] at h
  exact runs_fn h Tryd.func17 (by kernel_rfl) (fun args w => Tryd.call17 args w) (by kernel_rfl) (by kernel_rfl) rfl rfl

/-- shiftbell/need.text -/
def wp_need_text (a_0 : Int) (a_1 : Int) (a_2 : Int) (w : World) (Q : Value → World → Prop) : Prop :=
  ∀ w0, Ext w w0 →
  New w0 27 [(.int .i64 a_0), (.int .i64 a_1), (.int .i64 a_2)] fun p1 w1 =>
   ∀ w2, Ext w1 w2 →
   FnP Tryd.prog F_need_parts #[(.pointer p1)] w2 fun v3 w3 =>
    Ext w2 w3 ∧
    ∃ t4 : Option Addr, ∃ tl5 : Nat, ∃ tc6 : Nat, v3 = (.slice t4 tl5 tc6) ∧
    ∃ (I7 : Option Addr → Nat → Nat → Int → World → Prop) (M7 : Option Addr → Nat → Nat → Int → World → Nat), I7 none 0 0 0 w3 ∧
    ∀ (out8 : Option Addr) (outl8 : Nat) (outc8 : Nat) (k9 : Int) (w10 : World), I7 out8 outl8 outc8 k9 w10 →
     (((k9 < (tl5 : Int)) →
      t4 ≠ none ∧
      (0 : Int) ≤ k9 ∧
      (k9 : Int) < (tl5 : Int) ∧
      (pIdx t4 k9 2) ≠ none ∧
      ∃ t11 : ByteArray, cell w10 (pIdx t4 k9 2) 0 = some (.string t11) ∧
      ∃ t12 : Option Addr, cell w10 (pIdx t4 k9 2) 1 = some (.pointer t12) ∧
      ∀ b13 : Nat, w10.heap.size ≤ b13 → t12 ≠ none ∧
      ∃ t14 : Int, cell w10 t12 0 = some (.int .i64 t14) ∧
      (((t14 ≠ 0) →
       CatOk t11 (⟨#[61]⟩ : ByteArray) ∧
       t12 ≠ none ∧
       ∃ t15 : Int, cell w10 t12 0 = some (.int .i64 t15) ∧
       ∀ w16, Ext w10 w16 →
       FnP Tryd.prog F_strconv_FormatInt #[(.int .i64 t15), (.int .i64 10)] w16 fun v17 w17 =>
        Ext w16 w17 ∧
        ∃ t18 : ByteArray, v17 = (.string t18) ∧
        CatOk (t11 ++ (⟨#[61]⟩ : ByteArray)) t18 ∧
        ∀ w19, ExtB [] [b13] w10 w19 →
        Run Tryd.prog (.buildSlice 58 1 [(0, (.string ((t11 ++ (⟨#[61]⟩ : ByteArray)) ++ t18)))]) w19 fun v20 w20 =>
         Ext w19 w20 ∧
         ∃ t21 : Option Addr, ∃ tl22 : Nat, ∃ tc23 : Nat, v20 = (.slice t21 tl22 tc23) ∧
         ∀ w24, ExtB [] [b13] w20 w24 →
         Run Tryd.prog (.append #[58, 58] 58 [(.slice out8 outl8 outc8), (.slice t21 tl22 tc23)]) w24 fun v25 w25 =>
          Kept [b13] w24 w25 ∧
          ∃ t26 : Option Addr, ∃ tl27 : Nat, ∃ tc28 : Nat, v25 = (.slice t26 tl27 tc28) ∧
          InR .i64 (k9 + 1) ∧
          (I7 t26 tl27 tc28 (k9 + 1) w25 ∧ M7 t26 tl27 tc28 (k9 + 1) w25 < M7 out8 outl8 outc8 k9 w10))) ∧
      ((t14 = 0) →
       InR .i64 (k9 + 1) ∧
       (I7 out8 outl8 outc8 (k9 + 1) w10 ∧ M7 out8 outl8 outc8 (k9 + 1) w10 < M7 out8 outl8 outc8 k9 w10)))) ∧
     (((tl5 : Int) ≤ k9) →
      ((out8 = none) →
       ∀ w11, Ext w10 w11 →
       Q (.string (⟨#[45]⟩ : ByteArray)) w11) ∧
      ((out8 ≠ none) →
       ∀ w11, Ext w10 w11 →
       FnP Tryd.prog F_strings_Join #[(.slice out8 outl8 outc8), (.string (⟨#[44]⟩ : ByteArray))] w11 fun v12 w12 =>
        Ext w11 w12 ∧
        ∃ t13 : ByteArray, v12 = (.string t13) ∧
        ∀ w14, Ext w10 w14 →
        Q (.string t13) w14))

theorem ok_need_text (a_0 : Int) (a_1 : Int) (a_2 : Int) (w : World) (Q : Value → World → Prop) (h : wp_need_text a_0 a_1 a_2 w Q) : FnP Tryd.prog F_need_text #[(.agg #[(.int .i64 a_0), (.int .i64 a_1), (.int .i64 a_2)])] w Q := by
  have e_ : wp_need_text a_0 a_1 a_2 w Q = Runs Tryd.prog Q ({ N := 34, wrap := [], pub := [1], muts := [], joins := [] } : Cfg) Tryd.f40 (Tryd.f40.body.getD .skip) [.agg [.int .i64 a_0, .int .i64 a_1, .int .i64 a_2]] w := by kernel_rfl
  rw [e_] at h
  exact runs_fn h Tryd.func40 (by kernel_rfl) (fun args w => Tryd.call40 args w) (by kernel_rfl) (by kernel_rfl) rfl rfl

/-- shiftbell/need.Read -/
def wp_need_Read (s : ByteArray) (w : World) (Q : Value → World → Prop) : Prop :=
  ∀ b0 : Nat, w.heap.size ≤ b0 → ∀ w1, ExtB [] [b0] w w1 →
  New w1 27 [(.int .i64 0), (.int .i64 0), (.int .i64 0)] fun p2 w2 =>
   (((s ≠ (⟨#[45]⟩ : ByteArray)) →
    ∀ w3, ExtB [] [b0] w2 w3 →
    FnP Tryd.prog F_strings_Split #[(.string s), (.string (⟨#[44]⟩ : ByteArray))] w3 fun v4 w4 =>
     Ext w3 w4 ∧
     ∃ t5 : Option Addr, ∃ tl6 : Nat, ∃ tc7 : Nat, v4 = (.slice t5 tl6 tc7) ∧
     ∃ (I8 : Int → World → Prop) (M8 : Int → World → Nat), I8 0 w4 ∧
     ∀ (k9 : Int) (w10 : World), I8 k9 w10 →
      (((k9 < (tl6 : Int)) →
       t5 ≠ none ∧
       (0 : Int) ≤ k9 ∧
       (k9 : Int) < (tl6 : Int) ∧
       ∃ t11 : ByteArray, cell w10 (pIdx t5 k9 1) 0 = some (.string t11) ∧
       ∀ w12, Ext w10 w12 →
       FnP Tryd.prog F_strings_Cut #[(.string t11), (.string (⟨#[61]⟩ : ByteArray))] w12 fun v13 w13 =>
        Ext w12 w13 ∧
        ∃ t14 : ByteArray, ∃ t15 : ByteArray, ∃ t16 : Bool, v13 = (.tuple #[(.string t14), (.string t15), (.bool t16)]) ∧
        ∀ w17, ExtB [] [b0] w10 w17 →
        FnP Tryd.prog F_strconv_ParseInt #[(.string t15), (.int .i64 10), (.int .i64 64)] w17 fun v18 w18 =>
         Ext w17 w18 ∧
         ∃ t19 : Int, ∃ t20 : Value, v18 = (.tuple #[(.int .i64 t19), t20]) ∧
         ∀ w21, Ext w18 w21 →
         Run Tryd.prog (.eq .neq 86 false true t20 .nilIface) w21 fun v22 w22 =>
          Ext w21 w22 ∧
          ∃ t23 : Bool, v22 = (.bool t23) ∧
          (((t23 = true) ∨ (t19 ≤ 0)) →
           ∀ w24, ExtB [b0] [] w18 w24 →
           Q (.tuple #[(.agg #[(.int .i64 0), (.int .i64 0), (.int .i64 0)]), (.int .i64 3)]) w24) ∧
          (((t23 = false) ∧ (0 < t19)) →
           ∀ w24, ExtB [] [b0] w18 w24 →
           FnP Tryd.prog F_need_parts #[(.pointer p2)] w24 fun v25 w25 =>
            Ext w24 w25 ∧
            ∃ t26 : Option Addr, ∃ tl27 : Nat, ∃ tc28 : Nat, v25 = (.slice t26 tl27 tc28) ∧
            ∃ (I29 : Int → World → Prop) (M29 : Int → World → Nat), I29 0 w25 ∧
            ∀ (k30 : Int) (w31 : World), I29 k30 w31 →
             (((k30 < (tl27 : Int)) →
              t26 ≠ none ∧
              (0 : Int) ≤ k30 ∧
              (k30 : Int) < (tl27 : Int) ∧
              (pIdx t26 k30 2) ≠ none ∧
              ∃ t32 : ByteArray, cell w31 (pIdx t26 k30 2) 0 = some (.string t32) ∧
              ∃ t33 : Option Addr, cell w31 (pIdx t26 k30 2) 1 = some (.pointer t33) ∧
              ∀ b34 : Nat, w31.heap.size ≤ b34 → (((t32 = t14) →
               t33 ≠ none ∧
               Store w31 t33 [(.int .i64 t19)] [b0, b34] fun w35 =>
                InR .i64 (k30 + 1) ∧
                (I29 (k30 + 1) w35 ∧ M29 (k30 + 1) w35 < M29 k30 w31))) ∧
              ((t32 ≠ t14) →
               InR .i64 (k30 + 1) ∧
               (I29 (k30 + 1) w31 ∧ M29 (k30 + 1) w31 < M29 k30 w31)))) ∧
             (((tl27 : Int) ≤ k30) →
              InR .i64 (k9 + 1) ∧
              (I8 (k9 + 1) w31 ∧ M8 (k9 + 1) w31 < M8 k9 w10))))) ∧
      (((tl6 : Int) ≤ k9) →
       p2 ≠ none ∧
       ∃ t11 : Int, cell w10 p2 0 = some (.int .i64 t11) ∧
       ∃ t12 : Int, cell w10 p2 1 = some (.int .i64 t12) ∧
       ∃ t13 : Int, cell w10 p2 2 = some (.int .i64 t13) ∧
       ∀ w14, Ext w10 w14 →
       FnP Tryd.prog F_need_text #[(.agg #[(.int .i64 t11), (.int .i64 t12), (.int .i64 t13)])] w14 fun v15 w15 =>
        Ext w14 w15 ∧
        ∃ t16 : ByteArray, v15 = (.string t16) ∧
        ((t16 ≠ s) →
         ∀ w17, ExtB [b0] [] w10 w17 →
         Q (.tuple #[(.agg #[(.int .i64 0), (.int .i64 0), (.int .i64 0)]), (.int .i64 3)]) w17) ∧
        ((t16 = s) →
         p2 ≠ none ∧
         ∃ t17 : Int, cell w10 p2 0 = some (.int .i64 t17) ∧
         ∃ t18 : Int, cell w10 p2 1 = some (.int .i64 t18) ∧
         ∃ t19 : Int, cell w10 p2 2 = some (.int .i64 t19) ∧
         ∀ w20, Ext w10 w20 →
         FnP Tryd.prog F_need_Check #[(.agg #[(.int .i64 t17), (.int .i64 t18), (.int .i64 t19)])] w20 fun v21 w21 =>
          Ext w20 w21 ∧
          ∃ t22 : Int, v21 = (.int .i64 t22) ∧
          ((t22 ≠ 0) →
           ∀ w23, ExtB [b0] [] w10 w23 →
           Q (.tuple #[(.agg #[(.int .i64 0), (.int .i64 0), (.int .i64 0)]), (.int .i64 t22)]) w23) ∧
          ((t22 = 0) →
           p2 ≠ none ∧
           ∃ t23 : Int, cell w10 p2 0 = some (.int .i64 t23) ∧
           ∃ t24 : Int, cell w10 p2 1 = some (.int .i64 t24) ∧
           ∃ t25 : Int, cell w10 p2 2 = some (.int .i64 t25) ∧
           ∀ w26, ExtB [b0] [] w10 w26 →
           Q (.tuple #[(.agg #[(.int .i64 t23), (.int .i64 t24), (.int .i64 t25)]), (.int .i64 0)]) w26))))) ∧
   ((s = (⟨#[45]⟩ : ByteArray)) →
    p2 ≠ none ∧
    ∃ t3 : Int, cell w2 p2 0 = some (.int .i64 t3) ∧
    ∃ t4 : Int, cell w2 p2 1 = some (.int .i64 t4) ∧
    ∃ t5 : Int, cell w2 p2 2 = some (.int .i64 t5) ∧
    ∀ w6, Ext w2 w6 →
    FnP Tryd.prog F_need_text #[(.agg #[(.int .i64 t3), (.int .i64 t4), (.int .i64 t5)])] w6 fun v7 w7 =>
     Ext w6 w7 ∧
     ∃ t8 : ByteArray, v7 = (.string t8) ∧
     ((t8 ≠ s) →
      ∀ w9, ExtB [b0] [] w2 w9 →
      Q (.tuple #[(.agg #[(.int .i64 0), (.int .i64 0), (.int .i64 0)]), (.int .i64 3)]) w9) ∧
     ((t8 = s) →
      p2 ≠ none ∧
      ∃ t9 : Int, cell w2 p2 0 = some (.int .i64 t9) ∧
      ∃ t10 : Int, cell w2 p2 1 = some (.int .i64 t10) ∧
      ∃ t11 : Int, cell w2 p2 2 = some (.int .i64 t11) ∧
      ∀ w12, Ext w2 w12 →
      FnP Tryd.prog F_need_Check #[(.agg #[(.int .i64 t9), (.int .i64 t10), (.int .i64 t11)])] w12 fun v13 w13 =>
       Ext w12 w13 ∧
       ∃ t14 : Int, v13 = (.int .i64 t14) ∧
       ((t14 ≠ 0) →
        ∀ w15, ExtB [b0] [] w2 w15 →
        Q (.tuple #[(.agg #[(.int .i64 0), (.int .i64 0), (.int .i64 0)]), (.int .i64 t14)]) w15) ∧
       ((t14 = 0) →
        p2 ≠ none ∧
        ∃ t15 : Int, cell w2 p2 0 = some (.int .i64 t15) ∧
        ∃ t16 : Int, cell w2 p2 1 = some (.int .i64 t16) ∧
        ∃ t17 : Int, cell w2 p2 2 = some (.int .i64 t17) ∧
        ∀ w18, ExtB [b0] [] w2 w18 →
        Q (.tuple #[(.agg #[(.int .i64 t15), (.int .i64 t16), (.int .i64 t17)]), (.int .i64 0)]) w18)))

theorem ok_need_Read (s : ByteArray) (w : World) (Q : Value → World → Prop) (h : wp_need_Read s w Q) : FnP Tryd.prog F_need_Read #[(.string s)] w Q := by
  have e_ : wp_need_Read s w Q = Runs Tryd.prog Q ({ N := 70, wrap := [], pub := [4], muts := [], joins := [] } : Cfg) Tryd.f18 (Tryd.f18.body.getD .skip) [.sc (.str s)] w := by kernel_rfl
  rw [e_] at h
  exact runs_fn h Tryd.func18 (by kernel_rfl) (fun args w => Tryd.call18 args w) (by kernel_rfl) (by kernel_rfl) rfl rfl

-- no function shiftbell/need.checks
/-- shiftbell/shiftbellkeep.needs -/
def wp_shiftbellkeep_needs  (w : World) (Q : Value → World → Prop) : Prop :=
  ∀ w0, Ext w w0 →
  FnP Tryd.prog F_need_Text #[(.agg #[(.int .i64 0), (.int .i64 0), (.int .i64 0)])] w0 fun v1 w1 =>
   Ext w0 w1 ∧
   ∃ t2 : ByteArray, ∃ t3 : Int, v1 = (.tuple #[(.string t2), (.int .i64 t3)]) ∧
   ∀ w4, Ext w w4 →
   Q (.bool ((decide (t3 = 0)) && (decide (t2 = (⟨#[45]⟩ : ByteArray))))) w4

theorem ok_shiftbellkeep_needs  (w : World) (Q : Value → World → Prop) (h : wp_shiftbellkeep_needs  w Q) : FnP Tryd.prog F_shiftbellkeep_needs #[] w Q := by
  have e_ : wp_shiftbellkeep_needs  w Q = Runs Tryd.prog Q ({ N := 14, wrap := [], pub := [], muts := [], joins := [] } : Cfg) Tryd.f16 (Tryd.f16.body.getD .skip) [] w := by kernel_rfl
  rw [e_] at h
  exact runs_fn h Tryd.func16 (by kernel_rfl) (fun args w => Tryd.call16 args w) (by kernel_rfl) (by kernel_rfl) rfl rfl

/-- shiftbell/shiftbellkeep.NeedText -/
def wp_shiftbellkeep_NeedText (a_0 : Int) (a_1 : Int) (a_2 : Int) (s : ByteArray) (w : World) (Q : Value → World → Prop) : Prop :=
  ∀ b0 : Nat, w.heap.size ≤ b0 → ∀ w1, Ext w w1 →
  FnP Tryd.prog F_shiftbellkeep_needs #[] w1 fun v2 w2 =>
   Ext w1 w2 ∧
   ∃ t3 : Bool, v2 = (.bool t3) ∧
   ((t3 = false) →
    ∀ w4, Ext w w4 →
    Q (.bool false) w4) ∧
   ((t3 = true) →
    ∀ w4, Ext w w4 →
    FnP Tryd.prog F_need_Text #[(.agg #[(.int .i64 a_0), (.int .i64 a_1), (.int .i64 a_2)])] w4 fun v5 w5 =>
     Ext w4 w5 ∧
     ∃ t6 : ByteArray, ∃ t7 : Int, v5 = (.tuple #[(.string t6), (.int .i64 t7)]) ∧
     (((t7 = 0) →
      ∀ w8, Ext w w8 →
      FnP Tryd.prog F_need_Read #[(.string t6)] w8 fun v9 w9 =>
       Ext w8 w9 ∧
       ∃ t_010 : Int, ∃ t_111 : Int, ∃ t_212 : Int, ∃ t13 : Int, v9 = (.tuple #[(.agg #[(.int .i64 t_010), (.int .i64 t_111), (.int .i64 t_212)]), (.int .i64 t13)]) ∧
       ∀ b14 : Nat, w.heap.size ≤ b14 → ((t13 ≠ 0) →
        ∀ w15, Ext w w15 →
        Q (.bool false) w15) ∧
       ((t13 = 0) →
        ∀ w15, Ext w w15 →
        Run Tryd.prog (.eq .neq 27 false false (.agg #[(.int .i64 a_0), (.int .i64 a_1), (.int .i64 a_2)]) (.agg #[(.int .i64 t_010), (.int .i64 t_111), (.int .i64 t_212)])) w15 fun v16 w16 =>
         Ext w15 w16 ∧
         ∃ t17 : Bool, v16 = (.bool t17) ∧
         ((t17 = true) →
          ∀ w18, Ext w w18 →
          Q (.bool false) w18) ∧
         ((t17 = false) →
          ∀ w18, Ext w w18 →
          FnP Tryd.prog F_need_Read #[(.string s)] w18 fun v19 w19 =>
           Ext w18 w19 ∧
           ∃ t_020 : Int, ∃ t_121 : Int, ∃ t_222 : Int, ∃ t23 : Int, v19 = (.tuple #[(.agg #[(.int .i64 t_020), (.int .i64 t_121), (.int .i64 t_222)]), (.int .i64 t23)]) ∧
           ∀ b24 : Nat, w.heap.size ≤ b24 → (((t23 ≠ 0) →
            ∀ w25, Ext w w25 →
            Run Tryd.prog (.eq .eql 27 false false (.agg #[(.int .i64 t_020), (.int .i64 t_121), (.int .i64 t_222)]) (.agg #[(.int .i64 0), (.int .i64 0), (.int .i64 0)])) w25 fun v26 w26 =>
             Ext w25 w26 ∧
             ∃ t27 : Bool, v26 = (.bool t27) ∧
             ∀ w28, Ext w w28 →
             Q (.bool t27) w28)) ∧
           ((t23 = 0) →
            ∀ w25, Ext w w25 →
            FnP Tryd.prog F_need_Text #[(.agg #[(.int .i64 t_020), (.int .i64 t_121), (.int .i64 t_222)])] w25 fun v26 w26 =>
             Ext w25 w26 ∧
             ∃ t27 : ByteArray, ∃ t28 : Int, v26 = (.tuple #[(.string t27), (.int .i64 t28)]) ∧
             ∀ w29, Ext w w29 →
             Q (.bool ((decide (t28 = 0)) && (decide (t27 = s)))) w29))))) ∧
     ((t7 ≠ 0) →
      ((t6 ≠ (⟨#[]⟩ : ByteArray)) →
       ∀ w8, Ext w w8 →
       Q (.bool false) w8) ∧
      ((t6 = (⟨#[]⟩ : ByteArray)) →
       ∀ w8, Ext w w8 →
       FnP Tryd.prog F_need_Read #[(.string s)] w8 fun v9 w9 =>
        Ext w8 w9 ∧
        ∃ t_010 : Int, ∃ t_111 : Int, ∃ t_212 : Int, ∃ t13 : Int, v9 = (.tuple #[(.agg #[(.int .i64 t_010), (.int .i64 t_111), (.int .i64 t_212)]), (.int .i64 t13)]) ∧
        ∀ b14 : Nat, w.heap.size ≤ b14 → (((t13 ≠ 0) →
         ∀ w15, Ext w w15 →
         Run Tryd.prog (.eq .eql 27 false false (.agg #[(.int .i64 t_010), (.int .i64 t_111), (.int .i64 t_212)]) (.agg #[(.int .i64 0), (.int .i64 0), (.int .i64 0)])) w15 fun v16 w16 =>
          Ext w15 w16 ∧
          ∃ t17 : Bool, v16 = (.bool t17) ∧
          ∀ w18, Ext w w18 →
          Q (.bool t17) w18)) ∧
        ((t13 = 0) →
         ∀ w15, Ext w w15 →
         FnP Tryd.prog F_need_Text #[(.agg #[(.int .i64 t_010), (.int .i64 t_111), (.int .i64 t_212)])] w15 fun v16 w16 =>
          Ext w15 w16 ∧
          ∃ t17 : ByteArray, ∃ t18 : Int, v16 = (.tuple #[(.string t17), (.int .i64 t18)]) ∧
          ∀ w19, Ext w w19 →
          Q (.bool ((decide (t18 = 0)) && (decide (t17 = s)))) w19))))

theorem ok_shiftbellkeep_NeedText (a_0 : Int) (a_1 : Int) (a_2 : Int) (s : ByteArray) (w : World) (Q : Value → World → Prop) (h : wp_shiftbellkeep_NeedText a_0 a_1 a_2 s w Q) : FnP Tryd.prog F_shiftbellkeep_NeedText #[(.agg #[(.int .i64 a_0), (.int .i64 a_1), (.int .i64 a_2)]), (.string s)] w Q := by
  have e_ : wp_shiftbellkeep_NeedText a_0 a_1 a_2 s w Q = Runs Tryd.prog Q ({ N := 58, wrap := [], pub := [], muts := [], joins := [] } : Cfg) Tryd.f5 (Tryd.f5.body.getD .skip) [.agg [.int .i64 a_0, .int .i64 a_1, .int .i64 a_2], .sc (.str s)] w := by kernel_rfl
  rw [e_] at h
  exact runs_fn h Tryd.func5 (by kernel_rfl) (fun args w => Tryd.call5 args w) (by kernel_rfl) (by kernel_rfl) rfl rfl

theorem open_shiftbellkeep_NeedText (W : World) (R : Array Value → Prop) (h : ∀ a_0 : Int, InR .i64 a_0 → ∀ a_1 : Int, InR .i64 a_1 → ∀ a_2 : Int, InR .i64 a_2 → ∀ s : ByteArray, s.size ≤ 9223372036854775807 → R #[(.agg #[(.int .i64 a_0), (.int .i64 a_1), (.int .i64 a_2)]), (.string s)]) (args : Array Value) (hg : GoodAll Tryd.prog W Tryd.f5.params.toList args.toList) : R args := by
  have e_ : (ArgsAll Tryd.prog W Tryd.f5.params.toList fun l => R l.toArray) = (∀ a_0 : Int, InR .i64 a_0 → ∀ a_1 : Int, InR .i64 a_1 → ∀ a_2 : Int, InR .i64 a_2 → ∀ s : ByteArray, s.size ≤ 9223372036854775807 → R #[(.agg #[(.int .i64 a_0), (.int .i64 a_1), (.int .i64 a_2)]), (.string s)]) := by kernel_rfl
  exact args_open (by rw [e_]; exact h) args hg
-- wit 5 #[(.agg #[(.int .i64 0), (.int .i64 0), (.int .i64 0)]), (.string (⟨#[]⟩ : ByteArray))]

end Go.Proofs.YteelndoflikliaaDoor
