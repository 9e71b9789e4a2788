/- The texts of this seat's functions: what each computes, as its symbolic run says it. -/
import Derived.Test.YtjeboeahhhhbdaaDoorRows
import Derived.Test.YtjeboeahhhhbdaaDoorSxD
import Derived.Test.YtjeboeahhhhbdaaDoorSxN
set_option linter.unusedVariables false
set_option linter.unusedSimpArgs false
set_option maxRecDepth 100000
namespace Go.Proofs.YtjeboeahhhhbdaaDoor
open Go.Sx Go.RowKit

abbrev F_shiftbellkeep_TmplQuote : FuncId := 3
abbrev F_shiftbellkeep_scripts : FuncId := 9
abbrev F_tmpl_Quote : FuncId := 10
abbrev F_tmpl_Names : FuncId := 11
abbrev F_tmpl_Plain : FuncId := 12
abbrev F_tmpl_Fill : FuncId := 13
abbrev F_shiftbellkeep_good : FuncId := 14
abbrev F_strings_Count : FuncId := 20
abbrev F_strings_ReplaceAll : FuncId := 21
abbrev F_tmpl_parse : FuncId := 22
abbrev F_tmpl_Names_1 : FuncId := 23
abbrev F_tmpl_Names_2 : FuncId := 24
abbrev F_slices_Contains_string_string : FuncId := 25
abbrev F_ask_Label : FuncId := 26
abbrev F_tmpl_Fill_1 : FuncId := 27
abbrev F_strings_Builder_Len : FuncId := 28
abbrev F_strings_Builder_WriteString : FuncId := 29
abbrev F_tmpl_Fill_2 : FuncId := 30
abbrev F_strings_Builder_String : FuncId := 31
abbrev F_slices_ContainsFunc_api_Errno_api_Errno : FuncId := 32
abbrev F_shiftbellkeep_good_1 : FuncId := 33
abbrev F_strings_Cut : FuncId := 44
abbrev F_strings_CutPrefix : FuncId := 45
abbrev F_slices_Index_string_string : FuncId := 46
abbrev F_slices_IndexFunc_api_Errno_api_Errno : FuncId := 48
abbrev F_internal_stringslite_Index : FuncId := 62
abbrev F_internal_stringslite_Cut : FuncId := 65
abbrev F_internal_stringslite_CutPrefix : FuncId := 66
abbrev F_internal_stringslite_HasPrefix : FuncId := 90
abbrev T__0 : TypeId := 0
abbrev T_int64 : TypeId := 2
abbrev T_int : TypeId := 3
abbrev T_bool : TypeId := 4
abbrev T_uint8 : TypeId := 5
abbrev T_string : TypeId := 9
abbrev T_uintptr : TypeId := 12
abbrev T_int32 : TypeId := 21
abbrev T_sl_Label : TypeId := 22
abbrev T_Errno : TypeId := 24
abbrev T_string_Errno : TypeId := 25
abbrev T_sl_string : TypeId := 27
abbrev T_sl_string_Errno : TypeId := 28
abbrev T_string_bool : TypeId := 30
abbrev T_uint64 : TypeId := 35
abbrev T_Ticket : TypeId := 37
abbrev T_Ticket_Errno : TypeId := 40
abbrev T_sl_uint8 : TypeId := 45
abbrev T_map_string_string : TypeId := 54
abbrev T_Label : TypeId := 56
abbrev T_ptr_strings_Builder : TypeId := 58
abbrev T_strings_Builder : TypeId := 60
abbrev T_error : TypeId := 63
abbrev T_int_error : TypeId := 64
abbrev T_sl_Errno : TypeId := 67
abbrev T_sl_int64 : TypeId := 71
abbrev T_ptr_int64 : TypeId := 76
abbrev T_sl_ptr_int64 : TypeId := 77
abbrev T_int64_error : TypeId := 78
abbrev T_string_string_bool : TypeId := 83
abbrev T_ptr_uint8 : TypeId := 87
abbrev T_uint : TypeId := 89
abbrev T_strings_asciiSet : TypeId := 95
abbrev T_strings_asciiSet_bool : TypeId := 96
abbrev T_ptr_strings_asciiSet : TypeId := 99
abbrev T_int32_int : TypeId := 102
abbrev T_unsafe_Pointer : TypeId := 104
abbrev T_sl_uint8_string : TypeId := 110
abbrev T_uint_uint : TypeId := 112
abbrev T_strconv_Error : TypeId := 118
abbrev T_uint64_error : TypeId := 119
abbrev T_ptr_strconv_NumError : TypeId := 121
abbrev T_uint32 : TypeId := 127
abbrev T_uint32_uint32 : TypeId := 131
abbrev T_uint64_uint64 : TypeId := 133
abbrev T_strconv_NumError : TypeId := 139
abbrev T_utf8_acceptRange : TypeId := 145
abbrev T_ptr_errors_errorString : TypeId := 149
abbrev T_errors_errorString : TypeId := 151
theorem elem_sl_Label : slEl Tryd.prog 22 = some (56, 2, 32, (.agg #[(.string (⟨#[]⟩ : ByteArray)), (.string (⟨#[]⟩ : ByteArray))])) := by kernel_rfl
theorem elem_sl_string : slEl Tryd.prog 27 = some (9, 1, 16, (.string (⟨#[]⟩ : ByteArray))) := by kernel_rfl
theorem elem_sl_uint8 : slEl Tryd.prog 45 = some (5, 1, 1, (.int .u8 0)) := by kernel_rfl
theorem elem_sl_Errno : slEl Tryd.prog 67 = some (24, 1, 8, (.int .i64 0)) := by kernel_rfl
theorem elem_sl_int64 : slEl Tryd.prog 71 = some (2, 1, 8, (.int .i64 0)) := by kernel_rfl
theorem elem_sl_ptr_int64 : slEl Tryd.prog 77 = some (76, 1, 8, (.pointer none)) := by kernel_rfl

/-- shiftbell/tmpl.parse -/
def wp_tmpl_parse (s : ByteArray) (text : Value) (gap : Value) (w : World) (Q : Value → World → Prop) : Prop :=
  ∃ (I0 : ByteArray → World → Prop) (M0 : ByteArray → World → Nat), I0 s w ∧
  ∀ (s1 : ByteArray) (w2 : World), I0 s1 w2 →
   ∀ w3, Ext w2 w3 →
   FnP Tryd.prog F_strings_Cut #[(.string s1), (.string (⟨#[36]⟩ : ByteArray))] w3 fun v4 w4 =>
    Ext w3 w4 ∧
    ∃ t5 : ByteArray, ∃ t6 : ByteArray, ∃ t7 : Bool, v4 = (.tuple #[(.string t5), (.string t6), (.bool t7)]) ∧
    ∀ w8, Ext w2 w8 →
    FnVP Tryd.prog text [(.string t5)] w8 fun v9 w9 =>
     v9 = (.tuple #[]) ∧
     ((t7 = false) →
      ∀ w10, Ext w9 w10 →
      Q (.bool true) w10) ∧
     ((t7 = true) →
      ∀ w10, Ext w9 w10 →
      FnP Tryd.prog F_strings_CutPrefix #[(.string t6), (.string (⟨#[36]⟩ : ByteArray))] w10 fun v11 w11 =>
       Ext w10 w11 ∧
       ∃ t12 : ByteArray, ∃ t13 : Bool, v11 = (.tuple #[(.string t12), (.bool t13)]) ∧
       (((t13 = true) →
        ∀ w14, Ext w9 w14 →
        FnVP Tryd.prog text [(.string (⟨#[36]⟩ : ByteArray))] w14 fun v15 w15 =>
         v15 = (.tuple #[]) ∧
         (I0 t12 w15 ∧ M0 t12 w15 < M0 s1 w2))) ∧
       ((t13 = false) →
        ∀ w14, Ext w9 w14 →
        FnP Tryd.prog F_strings_Cut #[(.string t6), (.string (⟨#[125]⟩ : ByteArray))] w14 fun v15 w15 =>
         Ext w14 w15 ∧
         ∃ t16 : ByteArray, ∃ t17 : ByteArray, ∃ t18 : Bool, v15 = (.tuple #[(.string t16), (.string t17), (.bool t18)]) ∧
         ∀ w19, Ext w9 w19 →
         FnP Tryd.prog F_strings_CutPrefix #[(.string t16), (.string (⟨#[123]⟩ : ByteArray))] w19 fun v20 w20 =>
          Ext w19 w20 ∧
          ∃ t21 : ByteArray, ∃ t22 : Bool, v20 = (.tuple #[(.string t21), (.bool t22)]) ∧
          (((t22 = false) ∨ (t18 = false)) →
           ∀ w23, Ext w9 w23 →
           Q (.bool false) w23) ∧
          (((t22 = true) ∧ (t18 = true)) →
           ∀ w23, Ext w9 w23 →
           FnP Tryd.prog F_ask_Label #[(.string t21)] w23 fun v24 w24 =>
            Ext w23 w24 ∧
            ∃ t25 : Bool, v24 = (.bool t25) ∧
            ((t25 = false) →
             ∀ w26, Ext w9 w26 →
             Q (.bool false) w26) ∧
            ((t25 = true) →
             ∀ w26, Ext w9 w26 →
             FnVP Tryd.prog gap [(.string t21)] w26 fun v27 w27 =>
              v27 = (.tuple #[]) ∧
              (I0 t17 w27 ∧ M0 t17 w27 < M0 s1 w2)))))

theorem ok_tmpl_parse (s : ByteArray) (text : Value) (gap : Value) (w : World) (Q : Value → World → Prop) (h : wp_tmpl_parse s text gap w Q) : FnP Tryd.prog F_tmpl_parse #[(.string s), text, gap] w Q := by
  have e_ : wp_tmpl_parse s text gap w Q = Runs Tryd.prog Q ({ N := 62, wrap := [], pub := [], muts := [1000000], joins := [] } : Cfg) Tryd.f22 (Tryd.f22.body.getD .skip) [.sc (.str s), .sc (.val text), .sc (.val gap)] w := by kernel_rfl
  rw [e_] at h
  exact runs_fn h Tryd.func22 (by kernel_rfl) (fun args w => Tryd.call22 args w) (by kernel_rfl) (by kernel_rfl) rfl rfl

/-- shiftbell/tmpl.Names -/
def wp_tmpl_Names (s : ByteArray) (w : World) (Q : Value → World → Prop) : Prop :=
  ((2000 < (s.size : Int)) →
   ∀ w0, Ext w w0 →
   Q (.tuple #[(.slice none 0 0), (.int .i64 2)]) w0) ∧
  (((s.size : Int) ≤ 2000) →
   ∀ w0, Ext w w0 →
   New w0 27 [(.slice none 0 0)] fun p1 w1 =>
    ∀ w2, Ext w1 w2 →
    FnP Tryd.prog F_tmpl_parse #[(.string s), (.func (.func 23) #[] #[]), (.func (.func 24) #[] #[(.pointer p1)])] w2 fun v3 w3 =>
     ∃ t4 : Bool, v3 = (.bool t4) ∧
     ((t4 = false) →
      ∀ w5, Ext w3 w5 →
      Q (.tuple #[(.slice none 0 0), (.int .i64 3)]) w5) ∧
     ((t4 = true) →
      ∃ t5 : Option Addr, ∃ tl6 : Nat, ∃ tc7 : Nat, cell w3 p1 0 = some (.slice t5 tl6 tc7) ∧
      ∀ w8, Ext w3 w8 →
      Q (.tuple #[(.slice t5 tl6 tc7), (.int .i64 0)]) w8))

theorem ok_tmpl_Names (s : ByteArray) (w : World) (Q : Value → World → Prop) (h : wp_tmpl_Names s w Q) : FnP Tryd.prog F_tmpl_Names #[(.string s)] w Q := by
  have e_ : wp_tmpl_Names s w Q = Runs Tryd.prog Q ({ N := 15, wrap := [], pub := [4], muts := [22], joins := [] } : Cfg) Tryd.f11 (Tryd.f11.body.getD .skip) [.sc (.str s)] w := by kernel_rfl
  rw [e_] at h
  exact runs_fn h Tryd.func11 (by kernel_rfl) (fun args w => Tryd.call11 args w) (by kernel_rfl) (by kernel_rfl) rfl rfl

/-- shiftbell/tmpl.Names$1 -/
def wp_tmpl_Names_1 (a0 : ByteArray) (w : World) (Q : Value → World → Prop) : Prop :=
  ∀ w0, Ext w w0 →
  Q (.tuple #[]) w0

theorem ok_tmpl_Names_1 (a0 : ByteArray) (w : World) (Q : Value → World → Prop) (h : wp_tmpl_Names_1 a0 w Q) : FnP Tryd.prog F_tmpl_Names_1 #[(.string a0)] w Q := by
  have e_ : wp_tmpl_Names_1 a0 w Q = Runs Tryd.prog Q ({ N := 2, wrap := [], pub := [], muts := [], joins := [] } : Cfg) Tryd.f23 (Tryd.f23.body.getD .skip) [.sc (.str a0)] w := by kernel_rfl
  rw [e_] at h
  exact runs_fn h Tryd.func23 (by kernel_rfl) (fun args w => Tryd.call23 args w) (by kernel_rfl) (by kernel_rfl) rfl rfl

/-- shiftbell/tmpl.Names$2 -/
def wp_tmpl_Names_2 (name : ByteArray) (c0 : Option Addr) (w : World) (Q : Value → World → Prop) : Prop :=
  ∃ t0 : Option Addr, ∃ tl1 : Nat, ∃ tc2 : Nat, cell w c0 0 = some (.slice t0 tl1 tc2) ∧
  ∀ w3, Ext w w3 →
  FnP Tryd.prog F_slices_Contains_string_string #[(.slice t0 tl1 tc2), (.string name)] w3 fun v4 w4 =>
   Ext w3 w4 ∧
   ∃ t5 : Bool, v4 = (.bool t5) ∧
   (((t5 = false) →
    ∃ t6 : Option Addr, ∃ tl7 : Nat, ∃ tc8 : Nat, cell w c0 0 = some (.slice t6 tl7 tc8) ∧
    ∀ w9, Ext w w9 →
    Run Tryd.prog (.buildSlice 27 1 [(0, (.string name))]) w9 fun v10 w10 =>
     Ext w9 w10 ∧
     ∃ t11 : Option Addr, ∃ tl12 : Nat, ∃ tc13 : Nat, v10 = (.slice t11 tl12 tc13) ∧
     ∀ w14, Ext w10 w14 →
     Run Tryd.prog (.append #[27, 27] 27 [(.slice t6 tl7 tc8), (.slice t11 tl12 tc13)]) w14 fun v15 w15 =>
      ∃ t16 : Option Addr, ∃ tl17 : Nat, ∃ tc18 : Nat, v15 = (.slice t16 tl17 tc18) ∧
      Store w15 c0 [(.slice t16 tl17 tc18)] [] fun w19 =>
       ∀ w20, Ext w19 w20 →
       Q (.tuple #[]) w20)) ∧
   ((t5 = true) →
    ∀ w6, Ext w w6 →
    Q (.tuple #[]) w6)

theorem ok_tmpl_Names_2 (name : ByteArray) (c0 : Option Addr) (w : World) (Q : Value → World → Prop) (h : wp_tmpl_Names_2 name c0 w Q) : FnP Tryd.prog F_tmpl_Names_2 #[(.string name), (.pointer c0)] w Q := by
  have e_ : wp_tmpl_Names_2 name c0 w Q = Runs Tryd.prog Q ({ N := 11, wrap := [], pub := [], muts := [], joins := [] } : Cfg) Tryd.f24 (Tryd.f24.body.getD .skip) [.sc (.str name), .sc (.ptr c0)] w := by kernel_rfl
  rw [e_] at h
  exact runs_fn h Tryd.func24 (by kernel_rfl) (fun args w => Tryd.call24 args w) (by kernel_rfl) (by kernel_rfl) rfl rfl

/-- shiftbell/tmpl.Fill -/
def wp_tmpl_Fill (s : ByteArray) (l : Option Addr) (ll : Nat) (lc : Nat) (w : World) (Q : Value → World → Prop) : Prop :=
  ∀ w0, Ext w w0 →
  FnP Tryd.prog F_tmpl_Names #[(.string s)] w0 fun v1 w1 =>
   Ext w0 w1 ∧
   ∃ t2 : Option Addr, ∃ tl3 : Nat, ∃ tc4 : Nat, ∃ t5 : Int, v1 = (.tuple #[(.slice t2 tl3 tc4), (.int .i64 t5)]) ∧
   ((t5 ≠ 0) →
    ∀ w6, Ext w1 w6 →
    Q (.tuple #[(.string (⟨#[]⟩ : ByteArray)), (.int .i64 t5)]) w6) ∧
   ((t5 = 0) →
    ((8 < (ll : Int)) →
     ∀ w6, Ext w1 w6 →
     Q (.tuple #[(.string (⟨#[]⟩ : ByteArray)), (.int .i64 2)]) w6) ∧
    (((ll : Int) ≤ 8) →
     ∀ w6, Ext w1 w6 →
     Run Tryd.prog (.makeMap 54) w6 fun v7 w7 =>
      Ext w6 w7 ∧
      ∃ t8 : Value, v7 = t8 ∧
      ∀ w9, Ext w7 w9 →
      New w9 54 [(.map none)] fun p10 w10 =>
       Store w10 p10 [t8] [] fun w11 =>
        ∃ (I12 : Int → World → Prop) (M12 : Int → World → Nat), I12 0 w11 ∧
        ∀ (k13 : Int) (w14 : World), I12 k13 w14 →
         (((k13 < (ll : Int)) →
          l ≠ none ∧
          (0 : Int) ≤ k13 ∧
          (k13 : Int) < (ll : Int) ∧
          (pIdx l k13 2) ≠ none ∧
          ∃ t15 : ByteArray, cell w14 (pIdx l k13 2) 0 = some (.string t15) ∧
          ∃ t16 : ByteArray, cell w14 (pIdx l k13 2) 1 = some (.string t16) ∧
          ∀ b17 : Nat, w14.heap.size ≤ b17 → ∃ t18 : Value, cell w14 p10 0 = some t18 ∧
          ∀ w19, Ext w14 w19 →
          Run Tryd.prog (.lookup 54 t18 (.string t15) true) w19 fun v20 w20 =>
           Ext w19 w20 ∧
           ∃ t21 : ByteArray, ∃ t22 : Bool, v20 = (.tuple #[(.string t21), (.bool t22)]) ∧
           ∀ w23, Ext w14 w23 →
           FnP Tryd.prog F_ask_Label #[(.string t15)] w23 fun v24 w24 =>
            Ext w23 w24 ∧
            ∃ t25 : Bool, v24 = (.bool t25) ∧
            ((t25 = false) →
             ∀ w26, Ext w14 w26 →
             Q (.tuple #[(.string (⟨#[]⟩ : ByteArray)), (.int .i64 3)]) w26) ∧
            ((t25 = true) →
             ((t22 = true) →
              ∀ w26, Ext w14 w26 →
              Q (.tuple #[(.string (⟨#[]⟩ : ByteArray)), (.int .i64 6)]) w26) ∧
             ((t22 = false) →
              ∃ t26 : Value, cell w14 p10 0 = some t26 ∧
              ∀ w27, ExtB [] [b17] w14 w27 →
              Run Tryd.prog (.mapUpdate 54 t26 (.string t15) (.string t16)) w27 fun v28 w28 =>
               Kept [b17] w27 w28 ∧
               InR .i64 (k13 + 1) ∧
               (I12 (k13 + 1) w28 ∧ M12 (k13 + 1) w28 < M12 k13 w14))))) ∧
         (((ll : Int) ≤ k13) →
          ∃ (I15 : Int → World → Prop) (M15 : Int → World → Nat), I15 0 w14 ∧
          ∀ (k16 : Int) (w17 : World), I15 k16 w17 →
           (((k16 < (tl3 : Int)) →
            t2 ≠ none ∧
            (0 : Int) ≤ k16 ∧
            (k16 : Int) < (tl3 : Int) ∧
            ∃ t18 : ByteArray, cell w17 (pIdx t2 k16 1) 0 = some (.string t18) ∧
            ∃ t19 : Value, cell w17 p10 0 = some t19 ∧
            ∀ w20, Ext w17 w20 →
            Run Tryd.prog (.lookup 54 t19 (.string t18) true) w20 fun v21 w21 =>
             Ext w20 w21 ∧
             ∃ t22 : ByteArray, ∃ t23 : Bool, v21 = (.tuple #[(.string t22), (.bool t23)]) ∧
             ((t23 = false) →
              ∀ w24, Ext w17 w24 →
              Q (.tuple #[(.string (⟨#[]⟩ : ByteArray)), (.int .i64 5)]) w24) ∧
             ((t23 = true) →
              InR .i64 (k16 + 1) ∧
              (I15 (k16 + 1) w17 ∧ M15 (k16 + 1) w17 < M15 k16 w17)))) ∧
           (((tl3 : Int) ≤ k16) →
            ∀ w18, Ext w17 w18 →
            New w18 60 [(.pointer none), (.slice none 0 0)] fun p19 w19 =>
             ∀ w20, Ext w19 w20 →
             New w20 52 [.nilFunc] fun p21 w21 =>
              Store w21 p21 [(.func (.func 27) #[] #[(.pointer p19)])] [] fun w22 =>
               ∃ t23 : Value, cell w22 p21 0 = some t23 ∧
               ∀ w24, Ext w22 w24 →
               FnP Tryd.prog F_tmpl_parse #[(.string s), t23, (.func (.func 30) #[] #[(.pointer p21), (.pointer p10)])] w24 fun v25 w25 =>
                ∃ t26 : Bool, v25 = (.bool t26) ∧
                ∀ w27, Ext w25 w27 →
                FnP Tryd.prog F_strings_Builder_Len #[(.pointer p19)] w27 fun v28 w28 =>
                 Ext w27 w28 ∧
                 ∃ t29 : Int, v28 = (.int .i64 t29) ∧
                 ((2000 < t29) →
                  ∀ w30, Ext w25 w30 →
                  Q (.tuple #[(.string (⟨#[]⟩ : ByteArray)), (.int .i64 2)]) w30) ∧
                 ((t29 ≤ 2000) →
                  ∀ w30, Ext w25 w30 →
                  FnP Tryd.prog F_strings_Builder_String #[(.pointer p19)] w30 fun v31 w31 =>
                   ∃ t32 : ByteArray, v31 = (.string t32) ∧
                   ∀ w33, Ext w31 w33 →
                   Q (.tuple #[(.string t32), (.int .i64 0)]) w33)))))

theorem ok_tmpl_Fill (s : ByteArray) (l : Option Addr) (ll : Nat) (lc : Nat) (w : World) (Q : Value → World → Prop) (h : wp_tmpl_Fill s l ll lc w Q) : FnP Tryd.prog F_tmpl_Fill #[(.string s), (.slice l ll lc)] w Q := by
  have e_ : wp_tmpl_Fill s l ll lc w Q = Runs Tryd.prog Q ({ N := 82, wrap := [], pub := [8, 17, 18], muts := [22, 31], joins := [] } : Cfg) Tryd.f13 (Tryd.f13.body.getD .skip) [.sc (.str s), .sc (.slc l ll lc)] w := by kernel_rfl
  rw [e_] at h
  exact runs_fn h Tryd.func13 (by kernel_rfl) (fun args w => Tryd.call13 args w) (by kernel_rfl) (by kernel_rfl) rfl rfl

/-- shiftbell/tmpl.Fill$1 -/
def wp_tmpl_Fill_1 (s : ByteArray) (c0 : Option Addr) (w : World) (Q : Value → World → Prop) : Prop :=
  ∀ w0, Ext w w0 →
  FnP Tryd.prog F_strings_Builder_Len #[(.pointer c0)] w0 fun v1 w1 =>
   Ext w0 w1 ∧
   ∃ t2 : Int, v1 = (.int .i64 t2) ∧
   (((t2 ≤ 2000) →
    ∀ w3, Ext w w3 →
    FnP Tryd.prog F_strings_Builder_WriteString #[(.pointer c0), (.string s)] w3 fun v4 w4 =>
     ∃ t5 : Int, ∃ t6 : Value, v4 = (.tuple #[(.int .i64 t5), t6]) ∧
     ∀ w7, Ext w4 w7 →
     Q (.tuple #[]) w7)) ∧
   ((2000 < t2) →
    ∀ w3, Ext w w3 →
    Q (.tuple #[]) w3)

theorem ok_tmpl_Fill_1 (s : ByteArray) (c0 : Option Addr) (w : World) (Q : Value → World → Prop) (h : wp_tmpl_Fill_1 s c0 w Q) : FnP Tryd.prog F_tmpl_Fill_1 #[(.string s), (.pointer c0)] w Q := by
  have e_ : wp_tmpl_Fill_1 s c0 w Q = Runs Tryd.prog Q ({ N := 7, wrap := [], pub := [], muts := [29], joins := [] } : Cfg) Tryd.f27 (Tryd.f27.body.getD .skip) [.sc (.str s), .sc (.ptr c0)] w := by kernel_rfl
  rw [e_] at h
  exact runs_fn h Tryd.func27 (by kernel_rfl) (fun args w => Tryd.call27 args w) (by kernel_rfl) (by kernel_rfl) rfl rfl

/-- shiftbell/tmpl.Fill$2 -/
def wp_tmpl_Fill_2 (name : ByteArray) (c0 : Option Addr) (c1 : Option Addr) (w : World) (Q : Value → World → Prop) : Prop :=
  ∃ t0 : Value, cell w c0 0 = some t0 ∧
  ∃ t1 : Value, cell w c1 0 = some t1 ∧
  ∀ w2, Ext w w2 →
  Run Tryd.prog (.lookup 54 t1 (.string name) false) w2 fun v3 w3 =>
   Ext w2 w3 ∧
   ∃ t4 : ByteArray, v3 = (.string t4) ∧
   ∀ w5, Ext w w5 →
   FnVP Tryd.prog t0 [(.string t4)] w5 fun v6 w6 =>
    v6 = (.tuple #[]) ∧
    ∀ w7, Ext w6 w7 →
    Q (.tuple #[]) w7

theorem ok_tmpl_Fill_2 (name : ByteArray) (c0 : Option Addr) (c1 : Option Addr) (w : World) (Q : Value → World → Prop) (h : wp_tmpl_Fill_2 name c0 c1 w Q) : FnP Tryd.prog F_tmpl_Fill_2 #[(.string name), (.pointer c0), (.pointer c1)] w Q := by
  have e_ : wp_tmpl_Fill_2 name c0 c1 w Q = Runs Tryd.prog Q ({ N := 9, wrap := [], pub := [], muts := [1000000], joins := [] } : Cfg) Tryd.f30 (Tryd.f30.body.getD .skip) [.sc (.str name), .sc (.ptr c0), .sc (.ptr c1)] w := by kernel_rfl
  rw [e_] at h
  exact runs_fn h Tryd.func30 (by kernel_rfl) (fun args w => Tryd.call30 args w) (by kernel_rfl) (by kernel_rfl) rfl rfl

/-- shiftbell/tmpl.Plain -/
def wp_tmpl_Plain (s : ByteArray) (w : World) (Q : Value → World → Prop) : Prop :=
  ∀ w0, Ext w w0 →
  FnP Tryd.prog F_tmpl_Names #[(.string s)] w0 fun v1 w1 =>
   Ext w0 w1 ∧
   ∃ t2 : Option Addr, ∃ tl3 : Nat, ∃ tc4 : Nat, ∃ t5 : Int, v1 = (.tuple #[(.slice t2 tl3 tc4), (.int .i64 t5)]) ∧
   (((t5 ≠ 0) ∨ (0 < (tl3 : Int))) →
    ∀ w6, Ext w1 w6 →
    Q (.tuple #[(.string (⟨#[]⟩ : ByteArray)), (.bool false)]) w6) ∧
   (((t5 = 0) ∧ ((tl3 : Int) ≤ 0)) →
    ∀ w6, Ext w1 w6 →
    FnP Tryd.prog F_tmpl_Fill #[(.string s), (.slice none 0 0)] w6 fun v7 w7 =>
     Ext w6 w7 ∧
     ∃ t8 : ByteArray, ∃ t9 : Int, v7 = (.tuple #[(.string t8), (.int .i64 t9)]) ∧
     ∀ w10, Ext w1 w10 →
     Q (.tuple #[(.string t8), (.bool (decide (t9 = 0)))]) w10)

theorem ok_tmpl_Plain (s : ByteArray) (w : World) (Q : Value → World → Prop) (h : wp_tmpl_Plain s w Q) : FnP Tryd.prog F_tmpl_Plain #[(.string s)] w Q := by
  have e_ : wp_tmpl_Plain s w Q = Runs Tryd.prog Q ({ N := 28, wrap := [], pub := [], muts := [], joins := [] } : Cfg) Tryd.f12 (Tryd.f12.body.getD .skip) [.sc (.str s)] w := by kernel_rfl
  rw [e_] at h
  exact runs_fn h Tryd.func12 (by kernel_rfl) (fun args w => Tryd.call12 args w) (by kernel_rfl) (by kernel_rfl) rfl rfl

/-- shiftbell/ask.Label -/
def wp_ask_Label (s : ByteArray) (w : World) (Q : Value → World → Prop) : Prop :=
  ((((s ≠ (⟨#[]⟩ : ByteArray)) ∧ ((s.size : Int) ≤ 20)) →
   (0 : Int) ≤ 0)) ∧
  ((((s ≠ (⟨#[]⟩ : ByteArray)) ∧ ((s.size : Int) ≤ 20)) →
   (0 : Int) < (s.size : Int))) ∧
  (((((s ≠ (⟨#[]⟩ : ByteArray)) ∧ ((s.size : Int) ≤ 20)) ∧ (97 ≤ (sAt s 0))) →
   (0 : Int) ≤ 0)) ∧
  (((((s ≠ (⟨#[]⟩ : ByteArray)) ∧ ((s.size : Int) ≤ 20)) ∧ (97 ≤ (sAt s 0))) →
   (0 : Int) < (s.size : Int))) ∧
  (((((s = (⟨#[]⟩ : ByteArray)) ∨ (20 < (s.size : Int))) ∨ ((sAt s 0) < 97)) ∨ (122 < (sAt s 0))) →
   ∀ w0, Ext w w0 →
   Q (.bool false) w0) ∧
  (((((s ≠ (⟨#[]⟩ : ByteArray)) ∧ ((s.size : Int) ≤ 20)) ∧ (97 ≤ (sAt s 0))) ∧ ((sAt s 0) ≤ 122)) →
   ∀ w0, Ext w w0 →
   Run Tryd.prog (.convert 9 45 (.string s)) w0 fun v1 w1 =>
    Ext w0 w1 ∧
    ∃ t2 : Option Addr, ∃ tl3 : Nat, ∃ tc4 : Nat, v1 = (.slice t2 tl3 tc4) ∧
    ∃ (I5 : Int → World → Prop) (M5 : Int → World → Nat), I5 0 w1 ∧
    ∀ (k6 : Int) (w7 : World), I5 k6 w7 →
     (((k6 < (tl3 : Int)) →
      t2 ≠ none ∧
      (0 : Int) ≤ k6 ∧
      (k6 : Int) < (tl3 : Int) ∧
      ∃ t8 : Int, cell w7 (pIdx t2 k6 1) 0 = some (.int .u8 t8) ∧
      ((((((t8 < 97) ∨ (122 < t8)) ∧ ((t8 < 48) ∨ (57 < t8))) ∧ (t8 ≠ 45)) →
       ∀ w9, Ext w7 w9 →
       Q (.bool false) w9)) ∧
      (((((97 ≤ t8) ∧ (t8 ≤ 122)) ∨ ((48 ≤ t8) ∧ (t8 ≤ 57))) ∨ (t8 = 45)) →
       InR .i64 (k6 + 1) ∧
       (I5 (k6 + 1) w7 ∧ M5 (k6 + 1) w7 < M5 k6 w7)))) ∧
     (((tl3 : Int) ≤ k6) →
      ∀ w8, Ext w7 w8 →
      Q (.bool true) w8))

theorem ok_ask_Label (s : ByteArray) (w : World) (Q : Value → World → Prop) (h : wp_ask_Label s w Q) : FnP Tryd.prog F_ask_Label #[(.string s)] w Q := by
  have e_ : wp_ask_Label s w Q = Runs Tryd.prog Q ({ N := 48, wrap := [], pub := [], muts := [], joins := [] } : Cfg) Tryd.f26 (Tryd.f26.body.getD .skip) [.sc (.str s)] w := by kernel_rfl
  rw [e_] at h
  exact runs_fn h Tryd.func26 (by kernel_rfl) (fun args w => Tryd.call26 args w) (by kernel_rfl) (by kernel_rfl) rfl rfl

/-- strings.Cut -/
def wp_strings_Cut (s : ByteArray) (sep : ByteArray) (w : World) (Q : Value → World → Prop) : Prop :=
  ∀ w0, Ext w w0 →
  FnP Tryd.prog F_internal_stringslite_Cut #[(.string s), (.string sep)] w0 fun v1 w1 =>
   Ext w0 w1 ∧
   ∃ t2 : ByteArray, ∃ t3 : ByteArray, ∃ t4 : Bool, v1 = (.tuple #[(.string t2), (.string t3), (.bool t4)]) ∧
   ∀ w5, Ext w w5 →
   Q (.tuple #[(.string t2), (.string t3), (.bool t4)]) w5

theorem ok_strings_Cut (s : ByteArray) (sep : ByteArray) (w : World) (Q : Value → World → Prop) (h : wp_strings_Cut s sep w Q) : FnP Tryd.prog F_strings_Cut #[(.string s), (.string sep)] w Q := by
  have e_ : wp_strings_Cut s sep w Q = Runs Tryd.prog Q ({ N := 13, wrap := [], pub := [], muts := [], joins := [] } : Cfg) Tryd.f44 (Tryd.f44.body.getD .skip) [.sc (.str s), .sc (.str sep)] w := by kernel_rfl
  rw [e_] at h
  exact runs_fn h Tryd.func44 (by kernel_rfl) (fun args w => Tryd.call44 args w) (by kernel_rfl) (by kernel_rfl) rfl rfl

/-- strings.CutPrefix -/
def wp_strings_CutPrefix (s : ByteArray) (prefix_v : ByteArray) (w : World) (Q : Value → World → Prop) : Prop :=
  ∀ w0, Ext w w0 →
  FnP Tryd.prog F_internal_stringslite_CutPrefix #[(.string s), (.string prefix_v)] w0 fun v1 w1 =>
   Ext w0 w1 ∧
   ∃ t2 : ByteArray, ∃ t3 : Bool, v1 = (.tuple #[(.string t2), (.bool t3)]) ∧
   ∀ w4, Ext w w4 →
   Q (.tuple #[(.string t2), (.bool t3)]) w4

theorem ok_strings_CutPrefix (s : ByteArray) (prefix_v : ByteArray) (w : World) (Q : Value → World → Prop) (h : wp_strings_CutPrefix s prefix_v w Q) : FnP Tryd.prog F_strings_CutPrefix #[(.string s), (.string prefix_v)] w Q := by
  have e_ : wp_strings_CutPrefix s prefix_v w Q = Runs Tryd.prog Q ({ N := 11, wrap := [], pub := [], muts := [], joins := [] } : Cfg) Tryd.f45 (Tryd.f45.body.getD .skip) [.sc (.str s), .sc (.str prefix_v)] w := by kernel_rfl
  rw [e_] at h
  exact runs_fn h Tryd.func45 (by kernel_rfl) (fun args w => Tryd.call45 args w) (by kernel_rfl) (by kernel_rfl) rfl rfl

/-- internal/stringslite.Cut -/
def wp_internal_stringslite_Cut (s : ByteArray) (sep : ByteArray) (w : World) (Q : Value → World → Prop) : Prop :=
  ∀ w0, Ext w w0 →
  FnP Tryd.prog F_internal_stringslite_Index #[(.string s), (.string sep)] w0 fun v1 w1 =>
   Ext w0 w1 ∧
   ∃ t2 : Int, v1 = (.int .i64 t2) ∧
   (((0 ≤ t2) →
    (0 : Int) ≤ 0 ∧
    (0 : Int) ≤ t2 ∧
    (t2 : Int) ≤ (s.size : Int) ∧
    InR .i64 (t2 + (sep.size : Int)) ∧
    (0 : Int) ≤ (t2 + (sep.size : Int)) ∧
    ((t2 + (sep.size : Int)) : Int) ≤ (s.size : Int) ∧
    ((s.size : Int) : Int) ≤ (s.size : Int) ∧
    ∀ w3, Ext w w3 →
    Q (.tuple #[(.string (s.extract (0 : Int).toNat t2.toNat)), (.string (s.extract (t2 + (sep.size : Int)).toNat (s.size : Int).toNat)), (.bool true)]) w3)) ∧
   ((t2 < 0) →
    ∀ w3, Ext w w3 →
    Q (.tuple #[(.string s), (.string (⟨#[]⟩ : ByteArray)), (.bool false)]) w3)

theorem ok_internal_stringslite_Cut (s : ByteArray) (sep : ByteArray) (w : World) (Q : Value → World → Prop) (h : wp_internal_stringslite_Cut s sep w Q) : FnP Tryd.prog F_internal_stringslite_Cut #[(.string s), (.string sep)] w Q := by
  have e_ : wp_internal_stringslite_Cut s sep w Q = Runs Tryd.prog Q ({ N := 23, wrap := [], pub := [], muts := [], joins := [] } : Cfg) Tryd.f65 (Tryd.f65.body.getD .skip) [.sc (.str s), .sc (.str sep)] w := by kernel_rfl
  rw [e_] at h
  exact runs_fn h Tryd.func65 (by kernel_rfl) (fun args w => Tryd.call65 args w) (by kernel_rfl) (by kernel_rfl) rfl rfl

/-- internal/stringslite.CutPrefix -/
def wp_internal_stringslite_CutPrefix (s : ByteArray) (prefix_v : ByteArray) (w : World) (Q : Value → World → Prop) : Prop :=
  ∀ w0, Ext w w0 →
  FnP Tryd.prog F_internal_stringslite_HasPrefix #[(.string s), (.string prefix_v)] w0 fun v1 w1 =>
   Ext w0 w1 ∧
   ∃ t2 : Bool, v1 = (.bool t2) ∧
   ((t2 = false) →
    ∀ w3, Ext w w3 →
    Q (.tuple #[(.string s), (.bool false)]) w3) ∧
   ((t2 = true) →
    (0 : Int) ≤ (prefix_v.size : Int) ∧
    ((prefix_v.size : Int) : Int) ≤ (s.size : Int) ∧
    ((s.size : Int) : Int) ≤ (s.size : Int) ∧
    ∀ w3, Ext w w3 →
    Q (.tuple #[(.string (s.extract (prefix_v.size : Int).toNat (s.size : Int).toNat)), (.bool true)]) w3)

theorem ok_internal_stringslite_CutPrefix (s : ByteArray) (prefix_v : ByteArray) (w : World) (Q : Value → World → Prop) (h : wp_internal_stringslite_CutPrefix s prefix_v w Q) : FnP Tryd.prog F_internal_stringslite_CutPrefix #[(.string s), (.string prefix_v)] w Q := by
  have e_ : wp_internal_stringslite_CutPrefix s prefix_v w Q = Runs Tryd.prog Q ({ N := 15, wrap := [], pub := [], muts := [], joins := [] } : Cfg) Tryd.f66 (Tryd.f66.body.getD .skip) [.sc (.str s), .sc (.str prefix_v)] w := by kernel_rfl
  rw [e_] at h
  exact runs_fn h Tryd.func66 (by kernel_rfl) (fun args w => Tryd.call66 args w) (by kernel_rfl) (by kernel_rfl) rfl rfl

/-- internal/stringslite.HasPrefix -/
def wp_internal_stringslite_HasPrefix (s : ByteArray) (prefix_v : ByteArray) (w : World) (Q : Value → World → Prop) : Prop :=
  (((prefix_v.size : Int) ≤ (s.size : Int)) →
   (0 : Int) ≤ 0) ∧
  (((prefix_v.size : Int) ≤ (s.size : Int)) →
   (0 : Int) ≤ (prefix_v.size : Int)) ∧
  (((prefix_v.size : Int) ≤ (s.size : Int)) →
   ((prefix_v.size : Int) : Int) ≤ (s.size : Int)) ∧
  ∀ w0, Ext w w0 →
  Q (.bool ((decide ((prefix_v.size : Int) ≤ (s.size : Int))) && (decide ((s.extract (0 : Int).toNat (prefix_v.size : Int).toNat) = prefix_v)))) w0

theorem ok_internal_stringslite_HasPrefix (s : ByteArray) (prefix_v : ByteArray) (w : World) (Q : Value → World → Prop) (h : wp_internal_stringslite_HasPrefix s prefix_v w Q) : FnP Tryd.prog F_internal_stringslite_HasPrefix #[(.string s), (.string prefix_v)] w Q := by
  have e_ : wp_internal_stringslite_HasPrefix s prefix_v w Q = Runs Tryd.prog Q ({ N := 18, wrap := [], pub := [], muts := [], joins := [] } : Cfg) Tryd.f90 (Tryd.f90.body.getD .skip) [.sc (.str s), .sc (.str prefix_v)] w := by kernel_rfl
  rw [e_] at h
  exact runs_fn h Tryd.func90 (by kernel_rfl) (fun args w => Tryd.call90 args w) (by kernel_rfl) (by kernel_rfl) rfl rfl

/-- slices.Contains[[]string,string] -/
def wp_slices_Contains_string_string (s : Option Addr) (sl : Nat) (sc : Nat) (v : ByteArray) (w : World) (Q : Value → World → Prop) : Prop :=
  ∀ w0, Ext w w0 →
  FnP Tryd.prog F_slices_Index_string_string #[(.slice s sl sc), (.string v)] w0 fun v1 w1 =>
   Ext w0 w1 ∧
   ∃ t2 : Int, v1 = (.int .i64 t2) ∧
   ∀ w3, Ext w w3 →
   Q (.bool (decide (0 ≤ t2))) w3

theorem ok_slices_Contains_string_string (s : Option Addr) (sl : Nat) (sc : Nat) (v : ByteArray) (w : World) (Q : Value → World → Prop) (h : wp_slices_Contains_string_string s sl sc v w Q) : FnP Tryd.prog F_slices_Contains_string_string #[(.slice s sl sc), (.string v)] w Q := by
  have e_ : wp_slices_Contains_string_string s sl sc v w Q = Runs Tryd.prog Q ({ N := 9, wrap := [], pub := [], muts := [], joins := [] } : Cfg) Tryd.f25 (Tryd.f25.body.getD .skip) [.sc (.slc s sl sc), .sc (.str v)] w := by kernel_rfl
  rw [e_] at h
  exact runs_fn h Tryd.func25 (by kernel_rfl) (fun args w => Tryd.call25 args w) (by kernel_rfl) (by kernel_rfl) rfl rfl

/-- slices.Index[[]string,string] -/
def wp_slices_Index_string_string (s : Option Addr) (sl : Nat) (sc : Nat) (v : ByteArray) (w : World) (Q : Value → World → Prop) : Prop :=
  ∃ (I0 : Int → World → Prop) (M0 : Int → World → Nat), I0 0 w ∧
  ∀ (k1 : Int) (w2 : World), I0 k1 w2 →
   (((k1 < (sl : Int)) →
    s ≠ none ∧
    (0 : Int) ≤ k1 ∧
    (k1 : Int) < (sl : Int) ∧
    ∃ t3 : ByteArray, cell w2 (pIdx s k1 1) 0 = some (.string t3) ∧
    ((v = t3) →
     ∀ w4, Ext w2 w4 →
     Q (.int .i64 k1) w4) ∧
    ((v ≠ t3) →
     InR .i64 (k1 + 1) ∧
     (I0 (k1 + 1) w2 ∧ M0 (k1 + 1) w2 < M0 k1 w2)))) ∧
   (((sl : Int) ≤ k1) →
    ∀ w3, Ext w2 w3 →
    Q (.int .i64 (-1)) w3)

theorem ok_slices_Index_string_string (s : Option Addr) (sl : Nat) (sc : Nat) (v : ByteArray) (w : World) (Q : Value → World → Prop) (h : wp_slices_Index_string_string s sl sc v w Q) : FnP Tryd.prog F_slices_Index_string_string #[(.slice s sl sc), (.string v)] w Q := by
  have e_ : wp_slices_Index_string_string s sl sc v w Q = Runs Tryd.prog Q ({ N := 19, wrap := [], pub := [], muts := [], joins := [] } : Cfg) Tryd.f46 (Tryd.f46.body.getD .skip) [.sc (.slc s sl sc), .sc (.str v)] w := by kernel_rfl
  rw [e_] at h
  exact runs_fn h Tryd.func46 (by kernel_rfl) (fun args w => Tryd.call46 args w) (by kernel_rfl) (by kernel_rfl) rfl rfl

/-- shiftbell/shiftbellkeep.scripts -/
def wp_shiftbellkeep_scripts  (w : World) (Q : Value → World → Prop) : Prop :=
  ∀ w0, Ext w w0 →
  FnP Tryd.prog F_tmpl_Plain #[(.string (⟨#[97, 36, 36]⟩ : ByteArray))] w0 fun v1 w1 =>
   Ext w0 w1 ∧
   ∃ t2 : ByteArray, ∃ t3 : Bool, v1 = (.tuple #[(.string t2), (.bool t3)]) ∧
   ∀ w4, Ext w w4 →
   Q (.bool (t3 && (decide (t2 = (⟨#[97, 36]⟩ : ByteArray))))) w4

theorem ok_shiftbellkeep_scripts  (w : World) (Q : Value → World → Prop) (h : wp_shiftbellkeep_scripts  w Q) : FnP Tryd.prog F_shiftbellkeep_scripts #[] w Q := by
  have e_ : wp_shiftbellkeep_scripts  w Q = Runs Tryd.prog Q ({ N := 12, wrap := [], pub := [], muts := [], joins := [] } : Cfg) Tryd.f9 (Tryd.f9.body.getD .skip) [] w := by kernel_rfl
  rw [e_] at h
  exact runs_fn h Tryd.func9 (by kernel_rfl) (fun args w => Tryd.call9 args w) (by kernel_rfl) (by kernel_rfl) rfl rfl

/-- shiftbell/shiftbellkeep.good -/
def wp_shiftbellkeep_good (l : Option Addr) (ll : Nat) (lc : Nat) (w : World) (Q : Value → World → Prop) : Prop :=
  ∀ w0, Ext w w0 →
  FnP Tryd.prog F_slices_ContainsFunc_api_Errno_api_Errno #[(.slice l ll lc), (.func (.func 33) #[] #[])] w0 fun v1 w1 =>
   Ext w0 w1 ∧
   ∃ t2 : Bool, v1 = (.bool t2) ∧
   ∀ w3, Ext w w3 →
   Q (.bool (!t2)) w3

theorem ok_shiftbellkeep_good (l : Option Addr) (ll : Nat) (lc : Nat) (w : World) (Q : Value → World → Prop) (h : wp_shiftbellkeep_good l ll lc w Q) : FnP Tryd.prog F_shiftbellkeep_good #[(.slice l ll lc)] w Q := by
  have e_ : wp_shiftbellkeep_good l ll lc w Q = Runs Tryd.prog Q ({ N := 6, wrap := [], pub := [], muts := [], joins := [] } : Cfg) Tryd.f14 (Tryd.f14.body.getD .skip) [.sc (.slc l ll lc)] w := by kernel_rfl
  rw [e_] at h
  exact runs_fn h Tryd.func14 (by kernel_rfl) (fun args w => Tryd.call14 args w) (by kernel_rfl) (by kernel_rfl) rfl rfl

/-- shiftbell/shiftbellkeep.good$1 -/
def wp_shiftbellkeep_good_1 (e : Int) (w : World) (Q : Value → World → Prop) : Prop :=
  ∀ w0, Ext w w0 →
  Q (.bool (decide (e ≠ 0))) w0

theorem ok_shiftbellkeep_good_1 (e : Int) (w : World) (Q : Value → World → Prop) (h : wp_shiftbellkeep_good_1 e w Q) : FnP Tryd.prog F_shiftbellkeep_good_1 #[(.int .i64 e)] w Q := by
  have e_ : wp_shiftbellkeep_good_1 e w Q = Runs Tryd.prog Q ({ N := 5, wrap := [], pub := [], muts := [], joins := [] } : Cfg) Tryd.f33 (Tryd.f33.body.getD .skip) [.sc (.int .i64 e)] w := by kernel_rfl
  rw [e_] at h
  exact runs_fn h Tryd.func33 (by kernel_rfl) (fun args w => Tryd.call33 args w) (by kernel_rfl) (by kernel_rfl) rfl rfl

/-- slices.ContainsFunc[[]shiftbell/api.Errno,shiftbell/api.Errno] -/
def wp_slices_ContainsFunc_api_Errno_api_Errno (s : Option Addr) (sl : Nat) (sc : Nat) (f : Value) (w : World) (Q : Value → World → Prop) : Prop :=
  ∀ w0, Ext w w0 →
  FnP Tryd.prog F_slices_IndexFunc_api_Errno_api_Errno #[(.slice s sl sc), f] w0 fun v1 w1 =>
   Ext w0 w1 ∧
   ∃ t2 : Int, v1 = (.int .i64 t2) ∧
   ∀ w3, Ext w w3 →
   Q (.bool (decide (0 ≤ t2))) w3

theorem ok_slices_ContainsFunc_api_Errno_api_Errno (s : Option Addr) (sl : Nat) (sc : Nat) (f : Value) (w : World) (Q : Value → World → Prop) (h : wp_slices_ContainsFunc_api_Errno_api_Errno s sl sc f w Q) : FnP Tryd.prog F_slices_ContainsFunc_api_Errno_api_Errno #[(.slice s sl sc), f] w Q := by
  have e_ : wp_slices_ContainsFunc_api_Errno_api_Errno s sl sc f w Q = Runs Tryd.prog Q ({ N := 9, wrap := [], pub := [], muts := [], joins := [] } : Cfg) Tryd.f32 (Tryd.f32.body.getD .skip) [.sc (.slc s sl sc), .sc (.val f)] w := by kernel_rfl
  rw [e_] at h
  exact runs_fn h Tryd.func32 (by kernel_rfl) (fun args w => Tryd.call32 args w) (by kernel_rfl) (by kernel_rfl) rfl rfl

/-- slices.IndexFunc[[]shiftbell/api.Errno,shiftbell/api.Errno] -/
def wp_slices_IndexFunc_api_Errno_api_Errno (s : Option Addr) (sl : Nat) (sc : Nat) (f : Value) (w : World) (Q : Value → World → Prop) : Prop :=
  ∃ (I0 : Int → World → Prop) (M0 : Int → World → Nat), I0 0 w ∧
  ∀ (k1 : Int) (w2 : World), I0 k1 w2 →
   (((k1 < (sl : Int)) →
    s ≠ none ∧
    (0 : Int) ≤ k1 ∧
    (k1 : Int) < (sl : Int) ∧
    ∃ t3 : Int, cell w2 (pIdx s k1 1) 0 = some (.int .i64 t3) ∧
    ∀ w4, Ext w2 w4 →
    FnVP Tryd.prog f [(.int .i64 t3)] w4 fun v5 w5 =>
     Ext w4 w5 ∧
     ∃ t6 : Bool, v5 = (.bool t6) ∧
     ((t6 = true) →
      ∀ w7, Ext w2 w7 →
      Q (.int .i64 k1) w7) ∧
     ((t6 = false) →
      InR .i64 (k1 + 1) ∧
      (I0 (k1 + 1) w2 ∧ M0 (k1 + 1) w2 < M0 k1 w2)))) ∧
   (((sl : Int) ≤ k1) →
    ∀ w3, Ext w2 w3 →
    Q (.int .i64 (-1)) w3)

theorem ok_slices_IndexFunc_api_Errno_api_Errno (s : Option Addr) (sl : Nat) (sc : Nat) (f : Value) (w : World) (Q : Value → World → Prop) (h : wp_slices_IndexFunc_api_Errno_api_Errno s sl sc f w Q) : FnP Tryd.prog F_slices_IndexFunc_api_Errno_api_Errno #[(.slice s sl sc), f] w Q := by
  have e_ : wp_slices_IndexFunc_api_Errno_api_Errno s sl sc f w Q = Runs Tryd.prog Q ({ N := 19, wrap := [], pub := [], muts := [], joins := [] } : Cfg) Tryd.f48 (Tryd.f48.body.getD .skip) [.sc (.slc s sl sc), .sc (.val f)] w := by kernel_rfl
  rw [e_] at h
  exact runs_fn h Tryd.func48 (by kernel_rfl) (fun args w => Tryd.call48 args w) (by kernel_rfl) (by kernel_rfl) rfl rfl

/-- shiftbell/tmpl.Quote -/
def wp_tmpl_Quote (s : ByteArray) (w : World) (Q : Value → World → Prop) : Prop :=
  ∀ w0, Ext w w0 →
  FnP Tryd.prog F_strings_Count #[(.string s), (.string (⟨#[36]⟩ : ByteArray))] w0 fun v1 w1 =>
   Ext w0 w1 ∧
   ∃ t2 : Int, v1 = (.int .i64 t2) ∧
   InR .i64 ((s.size : Int) + t2) ∧
   ((2000 < ((s.size : Int) + t2)) →
    ∀ w3, Ext w w3 →
    Q (.tuple #[(.string (⟨#[]⟩ : ByteArray)), (.int .i64 2)]) w3) ∧
   ((((s.size : Int) + t2) ≤ 2000) →
    ∀ w3, Ext w w3 →
    FnP Tryd.prog F_strings_ReplaceAll #[(.string s), (.string (⟨#[36]⟩ : ByteArray)), (.string (⟨#[36, 36]⟩ : ByteArray))] w3 fun v4 w4 =>
     Ext w3 w4 ∧
     ∃ t5 : ByteArray, v4 = (.string t5) ∧
     ∀ w6, Ext w w6 →
     Q (.tuple #[(.string t5), (.int .i64 0)]) w6)

theorem ok_tmpl_Quote (s : ByteArray) (w : World) (Q : Value → World → Prop) (h : wp_tmpl_Quote s w Q) : FnP Tryd.prog F_tmpl_Quote #[(.string s)] w Q := by
  have e_ : wp_tmpl_Quote s w Q = Runs Tryd.prog Q ({ N := 12, wrap := [], pub := [], muts := [], joins := [] } : Cfg) Tryd.f10 (Tryd.f10.body.getD .skip) [.sc (.str s)] w := by kernel_rfl
  rw [e_] at h
  exact runs_fn h Tryd.func10 (by kernel_rfl) (fun args w => Tryd.call10 args w) (by kernel_rfl) (by kernel_rfl) rfl rfl

/-- shiftbell/shiftbellkeep.TmplQuote -/
def wp_shiftbellkeep_TmplQuote (s : ByteArray) (l : Option Addr) (ll : Nat) (lc : Nat) (w : World) (Q : Value → World → Prop) : Prop :=
  ∀ w0, Ext w w0 →
  FnP Tryd.prog F_shiftbellkeep_scripts #[] w0 fun v1 w1 =>
   Ext w0 w1 ∧
   ∃ t2 : Bool, v1 = (.bool t2) ∧
   ((t2 = false) →
    ∀ w3, Ext w w3 →
    Q (.bool false) w3) ∧
   ((t2 = true) →
    ∀ w3, Ext w w3 →
    FnP Tryd.prog F_tmpl_Quote #[(.string s)] w3 fun v4 w4 =>
     Ext w3 w4 ∧
     ∃ t5 : ByteArray, ∃ t6 : Int, v4 = (.tuple #[(.string t5), (.int .i64 t6)]) ∧
     ((t6 ≠ 0) →
      ∀ w7, Ext w w7 →
      Q (.bool (decide (t5 = (⟨#[]⟩ : ByteArray)))) w7) ∧
     ((t6 = 0) →
      ∀ w7, Ext w w7 →
      FnP Tryd.prog F_tmpl_Names #[(.string t5)] w7 fun v8 w8 =>
       Ext w7 w8 ∧
       ∃ t9 : Option Addr, ∃ tl10 : Nat, ∃ tc11 : Nat, ∃ t12 : Int, v8 = (.tuple #[(.slice t9 tl10 tc11), (.int .i64 t12)]) ∧
       ∀ w13, Ext w8 w13 →
       FnP Tryd.prog F_tmpl_Plain #[(.string t5)] w13 fun v14 w14 =>
        Ext w13 w14 ∧
        ∃ t15 : ByteArray, ∃ t16 : Bool, v14 = (.tuple #[(.string t15), (.bool t16)]) ∧
        ∀ w17, Ext w8 w17 →
        FnP Tryd.prog F_tmpl_Fill #[(.string t5), (.slice none 0 0)] w17 fun v18 w18 =>
         Ext w17 w18 ∧
         ∃ t19 : ByteArray, ∃ t20 : Int, v18 = (.tuple #[(.string t19), (.int .i64 t20)]) ∧
         ∀ w21, Ext w8 w21 →
         FnP Tryd.prog F_tmpl_Fill #[(.string t5), (.slice l ll lc)] w21 fun v22 w22 =>
          Ext w21 w22 ∧
          ∃ t23 : ByteArray, ∃ t24 : Int, v22 = (.tuple #[(.string t23), (.int .i64 t24)]) ∧
          ∀ w25, Ext w8 w25 →
          Run Tryd.prog (.buildSlice 67 2 [(0, (.int .i64 t12)), (1, (.int .i64 t20))]) w25 fun v26 w26 =>
           Ext w25 w26 ∧
           ∃ t27 : Option Addr, ∃ tl28 : Nat, ∃ tc29 : Nat, v26 = (.slice t27 tl28 tc29) ∧
           ∀ w30, Ext w26 w30 →
           FnP Tryd.prog F_shiftbellkeep_good #[(.slice t27 tl28 tc29)] w30 fun v31 w31 =>
            Ext w30 w31 ∧
            ∃ t32 : Bool, v31 = (.bool t32) ∧
            ∀ w33, Ext w26 w33 →
            Q (.bool (((((t32 && (decide ((tl10 : Int) = 0))) && t16) && (decide (t15 = s))) && (decide (t19 = s))) && ((decide (t24 ≠ 0)) || (decide (t23 = s))))) w33))

theorem ok_shiftbellkeep_TmplQuote (s : ByteArray) (l : Option Addr) (ll : Nat) (lc : Nat) (w : World) (Q : Value → World → Prop) (h : wp_shiftbellkeep_TmplQuote s l ll lc w Q) : FnP Tryd.prog F_shiftbellkeep_TmplQuote #[(.string s), (.slice l ll lc)] w Q := by
  have e_ : wp_shiftbellkeep_TmplQuote s l ll lc w Q = Runs Tryd.prog Q ({ N := 78, wrap := [], pub := [], muts := [], joins := [] } : Cfg) Tryd.f3 (Tryd.f3.body.getD .skip) [.sc (.str s), .sc (.slc l ll lc)] w := by kernel_rfl
  rw [e_] at h
  exact runs_fn h Tryd.func3 (by kernel_rfl) (fun args w => Tryd.call3 args w) (by kernel_rfl) (by kernel_rfl) rfl rfl

theorem open_shiftbellkeep_TmplQuote (W : World) (R : Array Value → Prop) (h : ∀ s : ByteArray, s.size ≤ 9223372036854775807 → ∀ l : Option Addr, ∀ ll : Nat, ∀ lc : Nat, SlcArg Tryd.prog W 56 l ll lc → R #[(.string s), (.slice l ll lc)]) (args : Array Value) (hg : GoodAll Tryd.prog W Tryd.f3.params.toList args.toList) : R args := by
  have e_ : (ArgsAll Tryd.prog W Tryd.f3.params.toList fun l => R l.toArray) = (∀ s : ByteArray, s.size ≤ 9223372036854775807 → ∀ l : Option Addr, ∀ ll : Nat, ∀ lc : Nat, SlcArg Tryd.prog W 56 l ll lc → R #[(.string s), (.slice l ll lc)]) := by kernel_rfl
  exact args_open (by rw [e_]; exact h) args hg
-- wit 3 #[(.string (⟨#[]⟩ : ByteArray)), (.slice none 0 0)]

end Go.Proofs.YtjeboeahhhhbdaaDoor
