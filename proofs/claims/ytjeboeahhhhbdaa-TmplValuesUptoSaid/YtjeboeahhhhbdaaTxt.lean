/- The texts of this seat's functions: what each computes, as its symbolic run says it. -/
import Derived.Test.YtjeboeahhhhbdaaRows
import Derived.Test.YtjeboeahhhhbdaaSxD
import Derived.Test.YtjeboeahhhhbdaaSxN
set_option linter.unusedVariables false
set_option linter.unusedSimpArgs false
set_option maxRecDepth 100000
namespace Go.Proofs.Ytjeboeahhhhbdaa
open Go.Sx Go.RowKit

abbrev F_shiftbellkeep_TmplNames : FuncId := 3
abbrev F_shiftbellkeep_TmplValues : FuncId := 4
abbrev F_shiftbellkeep_TmplJoin : FuncId := 5
abbrev F_shiftbellkeep_scripts : FuncId := 6
abbrev F_tmpl_Names : FuncId := 7
abbrev F_tmpl_Fill : FuncId := 8
abbrev F_strings_Contains : FuncId := 9
abbrev F_shiftbellkeep_good : FuncId := 10
abbrev F_tmpl_Plain : FuncId := 11
abbrev F_tmpl_parse : FuncId := 12
abbrev F_tmpl_Names_1 : FuncId := 13
abbrev F_tmpl_Names_2 : FuncId := 14
abbrev F_slices_Contains_string_string : FuncId := 15
abbrev F_ask_Label : FuncId := 16
abbrev F_tmpl_Fill_1 : FuncId := 17
abbrev F_strings_Builder_Len : FuncId := 18
abbrev F_strings_Builder_WriteString : FuncId := 19
abbrev F_tmpl_Fill_2 : FuncId := 20
abbrev F_strings_Builder_String : FuncId := 21
abbrev F_strings_Index : FuncId := 22
abbrev F_slices_ContainsFunc_api_Errno_api_Errno : FuncId := 23
abbrev F_shiftbellkeep_good_1 : FuncId := 24
abbrev F_strings_Cut : FuncId := 25
abbrev F_strings_CutPrefix : FuncId := 26
abbrev F_slices_Index_string_string : FuncId := 27
abbrev F_internal_stringslite_Index : FuncId := 29
abbrev F_slices_IndexFunc_api_Errno_api_Errno : FuncId := 30
abbrev F_internal_stringslite_Cut : FuncId := 31
abbrev F_internal_stringslite_CutPrefix : FuncId := 32
abbrev F_internal_stringslite_HasPrefix : FuncId := 38
abbrev T__0 : TypeId := 0
abbrev T_int64 : TypeId := 2
abbrev T_int : TypeId := 3
abbrev T_bool : TypeId := 4
abbrev T_uint8 : TypeId := 5
abbrev T_string : TypeId := 9
abbrev T_uintptr : TypeId := 12
abbrev T_int32 : TypeId := 21
abbrev T_sl_string : TypeId := 23
abbrev T_Errno : TypeId := 24
abbrev T_sl_string_Errno : TypeId := 25
abbrev T_sl_Label : TypeId := 27
abbrev T_Label : TypeId := 29
abbrev T_string_Errno : TypeId := 30
abbrev T_string_bool : TypeId := 36
abbrev T_map_string_string : TypeId := 41
abbrev T_ptr_strings_Builder : TypeId := 42
abbrev T_sl_uint8 : TypeId := 43
abbrev T_strings_Builder : TypeId := 45
abbrev T_error : TypeId := 48
abbrev T_int_error : TypeId := 49
abbrev T_sl_Errno : TypeId := 53
abbrev T_string_string_bool : TypeId := 56
abbrev T_ptr_uint8 : TypeId := 60
abbrev T_unsafe_Pointer : TypeId := 62
abbrev T_uint : TypeId := 66
abbrev T_uint32 : TypeId := 67
abbrev T_uint32_uint32 : TypeId := 68
theorem elem_sl_string : slEl Try.prog 23 = some (9, 1, 16, (.string (⟨#[]⟩ : ByteArray))) := by kernel_rfl
theorem elem_sl_Label : slEl Try.prog 27 = some (29, 2, 32, (.agg #[(.string (⟨#[]⟩ : ByteArray)), (.string (⟨#[]⟩ : ByteArray))])) := by kernel_rfl
theorem elem_sl_uint8 : slEl Try.prog 43 = some (5, 1, 1, (.int .u8 0)) := by kernel_rfl
theorem elem_sl_Errno : slEl Try.prog 53 = some (24, 1, 8, (.int .i64 0)) := by kernel_rfl

/-- shiftbell/tmpl.parse -/
def wp_tmpl_parse (s : ByteArray) (text : Value) (gap : Value) (w : World) (Q : Value → World → Prop) : Prop :=
  ∃ (I0 : ByteArray → World → Prop) (M0 : ByteArray → World → Nat), I0 s w ∧
  ∀ (s1 : ByteArray) (w2 : World), I0 s1 w2 →
   ∀ w3, Ext w2 w3 →
   FnP Try.prog F_strings_Cut #[(.string s1), (.string (⟨#[36]⟩ : ByteArray))] w3 fun v4 w4 =>
    Ext w3 w4 ∧
    ∃ t5 : ByteArray, ∃ t6 : ByteArray, ∃ t7 : Bool, v4 = (.tuple #[(.string t5), (.string t6), (.bool t7)]) ∧
    ∀ w8, Ext w2 w8 →
    FnVP Try.prog text [(.string t5)] w8 fun v9 w9 =>
     v9 = (.tuple #[]) ∧
     ((t7 = false) →
      ∀ w10, Ext w9 w10 →
      Q (.bool true) w10) ∧
     ((t7 = true) →
      ∀ w10, Ext w9 w10 →
      FnP Try.prog F_strings_CutPrefix #[(.string t6), (.string (⟨#[36]⟩ : ByteArray))] w10 fun v11 w11 =>
       Ext w10 w11 ∧
       ∃ t12 : ByteArray, ∃ t13 : Bool, v11 = (.tuple #[(.string t12), (.bool t13)]) ∧
       (((t13 = true) →
        ∀ w14, Ext w9 w14 →
        FnVP Try.prog text [(.string (⟨#[36]⟩ : ByteArray))] w14 fun v15 w15 =>
         v15 = (.tuple #[]) ∧
         (I0 t12 w15 ∧ M0 t12 w15 < M0 s1 w2))) ∧
       ((t13 = false) →
        ∀ w14, Ext w9 w14 →
        FnP Try.prog F_strings_Cut #[(.string t6), (.string (⟨#[125]⟩ : ByteArray))] w14 fun v15 w15 =>
         Ext w14 w15 ∧
         ∃ t16 : ByteArray, ∃ t17 : ByteArray, ∃ t18 : Bool, v15 = (.tuple #[(.string t16), (.string t17), (.bool t18)]) ∧
         ∀ w19, Ext w9 w19 →
         FnP Try.prog F_strings_CutPrefix #[(.string t16), (.string (⟨#[123]⟩ : ByteArray))] w19 fun v20 w20 =>
          Ext w19 w20 ∧
          ∃ t21 : ByteArray, ∃ t22 : Bool, v20 = (.tuple #[(.string t21), (.bool t22)]) ∧
          (((t22 = false) ∨ (t18 = false)) →
           ∀ w23, Ext w9 w23 →
           Q (.bool false) w23) ∧
          (((t22 = true) ∧ (t18 = true)) →
           ∀ w23, Ext w9 w23 →
           FnP Try.prog F_ask_Label #[(.string t21)] w23 fun v24 w24 =>
            Ext w23 w24 ∧
            ∃ t25 : Bool, v24 = (.bool t25) ∧
            ((t25 = false) →
             ∀ w26, Ext w9 w26 →
             Q (.bool false) w26) ∧
            ((t25 = true) →
             ∀ w26, Ext w9 w26 →
             FnVP Try.prog gap [(.string t21)] w26 fun v27 w27 =>
              v27 = (.tuple #[]) ∧
              (I0 t17 w27 ∧ M0 t17 w27 < M0 s1 w2)))))

theorem ok_tmpl_parse (s : ByteArray) (text : Value) (gap : Value) (w : World) (Q : Value → World → Prop) (h : wp_tmpl_parse s text gap w Q) : FnP Try.prog F_tmpl_parse #[(.string s), text, gap] w Q := by
  have e_ : wp_tmpl_parse s text gap w Q = Runs Try.prog Q ({ N := 62, wrap := [], pub := [], muts := [1000000], joins := [] } : Cfg) Try.f12 (Try.f12.body.getD .skip) [.sc (.str s), .sc (.val text), .sc (.val gap)] w := by kernel_rfl
  rw [e_] at h
  exact runs_fn h Try.func12 (by kernel_rfl) (fun args w => Try.call12 args w) (by kernel_rfl) (by kernel_rfl) rfl rfl

/-- shiftbell/tmpl.Names -/
def wp_tmpl_Names (s : ByteArray) (w : World) (Q : Value → World → Prop) : Prop :=
  ((2000 < (s.size : Int)) →
   ∀ w0, Ext w w0 →
   Q (.tuple #[(.slice none 0 0), (.int .i64 2)]) w0) ∧
  (((s.size : Int) ≤ 2000) →
   ∀ w0, Ext w w0 →
   New w0 23 [(.slice none 0 0)] fun p1 w1 =>
    ∀ w2, Ext w1 w2 →
    FnP Try.prog F_tmpl_parse #[(.string s), (.func (.func 13) #[] #[]), (.func (.func 14) #[] #[(.pointer p1)])] w2 fun v3 w3 =>
     ∃ t4 : Bool, v3 = (.bool t4) ∧
     ((t4 = false) →
      ∀ w5, Ext w3 w5 →
      Q (.tuple #[(.slice none 0 0), (.int .i64 3)]) w5) ∧
     ((t4 = true) →
      ∃ t5 : Option Addr, ∃ tl6 : Nat, ∃ tc7 : Nat, cell w3 p1 0 = some (.slice t5 tl6 tc7) ∧
      ∀ w8, Ext w3 w8 →
      Q (.tuple #[(.slice t5 tl6 tc7), (.int .i64 0)]) w8))

theorem ok_tmpl_Names (s : ByteArray) (w : World) (Q : Value → World → Prop) (h : wp_tmpl_Names s w Q) : FnP Try.prog F_tmpl_Names #[(.string s)] w Q := by
  have e_ : wp_tmpl_Names s w Q = Runs Try.prog Q ({ N := 15, wrap := [], pub := [4], muts := [12], joins := [] } : Cfg) Try.f7 (Try.f7.body.getD .skip) [.sc (.str s)] w := by kernel_rfl
  rw [e_] at h
  exact runs_fn h Try.func7 (by kernel_rfl) (fun args w => Try.call7 args w) (by kernel_rfl) (by kernel_rfl) rfl rfl

/-- shiftbell/tmpl.Names$1 -/
def wp_tmpl_Names_1 (a0 : ByteArray) (w : World) (Q : Value → World → Prop) : Prop :=
  ∀ w0, Ext w w0 →
  Q (.tuple #[]) w0

theorem ok_tmpl_Names_1 (a0 : ByteArray) (w : World) (Q : Value → World → Prop) (h : wp_tmpl_Names_1 a0 w Q) : FnP Try.prog F_tmpl_Names_1 #[(.string a0)] w Q := by
  have e_ : wp_tmpl_Names_1 a0 w Q = Runs Try.prog Q ({ N := 2, wrap := [], pub := [], muts := [], joins := [] } : Cfg) Try.f13 (Try.f13.body.getD .skip) [.sc (.str a0)] w := by kernel_rfl
  rw [e_] at h
  exact runs_fn h Try.func13 (by kernel_rfl) (fun args w => Try.call13 args w) (by kernel_rfl) (by kernel_rfl) rfl rfl

/-- shiftbell/tmpl.Names$2 -/
def wp_tmpl_Names_2 (name : ByteArray) (c0 : Option Addr) (w : World) (Q : Value → World → Prop) : Prop :=
  ∃ t0 : Option Addr, ∃ tl1 : Nat, ∃ tc2 : Nat, cell w c0 0 = some (.slice t0 tl1 tc2) ∧
  ∀ w3, Ext w w3 →
  FnP Try.prog F_slices_Contains_string_string #[(.slice t0 tl1 tc2), (.string name)] w3 fun v4 w4 =>
   Ext w3 w4 ∧
   ∃ t5 : Bool, v4 = (.bool t5) ∧
   (((t5 = false) →
    ∃ t6 : Option Addr, ∃ tl7 : Nat, ∃ tc8 : Nat, cell w c0 0 = some (.slice t6 tl7 tc8) ∧
    ∀ w9, Ext w w9 →
    Run Try.prog (.buildSlice 23 1 [(0, (.string name))]) w9 fun v10 w10 =>
     Ext w9 w10 ∧
     ∃ t11 : Option Addr, ∃ tl12 : Nat, ∃ tc13 : Nat, v10 = (.slice t11 tl12 tc13) ∧
     ∀ w14, Ext w10 w14 →
     Run Try.prog (.append #[23, 23] 23 [(.slice t6 tl7 tc8), (.slice t11 tl12 tc13)]) w14 fun v15 w15 =>
      ∃ t16 : Option Addr, ∃ tl17 : Nat, ∃ tc18 : Nat, v15 = (.slice t16 tl17 tc18) ∧
      Store w15 c0 [(.slice t16 tl17 tc18)] [] fun w19 =>
       ∀ w20, Ext w19 w20 →
       Q (.tuple #[]) w20)) ∧
   ((t5 = true) →
    ∀ w6, Ext w w6 →
    Q (.tuple #[]) w6)

theorem ok_tmpl_Names_2 (name : ByteArray) (c0 : Option Addr) (w : World) (Q : Value → World → Prop) (h : wp_tmpl_Names_2 name c0 w Q) : FnP Try.prog F_tmpl_Names_2 #[(.string name), (.pointer c0)] w Q := by
  have e_ : wp_tmpl_Names_2 name c0 w Q = Runs Try.prog Q ({ N := 11, wrap := [], pub := [], muts := [], joins := [] } : Cfg) Try.f14 (Try.f14.body.getD .skip) [.sc (.str name), .sc (.ptr c0)] w := by kernel_rfl
  rw [e_] at h
  exact runs_fn h Try.func14 (by kernel_rfl) (fun args w => Try.call14 args w) (by kernel_rfl) (by kernel_rfl) rfl rfl

/-- shiftbell/tmpl.Fill -/
def wp_tmpl_Fill (s : ByteArray) (l : Option Addr) (ll : Nat) (lc : Nat) (w : World) (Q : Value → World → Prop) : Prop :=
  ∀ w0, Ext w w0 →
  FnP Try.prog F_tmpl_Names #[(.string s)] w0 fun v1 w1 =>
   Ext w0 w1 ∧
   ∃ t2 : Option Addr, ∃ tl3 : Nat, ∃ tc4 : Nat, ∃ t5 : Int, v1 = (.tuple #[(.slice t2 tl3 tc4), (.int .i64 t5)]) ∧
   ((t5 ≠ 0) →
    ∀ w6, Ext w1 w6 →
    Q (.tuple #[(.string (⟨#[]⟩ : ByteArray)), (.int .i64 t5)]) w6) ∧
   ((t5 = 0) →
    ((8 < (ll : Int)) →
     ∀ w6, Ext w1 w6 →
     Q (.tuple #[(.string (⟨#[]⟩ : ByteArray)), (.int .i64 2)]) w6) ∧
    (((ll : Int) ≤ 8) →
     ∀ w6, Ext w1 w6 →
     Run Try.prog (.makeMap 41) w6 fun v7 w7 =>
      Ext w6 w7 ∧
      ∃ t8 : Value, v7 = t8 ∧
      ∀ w9, Ext w7 w9 →
      New w9 41 [(.map none)] fun p10 w10 =>
       Store w10 p10 [t8] [] fun w11 =>
        ∃ (I12 : Int → World → Prop) (M12 : Int → World → Nat), I12 0 w11 ∧
        ∀ (k13 : Int) (w14 : World), I12 k13 w14 →
         (((k13 < (ll : Int)) →
          l ≠ none ∧
          (0 : Int) ≤ k13 ∧
          (k13 : Int) < (ll : Int) ∧
          (pIdx l k13 2) ≠ none ∧
          ∃ t15 : ByteArray, cell w14 (pIdx l k13 2) 0 = some (.string t15) ∧
          ∃ t16 : ByteArray, cell w14 (pIdx l k13 2) 1 = some (.string t16) ∧
          ∀ b17 : Nat, w14.heap.size ≤ b17 → ∃ t18 : Value, cell w14 p10 0 = some t18 ∧
          ∀ w19, Ext w14 w19 →
          Run Try.prog (.lookup 41 t18 (.string t15) true) w19 fun v20 w20 =>
           Ext w19 w20 ∧
           ∃ t21 : ByteArray, ∃ t22 : Bool, v20 = (.tuple #[(.string t21), (.bool t22)]) ∧
           ∀ w23, Ext w14 w23 →
           FnP Try.prog F_ask_Label #[(.string t15)] w23 fun v24 w24 =>
            Ext w23 w24 ∧
            ∃ t25 : Bool, v24 = (.bool t25) ∧
            ((t25 = false) →
             ∀ w26, Ext w14 w26 →
             Q (.tuple #[(.string (⟨#[]⟩ : ByteArray)), (.int .i64 3)]) w26) ∧
            ((t25 = true) →
             ((t22 = true) →
              ∀ w26, Ext w14 w26 →
              Q (.tuple #[(.string (⟨#[]⟩ : ByteArray)), (.int .i64 6)]) w26) ∧
             ((t22 = false) →
              ∃ t26 : Value, cell w14 p10 0 = some t26 ∧
              ∀ w27, ExtB [] [b17] w14 w27 →
              Run Try.prog (.mapUpdate 41 t26 (.string t15) (.string t16)) w27 fun v28 w28 =>
               Kept [b17] w27 w28 ∧
               InR .i64 (k13 + 1) ∧
               (I12 (k13 + 1) w28 ∧ M12 (k13 + 1) w28 < M12 k13 w14))))) ∧
         (((ll : Int) ≤ k13) →
          ∃ (I15 : Int → World → Prop) (M15 : Int → World → Nat), I15 0 w14 ∧
          ∀ (k16 : Int) (w17 : World), I15 k16 w17 →
           (((k16 < (tl3 : Int)) →
            t2 ≠ none ∧
            (0 : Int) ≤ k16 ∧
            (k16 : Int) < (tl3 : Int) ∧
            ∃ t18 : ByteArray, cell w17 (pIdx t2 k16 1) 0 = some (.string t18) ∧
            ∃ t19 : Value, cell w17 p10 0 = some t19 ∧
            ∀ w20, Ext w17 w20 →
            Run Try.prog (.lookup 41 t19 (.string t18) true) w20 fun v21 w21 =>
             Ext w20 w21 ∧
             ∃ t22 : ByteArray, ∃ t23 : Bool, v21 = (.tuple #[(.string t22), (.bool t23)]) ∧
             ((t23 = false) →
              ∀ w24, Ext w17 w24 →
              Q (.tuple #[(.string (⟨#[]⟩ : ByteArray)), (.int .i64 5)]) w24) ∧
             ((t23 = true) →
              InR .i64 (k16 + 1) ∧
              (I15 (k16 + 1) w17 ∧ M15 (k16 + 1) w17 < M15 k16 w17)))) ∧
           (((tl3 : Int) ≤ k16) →
            ∀ w18, Ext w17 w18 →
            New w18 45 [(.pointer none), (.slice none 0 0)] fun p19 w19 =>
             ∀ w20, Ext w19 w20 →
             New w20 39 [.nilFunc] fun p21 w21 =>
              Store w21 p21 [(.func (.func 17) #[] #[(.pointer p19)])] [] fun w22 =>
               ∃ t23 : Value, cell w22 p21 0 = some t23 ∧
               ∀ w24, Ext w22 w24 →
               FnP Try.prog F_tmpl_parse #[(.string s), t23, (.func (.func 20) #[] #[(.pointer p21), (.pointer p10)])] w24 fun v25 w25 =>
                ∃ t26 : Bool, v25 = (.bool t26) ∧
                ∀ w27, Ext w25 w27 →
                FnP Try.prog F_strings_Builder_Len #[(.pointer p19)] w27 fun v28 w28 =>
                 Ext w27 w28 ∧
                 ∃ t29 : Int, v28 = (.int .i64 t29) ∧
                 ((2000 < t29) →
                  ∀ w30, Ext w25 w30 →
                  Q (.tuple #[(.string (⟨#[]⟩ : ByteArray)), (.int .i64 2)]) w30) ∧
                 ((t29 ≤ 2000) →
                  ∀ w30, Ext w25 w30 →
                  FnP Try.prog F_strings_Builder_String #[(.pointer p19)] w30 fun v31 w31 =>
                   ∃ t32 : ByteArray, v31 = (.string t32) ∧
                   ∀ w33, Ext w31 w33 →
                   Q (.tuple #[(.string t32), (.int .i64 0)]) w33)))))

theorem ok_tmpl_Fill (s : ByteArray) (l : Option Addr) (ll : Nat) (lc : Nat) (w : World) (Q : Value → World → Prop) (h : wp_tmpl_Fill s l ll lc w Q) : FnP Try.prog F_tmpl_Fill #[(.string s), (.slice l ll lc)] w Q := by
  have e_ : wp_tmpl_Fill s l ll lc w Q = Runs Try.prog Q ({ N := 82, wrap := [], pub := [8, 17, 18], muts := [12, 21], joins := [] } : Cfg) Try.f8 (Try.f8.body.getD .skip) [.sc (.str s), .sc (.slc l ll lc)] w := by kernel_rfl
  rw [e_] at h
  exact runs_fn h Try.func8 (by kernel_rfl) (fun args w => Try.call8 args w) (by kernel_rfl) (by kernel_rfl) rfl rfl

/-- shiftbell/tmpl.Fill$1 -/
def wp_tmpl_Fill_1 (s : ByteArray) (c0 : Option Addr) (w : World) (Q : Value → World → Prop) : Prop :=
  ∀ w0, Ext w w0 →
  FnP Try.prog F_strings_Builder_Len #[(.pointer c0)] w0 fun v1 w1 =>
   Ext w0 w1 ∧
   ∃ t2 : Int, v1 = (.int .i64 t2) ∧
   (((t2 ≤ 2000) →
    ∀ w3, Ext w w3 →
    FnP Try.prog F_strings_Builder_WriteString #[(.pointer c0), (.string s)] w3 fun v4 w4 =>
     ∃ t5 : Int, ∃ t6 : Value, v4 = (.tuple #[(.int .i64 t5), t6]) ∧
     ∀ w7, Ext w4 w7 →
     Q (.tuple #[]) w7)) ∧
   ((2000 < t2) →
    ∀ w3, Ext w w3 →
    Q (.tuple #[]) w3)

theorem ok_tmpl_Fill_1 (s : ByteArray) (c0 : Option Addr) (w : World) (Q : Value → World → Prop) (h : wp_tmpl_Fill_1 s c0 w Q) : FnP Try.prog F_tmpl_Fill_1 #[(.string s), (.pointer c0)] w Q := by
  have e_ : wp_tmpl_Fill_1 s c0 w Q = Runs Try.prog Q ({ N := 7, wrap := [], pub := [], muts := [19], joins := [] } : Cfg) Try.f17 (Try.f17.body.getD .skip) [.sc (.str s), .sc (.ptr c0)] w := by kernel_rfl
  rw [e_] at h
  exact runs_fn h Try.func17 (by kernel_rfl) (fun args w => Try.call17 args w) (by kernel_rfl) (by kernel_rfl) rfl rfl

/-- shiftbell/tmpl.Fill$2 -/
def wp_tmpl_Fill_2 (name : ByteArray) (c0 : Option Addr) (c1 : Option Addr) (w : World) (Q : Value → World → Prop) : Prop :=
  ∃ t0 : Value, cell w c0 0 = some t0 ∧
  ∃ t1 : Value, cell w c1 0 = some t1 ∧
  ∀ w2, Ext w w2 →
  Run Try.prog (.lookup 41 t1 (.string name) false) w2 fun v3 w3 =>
   Ext w2 w3 ∧
   ∃ t4 : ByteArray, v3 = (.string t4) ∧
   ∀ w5, Ext w w5 →
   FnVP Try.prog t0 [(.string t4)] w5 fun v6 w6 =>
    v6 = (.tuple #[]) ∧
    ∀ w7, Ext w6 w7 →
    Q (.tuple #[]) w7

theorem ok_tmpl_Fill_2 (name : ByteArray) (c0 : Option Addr) (c1 : Option Addr) (w : World) (Q : Value → World → Prop) (h : wp_tmpl_Fill_2 name c0 c1 w Q) : FnP Try.prog F_tmpl_Fill_2 #[(.string name), (.pointer c0), (.pointer c1)] w Q := by
  have e_ : wp_tmpl_Fill_2 name c0 c1 w Q = Runs Try.prog Q ({ N := 9, wrap := [], pub := [], muts := [1000000], joins := [] } : Cfg) Try.f20 (Try.f20.body.getD .skip) [.sc (.str name), .sc (.ptr c0), .sc (.ptr c1)] w := by kernel_rfl
  rw [e_] at h
  exact runs_fn h Try.func20 (by kernel_rfl) (fun args w => Try.call20 args w) (by kernel_rfl) (by kernel_rfl) rfl rfl

/-- shiftbell/tmpl.Plain -/
def wp_tmpl_Plain (s : ByteArray) (w : World) (Q : Value → World → Prop) : Prop :=
  ∀ w0, Ext w w0 →
  FnP Try.prog F_tmpl_Names #[(.string s)] w0 fun v1 w1 =>
   Ext w0 w1 ∧
   ∃ t2 : Option Addr, ∃ tl3 : Nat, ∃ tc4 : Nat, ∃ t5 : Int, v1 = (.tuple #[(.slice t2 tl3 tc4), (.int .i64 t5)]) ∧
   (((t5 ≠ 0) ∨ (0 < (tl3 : Int))) →
    ∀ w6, Ext w1 w6 →
    Q (.tuple #[(.string (⟨#[]⟩ : ByteArray)), (.bool false)]) w6) ∧
   (((t5 = 0) ∧ ((tl3 : Int) ≤ 0)) →
    ∀ w6, Ext w1 w6 →
    FnP Try.prog F_tmpl_Fill #[(.string s), (.slice none 0 0)] w6 fun v7 w7 =>
     Ext w6 w7 ∧
     ∃ t8 : ByteArray, ∃ t9 : Int, v7 = (.tuple #[(.string t8), (.int .i64 t9)]) ∧
     ∀ w10, Ext w1 w10 →
     Q (.tuple #[(.string t8), (.bool (decide (t9 = 0)))]) w10)

theorem ok_tmpl_Plain (s : ByteArray) (w : World) (Q : Value → World → Prop) (h : wp_tmpl_Plain s w Q) : FnP Try.prog F_tmpl_Plain #[(.string s)] w Q := by
  have e_ : wp_tmpl_Plain s w Q = Runs Try.prog Q ({ N := 28, wrap := [], pub := [], muts := [], joins := [] } : Cfg) Try.f11 (Try.f11.body.getD .skip) [.sc (.str s)] w := by kernel_rfl
  rw [e_] at h
  exact runs_fn h Try.func11 (by kernel_rfl) (fun args w => Try.call11 args w) (by kernel_rfl) (by kernel_rfl) rfl rfl

/-- shiftbell/ask.Label -/
def wp_ask_Label (s : ByteArray) (w : World) (Q : Value → World → Prop) : Prop :=
  ((((s ≠ (⟨#[]⟩ : ByteArray)) ∧ ((s.size : Int) ≤ 20)) →
   (0 : Int) ≤ 0)) ∧
  ((((s ≠ (⟨#[]⟩ : ByteArray)) ∧ ((s.size : Int) ≤ 20)) →
   (0 : Int) < (s.size : Int))) ∧
  (((((s ≠ (⟨#[]⟩ : ByteArray)) ∧ ((s.size : Int) ≤ 20)) ∧ (97 ≤ (sAt s 0))) →
   (0 : Int) ≤ 0)) ∧
  (((((s ≠ (⟨#[]⟩ : ByteArray)) ∧ ((s.size : Int) ≤ 20)) ∧ (97 ≤ (sAt s 0))) →
   (0 : Int) < (s.size : Int))) ∧
  (((((s = (⟨#[]⟩ : ByteArray)) ∨ (20 < (s.size : Int))) ∨ ((sAt s 0) < 97)) ∨ (122 < (sAt s 0))) →
   ∀ w0, Ext w w0 →
   Q (.bool false) w0) ∧
  (((((s ≠ (⟨#[]⟩ : ByteArray)) ∧ ((s.size : Int) ≤ 20)) ∧ (97 ≤ (sAt s 0))) ∧ ((sAt s 0) ≤ 122)) →
   ∀ w0, Ext w w0 →
   Run Try.prog (.convert 9 43 (.string s)) w0 fun v1 w1 =>
    Ext w0 w1 ∧
    ∃ t2 : Option Addr, ∃ tl3 : Nat, ∃ tc4 : Nat, v1 = (.slice t2 tl3 tc4) ∧
    ∃ (I5 : Int → World → Prop) (M5 : Int → World → Nat), I5 0 w1 ∧
    ∀ (k6 : Int) (w7 : World), I5 k6 w7 →
     (((k6 < (tl3 : Int)) →
      t2 ≠ none ∧
      (0 : Int) ≤ k6 ∧
      (k6 : Int) < (tl3 : Int) ∧
      ∃ t8 : Int, cell w7 (pIdx t2 k6 1) 0 = some (.int .u8 t8) ∧
      ((((((t8 < 97) ∨ (122 < t8)) ∧ ((t8 < 48) ∨ (57 < t8))) ∧ (t8 ≠ 45)) →
       ∀ w9, Ext w7 w9 →
       Q (.bool false) w9)) ∧
      (((((97 ≤ t8) ∧ (t8 ≤ 122)) ∨ ((48 ≤ t8) ∧ (t8 ≤ 57))) ∨ (t8 = 45)) →
       InR .i64 (k6 + 1) ∧
       (I5 (k6 + 1) w7 ∧ M5 (k6 + 1) w7 < M5 k6 w7)))) ∧
     (((tl3 : Int) ≤ k6) →
      ∀ w8, Ext w7 w8 →
      Q (.bool true) w8))

theorem ok_ask_Label (s : ByteArray) (w : World) (Q : Value → World → Prop) (h : wp_ask_Label s w Q) : FnP Try.prog F_ask_Label #[(.string s)] w Q := by
  have e_ : wp_ask_Label s w Q = Runs Try.prog Q ({ N := 48, wrap := [], pub := [], muts := [], joins := [] } : Cfg) Try.f16 (Try.f16.body.getD .skip) [.sc (.str s)] w := by kernel_rfl
  rw [e_] at h
  exact runs_fn h Try.func16 (by kernel_rfl) (fun args w => Try.call16 args w) (by kernel_rfl) (by kernel_rfl) rfl rfl

/-- strings.Cut -/
def wp_strings_Cut (s : ByteArray) (sep : ByteArray) (w : World) (Q : Value → World → Prop) : Prop :=
  ∀ w0, Ext w w0 →
  FnP Try.prog F_internal_stringslite_Cut #[(.string s), (.string sep)] w0 fun v1 w1 =>
   Ext w0 w1 ∧
   ∃ t2 : ByteArray, ∃ t3 : ByteArray, ∃ t4 : Bool, v1 = (.tuple #[(.string t2), (.string t3), (.bool t4)]) ∧
   ∀ w5, Ext w w5 →
   Q (.tuple #[(.string t2), (.string t3), (.bool t4)]) w5

theorem ok_strings_Cut (s : ByteArray) (sep : ByteArray) (w : World) (Q : Value → World → Prop) (h : wp_strings_Cut s sep w Q) : FnP Try.prog F_strings_Cut #[(.string s), (.string sep)] w Q := by
  have e_ : wp_strings_Cut s sep w Q = Runs Try.prog Q ({ N := 13, wrap := [], pub := [], muts := [], joins := [] } : Cfg) Try.f25 (Try.f25.body.getD .skip) [.sc (.str s), .sc (.str sep)] w := by kernel_rfl
  rw [e_] at h
  exact runs_fn h Try.func25 (by kernel_rfl) (fun args w => Try.call25 args w) (by kernel_rfl) (by kernel_rfl) rfl rfl

/-- strings.CutPrefix -/
def wp_strings_CutPrefix (s : ByteArray) (prefix_v : ByteArray) (w : World) (Q : Value → World → Prop) : Prop :=
  ∀ w0, Ext w w0 →
  FnP Try.prog F_internal_stringslite_CutPrefix #[(.string s), (.string prefix_v)] w0 fun v1 w1 =>
   Ext w0 w1 ∧
   ∃ t2 : ByteArray, ∃ t3 : Bool, v1 = (.tuple #[(.string t2), (.bool t3)]) ∧
   ∀ w4, Ext w w4 →
   Q (.tuple #[(.string t2), (.bool t3)]) w4

theorem ok_strings_CutPrefix (s : ByteArray) (prefix_v : ByteArray) (w : World) (Q : Value → World → Prop) (h : wp_strings_CutPrefix s prefix_v w Q) : FnP Try.prog F_strings_CutPrefix #[(.string s), (.string prefix_v)] w Q := by
  have e_ : wp_strings_CutPrefix s prefix_v w Q = Runs Try.prog Q ({ N := 11, wrap := [], pub := [], muts := [], joins := [] } : Cfg) Try.f26 (Try.f26.body.getD .skip) [.sc (.str s), .sc (.str prefix_v)] w := by kernel_rfl
  rw [e_] at h
  exact runs_fn h Try.func26 (by kernel_rfl) (fun args w => Try.call26 args w) (by kernel_rfl) (by kernel_rfl) rfl rfl

/-- internal/stringslite.Cut -/
def wp_internal_stringslite_Cut (s : ByteArray) (sep : ByteArray) (w : World) (Q : Value → World → Prop) : Prop :=
  ∀ w0, Ext w w0 →
  FnP Try.prog F_internal_stringslite_Index #[(.string s), (.string sep)] w0 fun v1 w1 =>
   Ext w0 w1 ∧
   ∃ t2 : Int, v1 = (.int .i64 t2) ∧
   (((0 ≤ t2) →
    (0 : Int) ≤ 0 ∧
    (0 : Int) ≤ t2 ∧
    (t2 : Int) ≤ (s.size : Int) ∧
    InR .i64 (t2 + (sep.size : Int)) ∧
    (0 : Int) ≤ (t2 + (sep.size : Int)) ∧
    ((t2 + (sep.size : Int)) : Int) ≤ (s.size : Int) ∧
    ((s.size : Int) : Int) ≤ (s.size : Int) ∧
    ∀ w3, Ext w w3 →
    Q (.tuple #[(.string (s.extract (0 : Int).toNat t2.toNat)), (.string (s.extract (t2 + (sep.size : Int)).toNat (s.size : Int).toNat)), (.bool true)]) w3)) ∧
   ((t2 < 0) →
    ∀ w3, Ext w w3 →
    Q (.tuple #[(.string s), (.string (⟨#[]⟩ : ByteArray)), (.bool false)]) w3)

theorem ok_internal_stringslite_Cut (s : ByteArray) (sep : ByteArray) (w : World) (Q : Value → World → Prop) (h : wp_internal_stringslite_Cut s sep w Q) : FnP Try.prog F_internal_stringslite_Cut #[(.string s), (.string sep)] w Q := by
  have e_ : wp_internal_stringslite_Cut s sep w Q = Runs Try.prog Q ({ N := 23, wrap := [], pub := [], muts := [], joins := [] } : Cfg) Try.f31 (Try.f31.body.getD .skip) [.sc (.str s), .sc (.str sep)] w := by kernel_rfl
  rw [e_] at h
  exact runs_fn h Try.func31 (by kernel_rfl) (fun args w => Try.call31 args w) (by kernel_rfl) (by kernel_rfl) rfl rfl

/-- internal/stringslite.CutPrefix -/
def wp_internal_stringslite_CutPrefix (s : ByteArray) (prefix_v : ByteArray) (w : World) (Q : Value → World → Prop) : Prop :=
  ∀ w0, Ext w w0 →
  FnP Try.prog F_internal_stringslite_HasPrefix #[(.string s), (.string prefix_v)] w0 fun v1 w1 =>
   Ext w0 w1 ∧
   ∃ t2 : Bool, v1 = (.bool t2) ∧
   ((t2 = false) →
    ∀ w3, Ext w w3 →
    Q (.tuple #[(.string s), (.bool false)]) w3) ∧
   ((t2 = true) →
    (0 : Int) ≤ (prefix_v.size : Int) ∧
    ((prefix_v.size : Int) : Int) ≤ (s.size : Int) ∧
    ((s.size : Int) : Int) ≤ (s.size : Int) ∧
    ∀ w3, Ext w w3 →
    Q (.tuple #[(.string (s.extract (prefix_v.size : Int).toNat (s.size : Int).toNat)), (.bool true)]) w3)

theorem ok_internal_stringslite_CutPrefix (s : ByteArray) (prefix_v : ByteArray) (w : World) (Q : Value → World → Prop) (h : wp_internal_stringslite_CutPrefix s prefix_v w Q) : FnP Try.prog F_internal_stringslite_CutPrefix #[(.string s), (.string prefix_v)] w Q := by
  have e_ : wp_internal_stringslite_CutPrefix s prefix_v w Q = Runs Try.prog Q ({ N := 15, wrap := [], pub := [], muts := [], joins := [] } : Cfg) Try.f32 (Try.f32.body.getD .skip) [.sc (.str s), .sc (.str prefix_v)] w := by kernel_rfl
  rw [e_] at h
  exact runs_fn h Try.func32 (by kernel_rfl) (fun args w => Try.call32 args w) (by kernel_rfl) (by kernel_rfl) rfl rfl

/-- internal/stringslite.HasPrefix -/
def wp_internal_stringslite_HasPrefix (s : ByteArray) (prefix_v : ByteArray) (w : World) (Q : Value → World → Prop) : Prop :=
  (((prefix_v.size : Int) ≤ (s.size : Int)) →
   (0 : Int) ≤ 0) ∧
  (((prefix_v.size : Int) ≤ (s.size : Int)) →
   (0 : Int) ≤ (prefix_v.size : Int)) ∧
  (((prefix_v.size : Int) ≤ (s.size : Int)) →
   ((prefix_v.size : Int) : Int) ≤ (s.size : Int)) ∧
  ∀ w0, Ext w w0 →
  Q (.bool ((decide ((prefix_v.size : Int) ≤ (s.size : Int))) && (decide ((s.extract (0 : Int).toNat (prefix_v.size : Int).toNat) = prefix_v)))) w0

theorem ok_internal_stringslite_HasPrefix (s : ByteArray) (prefix_v : ByteArray) (w : World) (Q : Value → World → Prop) (h : wp_internal_stringslite_HasPrefix s prefix_v w Q) : FnP Try.prog F_internal_stringslite_HasPrefix #[(.string s), (.string prefix_v)] w Q := by
  have e_ : wp_internal_stringslite_HasPrefix s prefix_v w Q = Runs Try.prog Q ({ N := 18, wrap := [], pub := [], muts := [], joins := [] } : Cfg) Try.f38 (Try.f38.body.getD .skip) [.sc (.str s), .sc (.str prefix_v)] w := by kernel_rfl
  rw [e_] at h
  exact runs_fn h Try.func38 (by kernel_rfl) (fun args w => Try.call38 args w) (by kernel_rfl) (by kernel_rfl) rfl rfl

/-- slices.Contains[[]string,string] -/
def wp_slices_Contains_string_string (s : Option Addr) (sl : Nat) (sc : Nat) (v : ByteArray) (w : World) (Q : Value → World → Prop) : Prop :=
  ∀ w0, Ext w w0 →
  FnP Try.prog F_slices_Index_string_string #[(.slice s sl sc), (.string v)] w0 fun v1 w1 =>
   Ext w0 w1 ∧
   ∃ t2 : Int, v1 = (.int .i64 t2) ∧
   ∀ w3, Ext w w3 →
   Q (.bool (decide (0 ≤ t2))) w3

theorem ok_slices_Contains_string_string (s : Option Addr) (sl : Nat) (sc : Nat) (v : ByteArray) (w : World) (Q : Value → World → Prop) (h : wp_slices_Contains_string_string s sl sc v w Q) : FnP Try.prog F_slices_Contains_string_string #[(.slice s sl sc), (.string v)] w Q := by
  have e_ : wp_slices_Contains_string_string s sl sc v w Q = Runs Try.prog Q ({ N := 9, wrap := [], pub := [], muts := [], joins := [] } : Cfg) Try.f15 (Try.f15.body.getD .skip) [.sc (.slc s sl sc), .sc (.str v)] w := by kernel_rfl
  rw [e_] at h
  exact runs_fn h Try.func15 (by kernel_rfl) (fun args w => Try.call15 args w) (by kernel_rfl) (by kernel_rfl) rfl rfl

/-- slices.Index[[]string,string] -/
def wp_slices_Index_string_string (s : Option Addr) (sl : Nat) (sc : Nat) (v : ByteArray) (w : World) (Q : Value → World → Prop) : Prop :=
  ∃ (I0 : Int → World → Prop) (M0 : Int → World → Nat), I0 0 w ∧
  ∀ (k1 : Int) (w2 : World), I0 k1 w2 →
   (((k1 < (sl : Int)) →
    s ≠ none ∧
    (0 : Int) ≤ k1 ∧
    (k1 : Int) < (sl : Int) ∧
    ∃ t3 : ByteArray, cell w2 (pIdx s k1 1) 0 = some (.string t3) ∧
    ((v = t3) →
     ∀ w4, Ext w2 w4 →
     Q (.int .i64 k1) w4) ∧
    ((v ≠ t3) →
     InR .i64 (k1 + 1) ∧
     (I0 (k1 + 1) w2 ∧ M0 (k1 + 1) w2 < M0 k1 w2)))) ∧
   (((sl : Int) ≤ k1) →
    ∀ w3, Ext w2 w3 →
    Q (.int .i64 (-1)) w3)

theorem ok_slices_Index_string_string (s : Option Addr) (sl : Nat) (sc : Nat) (v : ByteArray) (w : World) (Q : Value → World → Prop) (h : wp_slices_Index_string_string s sl sc v w Q) : FnP Try.prog F_slices_Index_string_string #[(.slice s sl sc), (.string v)] w Q := by
  have e_ : wp_slices_Index_string_string s sl sc v w Q = Runs Try.prog Q ({ N := 19, wrap := [], pub := [], muts := [], joins := [] } : Cfg) Try.f27 (Try.f27.body.getD .skip) [.sc (.slc s sl sc), .sc (.str v)] w := by kernel_rfl
  rw [e_] at h
  exact runs_fn h Try.func27 (by kernel_rfl) (fun args w => Try.call27 args w) (by kernel_rfl) (by kernel_rfl) rfl rfl

/-- shiftbell/shiftbellkeep.scripts -/
def wp_shiftbellkeep_scripts  (w : World) (Q : Value → World → Prop) : Prop :=
  ∀ w0, Ext w w0 →
  FnP Try.prog F_tmpl_Plain #[(.string (⟨#[97, 36, 36]⟩ : ByteArray))] w0 fun v1 w1 =>
   Ext w0 w1 ∧
   ∃ t2 : ByteArray, ∃ t3 : Bool, v1 = (.tuple #[(.string t2), (.bool t3)]) ∧
   ∀ w4, Ext w w4 →
   Q (.bool (t3 && (decide (t2 = (⟨#[97, 36]⟩ : ByteArray))))) w4

theorem ok_shiftbellkeep_scripts  (w : World) (Q : Value → World → Prop) (h : wp_shiftbellkeep_scripts  w Q) : FnP Try.prog F_shiftbellkeep_scripts #[] w Q := by
  have e_ : wp_shiftbellkeep_scripts  w Q = Runs Try.prog Q ({ N := 12, wrap := [], pub := [], muts := [], joins := [] } : Cfg) Try.f6 (Try.f6.body.getD .skip) [] w := by kernel_rfl
  rw [e_] at h
  exact runs_fn h Try.func6 (by kernel_rfl) (fun args w => Try.call6 args w) (by kernel_rfl) (by kernel_rfl) rfl rfl

/-- shiftbell/shiftbellkeep.good -/
def wp_shiftbellkeep_good (l : Option Addr) (ll : Nat) (lc : Nat) (w : World) (Q : Value → World → Prop) : Prop :=
  ∀ w0, Ext w w0 →
  FnP Try.prog F_slices_ContainsFunc_api_Errno_api_Errno #[(.slice l ll lc), (.func (.func 24) #[] #[])] w0 fun v1 w1 =>
   Ext w0 w1 ∧
   ∃ t2 : Bool, v1 = (.bool t2) ∧
   ∀ w3, Ext w w3 →
   Q (.bool (!t2)) w3

theorem ok_shiftbellkeep_good (l : Option Addr) (ll : Nat) (lc : Nat) (w : World) (Q : Value → World → Prop) (h : wp_shiftbellkeep_good l ll lc w Q) : FnP Try.prog F_shiftbellkeep_good #[(.slice l ll lc)] w Q := by
  have e_ : wp_shiftbellkeep_good l ll lc w Q = Runs Try.prog Q ({ N := 6, wrap := [], pub := [], muts := [], joins := [] } : Cfg) Try.f10 (Try.f10.body.getD .skip) [.sc (.slc l ll lc)] w := by kernel_rfl
  rw [e_] at h
  exact runs_fn h Try.func10 (by kernel_rfl) (fun args w => Try.call10 args w) (by kernel_rfl) (by kernel_rfl) rfl rfl

/-- shiftbell/shiftbellkeep.good$1 -/
def wp_shiftbellkeep_good_1 (e : Int) (w : World) (Q : Value → World → Prop) : Prop :=
  ∀ w0, Ext w w0 →
  Q (.bool (decide (e ≠ 0))) w0

theorem ok_shiftbellkeep_good_1 (e : Int) (w : World) (Q : Value → World → Prop) (h : wp_shiftbellkeep_good_1 e w Q) : FnP Try.prog F_shiftbellkeep_good_1 #[(.int .i64 e)] w Q := by
  have e_ : wp_shiftbellkeep_good_1 e w Q = Runs Try.prog Q ({ N := 5, wrap := [], pub := [], muts := [], joins := [] } : Cfg) Try.f24 (Try.f24.body.getD .skip) [.sc (.int .i64 e)] w := by kernel_rfl
  rw [e_] at h
  exact runs_fn h Try.func24 (by kernel_rfl) (fun args w => Try.call24 args w) (by kernel_rfl) (by kernel_rfl) rfl rfl

/-- slices.ContainsFunc[[]shiftbell/api.Errno,shiftbell/api.Errno] -/
def wp_slices_ContainsFunc_api_Errno_api_Errno (s : Option Addr) (sl : Nat) (sc : Nat) (f : Value) (w : World) (Q : Value → World → Prop) : Prop :=
  ∀ w0, Ext w w0 →
  FnP Try.prog F_slices_IndexFunc_api_Errno_api_Errno #[(.slice s sl sc), f] w0 fun v1 w1 =>
   Ext w0 w1 ∧
   ∃ t2 : Int, v1 = (.int .i64 t2) ∧
   ∀ w3, Ext w w3 →
   Q (.bool (decide (0 ≤ t2))) w3

theorem ok_slices_ContainsFunc_api_Errno_api_Errno (s : Option Addr) (sl : Nat) (sc : Nat) (f : Value) (w : World) (Q : Value → World → Prop) (h : wp_slices_ContainsFunc_api_Errno_api_Errno s sl sc f w Q) : FnP Try.prog F_slices_ContainsFunc_api_Errno_api_Errno #[(.slice s sl sc), f] w Q := by
  have e_ : wp_slices_ContainsFunc_api_Errno_api_Errno s sl sc f w Q = Runs Try.prog Q ({ N := 9, wrap := [], pub := [], muts := [], joins := [] } : Cfg) Try.f23 (Try.f23.body.getD .skip) [.sc (.slc s sl sc), .sc (.val f)] w := by kernel_rfl
  rw [e_] at h
  exact runs_fn h Try.func23 (by kernel_rfl) (fun args w => Try.call23 args w) (by kernel_rfl) (by kernel_rfl) rfl rfl

/-- slices.IndexFunc[[]shiftbell/api.Errno,shiftbell/api.Errno] -/
def wp_slices_IndexFunc_api_Errno_api_Errno (s : Option Addr) (sl : Nat) (sc : Nat) (f : Value) (w : World) (Q : Value → World → Prop) : Prop :=
  ∃ (I0 : Int → World → Prop) (M0 : Int → World → Nat), I0 0 w ∧
  ∀ (k1 : Int) (w2 : World), I0 k1 w2 →
   (((k1 < (sl : Int)) →
    s ≠ none ∧
    (0 : Int) ≤ k1 ∧
    (k1 : Int) < (sl : Int) ∧
    ∃ t3 : Int, cell w2 (pIdx s k1 1) 0 = some (.int .i64 t3) ∧
    ∀ w4, Ext w2 w4 →
    FnVP Try.prog f [(.int .i64 t3)] w4 fun v5 w5 =>
     Ext w4 w5 ∧
     ∃ t6 : Bool, v5 = (.bool t6) ∧
     ((t6 = true) →
      ∀ w7, Ext w2 w7 →
      Q (.int .i64 k1) w7) ∧
     ((t6 = false) →
      InR .i64 (k1 + 1) ∧
      (I0 (k1 + 1) w2 ∧ M0 (k1 + 1) w2 < M0 k1 w2)))) ∧
   (((sl : Int) ≤ k1) →
    ∀ w3, Ext w2 w3 →
    Q (.int .i64 (-1)) w3)

theorem ok_slices_IndexFunc_api_Errno_api_Errno (s : Option Addr) (sl : Nat) (sc : Nat) (f : Value) (w : World) (Q : Value → World → Prop) (h : wp_slices_IndexFunc_api_Errno_api_Errno s sl sc f w Q) : FnP Try.prog F_slices_IndexFunc_api_Errno_api_Errno #[(.slice s sl sc), f] w Q := by
  have e_ : wp_slices_IndexFunc_api_Errno_api_Errno s sl sc f w Q = Runs Try.prog Q ({ N := 19, wrap := [], pub := [], muts := [], joins := [] } : Cfg) Try.f30 (Try.f30.body.getD .skip) [.sc (.slc s sl sc), .sc (.val f)] w := by kernel_rfl
  rw [e_] at h
  exact runs_fn h Try.func30 (by kernel_rfl) (fun args w => Try.call30 args w) (by kernel_rfl) (by kernel_rfl) rfl rfl

/-- strings.Contains -/
def wp_strings_Contains (s : ByteArray) (substr : ByteArray) (w : World) (Q : Value → World → Prop) : Prop :=
  ∀ w0, Ext w w0 →
  FnP Try.prog F_strings_Index #[(.string s), (.string substr)] w0 fun v1 w1 =>
   Ext w0 w1 ∧
   ∃ t2 : Int, v1 = (.int .i64 t2) ∧
   ∀ w3, Ext w w3 →
   Q (.bool (decide (0 ≤ t2))) w3

theorem ok_strings_Contains (s : ByteArray) (substr : ByteArray) (w : World) (Q : Value → World → Prop) (h : wp_strings_Contains s substr w Q) : FnP Try.prog F_strings_Contains #[(.string s), (.string substr)] w Q := by
  have e_ : wp_strings_Contains s substr w Q = Runs Try.prog Q ({ N := 9, wrap := [], pub := [], muts := [], joins := [] } : Cfg) Try.f9 (Try.f9.body.getD .skip) [.sc (.str s), .sc (.str substr)] w := by kernel_rfl
  rw [e_] at h
  exact runs_fn h Try.func9 (by kernel_rfl) (fun args w => Try.call9 args w) (by kernel_rfl) (by kernel_rfl) rfl rfl

/-- shiftbell/shiftbellkeep.TmplNames -/
def wp_shiftbellkeep_TmplNames (s : ByteArray) (w : World) (Q : Value → World → Prop) : Prop :=
  ∀ w0, Ext w w0 →
  FnP Try.prog F_shiftbellkeep_scripts #[] w0 fun v1 w1 =>
   Ext w0 w1 ∧
   ∃ t2 : Bool, v1 = (.bool t2) ∧
   ((t2 = false) →
    ∀ w3, Ext w w3 →
    Q (.bool false) w3) ∧
   ((t2 = true) →
    ∀ w3, Ext w w3 →
    FnP Try.prog F_tmpl_Names #[(.string s)] w3 fun v4 w4 =>
     Ext w3 w4 ∧
     ∃ t5 : Option Addr, ∃ tl6 : Nat, ∃ tc7 : Nat, ∃ t8 : Int, v4 = (.tuple #[(.slice t5 tl6 tc7), (.int .i64 t8)]) ∧
     (((t8 ≠ 0) ∨ (8 < (tl6 : Int))) →
      ∀ w9, Ext w4 w9 →
      Q (.bool ((decide (t8 = 0)) || (decide ((tl6 : Int) = 0)))) w9) ∧
     (((t8 = 0) ∧ ((tl6 : Int) ≤ 8)) →
      ∃ (I9 : Option Addr → Nat → Nat → Int → World → Prop) (M9 : Option Addr → Nat → Nat → Int → World → Nat), I9 none 0 0 0 w4 ∧
      ∀ (l10 : Option Addr) (ll10 : Nat) (lc10 : Nat) (k11 : Int) (w12 : World), I9 l10 ll10 lc10 k11 w12 →
       (((k11 < (tl6 : Int)) →
        t5 ≠ none ∧
        (0 : Int) ≤ k11 ∧
        (k11 : Int) < (tl6 : Int) ∧
        ∃ t13 : ByteArray, cell w12 (pIdx t5 k11 1) 0 = some (.string t13) ∧
        ∀ w14, Ext w12 w14 →
        Run Try.prog (.buildSlice 27 1 [(0, (.agg #[(.string t13), (.string (⟨#[]⟩ : ByteArray))]))]) w14 fun v15 w15 =>
         Ext w14 w15 ∧
         ∃ t16 : Option Addr, ∃ tl17 : Nat, ∃ tc18 : Nat, v15 = (.slice t16 tl17 tc18) ∧
         ∀ w19, Ext w15 w19 →
         Run Try.prog (.append #[27, 27] 27 [(.slice l10 ll10 lc10), (.slice t16 tl17 tc18)]) w19 fun v20 w20 =>
          ∃ t21 : Option Addr, ∃ tl22 : Nat, ∃ tc23 : Nat, v20 = (.slice t21 tl22 tc23) ∧
          InR .i64 (k11 + 1) ∧
          (I9 t21 tl22 tc23 (k11 + 1) w20 ∧ M9 t21 tl22 tc23 (k11 + 1) w20 < M9 l10 ll10 lc10 k11 w12))) ∧
       (((tl6 : Int) ≤ k11) →
        ∀ w13, Ext w12 w13 →
        FnP Try.prog F_tmpl_Fill #[(.string s), (.slice l10 ll10 lc10)] w13 fun v14 w14 =>
         Ext w13 w14 ∧
         ∃ t15 : ByteArray, ∃ t16 : Int, v14 = (.tuple #[(.string t15), (.int .i64 t16)]) ∧
         (((t16 ≠ 0) ∨ ((s.size : Int) < (t15.size : Int))) →
          ∀ w17, Ext w12 w17 →
          Q (.bool false) w17) ∧
         (((t16 = 0) ∧ ((t15.size : Int) ≤ (s.size : Int))) →
          (((ll10 : Int) = 0) →
           ∀ w17, Ext w12 w17 →
           Q (.bool true) w17) ∧
          (((ll10 : Int) ≠ 0) →
           (0 : Int) ≤ 1 ∧
           (1 : Int) ≤ (ll10 : Int) ∧
           ((ll10 : Int) : Int) ≤ (lc10 : Int) ∧
           ∀ w17, Ext w12 w17 →
           FnP Try.prog F_tmpl_Fill #[(.string s), (.slice (pCut l10 lc10 1 2) ((ll10 : Int) - 1).toNat (lc10 - (1 : Int).toNat))] w17 fun v18 w18 =>
            Ext w17 w18 ∧
            ∃ t19 : ByteArray, ∃ t20 : Int, v18 = (.tuple #[(.string t19), (.int .i64 t20)]) ∧
            ∀ w21, Ext w12 w21 →
            Q (.bool ((decide (t20 = 5)) && (decide (t19 = (⟨#[]⟩ : ByteArray))))) w21)))))

theorem ok_shiftbellkeep_TmplNames (s : ByteArray) (w : World) (Q : Value → World → Prop) (h : wp_shiftbellkeep_TmplNames s w Q) : FnP Try.prog F_shiftbellkeep_TmplNames #[(.string s)] w Q := by
  have e_ : wp_shiftbellkeep_TmplNames s w Q = Runs Try.prog Q ({ N := 76, wrap := [], pub := [], muts := [], joins := [] } : Cfg) Try.f3 (Try.f3.body.getD .skip) [.sc (.str s)] w := by kernel_rfl
  rw [e_] at h
  exact runs_fn h Try.func3 (by kernel_rfl) (fun args w => Try.call3 args w) (by kernel_rfl) (by kernel_rfl) rfl rfl

theorem open_shiftbellkeep_TmplNames (W : World) (R : Array Value → Prop) (h : ∀ s : ByteArray, s.size ≤ 9223372036854775807 → R #[(.string s)]) (args : Array Value) (hg : GoodAll Try.prog W Try.f3.params.toList args.toList) : R args := by
  have e_ : (ArgsAll Try.prog W Try.f3.params.toList fun l => R l.toArray) = (∀ s : ByteArray, s.size ≤ 9223372036854775807 → R #[(.string s)]) := by kernel_rfl
  exact args_open (by rw [e_]; exact h) args hg
-- wit 3 #[(.string (⟨#[]⟩ : ByteArray))]

/-- shiftbell/shiftbellkeep.TmplJoin -/
def wp_shiftbellkeep_TmplJoin (s : ByteArray) (t : ByteArray) (l : Option Addr) (ll : Nat) (lc : Nat) (w : World) (Q : Value → World → Prop) : Prop :=
  ∀ w0, Ext w w0 →
  FnP Try.prog F_shiftbellkeep_scripts #[] w0 fun v1 w1 =>
   Ext w0 w1 ∧
   ∃ t2 : Bool, v1 = (.bool t2) ∧
   ((t2 = false) →
    ∀ w3, Ext w w3 →
    Q (.bool false) w3) ∧
   ((t2 = true) →
    ∀ w3, Ext w w3 →
    FnP Try.prog F_tmpl_Fill #[(.string s), (.slice l ll lc)] w3 fun v4 w4 =>
     Ext w3 w4 ∧
     ∃ t5 : ByteArray, ∃ t6 : Int, v4 = (.tuple #[(.string t5), (.int .i64 t6)]) ∧
     ∀ w7, Ext w w7 →
     FnP Try.prog F_tmpl_Fill #[(.string t), (.slice l ll lc)] w7 fun v8 w8 =>
      Ext w7 w8 ∧
      ∃ t9 : ByteArray, ∃ t10 : Int, v8 = (.tuple #[(.string t9), (.int .i64 t10)]) ∧
      ∀ w11, Ext w w11 →
      Run Try.prog (.buildSlice 53 2 [(0, (.int .i64 t6)), (1, (.int .i64 t10))]) w11 fun v12 w12 =>
       Ext w11 w12 ∧
       ∃ t13 : Option Addr, ∃ tl14 : Nat, ∃ tc15 : Nat, v12 = (.slice t13 tl14 tc15) ∧
       ∀ w16, Ext w12 w16 →
       FnP Try.prog F_shiftbellkeep_good #[(.slice t13 tl14 tc15)] w16 fun v17 w17 =>
        Ext w16 w17 ∧
        ∃ t18 : Bool, v17 = (.bool t18) ∧
        ((t18 = true) →
         InR .i64 ((s.size : Int) + (t.size : Int))) ∧
        ((((t18 = true) ∧ (((s.size : Int) + (t.size : Int)) ≤ 2000)) →
         InR .i64 ((t5.size : Int) + (t9.size : Int)))) ∧
        ((((t18 = false) ∨ (2000 < ((s.size : Int) + (t.size : Int)))) ∨ (2000 < ((t5.size : Int) + (t9.size : Int)))) →
         ∀ w19, Ext w12 w19 →
         Q (.bool (((decide (t6 = 0)) || (decide (t5 = (⟨#[]⟩ : ByteArray)))) && ((decide (t10 = 0)) || (decide (t9 = (⟨#[]⟩ : ByteArray)))))) w19) ∧
        ((((t18 = true) ∧ (((s.size : Int) + (t.size : Int)) ≤ 2000)) ∧ (((t5.size : Int) + (t9.size : Int)) ≤ 2000)) →
         CatOk s t ∧
         ∀ w19, Ext w12 w19 →
         FnP Try.prog F_tmpl_Fill #[(.string (s ++ t)), (.slice l ll lc)] w19 fun v20 w20 =>
          Ext w19 w20 ∧
          ∃ t21 : ByteArray, ∃ t22 : Int, v20 = (.tuple #[(.string t21), (.int .i64 t22)]) ∧
          ((t22 = 0) →
           CatOk t5 t9) ∧
          ∀ w23, Ext w12 w23 →
          Q (.bool ((decide (t22 = 0)) && (decide (t21 = (t5 ++ t9))))) w23))

theorem ok_shiftbellkeep_TmplJoin (s : ByteArray) (t : ByteArray) (l : Option Addr) (ll : Nat) (lc : Nat) (w : World) (Q : Value → World → Prop) (h : wp_shiftbellkeep_TmplJoin s t l ll lc w Q) : FnP Try.prog F_shiftbellkeep_TmplJoin #[(.string s), (.string t), (.slice l ll lc)] w Q := by
  have e_ : wp_shiftbellkeep_TmplJoin s t l ll lc w Q = Runs Try.prog Q ({ N := 79, wrap := [], pub := [], muts := [], joins := [] } : Cfg) Try.f5 (Try.f5.body.getD .skip) [.sc (.str s), .sc (.str t), .sc (.slc l ll lc)] w := by kernel_rfl
  rw [e_] at h
  exact runs_fn h Try.func5 (by kernel_rfl) (fun args w => Try.call5 args w) (by kernel_rfl) (by kernel_rfl) rfl rfl

theorem open_shiftbellkeep_TmplJoin (W : World) (R : Array Value → Prop) (h : ∀ s : ByteArray, s.size ≤ 9223372036854775807 → ∀ t : ByteArray, t.size ≤ 9223372036854775807 → ∀ l : Option Addr, ∀ ll : Nat, ∀ lc : Nat, SlcArg Try.prog W 29 l ll lc → R #[(.string s), (.string t), (.slice l ll lc)]) (args : Array Value) (hg : GoodAll Try.prog W Try.f5.params.toList args.toList) : R args := by
  have e_ : (ArgsAll Try.prog W Try.f5.params.toList fun l => R l.toArray) = (∀ s : ByteArray, s.size ≤ 9223372036854775807 → ∀ t : ByteArray, t.size ≤ 9223372036854775807 → ∀ l : Option Addr, ∀ ll : Nat, ∀ lc : Nat, SlcArg Try.prog W 29 l ll lc → R #[(.string s), (.string t), (.slice l ll lc)]) := by kernel_rfl
  exact args_open (by rw [e_]; exact h) args hg
-- wit 5 #[(.string (⟨#[]⟩ : ByteArray)), (.string (⟨#[]⟩ : ByteArray)), (.slice none 0 0)]

/-- shiftbell/shiftbellkeep.TmplValues -/
def wp_shiftbellkeep_TmplValues (name : ByteArray) (value : ByteArray) (w : World) (Q : Value → World → Prop) : Prop :=
  ∀ w0, Ext w w0 →
  FnP Try.prog F_shiftbellkeep_scripts #[] w0 fun v1 w1 =>
   Ext w0 w1 ∧
   ∃ t2 : Bool, v1 = (.bool t2) ∧
   ((t2 = false) →
    ∀ w3, Ext w w3 →
    Q (.bool false) w3) ∧
   ((t2 = true) →
    CatOk (⟨#[36, 123]⟩ : ByteArray) name ∧
    CatOk ((⟨#[36, 123]⟩ : ByteArray) ++ name) (⟨#[125]⟩ : ByteArray) ∧
    ∀ w3, Ext w w3 →
    FnP Try.prog F_tmpl_Names #[(.string (((⟨#[36, 123]⟩ : ByteArray) ++ name) ++ (⟨#[125]⟩ : ByteArray)))] w3 fun v4 w4 =>
     Ext w3 w4 ∧
     ∃ t5 : Option Addr, ∃ tl6 : Nat, ∃ tc7 : Nat, ∃ t8 : Int, v4 = (.tuple #[(.slice t5 tl6 tc7), (.int .i64 t8)]) ∧
     ((((t8 = 0) ∧ ((tl6 : Int) = 1)) →
      t5 ≠ none)) ∧
     ((((t8 = 0) ∧ ((tl6 : Int) = 1)) →
      (0 : Int) ≤ 0)) ∧
     ((((t8 = 0) ∧ ((tl6 : Int) = 1)) →
      (0 : Int) < (tl6 : Int))) ∧
     (((t8 ≠ 0) ∨ ((tl6 : Int) ≠ 1)) →
      ∀ w9, Ext w4 w9 →
      Q (.bool ((decide (t8 = 0)) || (decide ((tl6 : Int) = 0)))) w9) ∧
     (((t8 = 0) ∧ ((tl6 : Int) = 1)) →
      ∃ t9 : ByteArray, cell w4 (pIdx t5 0 1) 0 = some (.string t9) ∧
      ((t9 ≠ name) →
       ∀ w10, Ext w4 w10 →
       Q (.bool ((decide (t8 = 0)) || (decide ((tl6 : Int) = 0)))) w10) ∧
      ((t9 = name) →
       CatOk (⟨#[97]⟩ : ByteArray) (((⟨#[36, 123]⟩ : ByteArray) ++ name) ++ (⟨#[125]⟩ : ByteArray)) ∧
       CatOk ((⟨#[97]⟩ : ByteArray) ++ (((⟨#[36, 123]⟩ : ByteArray) ++ name) ++ (⟨#[125]⟩ : ByteArray))) (⟨#[36, 36]⟩ : ByteArray) ∧
       CatOk (((⟨#[97]⟩ : ByteArray) ++ (((⟨#[36, 123]⟩ : ByteArray) ++ name) ++ (⟨#[125]⟩ : ByteArray))) ++ (⟨#[36, 36]⟩ : ByteArray)) (((⟨#[36, 123]⟩ : ByteArray) ++ name) ++ (⟨#[125]⟩ : ByteArray)) ∧
       ∀ w10, Ext w4 w10 →
       Run Try.prog (.buildSlice 27 1 [(0, (.agg #[(.string name), (.string value)]))]) w10 fun v11 w11 =>
        Ext w10 w11 ∧
        ∃ t12 : Option Addr, ∃ tl13 : Nat, ∃ tc14 : Nat, v11 = (.slice t12 tl13 tc14) ∧
        ∀ w15, Ext w11 w15 →
        FnP Try.prog F_tmpl_Fill #[(.string ((((⟨#[97]⟩ : ByteArray) ++ (((⟨#[36, 123]⟩ : ByteArray) ++ name) ++ (⟨#[125]⟩ : ByteArray))) ++ (⟨#[36, 36]⟩ : ByteArray)) ++ (((⟨#[36, 123]⟩ : ByteArray) ++ name) ++ (⟨#[125]⟩ : ByteArray)))), (.slice t12 tl13 tc14)] w15 fun v16 w16 =>
         Ext w15 w16 ∧
         ∃ t17 : ByteArray, ∃ t18 : Int, v16 = (.tuple #[(.string t17), (.int .i64 t18)]) ∧
         InR .i64 (2 * (value.size : Int)) ∧
         InR .i64 ((2 * (value.size : Int)) + 2) ∧
         ((2000 < ((2 * (value.size : Int)) + 2)) →
          ∀ w19, Ext w11 w19 →
          Q (.bool ((decide (t18 = 2)) && (decide (t17 = (⟨#[]⟩ : ByteArray))))) w19) ∧
         ((((2 * (value.size : Int)) + 2) ≤ 2000) →
          ((t18 = 0) →
           CatOk (⟨#[97]⟩ : ByteArray) value) ∧
          ((t18 = 0) →
           CatOk ((⟨#[97]⟩ : ByteArray) ++ value) (⟨#[36]⟩ : ByteArray)) ∧
          ((t18 = 0) →
           CatOk (((⟨#[97]⟩ : ByteArray) ++ value) ++ (⟨#[36]⟩ : ByteArray)) value) ∧
          ((((t18 = 0) ∧ (t17 = ((((⟨#[97]⟩ : ByteArray) ++ value) ++ (⟨#[36]⟩ : ByteArray)) ++ value))) →
           ∀ w19, Ext w11 w19 →
           FnP Try.prog F_strings_Contains #[(.string t17), (.string value)] w19 fun v20 w20 =>
            Ext w19 w20 ∧
            ∃ t21 : Bool, v20 = (.bool t21) ∧
            ∀ w22, Ext w11 w22 →
            Q (.bool t21) w22)) ∧
          (((t18 ≠ 0) ∨ (t17 ≠ ((((⟨#[97]⟩ : ByteArray) ++ value) ++ (⟨#[36]⟩ : ByteArray)) ++ value))) →
           ∀ w19, Ext w11 w19 →
           Q (.bool false) w19)))))

theorem ok_shiftbellkeep_TmplValues (name : ByteArray) (value : ByteArray) (w : World) (Q : Value → World → Prop) (h : wp_shiftbellkeep_TmplValues name value w Q) : FnP Try.prog F_shiftbellkeep_TmplValues #[(.string name), (.string value)] w Q := by
  have e_ : wp_shiftbellkeep_TmplValues name value w Q = Runs Try.prog Q ({ N := 81, wrap := [], pub := [], muts := [], joins := [] } : Cfg) Try.f4 (Try.f4.body.getD .skip) [.sc (.str name), .sc (.str value)] w := by kernel_rfl
  rw [e_] at h
  exact runs_fn h Try.func4 (by kernel_rfl) (fun args w => Try.call4 args w) (by kernel_rfl) (by kernel_rfl) rfl rfl

theorem open_shiftbellkeep_TmplValues (W : World) (R : Array Value → Prop) (h : ∀ name : ByteArray, name.size ≤ 9223372036854775807 → ∀ value : ByteArray, value.size ≤ 9223372036854775807 → R #[(.string name), (.string value)]) (args : Array Value) (hg : GoodAll Try.prog W Try.f4.params.toList args.toList) : R args := by
  have e_ : (ArgsAll Try.prog W Try.f4.params.toList fun l => R l.toArray) = (∀ name : ByteArray, name.size ≤ 9223372036854775807 → ∀ value : ByteArray, value.size ≤ 9223372036854775807 → R #[(.string name), (.string value)]) := by kernel_rfl
  exact args_open (by rw [e_]; exact h) args hg
-- wit 4 #[(.string (⟨#[]⟩ : ByteArray)), (.string (⟨#[]⟩ : ByteArray))]

end Go.Proofs.Ytjeboeahhhhbdaa
