/- The texts of this seat's functions: what each computes, as its symbolic run says it. -/
import Derived.Test.YtdhhggfplacenaaDoorRows
import Derived.Test.YtdhhggfplacenaaDoorSxD
import Derived.Test.YtdhhggfplacenaaDoorSxN
set_option linter.unusedVariables false
set_option linter.unusedSimpArgs false
set_option maxRecDepth 100000
namespace Go.Proofs.YtdhhggfplacenaaDoor
open Go.Sx Go.RowKit

abbrev F_shiftbellkeep_NeedOrder : FuncId := 3
abbrev F_shiftbellkeep_NeedSums : FuncId := 5
abbrev F_shiftbellkeep_NeedBack : FuncId := 6
abbrev F_shiftbellkeep_needs : FuncId := 11
abbrev F_need_Fits : FuncId := 12
abbrev F_shiftbellkeep_good : FuncId := 13
abbrev F_need_Add : FuncId := 16
abbrev F_need_Sum : FuncId := 17
abbrev F_need_Sub : FuncId := 18
abbrev F_need_Times : FuncId := 19
abbrev F_need_Text : FuncId := 26
abbrev F_need_checks : FuncId := 28
abbrev F_need_fits : FuncId := 29
abbrev F_slices_ContainsFunc_api_Errno_api_Errno : FuncId := 30
abbrev F_shiftbellkeep_good_1 : FuncId := 31
abbrev F_need_Check : FuncId := 38
abbrev F_need_parts : FuncId := 39
abbrev F_need_text : FuncId := 50
abbrev F_slices_IndexFunc_api_Errno_api_Errno : FuncId := 54
abbrev F_strconv_FormatInt : FuncId := 59
abbrev F_strings_Join : FuncId := 63
abbrev T__0 : TypeId := 0
abbrev T_int64 : TypeId := 2
abbrev T_int : TypeId := 3
abbrev T_bool : TypeId := 4
abbrev T_uint8 : TypeId := 5
abbrev T_string : TypeId := 9
abbrev T_uintptr : TypeId := 12
abbrev T_int32 : TypeId := 21
abbrev T_Need : TypeId := 23
abbrev T_Errno : TypeId := 25
abbrev T_bool_Errno : TypeId := 26
abbrev T_sl_Ask : TypeId := 30
abbrev T_Ask : TypeId := 32
abbrev T_sl_Label : TypeId := 33
abbrev T_Host : TypeId := 35
abbrev T_Need_Errno : TypeId := 38
abbrev T_sl_Need : TypeId := 41
abbrev T_int64_Errno : TypeId := 42
abbrev T_Ask_Errno : TypeId := 45
abbrev T_string_Errno : TypeId := 51
abbrev T_sl_Errno : TypeId := 59
abbrev T_Label : TypeId := 67
abbrev T_sl_need_part : TypeId := 70
abbrev T_ptr_Need : TypeId := 72
abbrev T_ptr_int64 : TypeId := 73
abbrev T_need_part : TypeId := 75
abbrev T_sl_string : TypeId := 80
abbrev T_ptr_ask_reader : TypeId := 84
abbrev T_ask_reader : TypeId := 86
abbrev T_Ask_bool : TypeId := 87
abbrev T_string_string_bool : TypeId := 91
abbrev T_error : TypeId := 94
abbrev T_int64_error : TypeId := 95
abbrev T_ptr_strings_Builder : TypeId := 109
abbrev T_sl_uint8 : TypeId := 110
abbrev T_strings_Builder : TypeId := 112
abbrev T_int_error : TypeId := 114
abbrev T_strconv_Error : TypeId := 117
abbrev T_uint64 : TypeId := 118
abbrev T_uint64_error : TypeId := 119
abbrev T_uint : TypeId := 121
abbrev T_ptr_strconv_NumError : TypeId := 122
abbrev T_sl_uint8_string : TypeId := 129
abbrev T_strings_asciiSet : TypeId := 134
abbrev T_strings_asciiSet_bool : TypeId := 135
abbrev T_ptr_uint8 : TypeId := 137
abbrev T_int32_int : TypeId := 139
abbrev T_strconv_NumError : TypeId := 146
abbrev T_uint32 : TypeId := 150
abbrev T_ptr_strings_asciiSet : TypeId := 154
abbrev T_unsafe_Pointer : TypeId := 155
abbrev T_uint32_uint32 : TypeId := 158
abbrev T_ptr_errors_errorString : TypeId := 160
abbrev T_errors_errorString : TypeId := 162
abbrev T_utf8_acceptRange : TypeId := 166
theorem elem_sl_Ask : slEl Tryd.prog 30 = some (32, 5, 72, (.agg #[(.int .i64 0), (.string (⟨#[]⟩ : ByteArray)), (.string (⟨#[]⟩ : ByteArray)), (.int .i64 0), (.slice none 0 0)])) := by kernel_rfl
theorem elem_sl_Label : slEl Tryd.prog 33 = some (67, 2, 32, (.agg #[(.string (⟨#[]⟩ : ByteArray)), (.string (⟨#[]⟩ : ByteArray))])) := by kernel_rfl
theorem elem_sl_Need : slEl Tryd.prog 41 = some (23, 3, 24, (.agg #[(.int .i64 0), (.int .i64 0), (.int .i64 0)])) := by kernel_rfl
theorem elem_sl_Errno : slEl Tryd.prog 59 = some (25, 1, 8, (.int .i64 0)) := by kernel_rfl
theorem elem_sl_need_part : slEl Tryd.prog 70 = some (75, 2, 24, (.agg #[(.string (⟨#[]⟩ : ByteArray)), (.pointer none)])) := by kernel_rfl
theorem elem_sl_string : slEl Tryd.prog 80 = some (9, 1, 16, (.string (⟨#[]⟩ : ByteArray))) := by kernel_rfl
theorem elem_sl_uint8 : slEl Tryd.prog 110 = some (5, 1, 1, (.int .u8 0)) := by kernel_rfl

/-- shiftbell/shiftbellkeep.good -/
def wp_shiftbellkeep_good (l : Option Addr) (ll : Nat) (lc : Nat) (w : World) (Q : Value → World → Prop) : Prop :=
  ∀ w0, Ext w w0 →
  FnP Tryd.prog F_slices_ContainsFunc_api_Errno_api_Errno #[(.slice l ll lc), (.func (.func 31) #[] #[])] w0 fun v1 w1 =>
   Ext w0 w1 ∧
   ∃ t2 : Bool, v1 = (.bool t2) ∧
   ∀ w3, Ext w w3 →
   Q (.bool (!t2)) w3

theorem ok_shiftbellkeep_good (l : Option Addr) (ll : Nat) (lc : Nat) (w : World) (Q : Value → World → Prop) (h : wp_shiftbellkeep_good l ll lc w Q) : FnP Tryd.prog F_shiftbellkeep_good #[(.slice l ll lc)] w Q := by
  have e_ : wp_shiftbellkeep_good l ll lc w Q = Runs Tryd.prog Q ({ N := 6, wrap := [], pub := [], muts := [], joins := [] } : Cfg) Tryd.f13 (Tryd.f13.body.getD .skip) [.sc (.slc l ll lc)] w := by kernel_rfl
  rw [e_] at h
  exact runs_fn h Tryd.func13 (by kernel_rfl) (fun args w => Tryd.call13 args w) (by kernel_rfl) (by kernel_rfl) rfl rfl

/-- shiftbell/shiftbellkeep.good$1 -/
def wp_shiftbellkeep_good_1 (e : Int) (w : World) (Q : Value → World → Prop) : Prop :=
  ∀ w0, Ext w w0 →
  Q (.bool (decide (e ≠ 0))) w0

theorem ok_shiftbellkeep_good_1 (e : Int) (w : World) (Q : Value → World → Prop) (h : wp_shiftbellkeep_good_1 e w Q) : FnP Tryd.prog F_shiftbellkeep_good_1 #[(.int .i64 e)] w Q := by
  have e_ : wp_shiftbellkeep_good_1 e w Q = Runs Tryd.prog Q ({ N := 5, wrap := [], pub := [], muts := [], joins := [] } : Cfg) Tryd.f31 (Tryd.f31.body.getD .skip) [.sc (.int .i64 e)] w := by kernel_rfl
  rw [e_] at h
  exact runs_fn h Tryd.func31 (by kernel_rfl) (fun args w => Tryd.call31 args w) (by kernel_rfl) (by kernel_rfl) rfl rfl

/-- slices.ContainsFunc[[]shiftbell/api.Errno,shiftbell/api.Errno] -/
def wp_slices_ContainsFunc_api_Errno_api_Errno (s : Option Addr) (sl : Nat) (sc : Nat) (f : Value) (w : World) (Q : Value → World → Prop) : Prop :=
  ∀ w0, Ext w w0 →
  FnP Tryd.prog F_slices_IndexFunc_api_Errno_api_Errno #[(.slice s sl sc), f] w0 fun v1 w1 =>
   Ext w0 w1 ∧
   ∃ t2 : Int, v1 = (.int .i64 t2) ∧
   ∀ w3, Ext w w3 →
   Q (.bool (decide (0 ≤ t2))) w3

theorem ok_slices_ContainsFunc_api_Errno_api_Errno (s : Option Addr) (sl : Nat) (sc : Nat) (f : Value) (w : World) (Q : Value → World → Prop) (h : wp_slices_ContainsFunc_api_Errno_api_Errno s sl sc f w Q) : FnP Tryd.prog F_slices_ContainsFunc_api_Errno_api_Errno #[(.slice s sl sc), f] w Q := by
  have e_ : wp_slices_ContainsFunc_api_Errno_api_Errno s sl sc f w Q = Runs Tryd.prog Q ({ N := 9, wrap := [], pub := [], muts := [], joins := [] } : Cfg) Tryd.f30 (Tryd.f30.body.getD .skip) [.sc (.slc s sl sc), .sc (.val f)] w := by kernel_rfl
  rw [e_] at h
  exact runs_fn h Tryd.func30 (by kernel_rfl) (fun args w => Tryd.call30 args w) (by kernel_rfl) (by kernel_rfl) rfl rfl

/-- slices.IndexFunc[[]shiftbell/api.Errno,shiftbell/api.Errno] -/
def wp_slices_IndexFunc_api_Errno_api_Errno (s : Option Addr) (sl : Nat) (sc : Nat) (f : Value) (w : World) (Q : Value → World → Prop) : Prop :=
  ∃ (I0 : Int → World → Prop) (M0 : Int → World → Nat), I0 0 w ∧
  ∀ (k1 : Int) (w2 : World), I0 k1 w2 →
   ((k1 < (sl : Int)) →
    s ≠ none ∧
    (0 : Int) ≤ k1 ∧
    (k1 : Int) < (sl : Int) ∧
    ∃ t3 : Int, cell w2 (pIdx s k1 1) 0 = some (.int .i64 t3) ∧
    ∀ w4, Ext w2 w4 →
    FnVP Tryd.prog f [(.int .i64 t3)] w4 fun v5 w5 =>
     Ext w4 w5 ∧
     ∃ t6 : Bool, v5 = (.bool t6) ∧
     ((t6 = true) →
      ∀ w7, Ext w2 w7 →
      Q (.int .i64 k1) w7) ∧
     ((t6 = false) →
      InR .i64 (k1 + 1) ∧
      (I0 (k1 + 1) w2 ∧ M0 (k1 + 1) w2 < M0 k1 w2))) ∧
   (((sl : Int) ≤ k1) →
    ∀ w3, Ext w2 w3 →
    Q (.int .i64 (-1)) w3)

theorem ok_slices_IndexFunc_api_Errno_api_Errno (s : Option Addr) (sl : Nat) (sc : Nat) (f : Value) (w : World) (Q : Value → World → Prop) (h : wp_slices_IndexFunc_api_Errno_api_Errno s sl sc f w Q) : FnP Tryd.prog F_slices_IndexFunc_api_Errno_api_Errno #[(.slice s sl sc), f] w Q := by
  have e_ : wp_slices_IndexFunc_api_Errno_api_Errno s sl sc f w Q = Runs Tryd.prog Q ({ N := 19, wrap := [], pub := [], muts := [], joins := [] } : Cfg) Tryd.f54 (Tryd.f54.body.getD .skip) [.sc (.slc s sl sc), .sc (.val f)] w := by kernel_rfl
  rw [e_] at h
  exact runs_fn h Tryd.func54 (by kernel_rfl) (fun args w => Tryd.call54 args w) (by kernel_rfl) (by kernel_rfl) rfl rfl

/-- shiftbell/need.parts -/
def wp_need_parts (a : Option Addr) (w : World) (Q : Value → World → Prop) : Prop :=
  a ≠ none ∧
  a ≠ none ∧
  a ≠ none ∧
  a ≠ none ∧
  a ≠ none ∧
  a ≠ none ∧
  ∀ w0, Ext w w0 →
  Run Tryd.prog (.buildSlice 70 3 [(0, (.agg #[(.string (⟨#[99, 112, 117]⟩ : ByteArray)), (.pointer (pAdd a 0))])), (1, (.agg #[(.string (⟨#[109, 101, 109]⟩ : ByteArray)), (.pointer (pAdd a 1))])), (2, (.agg #[(.string (⟨#[103, 112, 117]⟩ : ByteArray)), (.pointer (pAdd a 2))]))]) w0 fun v1 w1 =>
   Ext w0 w1 ∧
   ∃ t2 : Option Addr, ∃ tl3 : Nat, ∃ tc4 : Nat, v1 = (.slice t2 tl3 tc4) ∧
   ∀ w5, Ext w1 w5 →
   Q (.slice t2 tl3 tc4) w5

theorem ok_need_parts (a : Option Addr) (w : World) (Q : Value → World → Prop) (h : wp_need_parts a w Q) : FnP Tryd.prog F_need_parts #[(.pointer a)] w Q := by
  have e_ : wp_need_parts a w Q = Runs Tryd.prog Q ({ N := 16, wrap := [], pub := [], muts := [], joins := [] } : Cfg) Tryd.f39 (Tryd.f39.body.getD .skip) [.sc (.ptr a)] w := by kernel_rfl
  rw [e_] at h
  exact runs_fn h Tryd.func39 (by kernel_rfl) (fun args w => Tryd.call39 args w) (by kernel_rfl) (by kernel_rfl) rfl rfl

/-- shiftbell/need.Check -/
def wp_need_Check (a_0 : Int) (a_1 : Int) (a_2 : Int) (w : World) (Q : Value → World → Prop) : Prop :=
  ∀ w0, Ext w w0 →
  New w0 23 [(.int .i64 a_0), (.int .i64 a_1), (.int .i64 a_2)] fun p1 w1 =>
   ∀ w2, Ext w1 w2 →
   FnP Tryd.prog F_need_parts #[(.pointer p1)] w2 fun v3 w3 =>
    Ext w2 w3 ∧
    ∃ t4 : Option Addr, ∃ tl5 : Nat, ∃ tc6 : Nat, v3 = (.slice t4 tl5 tc6) ∧
    ∃ (I7 : Int → World → Prop) (M7 : Int → World → Nat), I7 0 w3 ∧
    ∀ (k8 : Int) (w9 : World), I7 k8 w9 →
     ((k8 < (tl5 : Int)) →
      t4 ≠ none ∧
      (0 : Int) ≤ k8 ∧
      (k8 : Int) < (tl5 : Int) ∧
      (pIdx t4 k8 2) ≠ none ∧
      ∃ t10 : ByteArray, cell w9 (pIdx t4 k8 2) 0 = some (.string t10) ∧
      ∃ t11 : Option Addr, cell w9 (pIdx t4 k8 2) 1 = some (.pointer t11) ∧
      ∀ b12 : Nat, w9.heap.size ≤ b12 → t11 ≠ none ∧
      ∃ t13 : Int, cell w9 t11 0 = some (.int .i64 t13) ∧
      ((0 ≤ t13) →
       t11 ≠ none) ∧
      ((t13 < 0) →
       ∀ w14, Ext w9 w14 →
       Q (.int .i64 4) w14) ∧
      ((0 ≤ t13) →
       ∃ t14 : Int, cell w9 t11 0 = some (.int .i64 t14) ∧
       ((1099511627776 < t14) →
        ∀ w15, Ext w9 w15 →
        Q (.int .i64 4) w15) ∧
       ((t14 ≤ 1099511627776) →
        InR .i64 (k8 + 1) ∧
        (I7 (k8 + 1) w9 ∧ M7 (k8 + 1) w9 < M7 k8 w9)))) ∧
     (((tl5 : Int) ≤ k8) →
      ∀ w10, Ext w9 w10 →
      Q (.int .i64 0) w10)

theorem ok_need_Check (a_0 : Int) (a_1 : Int) (a_2 : Int) (w : World) (Q : Value → World → Prop) (h : wp_need_Check a_0 a_1 a_2 w Q) : FnP Tryd.prog F_need_Check #[(.agg #[(.int .i64 a_0), (.int .i64 a_1), (.int .i64 a_2)])] w Q := by
  have e_ : wp_need_Check a_0 a_1 a_2 w Q = Runs Tryd.prog Q ({ N := 24, wrap := [], pub := [1], muts := [], joins := [] } : Cfg) Tryd.f38 (Tryd.f38.body.getD .skip) [.agg [.int .i64 a_0, .int .i64 a_1, .int .i64 a_2]] w := by kernel_rfl
  rw [e_] at h
  exact runs_fn h Tryd.func38 (by kernel_rfl) (fun args w => Tryd.call38 args w) (by kernel_rfl) (by kernel_rfl) rfl rfl

/-- shiftbell/need.checks -/
def wp_need_checks (l : Option Addr) (ll : Nat) (lc : Nat) (w : World) (Q : Value → World → Prop) : Prop :=
  ∃ (I0 : Int → World → Prop) (M0 : Int → World → Nat), I0 0 w ∧
  ∀ (k1 : Int) (w2 : World), I0 k1 w2 →
   ((k1 < (ll : Int)) →
    l ≠ none ∧
    (0 : Int) ≤ k1 ∧
    (k1 : Int) < (ll : Int) ∧
    (pIdx l k1 3) ≠ none ∧
    ∃ t3 : Int, cell w2 (pIdx l k1 3) 0 = some (.int .i64 t3) ∧
    ∃ t4 : Int, cell w2 (pIdx l k1 3) 1 = some (.int .i64 t4) ∧
    ∃ t5 : Int, cell w2 (pIdx l k1 3) 2 = some (.int .i64 t5) ∧
    ∀ b6 : Nat, w2.heap.size ≤ b6 → ∀ w7, Ext w2 w7 →
    FnP Tryd.prog F_need_Check #[(.agg #[(.int .i64 t3), (.int .i64 t4), (.int .i64 t5)])] w7 fun v8 w8 =>
     Ext w7 w8 ∧
     ∃ t9 : Int, v8 = (.int .i64 t9) ∧
     ((t9 ≠ 0) →
      ∀ w10, Ext w2 w10 →
      Q (.int .i64 t9) w10) ∧
     ((t9 = 0) →
      InR .i64 (k1 + 1) ∧
      (I0 (k1 + 1) w2 ∧ M0 (k1 + 1) w2 < M0 k1 w2))) ∧
   (((ll : Int) ≤ k1) →
    ∀ w3, Ext w2 w3 →
    Q (.int .i64 0) w3)

theorem ok_need_checks (l : Option Addr) (ll : Nat) (lc : Nat) (w : World) (Q : Value → World → Prop) (h : wp_need_checks l ll lc w Q) : FnP Tryd.prog F_need_checks #[(.slice l ll lc)] w Q := by
  have e_ : wp_need_checks l ll lc w Q = Runs Tryd.prog Q ({ N := 18, wrap := [], pub := [], muts := [], joins := [] } : Cfg) Tryd.f28 (Tryd.f28.body.getD .skip) [.sc (.slc l ll lc)] w := by kernel_rfl
  rw [e_] at h
  exact runs_fn h Tryd.func28 (by kernel_rfl) (fun args w => Tryd.call28 args w) (by kernel_rfl) (by kernel_rfl) rfl rfl

/-- shiftbell/need.fits -/
def wp_need_fits (a_0 : Int) (a_1 : Int) (a_2 : Int) (b_0 : Int) (b_1 : Int) (b_2 : Int) (w : World) (Q : Value → World → Prop) : Prop :=
  ∀ b0 : Nat, w.heap.size ≤ b0 → ∀ b1 : Nat, w.heap.size ≤ b1 → ∀ w2, Ext w w2 →
  Q (.bool (((decide (a_0 ≤ b_0)) && (decide (a_1 ≤ b_1))) && (decide (a_2 ≤ b_2)))) w2

theorem ok_need_fits (a_0 : Int) (a_1 : Int) (a_2 : Int) (b_0 : Int) (b_1 : Int) (b_2 : Int) (w : World) (Q : Value → World → Prop) (h : wp_need_fits a_0 a_1 a_2 b_0 b_1 b_2 w Q) : FnP Tryd.prog F_need_fits #[(.agg #[(.int .i64 a_0), (.int .i64 a_1), (.int .i64 a_2)]), (.agg #[(.int .i64 b_0), (.int .i64 b_1), (.int .i64 b_2)])] w Q := by
  have e_ : wp_need_fits a_0 a_1 a_2 b_0 b_1 b_2 w Q = Runs Tryd.prog Q ({ N := 24, wrap := [], pub := [], muts := [], joins := [] } : Cfg) Tryd.f29 (Tryd.f29.body.getD .skip) [.agg [.int .i64 a_0, .int .i64 a_1, .int .i64 a_2], .agg [.int .i64 b_0, .int .i64 b_1, .int .i64 b_2]] w := by kernel_rfl
  rw [e_] at h
  exact runs_fn h Tryd.func29 (by kernel_rfl) (fun args w => Tryd.call29 args w) (by kernel_rfl) (by kernel_rfl) rfl rfl

/-- shiftbell/need.Fits -/
def wp_need_Fits (a_0 : Int) (a_1 : Int) (a_2 : Int) (b_0 : Int) (b_1 : Int) (b_2 : Int) (w : World) (Q : Value → World → Prop) : Prop :=
  ∀ b0 : Nat, w.heap.size ≤ b0 → ∀ b1 : Nat, w.heap.size ≤ b1 → ∀ w2, ExtB [] [b0, b1] w w2 →
  Run Tryd.prog (.buildSlice 41 2 [(0, (.agg #[(.int .i64 a_0), (.int .i64 a_1), (.int .i64 a_2)])), (1, (.agg #[(.int .i64 b_0), (.int .i64 b_1), (.int .i64 b_2)]))]) w2 fun v3 w3 =>
   Ext w2 w3 ∧
   ∃ t4 : Option Addr, ∃ tl5 : Nat, ∃ tc6 : Nat, v3 = (.slice t4 tl5 tc6) ∧
   ∀ w7, Ext w3 w7 →
   FnP Tryd.prog F_need_checks #[(.slice t4 tl5 tc6)] w7 fun v8 w8 =>
    Ext w7 w8 ∧
    ∃ t9 : Int, v8 = (.int .i64 t9) ∧
    ((t9 ≠ 0) →
     ∀ w10, Ext w3 w10 →
     Q (.tuple #[(.bool false), (.int .i64 t9)]) w10) ∧
    ((t9 = 0) →
     ∀ w10, Ext w3 w10 →
     FnP Tryd.prog F_need_fits #[(.agg #[(.int .i64 a_0), (.int .i64 a_1), (.int .i64 a_2)]), (.agg #[(.int .i64 b_0), (.int .i64 b_1), (.int .i64 b_2)])] w10 fun v11 w11 =>
      Ext w10 w11 ∧
      ∃ t12 : Bool, v11 = (.bool t12) ∧
      ∀ w13, Ext w3 w13 →
      Q (.tuple #[(.bool t12), (.int .i64 0)]) w13)

theorem ok_need_Fits (a_0 : Int) (a_1 : Int) (a_2 : Int) (b_0 : Int) (b_1 : Int) (b_2 : Int) (w : World) (Q : Value → World → Prop) (h : wp_need_Fits a_0 a_1 a_2 b_0 b_1 b_2 w Q) : FnP Tryd.prog F_need_Fits #[(.agg #[(.int .i64 a_0), (.int .i64 a_1), (.int .i64 a_2)]), (.agg #[(.int .i64 b_0), (.int .i64 b_1), (.int .i64 b_2)])] w Q := by
  have e_ : wp_need_Fits a_0 a_1 a_2 b_0 b_1 b_2 w Q = Runs Tryd.prog Q ({ N := 17, wrap := [], pub := [], muts := [], joins := [] } : Cfg) Tryd.f12 (Tryd.f12.body.getD .skip) [.agg [.int .i64 a_0, .int .i64 a_1, .int .i64 a_2], .agg [.int .i64 b_0, .int .i64 b_1, .int .i64 b_2]] w := by kernel_rfl
  rw [e_] at h
  exact runs_fn h Tryd.func12 (by kernel_rfl) (fun args w => Tryd.call12 args w) (by kernel_rfl) (by kernel_rfl) rfl rfl

/-- shiftbell/need.Add -/
def wp_need_Add (a_0 : Int) (a_1 : Int) (a_2 : Int) (b_0 : Int) (b_1 : Int) (b_2 : Int) (w : World) (Q : Value → World → Prop) : Prop :=
  ∀ b0 : Nat, w.heap.size ≤ b0 → ∀ b1 : Nat, w.heap.size ≤ b1 → ∀ b2 : Nat, w.heap.size ≤ b2 → ∀ w3, ExtB [] [b0, b1, b2] w w3 →
  Run Tryd.prog (.buildSlice 41 2 [(0, (.agg #[(.int .i64 a_0), (.int .i64 a_1), (.int .i64 a_2)])), (1, (.agg #[(.int .i64 b_0), (.int .i64 b_1), (.int .i64 b_2)]))]) w3 fun v4 w4 =>
   Ext w3 w4 ∧
   ∃ t5 : Option Addr, ∃ tl6 : Nat, ∃ tc7 : Nat, v4 = (.slice t5 tl6 tc7) ∧
   ∀ w8, Ext w4 w8 →
   FnP Tryd.prog F_need_checks #[(.slice t5 tl6 tc7)] w8 fun v9 w9 =>
    Ext w8 w9 ∧
    ∃ t10 : Int, v9 = (.int .i64 t10) ∧
    ((t10 ≠ 0) →
     ∀ w11, ExtB [b2] [] w4 w11 →
     Q (.tuple #[(.agg #[(.int .i64 0), (.int .i64 0), (.int .i64 0)]), (.int .i64 t10)]) w11) ∧
    ((t10 = 0) →
     InR .i64 (a_0 + b_0) ∧
     InR .i64 (a_1 + b_1) ∧
     InR .i64 (a_2 + b_2) ∧
     ∀ b11 : Nat, w4.heap.size ≤ b11 → ∀ w12, Ext w4 w12 →
     FnP Tryd.prog F_need_Check #[(.agg #[(.int .i64 (a_0 + b_0)), (.int .i64 (a_1 + b_1)), (.int .i64 (a_2 + b_2))])] w12 fun v13 w13 =>
      Ext w12 w13 ∧
      ∃ t14 : Int, v13 = (.int .i64 t14) ∧
      ((t14 ≠ 0) →
       ∀ w15, ExtB [b2] [] w4 w15 →
       Q (.tuple #[(.agg #[(.int .i64 0), (.int .i64 0), (.int .i64 0)]), (.int .i64 2)]) w15) ∧
      ((t14 = 0) →
       ∀ w15, ExtB [b2] [] w4 w15 →
       Q (.tuple #[(.agg #[(.int .i64 (a_0 + b_0)), (.int .i64 (a_1 + b_1)), (.int .i64 (a_2 + b_2))]), (.int .i64 0)]) w15))

theorem ok_need_Add (a_0 : Int) (a_1 : Int) (a_2 : Int) (b_0 : Int) (b_1 : Int) (b_2 : Int) (w : World) (Q : Value → World → Prop) (h : wp_need_Add a_0 a_1 a_2 b_0 b_1 b_2 w Q) : FnP Tryd.prog F_need_Add #[(.agg #[(.int .i64 a_0), (.int .i64 a_1), (.int .i64 a_2)]), (.agg #[(.int .i64 b_0), (.int .i64 b_1), (.int .i64 b_2)])] w Q := by
  have e_ : wp_need_Add a_0 a_1 a_2 b_0 b_1 b_2 w Q = Runs Tryd.prog Q ({ N := 37, wrap := [], pub := [], muts := [], joins := [] } : Cfg) Tryd.f16 (Tryd.f16.body.getD .skip) [.agg [.int .i64 a_0, .int .i64 a_1, .int .i64 a_2], .agg [.int .i64 b_0, .int .i64 b_1, .int .i64 b_2]] w := by kernel_rfl
  rw [e_] at h
  exact runs_fn h Tryd.func16 (by kernel_rfl) (fun args w => Tryd.call16 args w) (by kernel_rfl) (by kernel_rfl) rfl rfl

/-- shiftbell/need.Sub -/
def wp_need_Sub (a_0 : Int) (a_1 : Int) (a_2 : Int) (b_0 : Int) (b_1 : Int) (b_2 : Int) (w : World) (Q : Value → World → Prop) : Prop :=
  ∀ b0 : Nat, w.heap.size ≤ b0 → ∀ b1 : Nat, w.heap.size ≤ b1 → ∀ b2 : Nat, w.heap.size ≤ b2 → ∀ w3, ExtB [] [b0, b1, b2] w w3 →
  Run Tryd.prog (.buildSlice 41 2 [(0, (.agg #[(.int .i64 a_0), (.int .i64 a_1), (.int .i64 a_2)])), (1, (.agg #[(.int .i64 b_0), (.int .i64 b_1), (.int .i64 b_2)]))]) w3 fun v4 w4 =>
   Ext w3 w4 ∧
   ∃ t5 : Option Addr, ∃ tl6 : Nat, ∃ tc7 : Nat, v4 = (.slice t5 tl6 tc7) ∧
   ∀ w8, Ext w4 w8 →
   FnP Tryd.prog F_need_checks #[(.slice t5 tl6 tc7)] w8 fun v9 w9 =>
    Ext w8 w9 ∧
    ∃ t10 : Int, v9 = (.int .i64 t10) ∧
    ((t10 ≠ 0) →
     ∀ w11, ExtB [b2] [] w4 w11 →
     Q (.tuple #[(.agg #[(.int .i64 0), (.int .i64 0), (.int .i64 0)]), (.int .i64 t10)]) w11) ∧
    ((t10 = 0) →
     ∀ w11, Ext w4 w11 →
     FnP Tryd.prog F_need_fits #[(.agg #[(.int .i64 b_0), (.int .i64 b_1), (.int .i64 b_2)]), (.agg #[(.int .i64 a_0), (.int .i64 a_1), (.int .i64 a_2)])] w11 fun v12 w12 =>
      Ext w11 w12 ∧
      ∃ t13 : Bool, v12 = (.bool t13) ∧
      ((t13 = false) →
       ∀ w14, ExtB [b2] [] w4 w14 →
       Q (.tuple #[(.agg #[(.int .i64 0), (.int .i64 0), (.int .i64 0)]), (.int .i64 10)]) w14) ∧
      ((t13 = true) →
       InR .i64 (a_0 - b_0) ∧
       InR .i64 (a_1 - b_1) ∧
       InR .i64 (a_2 - b_2) ∧
       ∀ w14, ExtB [b2] [] w4 w14 →
       Q (.tuple #[(.agg #[(.int .i64 (a_0 - b_0)), (.int .i64 (a_1 - b_1)), (.int .i64 (a_2 - b_2))]), (.int .i64 0)]) w14))

theorem ok_need_Sub (a_0 : Int) (a_1 : Int) (a_2 : Int) (b_0 : Int) (b_1 : Int) (b_2 : Int) (w : World) (Q : Value → World → Prop) (h : wp_need_Sub a_0 a_1 a_2 b_0 b_1 b_2 w Q) : FnP Tryd.prog F_need_Sub #[(.agg #[(.int .i64 a_0), (.int .i64 a_1), (.int .i64 a_2)]), (.agg #[(.int .i64 b_0), (.int .i64 b_1), (.int .i64 b_2)])] w Q := by
  have e_ : wp_need_Sub a_0 a_1 a_2 b_0 b_1 b_2 w Q = Runs Tryd.prog Q ({ N := 38, wrap := [], pub := [], muts := [], joins := [] } : Cfg) Tryd.f18 (Tryd.f18.body.getD .skip) [.agg [.int .i64 a_0, .int .i64 a_1, .int .i64 a_2], .agg [.int .i64 b_0, .int .i64 b_1, .int .i64 b_2]] w := by kernel_rfl
  rw [e_] at h
  exact runs_fn h Tryd.func18 (by kernel_rfl) (fun args w => Tryd.call18 args w) (by kernel_rfl) (by kernel_rfl) rfl rfl

/-- shiftbell/need.Sum -/
def wp_need_Sum (l : Option Addr) (ll : Nat) (lc : Nat) (w : World) (Q : Value → World → Prop) : Prop :=
  ∀ b0 : Nat, w.heap.size ≤ b0 → ∀ w1, Ext w w1 →
  FnP Tryd.prog F_need_checks #[(.slice l ll lc)] w1 fun v2 w2 =>
   Ext w1 w2 ∧
   ∃ t3 : Int, v2 = (.int .i64 t3) ∧
   ((t3 ≠ 0) →
    ∀ w4, Ext w w4 →
    Q (.tuple #[(.agg #[(.int .i64 0), (.int .i64 0), (.int .i64 0)]), (.int .i64 t3)]) w4) ∧
   ((t3 = 0) →
    ∀ b4 : Nat, w.heap.size ≤ b4 → ∃ (I5 : Int → Int → Int → Int → World → Prop) (M5 : Int → Int → Int → Int → World → Nat), I5 0 0 0 0 w ∧
    ∀ (k6 : Int) (c7 : Int) (c8 : Int) (c9 : Int) (w10 : World), I5 k6 c7 c8 c9 w10 →
     ((k6 < (ll : Int)) →
      l ≠ none ∧
      (0 : Int) ≤ k6 ∧
      (k6 : Int) < (ll : Int) ∧
      (pIdx l k6 3) ≠ none ∧
      ∃ t11 : Int, (cell w10 (pIdx l k6 3) 0 = some (.int .i64 t11) ∧ Free [b4] (pIdx l k6 3)) ∧
      ∃ t12 : Int, (cell w10 (pIdx l k6 3) 1 = some (.int .i64 t12) ∧ Free [b4] (pIdx l k6 3)) ∧
      ∃ t13 : Int, (cell w10 (pIdx l k6 3) 2 = some (.int .i64 t13) ∧ Free [b4] (pIdx l k6 3)) ∧
      ∀ b14 : Nat, w10.heap.size ≤ b14 → ∀ w15, ExtB [b4] [] w10 w15 →
      FnP Tryd.prog F_need_Add #[(.agg #[(.int .i64 c7), (.int .i64 c8), (.int .i64 c9)]), (.agg #[(.int .i64 t11), (.int .i64 t12), (.int .i64 t13)])] w15 fun v16 w16 =>
       Ext w15 w16 ∧
       ∃ t_017 : Int, ∃ t_118 : Int, ∃ t_219 : Int, ∃ t20 : Int, v16 = (.tuple #[(.agg #[(.int .i64 t_017), (.int .i64 t_118), (.int .i64 t_219)]), (.int .i64 t20)]) ∧
       ((t20 ≠ 0) →
        ∀ w21, ExtB [b0, b4] [] w10 w21 →
        Q (.tuple #[(.agg #[(.int .i64 0), (.int .i64 0), (.int .i64 0)]), (.int .i64 t20)]) w21) ∧
       ((t20 = 0) →
        InR .i64 (k6 + 1) ∧
        (I5 (k6 + 1) t_017 t_118 t_219 w10 ∧ M5 (k6 + 1) t_017 t_118 t_219 w10 < M5 k6 c7 c8 c9 w10))) ∧
     (((ll : Int) ≤ k6) →
      ∀ w11, ExtB [b0, b4] [] w10 w11 →
      Q (.tuple #[(.agg #[(.int .i64 c7), (.int .i64 c8), (.int .i64 c9)]), (.int .i64 0)]) w11))

theorem ok_need_Sum (l : Option Addr) (ll : Nat) (lc : Nat) (w : World) (Q : Value → World → Prop) (h : wp_need_Sum l ll lc w Q) : FnP Tryd.prog F_need_Sum #[(.slice l ll lc)] w Q := by
  have e_ : wp_need_Sum l ll lc w Q = Runs Tryd.prog Q ({ N := 33, wrap := [], pub := [], muts := [], joins := [] } : Cfg) Tryd.f17 (Tryd.f17.body.getD .skip) [.sc (.slc l ll lc)] w := by kernel_rfl
  rw [e_] at h
  exact runs_fn h Tryd.func17 (by kernel_rfl) (fun args w => Tryd.call17 args w) (by kernel_rfl) (by kernel_rfl) rfl rfl

/-- shiftbell/need.Times -/
def wp_need_Times (a_0 : Int) (a_1 : Int) (a_2 : Int) (b_0 : Int) (b_1 : Int) (b_2 : Int) (w : World) (Q : Value → World → Prop) : Prop :=
  ∀ w0, Ext w w0 →
  New w0 23 [(.int .i64 a_0), (.int .i64 a_1), (.int .i64 a_2)] fun p1 w1 =>
   ∀ w2, Ext w1 w2 →
   New w2 23 [(.int .i64 b_0), (.int .i64 b_1), (.int .i64 b_2)] fun p3 w3 =>
    p1 ≠ none ∧
    ∃ t4 : Int, cell w3 p1 0 = some (.int .i64 t4) ∧
    ∃ t5 : Int, cell w3 p1 1 = some (.int .i64 t5) ∧
    ∃ t6 : Int, cell w3 p1 2 = some (.int .i64 t6) ∧
    p3 ≠ none ∧
    ∃ t7 : Int, cell w3 p3 0 = some (.int .i64 t7) ∧
    ∃ t8 : Int, cell w3 p3 1 = some (.int .i64 t8) ∧
    ∃ t9 : Int, cell w3 p3 2 = some (.int .i64 t9) ∧
    ∀ w10, Ext w3 w10 →
    Run Tryd.prog (.buildSlice 41 2 [(0, (.agg #[(.int .i64 t4), (.int .i64 t5), (.int .i64 t6)])), (1, (.agg #[(.int .i64 t7), (.int .i64 t8), (.int .i64 t9)]))]) w10 fun v11 w11 =>
     Ext w10 w11 ∧
     ∃ t12 : Option Addr, ∃ tl13 : Nat, ∃ tc14 : Nat, v11 = (.slice t12 tl13 tc14) ∧
     ∀ w15, Ext w11 w15 →
     FnP Tryd.prog F_need_checks #[(.slice t12 tl13 tc14)] w15 fun v16 w16 =>
      Ext w15 w16 ∧
      ∃ t17 : Int, v16 = (.int .i64 t17) ∧
      ((t17 ≠ 0) →
       ∀ w18, Ext w11 w18 →
       Q (.tuple #[(.int .i64 0), (.int .i64 t17)]) w18) ∧
      ((t17 = 0) →
       p1 ≠ none ∧
       ∃ t18 : Int, cell w11 p1 0 = some (.int .i64 t18) ∧
       ∃ t19 : Int, cell w11 p1 1 = some (.int .i64 t19) ∧
       ∃ t20 : Int, cell w11 p1 2 = some (.int .i64 t20) ∧
       ∀ w21, Ext w11 w21 →
       Run Tryd.prog (.eq .eql 23 false false (.agg #[(.int .i64 t18), (.int .i64 t19), (.int .i64 t20)]) (.agg #[(.int .i64 0), (.int .i64 0), (.int .i64 0)])) w21 fun v22 w22 =>
        Ext w21 w22 ∧
        ∃ t23 : Bool, v22 = (.bool t23) ∧
        ((t23 = true) →
         ∀ w24, Ext w11 w24 →
         Q (.tuple #[(.int .i64 0), (.int .i64 1)]) w24) ∧
        ((t23 = false) →
         ∀ w24, Ext w11 w24 →
         FnP Tryd.prog F_need_parts #[(.pointer p3)] w24 fun v25 w25 =>
          Ext w24 w25 ∧
          ∃ t26 : Option Addr, ∃ tl27 : Nat, ∃ tc28 : Nat, v25 = (.slice t26 tl27 tc28) ∧
          ∀ w29, Ext w25 w29 →
          FnP Tryd.prog F_need_parts #[(.pointer p1)] w29 fun v30 w30 =>
           Ext w29 w30 ∧
           ∃ t31 : Option Addr, ∃ tl32 : Nat, ∃ tc33 : Nat, v30 = (.slice t31 tl32 tc33) ∧
           ∃ (I34 : Int → Int → World → Prop) (M34 : Int → Int → World → Nat), I34 1099511627776 0 w30 ∧
           ∀ (n35 : Int) (k36 : Int) (w37 : World), I34 n35 k36 w37 →
            ((k36 < (tl32 : Int)) →
             t31 ≠ none ∧
             (0 : Int) ≤ k36 ∧
             (k36 : Int) < (tl32 : Int) ∧
             (pIdx t31 k36 2) ≠ none ∧
             ∃ t38 : ByteArray, cell w37 (pIdx t31 k36 2) 0 = some (.string t38) ∧
             ∃ t39 : Option Addr, cell w37 (pIdx t31 k36 2) 1 = some (.pointer t39) ∧
             ∀ b40 : Nat, w37.heap.size ≤ b40 → t39 ≠ none ∧
             ∃ t41 : Int, cell w37 t39 0 = some (.int .i64 t41) ∧
             ((0 < t41) →
              t26 ≠ none ∧
              (0 : Int) ≤ k36 ∧
              (k36 : Int) < (tl27 : Int) ∧
              (pIdx t26 k36 2) ≠ none ∧
              ∃ t42 : Option Addr, cell w37 (pAdd (pIdx t26 k36 2) 1) 0 = some (.pointer t42) ∧
              t42 ≠ none ∧
              ∃ t43 : Int, cell w37 t42 0 = some (.int .i64 t43) ∧
              t39 ≠ none ∧
              ∃ t44 : Int, cell w37 t39 0 = some (.int .i64 t44) ∧
              (t44 : Int) ≠ 0 ∧
              InR .i64 (t43.tdiv t44) ∧
              InR .i64 (k36 + 1) ∧
              (I34 (min n35 (t43.tdiv t44)) (k36 + 1) w37 ∧ M34 (min n35 (t43.tdiv t44)) (k36 + 1) w37 < M34 n35 k36 w37)) ∧
             ((t41 ≤ 0) →
              InR .i64 (k36 + 1) ∧
              (I34 n35 (k36 + 1) w37 ∧ M34 n35 (k36 + 1) w37 < M34 n35 k36 w37))) ∧
            (((tl32 : Int) ≤ k36) →
             ∀ w38, Ext w37 w38 →
             Q (.tuple #[(.int .i64 n35), (.int .i64 0)]) w38)))

theorem ok_need_Times (a_0 : Int) (a_1 : Int) (a_2 : Int) (b_0 : Int) (b_1 : Int) (b_2 : Int) (w : World) (Q : Value → World → Prop) (h : wp_need_Times a_0 a_1 a_2 b_0 b_1 b_2 w Q) : FnP Tryd.prog F_need_Times #[(.agg #[(.int .i64 a_0), (.int .i64 a_1), (.int .i64 a_2)]), (.agg #[(.int .i64 b_0), (.int .i64 b_1), (.int .i64 b_2)])] w Q := by
  have e_ : wp_need_Times a_0 a_1 a_2 b_0 b_1 b_2 w Q = Runs Tryd.prog Q ({ N := 52, wrap := [], pub := [2, 3], muts := [], joins := [] } : Cfg) Tryd.f19 (Tryd.f19.body.getD .skip) [.agg [.int .i64 a_0, .int .i64 a_1, .int .i64 a_2], .agg [.int .i64 b_0, .int .i64 b_1, .int .i64 b_2]] w := by kernel_rfl
  rw [e_] at h
  exact runs_fn h Tryd.func19 (by kernel_rfl) (fun args w => Tryd.call19 args w) (by kernel_rfl) (by kernel_rfl) rfl rfl

/-- shiftbell/need.Text -/
def wp_need_Text (a_0 : Int) (a_1 : Int) (a_2 : Int) (w : World) (Q : Value → World → Prop) : Prop :=
  ∀ b0 : Nat, w.heap.size ≤ b0 → ∀ w1, Ext w w1 →
  FnP Tryd.prog F_need_Check #[(.agg #[(.int .i64 a_0), (.int .i64 a_1), (.int .i64 a_2)])] w1 fun v2 w2 =>
   Ext w1 w2 ∧
   ∃ t3 : Int, v2 = (.int .i64 t3) ∧
   ((t3 ≠ 0) →
    ∀ w4, Ext w w4 →
    Q (.tuple #[(.string (⟨#[]⟩ : ByteArray)), (.int .i64 t3)]) w4) ∧
   ((t3 = 0) →
    ∀ w4, Ext w w4 →
    FnP Tryd.prog F_need_text #[(.agg #[(.int .i64 a_0), (.int .i64 a_1), (.int .i64 a_2)])] w4 fun v5 w5 =>
     Ext w4 w5 ∧
     ∃ t6 : ByteArray, v5 = (.string t6) ∧
     ∀ w7, Ext w w7 →
     Q (.tuple #[(.string t6), (.int .i64 0)]) w7)

theorem ok_need_Text (a_0 : Int) (a_1 : Int) (a_2 : Int) (w : World) (Q : Value → World → Prop) (h : wp_need_Text a_0 a_1 a_2 w Q) : FnP Tryd.prog F_need_Text #[(.agg #[(.int .i64 a_0), (.int .i64 a_1), (.int .i64 a_2)])] w Q := by
  have e_ : wp_need_Text a_0 a_1 a_2 w Q = Runs Tryd.prog Q ({ N := 12, wrap := [], pub := [], muts := [], joins := [] } : Cfg) Tryd.f26 (Tryd.f26.body.getD .skip) [.agg [.int .i64 a_0, .int .i64 a_1, .int .i64 a_2]] w := by kernel_rfl
  rw [e_] at h
  exact runs_fn h Tryd.func26 (by kernel_rfl) (fun args w => Tryd.call26 args w) (by kernel_rfl) (by kernel_rfl) rfl rfl

/-- shiftbell/need.text -/
def wp_need_text (a_0 : Int) (a_1 : Int) (a_2 : Int) (w : World) (Q : Value → World → Prop) : Prop :=
  ∀ w0, Ext w w0 →
  New w0 23 [(.int .i64 a_0), (.int .i64 a_1), (.int .i64 a_2)] fun p1 w1 =>
   ∀ w2, Ext w1 w2 →
   FnP Tryd.prog F_need_parts #[(.pointer p1)] w2 fun v3 w3 =>
    Ext w2 w3 ∧
    ∃ t4 : Option Addr, ∃ tl5 : Nat, ∃ tc6 : Nat, v3 = (.slice t4 tl5 tc6) ∧
    ∃ (I7 : Option Addr → Nat → Nat → Int → World → Prop) (M7 : Option Addr → Nat → Nat → Int → World → Nat), I7 none 0 0 0 w3 ∧
    ∀ (out8 : Option Addr) (outl8 : Nat) (outc8 : Nat) (k9 : Int) (w10 : World), I7 out8 outl8 outc8 k9 w10 →
     ((k9 < (tl5 : Int)) →
      t4 ≠ none ∧
      (0 : Int) ≤ k9 ∧
      (k9 : Int) < (tl5 : Int) ∧
      (pIdx t4 k9 2) ≠ none ∧
      ∃ t11 : ByteArray, cell w10 (pIdx t4 k9 2) 0 = some (.string t11) ∧
      ∃ t12 : Option Addr, cell w10 (pIdx t4 k9 2) 1 = some (.pointer t12) ∧
      ∀ b13 : Nat, w10.heap.size ≤ b13 → t12 ≠ none ∧
      ∃ t14 : Int, cell w10 t12 0 = some (.int .i64 t14) ∧
      ((t14 ≠ 0) →
       CatOk t11 (⟨#[61]⟩ : ByteArray) ∧
       t12 ≠ none ∧
       ∃ t15 : Int, cell w10 t12 0 = some (.int .i64 t15) ∧
       ∀ w16, Ext w10 w16 →
       FnP Tryd.prog F_strconv_FormatInt #[(.int .i64 t15), (.int .i64 10)] w16 fun v17 w17 =>
        Ext w16 w17 ∧
        ∃ t18 : ByteArray, v17 = (.string t18) ∧
        CatOk (t11 ++ (⟨#[61]⟩ : ByteArray)) t18 ∧
        ∀ w19, ExtB [] [b13] w10 w19 →
        Run Tryd.prog (.buildSlice 80 1 [(0, (.string ((t11 ++ (⟨#[61]⟩ : ByteArray)) ++ t18)))]) w19 fun v20 w20 =>
         Ext w19 w20 ∧
         ∃ t21 : Option Addr, ∃ tl22 : Nat, ∃ tc23 : Nat, v20 = (.slice t21 tl22 tc23) ∧
         ∀ w24, ExtB [] [b13] w20 w24 →
         Run Tryd.prog (.append #[80, 80] 80 [(.slice out8 outl8 outc8), (.slice t21 tl22 tc23)]) w24 fun v25 w25 =>
          Kept [b13] w24 w25 ∧
          ∃ t26 : Option Addr, ∃ tl27 : Nat, ∃ tc28 : Nat, v25 = (.slice t26 tl27 tc28) ∧
          InR .i64 (k9 + 1) ∧
          (I7 t26 tl27 tc28 (k9 + 1) w25 ∧ M7 t26 tl27 tc28 (k9 + 1) w25 < M7 out8 outl8 outc8 k9 w10)) ∧
      ((t14 = 0) →
       InR .i64 (k9 + 1) ∧
       (I7 out8 outl8 outc8 (k9 + 1) w10 ∧ M7 out8 outl8 outc8 (k9 + 1) w10 < M7 out8 outl8 outc8 k9 w10))) ∧
     (((tl5 : Int) ≤ k9) →
      ((out8 = none) →
       ∀ w11, Ext w10 w11 →
       Q (.string (⟨#[45]⟩ : ByteArray)) w11) ∧
      ((out8 ≠ none) →
       ∀ w11, Ext w10 w11 →
       FnP Tryd.prog F_strings_Join #[(.slice out8 outl8 outc8), (.string (⟨#[44]⟩ : ByteArray))] w11 fun v12 w12 =>
        Ext w11 w12 ∧
        ∃ t13 : ByteArray, v12 = (.string t13) ∧
        ∀ w14, Ext w10 w14 →
        Q (.string t13) w14))

theorem ok_need_text (a_0 : Int) (a_1 : Int) (a_2 : Int) (w : World) (Q : Value → World → Prop) (h : wp_need_text a_0 a_1 a_2 w Q) : FnP Tryd.prog F_need_text #[(.agg #[(.int .i64 a_0), (.int .i64 a_1), (.int .i64 a_2)])] w Q := by
  have e_ : wp_need_text a_0 a_1 a_2 w Q = Runs Tryd.prog Q ({ N := 34, wrap := [], pub := [1], muts := [], joins := [] } : Cfg) Tryd.f50 (Tryd.f50.body.getD .skip) [.agg [.int .i64 a_0, .int .i64 a_1, .int .i64 a_2]] w := by kernel_rfl
  rw [e_] at h
  exact runs_fn h Tryd.func50 (by kernel_rfl) (fun args w => Tryd.call50 args w) (by kernel_rfl) (by kernel_rfl) rfl rfl

/-- shiftbell/shiftbellkeep.needs -/
def wp_shiftbellkeep_needs  (w : World) (Q : Value → World → Prop) : Prop :=
  ∀ w0, Ext w w0 →
  FnP Tryd.prog F_need_Text #[(.agg #[(.int .i64 0), (.int .i64 0), (.int .i64 0)])] w0 fun v1 w1 =>
   Ext w0 w1 ∧
   ∃ t2 : ByteArray, ∃ t3 : Int, v1 = (.tuple #[(.string t2), (.int .i64 t3)]) ∧
   ∀ w4, Ext w w4 →
   Q (.bool ((decide (t3 = 0)) && (decide (t2 = (⟨#[45]⟩ : ByteArray))))) w4

theorem ok_shiftbellkeep_needs  (w : World) (Q : Value → World → Prop) (h : wp_shiftbellkeep_needs  w Q) : FnP Tryd.prog F_shiftbellkeep_needs #[] w Q := by
  have e_ : wp_shiftbellkeep_needs  w Q = Runs Tryd.prog Q ({ N := 14, wrap := [], pub := [], muts := [], joins := [] } : Cfg) Tryd.f11 (Tryd.f11.body.getD .skip) [] w := by kernel_rfl
  rw [e_] at h
  exact runs_fn h Tryd.func11 (by kernel_rfl) (fun args w => Tryd.call11 args w) (by kernel_rfl) (by kernel_rfl) rfl rfl

/-- shiftbell/shiftbellkeep.NeedOrder -/
def wp_shiftbellkeep_NeedOrder (a_0 : Int) (a_1 : Int) (a_2 : Int) (b_0 : Int) (b_1 : Int) (b_2 : Int) (c_0 : Int) (c_1 : Int) (c_2 : Int) (w : World) (Q : Value → World → Prop) : Prop :=
  ∀ b0 : Nat, w.heap.size ≤ b0 → ∀ b1 : Nat, w.heap.size ≤ b1 → ∀ b2 : Nat, w.heap.size ≤ b2 → ∀ w3, Ext w w3 →
  FnP Tryd.prog F_shiftbellkeep_needs #[] w3 fun v4 w4 =>
   Ext w3 w4 ∧
   ∃ t5 : Bool, v4 = (.bool t5) ∧
   ((t5 = false) →
    ∀ w6, Ext w w6 →
    Q (.bool false) w6) ∧
   ((t5 = true) →
    ∀ w6, Ext w w6 →
    FnP Tryd.prog F_need_Fits #[(.agg #[(.int .i64 a_0), (.int .i64 a_1), (.int .i64 a_2)]), (.agg #[(.int .i64 b_0), (.int .i64 b_1), (.int .i64 b_2)])] w6 fun v7 w7 =>
     Ext w6 w7 ∧
     ∃ t8 : Bool, ∃ t9 : Int, v7 = (.tuple #[(.bool t8), (.int .i64 t9)]) ∧
     ∀ w10, Ext w w10 →
     FnP Tryd.prog F_need_Fits #[(.agg #[(.int .i64 b_0), (.int .i64 b_1), (.int .i64 b_2)]), (.agg #[(.int .i64 c_0), (.int .i64 c_1), (.int .i64 c_2)])] w10 fun v11 w11 =>
      Ext w10 w11 ∧
      ∃ t12 : Bool, ∃ t13 : Int, v11 = (.tuple #[(.bool t12), (.int .i64 t13)]) ∧
      ∀ w14, Ext w w14 →
      FnP Tryd.prog F_need_Fits #[(.agg #[(.int .i64 a_0), (.int .i64 a_1), (.int .i64 a_2)]), (.agg #[(.int .i64 c_0), (.int .i64 c_1), (.int .i64 c_2)])] w14 fun v15 w15 =>
       Ext w14 w15 ∧
       ∃ t16 : Bool, ∃ t17 : Int, v15 = (.tuple #[(.bool t16), (.int .i64 t17)]) ∧
       ∀ w18, Ext w w18 →
       FnP Tryd.prog F_need_Fits #[(.agg #[(.int .i64 b_0), (.int .i64 b_1), (.int .i64 b_2)]), (.agg #[(.int .i64 a_0), (.int .i64 a_1), (.int .i64 a_2)])] w18 fun v19 w19 =>
        Ext w18 w19 ∧
        ∃ t20 : Bool, ∃ t21 : Int, v19 = (.tuple #[(.bool t20), (.int .i64 t21)]) ∧
        ∀ w22, ExtB [] [b0, b1, b2] w w22 →
        Run Tryd.prog (.buildSlice 59 4 [(0, (.int .i64 t9)), (1, (.int .i64 t13)), (2, (.int .i64 t17)), (3, (.int .i64 t21))]) w22 fun v23 w23 =>
         Ext w22 w23 ∧
         ∃ t24 : Option Addr, ∃ tl25 : Nat, ∃ tc26 : Nat, v23 = (.slice t24 tl25 tc26) ∧
         ∀ w27, Ext w23 w27 →
         FnP Tryd.prog F_shiftbellkeep_good #[(.slice t24 tl25 tc26)] w27 fun v28 w28 =>
          Ext w27 w28 ∧
          ∃ t29 : Bool, v28 = (.bool t29) ∧
          ((t29 = false) →
           ∀ w30, Ext w23 w30 →
           Q (.bool true) w30) ∧
          ((t29 = true) →
           ((((t8 = false) ∨ (t12 = false)) ∨ (t16 = true)) →
            ∀ w30, Ext w23 w30 →
            Run Tryd.prog (.eq .eql 23 false false (.agg #[(.int .i64 a_0), (.int .i64 a_1), (.int .i64 a_2)]) (.agg #[(.int .i64 b_0), (.int .i64 b_1), (.int .i64 b_2)])) w30 fun v31 w31 =>
             Ext w30 w31 ∧
             ∃ t32 : Bool, v31 = (.bool t32) ∧
             ∀ w33, Ext w23 w33 →
             Q (.bool (((t8 && t20) && t32) || (((!t8) || (!t20)) && (!t32)))) w33) ∧
           ((((t8 = true) ∧ (t12 = true)) ∧ (t16 = false)) →
            ∀ w30, Ext w23 w30 →
            Q (.bool false) w30)))

theorem ok_shiftbellkeep_NeedOrder (a_0 : Int) (a_1 : Int) (a_2 : Int) (b_0 : Int) (b_1 : Int) (b_2 : Int) (c_0 : Int) (c_1 : Int) (c_2 : Int) (w : World) (Q : Value → World → Prop) (h : wp_shiftbellkeep_NeedOrder a_0 a_1 a_2 b_0 b_1 b_2 c_0 c_1 c_2 w Q) : FnP Tryd.prog F_shiftbellkeep_NeedOrder #[(.agg #[(.int .i64 a_0), (.int .i64 a_1), (.int .i64 a_2)]), (.agg #[(.int .i64 b_0), (.int .i64 b_1), (.int .i64 b_2)]), (.agg #[(.int .i64 c_0), (.int .i64 c_1), (.int .i64 c_2)])] w Q := by
  have e_ : wp_shiftbellkeep_NeedOrder a_0 a_1 a_2 b_0 b_1 b_2 c_0 c_1 c_2 w Q = Runs Tryd.prog Q ({ N := 67, wrap := [], pub := [], muts := [], joins := [] } : Cfg) Tryd.f3 (Tryd.f3.body.getD .skip) [.agg [.int .i64 a_0, .int .i64 a_1, .int .i64 a_2], .agg [.int .i64 b_0, .int .i64 b_1, .int .i64 b_2], .agg [.int .i64 c_0, .int .i64 c_1, .int .i64 c_2]] w := by kernel_rfl
  rw [e_] at h
  exact runs_fn h Tryd.func3 (by kernel_rfl) (fun args w => Tryd.call3 args w) (by kernel_rfl) (by kernel_rfl) rfl rfl

theorem open_shiftbellkeep_NeedOrder (W : World) (R : Array Value → Prop) (h : ∀ a_0 : Int, InR .i64 a_0 → ∀ a_1 : Int, InR .i64 a_1 → ∀ a_2 : Int, InR .i64 a_2 → ∀ b_0 : Int, InR .i64 b_0 → ∀ b_1 : Int, InR .i64 b_1 → ∀ b_2 : Int, InR .i64 b_2 → ∀ c_0 : Int, InR .i64 c_0 → ∀ c_1 : Int, InR .i64 c_1 → ∀ c_2 : Int, InR .i64 c_2 → R #[(.agg #[(.int .i64 a_0), (.int .i64 a_1), (.int .i64 a_2)]), (.agg #[(.int .i64 b_0), (.int .i64 b_1), (.int .i64 b_2)]), (.agg #[(.int .i64 c_0), (.int .i64 c_1), (.int .i64 c_2)])]) (args : Array Value) (hg : GoodAll Tryd.prog W Tryd.f3.params.toList args.toList) : R args := by
  have e_ : (ArgsAll Tryd.prog W Tryd.f3.params.toList fun l => R l.toArray) = (∀ a_0 : Int, InR .i64 a_0 → ∀ a_1 : Int, InR .i64 a_1 → ∀ a_2 : Int, InR .i64 a_2 → ∀ b_0 : Int, InR .i64 b_0 → ∀ b_1 : Int, InR .i64 b_1 → ∀ b_2 : Int, InR .i64 b_2 → ∀ c_0 : Int, InR .i64 c_0 → ∀ c_1 : Int, InR .i64 c_1 → ∀ c_2 : Int, InR .i64 c_2 → R #[(.agg #[(.int .i64 a_0), (.int .i64 a_1), (.int .i64 a_2)]), (.agg #[(.int .i64 b_0), (.int .i64 b_1), (.int .i64 b_2)]), (.agg #[(.int .i64 c_0), (.int .i64 c_1), (.int .i64 c_2)])]) := by kernel_rfl
  exact args_open (by rw [e_]; exact h) args hg
-- wit 3 #[(.agg #[(.int .i64 0), (.int .i64 0), (.int .i64 0)]), (.agg #[(.int .i64 0), (.int .i64 0), (.int .i64 0)]), (.agg #[(.int .i64 0), (.int .i64 0), (.int .i64 0)])]

/-- shiftbell/shiftbellkeep.NeedSums -/
def wp_shiftbellkeep_NeedSums (a_0 : Int) (a_1 : Int) (a_2 : Int) (b_0 : Int) (b_1 : Int) (b_2 : Int) (c_0 : Int) (c_1 : Int) (c_2 : Int) (w : World) (Q : Value → World → Prop) : Prop :=
  ∀ b0 : Nat, w.heap.size ≤ b0 → ∀ b1 : Nat, w.heap.size ≤ b1 → ∀ b2 : Nat, w.heap.size ≤ b2 → ∀ w3, Ext w w3 →
  FnP Tryd.prog F_shiftbellkeep_needs #[] w3 fun v4 w4 =>
   Ext w3 w4 ∧
   ∃ t5 : Bool, v4 = (.bool t5) ∧
   ((t5 = false) →
    ∀ w6, Ext w w6 →
    Q (.bool false) w6) ∧
   ((t5 = true) →
    ∀ w6, Ext w w6 →
    FnP Tryd.prog F_need_Add #[(.agg #[(.int .i64 a_0), (.int .i64 a_1), (.int .i64 a_2)]), (.agg #[(.int .i64 b_0), (.int .i64 b_1), (.int .i64 b_2)])] w6 fun v7 w7 =>
     Ext w6 w7 ∧
     ∃ t_08 : Int, ∃ t_19 : Int, ∃ t_210 : Int, ∃ t11 : Int, v7 = (.tuple #[(.agg #[(.int .i64 t_08), (.int .i64 t_19), (.int .i64 t_210)]), (.int .i64 t11)]) ∧
     ∀ b12 : Nat, w.heap.size ≤ b12 → ∀ w13, Ext w w13 →
     FnP Tryd.prog F_need_Add #[(.agg #[(.int .i64 b_0), (.int .i64 b_1), (.int .i64 b_2)]), (.agg #[(.int .i64 a_0), (.int .i64 a_1), (.int .i64 a_2)])] w13 fun v14 w14 =>
      Ext w13 w14 ∧
      ∃ t_015 : Int, ∃ t_116 : Int, ∃ t_217 : Int, ∃ t18 : Int, v14 = (.tuple #[(.agg #[(.int .i64 t_015), (.int .i64 t_116), (.int .i64 t_217)]), (.int .i64 t18)]) ∧
      ∀ b19 : Nat, w.heap.size ≤ b19 → (((t11 ≠ 0) ∨ (t18 ≠ 0)) →
       ((((t11 = 0) ∧ (t18 = 0)) ∨ ((t11 ≠ 0) ∧ (t18 ≠ 0))) →
        ∀ w20, Ext w w20 →
        Run Tryd.prog (.eq .eql 23 false false (.agg #[(.int .i64 t_08), (.int .i64 t_19), (.int .i64 t_210)]) (.agg #[(.int .i64 0), (.int .i64 0), (.int .i64 0)])) w20 fun v21 w21 =>
         Ext w20 w21 ∧
         ∃ t22 : Bool, v21 = (.bool t22) ∧
         ((t22 = true) →
          ∀ w23, Ext w w23 →
          Run Tryd.prog (.eq .eql 23 false false (.agg #[(.int .i64 t_015), (.int .i64 t_116), (.int .i64 t_217)]) (.agg #[(.int .i64 0), (.int .i64 0), (.int .i64 0)])) w23 fun v24 w24 =>
           Ext w23 w24 ∧
           ∃ t25 : Bool, v24 = (.bool t25) ∧
           ∀ w26, Ext w w26 →
           Q (.bool t25) w26) ∧
         ((t22 = false) →
          ∀ w23, Ext w w23 →
          Q (.bool false) w23)) ∧
       ((((t11 ≠ 0) ∨ (t18 ≠ 0)) ∧ ((t11 = 0) ∨ (t18 = 0))) →
        ∀ w20, Ext w w20 →
        Q (.bool false) w20)) ∧
      (((t11 = 0) ∧ (t18 = 0)) →
       ∀ w20, Ext w w20 →
       FnP Tryd.prog F_need_Add #[(.agg #[(.int .i64 t_08), (.int .i64 t_19), (.int .i64 t_210)]), (.agg #[(.int .i64 c_0), (.int .i64 c_1), (.int .i64 c_2)])] w20 fun v21 w21 =>
        Ext w20 w21 ∧
        ∃ t_022 : Int, ∃ t_123 : Int, ∃ t_224 : Int, ∃ t25 : Int, v21 = (.tuple #[(.agg #[(.int .i64 t_022), (.int .i64 t_123), (.int .i64 t_224)]), (.int .i64 t25)]) ∧
        ∀ b26 : Nat, w.heap.size ≤ b26 → ∀ w27, Ext w w27 →
        FnP Tryd.prog F_need_Add #[(.agg #[(.int .i64 b_0), (.int .i64 b_1), (.int .i64 b_2)]), (.agg #[(.int .i64 c_0), (.int .i64 c_1), (.int .i64 c_2)])] w27 fun v28 w28 =>
         Ext w27 w28 ∧
         ∃ t_029 : Int, ∃ t_130 : Int, ∃ t_231 : Int, ∃ t32 : Int, v28 = (.tuple #[(.agg #[(.int .i64 t_029), (.int .i64 t_130), (.int .i64 t_231)]), (.int .i64 t32)]) ∧
         ∀ b33 : Nat, w.heap.size ≤ b33 → ∀ w34, Ext w w34 →
         FnP Tryd.prog F_need_Add #[(.agg #[(.int .i64 a_0), (.int .i64 a_1), (.int .i64 a_2)]), (.agg #[(.int .i64 t_029), (.int .i64 t_130), (.int .i64 t_231)])] w34 fun v35 w35 =>
          Ext w34 w35 ∧
          ∃ t_036 : Int, ∃ t_137 : Int, ∃ t_238 : Int, ∃ t39 : Int, v35 = (.tuple #[(.agg #[(.int .i64 t_036), (.int .i64 t_137), (.int .i64 t_238)]), (.int .i64 t39)]) ∧
          ∀ b40 : Nat, w.heap.size ≤ b40 → ∀ w41, ExtB [] [b0, b1, b2, b12, b19, b26, b33, b40] w w41 →
          Run Tryd.prog (.buildSlice 41 3 [(0, (.agg #[(.int .i64 a_0), (.int .i64 a_1), (.int .i64 a_2)])), (1, (.agg #[(.int .i64 b_0), (.int .i64 b_1), (.int .i64 b_2)])), (2, (.agg #[(.int .i64 c_0), (.int .i64 c_1), (.int .i64 c_2)]))]) w41 fun v42 w42 =>
           Ext w41 w42 ∧
           ∃ t43 : Option Addr, ∃ tl44 : Nat, ∃ tc45 : Nat, v42 = (.slice t43 tl44 tc45) ∧
           ∀ w46, Ext w42 w46 →
           FnP Tryd.prog F_need_Sum #[(.slice t43 tl44 tc45)] w46 fun v47 w47 =>
            Ext w46 w47 ∧
            ∃ t_048 : Int, ∃ t_149 : Int, ∃ t_250 : Int, ∃ t51 : Int, v47 = (.tuple #[(.agg #[(.int .i64 t_048), (.int .i64 t_149), (.int .i64 t_250)]), (.int .i64 t51)]) ∧
            ∀ b52 : Nat, w42.heap.size ≤ b52 → ∀ w53, Ext w42 w53 →
            Run Tryd.prog (.eq .eql 23 false false (.agg #[(.int .i64 t_08), (.int .i64 t_19), (.int .i64 t_210)]) (.agg #[(.int .i64 t_015), (.int .i64 t_116), (.int .i64 t_217)])) w53 fun v54 w54 =>
             Ext w53 w54 ∧
             ∃ t55 : Bool, v54 = (.bool t55) ∧
             ((t55 = true) →
              ((t25 ≠ 0) →
               ∀ w56, Ext w42 w56 →
               Q (.bool true) w56) ∧
              ((t25 = 0) →
               ((((t32 = 0) ∧ (t39 = 0)) ∧ (t51 = 0)) →
                ∀ w56, Ext w42 w56 →
                Run Tryd.prog (.eq .eql 23 false false (.agg #[(.int .i64 t_022), (.int .i64 t_123), (.int .i64 t_224)]) (.agg #[(.int .i64 t_036), (.int .i64 t_137), (.int .i64 t_238)])) w56 fun v57 w57 =>
                 Ext w56 w57 ∧
                 ∃ t58 : Bool, v57 = (.bool t58) ∧
                 ((t58 = true) →
                  ∀ w59, Ext w42 w59 →
                  Run Tryd.prog (.eq .eql 23 false false (.agg #[(.int .i64 t_048), (.int .i64 t_149), (.int .i64 t_250)]) (.agg #[(.int .i64 t_022), (.int .i64 t_123), (.int .i64 t_224)])) w59 fun v60 w60 =>
                   Ext w59 w60 ∧
                   ∃ t61 : Bool, v60 = (.bool t61) ∧
                   ∀ w62, Ext w42 w62 →
                   Q (.bool t61) w62) ∧
                 ((t58 = false) →
                  ∀ w59, Ext w42 w59 →
                  Q (.bool false) w59)) ∧
               ((((t32 ≠ 0) ∨ (t39 ≠ 0)) ∨ (t51 ≠ 0)) →
                ∀ w56, Ext w42 w56 →
                Q (.bool false) w56))) ∧
             ((t55 = false) →
              ∀ w56, Ext w42 w56 →
              Q (.bool false) w56)))

theorem ok_shiftbellkeep_NeedSums (a_0 : Int) (a_1 : Int) (a_2 : Int) (b_0 : Int) (b_1 : Int) (b_2 : Int) (c_0 : Int) (c_1 : Int) (c_2 : Int) (w : World) (Q : Value → World → Prop) (h : wp_shiftbellkeep_NeedSums a_0 a_1 a_2 b_0 b_1 b_2 c_0 c_1 c_2 w Q) : FnP Tryd.prog F_shiftbellkeep_NeedSums #[(.agg #[(.int .i64 a_0), (.int .i64 a_1), (.int .i64 a_2)]), (.agg #[(.int .i64 b_0), (.int .i64 b_1), (.int .i64 b_2)]), (.agg #[(.int .i64 c_0), (.int .i64 c_1), (.int .i64 c_2)])] w Q := by
  have e_ : wp_shiftbellkeep_NeedSums a_0 a_1 a_2 b_0 b_1 b_2 c_0 c_1 c_2 w Q = Runs Tryd.prog Q ({ N := 109, wrap := [], pub := [], muts := [], joins := [] } : Cfg) Tryd.f5 (Tryd.f5.body.getD .skip) [.agg [.int .i64 a_0, .int .i64 a_1, .int .i64 a_2], .agg [.int .i64 b_0, .int .i64 b_1, .int .i64 b_2], .agg [.int .i64 c_0, .int .i64 c_1, .int .i64 c_2]] w := by kernel_rfl
  rw [e_] at h
  exact runs_fn h Tryd.func5 (by kernel_rfl) (fun args w => Tryd.call5 args w) (by kernel_rfl) (by kernel_rfl) rfl rfl

theorem open_shiftbellkeep_NeedSums (W : World) (R : Array Value → Prop) (h : ∀ a_0 : Int, InR .i64 a_0 → ∀ a_1 : Int, InR .i64 a_1 → ∀ a_2 : Int, InR .i64 a_2 → ∀ b_0 : Int, InR .i64 b_0 → ∀ b_1 : Int, InR .i64 b_1 → ∀ b_2 : Int, InR .i64 b_2 → ∀ c_0 : Int, InR .i64 c_0 → ∀ c_1 : Int, InR .i64 c_1 → ∀ c_2 : Int, InR .i64 c_2 → R #[(.agg #[(.int .i64 a_0), (.int .i64 a_1), (.int .i64 a_2)]), (.agg #[(.int .i64 b_0), (.int .i64 b_1), (.int .i64 b_2)]), (.agg #[(.int .i64 c_0), (.int .i64 c_1), (.int .i64 c_2)])]) (args : Array Value) (hg : GoodAll Tryd.prog W Tryd.f5.params.toList args.toList) : R args := by
  have e_ : (ArgsAll Tryd.prog W Tryd.f5.params.toList fun l => R l.toArray) = (∀ a_0 : Int, InR .i64 a_0 → ∀ a_1 : Int, InR .i64 a_1 → ∀ a_2 : Int, InR .i64 a_2 → ∀ b_0 : Int, InR .i64 b_0 → ∀ b_1 : Int, InR .i64 b_1 → ∀ b_2 : Int, InR .i64 b_2 → ∀ c_0 : Int, InR .i64 c_0 → ∀ c_1 : Int, InR .i64 c_1 → ∀ c_2 : Int, InR .i64 c_2 → R #[(.agg #[(.int .i64 a_0), (.int .i64 a_1), (.int .i64 a_2)]), (.agg #[(.int .i64 b_0), (.int .i64 b_1), (.int .i64 b_2)]), (.agg #[(.int .i64 c_0), (.int .i64 c_1), (.int .i64 c_2)])]) := by kernel_rfl
  exact args_open (by rw [e_]; exact h) args hg
-- wit 5 #[(.agg #[(.int .i64 0), (.int .i64 0), (.int .i64 0)]), (.agg #[(.int .i64 0), (.int .i64 0), (.int .i64 0)]), (.agg #[(.int .i64 0), (.int .i64 0), (.int .i64 0)])]

/-- shiftbell/shiftbellkeep.NeedBack -/
def wp_shiftbellkeep_NeedBack (a_0 : Int) (a_1 : Int) (a_2 : Int) (b_0 : Int) (b_1 : Int) (b_2 : Int) (w : World) (Q : Value → World → Prop) : Prop :=
  ∀ b0 : Nat, w.heap.size ≤ b0 → ∀ b1 : Nat, w.heap.size ≤ b1 → ∀ w2, Ext w w2 →
  FnP Tryd.prog F_shiftbellkeep_needs #[] w2 fun v3 w3 =>
   Ext w2 w3 ∧
   ∃ t4 : Bool, v3 = (.bool t4) ∧
   ((t4 = false) →
    ∀ w5, Ext w w5 →
    Q (.bool false) w5) ∧
   ((t4 = true) →
    ∀ w5, Ext w w5 →
    FnP Tryd.prog F_need_Add #[(.agg #[(.int .i64 a_0), (.int .i64 a_1), (.int .i64 a_2)]), (.agg #[(.int .i64 b_0), (.int .i64 b_1), (.int .i64 b_2)])] w5 fun v6 w6 =>
     Ext w5 w6 ∧
     ∃ t_07 : Int, ∃ t_18 : Int, ∃ t_29 : Int, ∃ t10 : Int, v6 = (.tuple #[(.agg #[(.int .i64 t_07), (.int .i64 t_18), (.int .i64 t_29)]), (.int .i64 t10)]) ∧
     ∀ b11 : Nat, w.heap.size ≤ b11 → ((t10 ≠ 0) →
      ∀ w12, Ext w w12 →
      Run Tryd.prog (.eq .eql 23 false false (.agg #[(.int .i64 t_07), (.int .i64 t_18), (.int .i64 t_29)]) (.agg #[(.int .i64 0), (.int .i64 0), (.int .i64 0)])) w12 fun v13 w13 =>
       Ext w12 w13 ∧
       ∃ t14 : Bool, v13 = (.bool t14) ∧
       ∀ w15, Ext w w15 →
       Q (.bool t14) w15) ∧
     ((t10 = 0) →
      ∀ w12, Ext w w12 →
      FnP Tryd.prog F_need_Sub #[(.agg #[(.int .i64 t_07), (.int .i64 t_18), (.int .i64 t_29)]), (.agg #[(.int .i64 b_0), (.int .i64 b_1), (.int .i64 b_2)])] w12 fun v13 w13 =>
       Ext w12 w13 ∧
       ∃ t_014 : Int, ∃ t_115 : Int, ∃ t_216 : Int, ∃ t17 : Int, v13 = (.tuple #[(.agg #[(.int .i64 t_014), (.int .i64 t_115), (.int .i64 t_216)]), (.int .i64 t17)]) ∧
       ∀ b18 : Nat, w.heap.size ≤ b18 → ∀ w19, Ext w w19 →
       FnP Tryd.prog F_need_Times #[(.agg #[(.int .i64 a_0), (.int .i64 a_1), (.int .i64 a_2)]), (.agg #[(.int .i64 b_0), (.int .i64 b_1), (.int .i64 b_2)])] w19 fun v20 w20 =>
        Ext w19 w20 ∧
        ∃ t21 : Int, ∃ t22 : Int, v20 = (.tuple #[(.int .i64 t21), (.int .i64 t22)]) ∧
        ((t22 ≠ 0) →
         ((t17 = 0) →
          ∀ w23, Ext w w23 →
          Run Tryd.prog (.eq .eql 23 false false (.agg #[(.int .i64 t_014), (.int .i64 t_115), (.int .i64 t_216)]) (.agg #[(.int .i64 a_0), (.int .i64 a_1), (.int .i64 a_2)])) w23 fun v24 w24 =>
           Ext w23 w24 ∧
           ∃ t25 : Bool, v24 = (.bool t25) ∧
           ((t25 = true) →
            ∀ w26, Ext w w26 →
            Run Tryd.prog (.eq .eql 23 false false (.agg #[(.int .i64 a_0), (.int .i64 a_1), (.int .i64 a_2)]) (.agg #[(.int .i64 0), (.int .i64 0), (.int .i64 0)])) w26 fun v27 w27 =>
             Ext w26 w27 ∧
             ∃ t28 : Bool, v27 = (.bool t28) ∧
             ∀ w29, Ext w w29 →
             Q (.bool t28) w29) ∧
           ((t25 = false) →
            ∀ w26, Ext w w26 →
            Q (.bool false) w26)) ∧
         ((t17 ≠ 0) →
          ∀ w23, Ext w w23 →
          Q (.bool false) w23)) ∧
        ((t22 = 0) →
         ∀ b23 : Nat, w.heap.size ≤ b23 → ∃ (I24 : Int → Int → Int → Int → Int → World → Prop) (M24 : Int → Int → Int → Int → Int → World → Nat), I24 0 0 b_0 b_1 b_2 w ∧
         ∀ (h25 : Int) (k26 : Int) (c27 : Int) (c28 : Int) (c29 : Int) (w30 : World), I24 h25 k26 c27 c28 c29 w30 →
          ((k26 < (min t21 40)) →
           ((h25 = 0) →
            ∀ w31, ExtB [b23] [] w30 w31 →
            FnP Tryd.prog F_need_Sub #[(.agg #[(.int .i64 c27), (.int .i64 c28), (.int .i64 c29)]), (.agg #[(.int .i64 a_0), (.int .i64 a_1), (.int .i64 a_2)])] w31 fun v32 w32 =>
             Ext w31 w32 ∧
             ∃ t_033 : Int, ∃ t_134 : Int, ∃ t_235 : Int, ∃ t36 : Int, v32 = (.tuple #[(.agg #[(.int .i64 t_033), (.int .i64 t_134), (.int .i64 t_235)]), (.int .i64 t36)]) ∧
             InR .i64 (k26 + 1) ∧
             (I24 t36 (k26 + 1) t_033 t_134 t_235 w30 ∧ M24 t36 (k26 + 1) t_033 t_134 t_235 w30 < M24 h25 k26 c27 c28 c29 w30)) ∧
           ((h25 ≠ 0) →
            InR .i64 (k26 + 1) ∧
            (I24 h25 (k26 + 1) c27 c28 c29 w30 ∧ M24 h25 (k26 + 1) c27 c28 c29 w30 < M24 h25 k26 c27 c28 c29 w30))) ∧
          (((min t21 40) ≤ k26) →
           ∀ w31, ExtB [b23] [] w30 w31 →
           FnP Tryd.prog F_need_Sub #[(.agg #[(.int .i64 c27), (.int .i64 c28), (.int .i64 c29)]), (.agg #[(.int .i64 a_0), (.int .i64 a_1), (.int .i64 a_2)])] w31 fun v32 w32 =>
            Ext w31 w32 ∧
            ∃ t_033 : Int, ∃ t_134 : Int, ∃ t_235 : Int, ∃ t36 : Int, v32 = (.tuple #[(.agg #[(.int .i64 t_033), (.int .i64 t_134), (.int .i64 t_235)]), (.int .i64 t36)]) ∧
            ∀ b37 : Nat, w30.heap.size ≤ b37 → ((t17 = 0) →
             ∀ w38, ExtB [b23] [] w30 w38 →
             Run Tryd.prog (.eq .eql 23 false false (.agg #[(.int .i64 t_014), (.int .i64 t_115), (.int .i64 t_216)]) (.agg #[(.int .i64 a_0), (.int .i64 a_1), (.int .i64 a_2)])) w38 fun v39 w39 =>
              Ext w38 w39 ∧
              ∃ t40 : Bool, v39 = (.bool t40) ∧
              ∀ w41, ExtB [b23] [] w30 w41 →
              Q (.bool ((t40 && (decide (h25 = 0))) && ((decide (40 < t21)) || (decide (t36 = 10))))) w41) ∧
            ((t17 ≠ 0) →
             ∀ w38, ExtB [b23] [] w30 w38 →
             Q (.bool false) w38)))))

theorem ok_shiftbellkeep_NeedBack (a_0 : Int) (a_1 : Int) (a_2 : Int) (b_0 : Int) (b_1 : Int) (b_2 : Int) (w : World) (Q : Value → World → Prop) (h : wp_shiftbellkeep_NeedBack a_0 a_1 a_2 b_0 b_1 b_2 w Q) : FnP Tryd.prog F_shiftbellkeep_NeedBack #[(.agg #[(.int .i64 a_0), (.int .i64 a_1), (.int .i64 a_2)]), (.agg #[(.int .i64 b_0), (.int .i64 b_1), (.int .i64 b_2)])] w Q := by
  have e_ : wp_shiftbellkeep_NeedBack a_0 a_1 a_2 b_0 b_1 b_2 w Q = Runs Tryd.prog Q ({ N := 93, wrap := [], pub := [], muts := [], joins := [] } : Cfg) Tryd.f6 (Tryd.f6.body.getD .skip) [.agg [.int .i64 a_0, .int .i64 a_1, .int .i64 a_2], .agg [.int .i64 b_0, .int .i64 b_1, .int .i64 b_2]] w := by kernel_rfl
  rw [e_] at h
  exact runs_fn h Tryd.func6 (by kernel_rfl) (fun args w => Tryd.call6 args w) (by kernel_rfl) (by kernel_rfl) rfl rfl

theorem open_shiftbellkeep_NeedBack (W : World) (R : Array Value → Prop) (h : ∀ a_0 : Int, InR .i64 a_0 → ∀ a_1 : Int, InR .i64 a_1 → ∀ a_2 : Int, InR .i64 a_2 → ∀ b_0 : Int, InR .i64 b_0 → ∀ b_1 : Int, InR .i64 b_1 → ∀ b_2 : Int, InR .i64 b_2 → R #[(.agg #[(.int .i64 a_0), (.int .i64 a_1), (.int .i64 a_2)]), (.agg #[(.int .i64 b_0), (.int .i64 b_1), (.int .i64 b_2)])]) (args : Array Value) (hg : GoodAll Tryd.prog W Tryd.f6.params.toList args.toList) : R args := by
  have e_ : (ArgsAll Tryd.prog W Tryd.f6.params.toList fun l => R l.toArray) = (∀ a_0 : Int, InR .i64 a_0 → ∀ a_1 : Int, InR .i64 a_1 → ∀ a_2 : Int, InR .i64 a_2 → ∀ b_0 : Int, InR .i64 b_0 → ∀ b_1 : Int, InR .i64 b_1 → ∀ b_2 : Int, InR .i64 b_2 → R #[(.agg #[(.int .i64 a_0), (.int .i64 a_1), (.int .i64 a_2)]), (.agg #[(.int .i64 b_0), (.int .i64 b_1), (.int .i64 b_2)])]) := by kernel_rfl
  exact args_open (by rw [e_]; exact h) args hg
-- wit 6 #[(.agg #[(.int .i64 0), (.int .i64 0), (.int .i64 0)]), (.agg #[(.int .i64 0), (.int .i64 0), (.int .i64 0)])]

end Go.Proofs.YtdhhggfplacenaaDoor
