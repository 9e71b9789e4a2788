/- The texts of this seat's functions: what each computes, as its symbolic run says it. -/
import Derived.Test.YtblafknmfblgfaaRows
import Derived.Test.YtblafknmfblgfaaSxD
import Derived.Test.YtblafknmfblgfaaSxN
set_option linter.unusedVariables false
set_option linter.unusedSimpArgs false
set_option maxRecDepth 100000
namespace Go.Proofs.Ytblafknmfblgfaa
open Go.Sx Go.RowKit

abbrev F_need_Sum : FuncId := 15
abbrev F_shiftbellkeep_good : FuncId := 20
abbrev F_need_checks : FuncId := 34
abbrev F_need_Add : FuncId := 35
abbrev F_need_Fits : FuncId := 37
abbrev F_need_Check : FuncId := 38
abbrev F_slices_ContainsFunc_api_Errno_api_Errno : FuncId := 46
abbrev F_shiftbellkeep_good_1 : FuncId := 47
abbrev F_need_Sub : FuncId := 50
abbrev F_need_fits : FuncId := 73
abbrev F_need_parts : FuncId := 74
abbrev F_slices_IndexFunc_api_Errno_api_Errno : FuncId := 79
abbrev T__0 : TypeId := 0
abbrev T_int64 : TypeId := 2
abbrev T_int : TypeId := 3
abbrev T_bool : TypeId := 4
abbrev T_uint8 : TypeId := 5
abbrev T_string : TypeId := 9
abbrev T_uintptr : TypeId := 12
abbrev T_int32 : TypeId := 21
abbrev T_sl_Host : TypeId := 22
abbrev T_Policy : TypeId := 24
abbrev T_Setup : TypeId := 26
abbrev T_sl_Event : TypeId := 27
abbrev T_ptr_farm_Farm : TypeId := 29
abbrev T_sl_State : TypeId := 31
abbrev T_Need : TypeId := 34
abbrev T_sl_Ask : TypeId := 35
abbrev T_Ask : TypeId := 37
abbrev T_sl_int : TypeId := 38
abbrev T_Job : TypeId := 40
abbrev T_State : TypeId := 42
abbrev T_Errno : TypeId := 44
abbrev T_int64_Errno : TypeId := 45
abbrev T_sl_Label : TypeId := 48
abbrev T_Host : TypeId := 50
abbrev T_sl_Need : TypeId := 51
abbrev T_Need_Errno : TypeId := 52
abbrev T_sl_Start : TypeId := 55
abbrev T_sl_Start_Errno : TypeId := 56
abbrev T_map_int_bool : TypeId := 58
abbrev T_Start : TypeId := 60
abbrev T_int_Errno : TypeId := 64
abbrev T_sl_Host_Errno : TypeId := 66
abbrev T_Event : TypeId := 70
abbrev T_ptr_farm_Farm_Errno : TypeId := 76
abbrev T_farm_Farm : TypeId := 82
abbrev T_map_string_bool : TypeId := 88
abbrev T_Label : TypeId := 91
abbrev T_bool_Errno : TypeId := 92
abbrev T_ptr_queue_Queue : TypeId := 95
abbrev T_ptr_State : TypeId := 97
abbrev T_Item : TypeId := 101
abbrev T_Item_bool : TypeId := 102
abbrev T_sl_Errno : TypeId := 107
abbrev T_sl_int_Errno : TypeId := 110
abbrev T_sl_uint8 : TypeId := 133
abbrev T_sl_need_part : TypeId := 135
abbrev T_ptr_Need : TypeId := 137
abbrev T_ptr_int64 : TypeId := 138
abbrev T_need_part : TypeId := 140
abbrev T_map_int_ptr_queue_thing : TypeId := 141
abbrev T_sl_ptr_queue_thing : TypeId := 142
abbrev T_queue_row : TypeId := 143
abbrev T_queue_Queue : TypeId := 145
abbrev T_ptr_queue_thing : TypeId := 148
abbrev T_queue_thing : TypeId := 150
abbrev T_ptr_queue_row : TypeId := 152
abbrev T_heap_Interface : TypeId := 164
abbrev T_uint32 : TypeId := 185
abbrev T_ptr_uint8 : TypeId := 189
abbrev T_unsafe_Pointer : TypeId := 196
abbrev T_sl_Item : TypeId := 197
theorem elem_sl_Host : slEl Try.prog 22 = some (50, 8, 88, (.agg #[(.string (⟨#[]⟩ : ByteArray)), (.slice none 0 0), (.int .i64 0), (.int .i64 0), (.int .i64 0), (.int .i64 0), (.int .i64 0), (.int .i64 0)])) := by kernel_rfl
theorem elem_sl_Event : slEl Try.prog 27 = some (70, 15, 176, (.agg #[(.int .i64 0), (.string (⟨#[]⟩ : ByteArray)), (.int .i64 0), (.int .i64 0), (.int .i64 0), (.int .i64 0), (.int .i64 0), (.string (⟨#[]⟩ : ByteArray)), (.string (⟨#[]⟩ : ByteArray)), (.int .i64 0), (.slice none 0 0), (.slice none 0 0), (.int .i64 0), (.int .i64 0), (.bool false)])) := by kernel_rfl
theorem elem_sl_Ask : slEl Try.prog 35 = some (37, 5, 72, (.agg #[(.int .i64 0), (.string (⟨#[]⟩ : ByteArray)), (.string (⟨#[]⟩ : ByteArray)), (.int .i64 0), (.slice none 0 0)])) := by kernel_rfl
theorem elem_sl_int : slEl Try.prog 38 = some (3, 1, 8, (.int .i64 0)) := by kernel_rfl
theorem elem_sl_Label : slEl Try.prog 48 = some (91, 2, 32, (.agg #[(.string (⟨#[]⟩ : ByteArray)), (.string (⟨#[]⟩ : ByteArray))])) := by kernel_rfl
theorem elem_sl_Need : slEl Try.prog 51 = some (34, 3, 24, (.agg #[(.int .i64 0), (.int .i64 0), (.int .i64 0)])) := by kernel_rfl
theorem elem_sl_Start : slEl Try.prog 55 = some (60, 2, 16, (.agg #[(.int .i64 0), (.int .i64 0)])) := by kernel_rfl
theorem elem_sl_Errno : slEl Try.prog 107 = some (44, 1, 8, (.int .i64 0)) := by kernel_rfl
theorem elem_sl_uint8 : slEl Try.prog 133 = some (5, 1, 1, (.int .u8 0)) := by kernel_rfl
theorem elem_sl_need_part : slEl Try.prog 135 = some (140, 2, 24, (.agg #[(.string (⟨#[]⟩ : ByteArray)), (.pointer none)])) := by kernel_rfl
theorem elem_sl_ptr_queue_thing : slEl Try.prog 142 = some (148, 1, 8, (.pointer none)) := by kernel_rfl
theorem elem_sl_Item : slEl Try.prog 197 = some (101, 2, 16, (.agg #[(.int .i64 0), (.int .i64 0)])) := by kernel_rfl

/-- shiftbell/shiftbellkeep.good -/
def wp_shiftbellkeep_good (l : Option Addr) (ll : Nat) (lc : Nat) (w : World) (Q : Value → World → Prop) : Prop :=
  ∀ w0, Ext w w0 →
  FnP Try.prog F_slices_ContainsFunc_api_Errno_api_Errno #[(.slice l ll lc), (.func (.func 47) #[] #[])] w0 fun v1 w1 =>
   Ext w0 w1 ∧
   ∃ t2 : Bool, v1 = (.bool t2) ∧
   ∀ w3, Ext w w3 →
   Q (.bool (!t2)) w3

theorem ok_shiftbellkeep_good (l : Option Addr) (ll : Nat) (lc : Nat) (w : World) (Q : Value → World → Prop) (h : wp_shiftbellkeep_good l ll lc w Q) : FnP Try.prog F_shiftbellkeep_good #[(.slice l ll lc)] w Q := by
  have e_ : wp_shiftbellkeep_good l ll lc w Q = Runs Try.prog Q ({ N := 6, wrap := [], pub := [], muts := [], joins := [] } : Cfg) Try.f20 (Try.f20.body.getD .skip) [.sc (.slc l ll lc)] w := by kernel_rfl
  rw [e_] at h
  exact runs_fn h Try.func20 (by kernel_rfl) (fun args w => Try.call20 args w) (by kernel_rfl) (by kernel_rfl) rfl rfl

/-- shiftbell/shiftbellkeep.good$1 -/
def wp_shiftbellkeep_good_1 (e : Int) (w : World) (Q : Value → World → Prop) : Prop :=
  ∀ w0, Ext w w0 →
  Q (.bool (decide (e ≠ 0))) w0

theorem ok_shiftbellkeep_good_1 (e : Int) (w : World) (Q : Value → World → Prop) (h : wp_shiftbellkeep_good_1 e w Q) : FnP Try.prog F_shiftbellkeep_good_1 #[(.int .i64 e)] w Q := by
  have e_ : wp_shiftbellkeep_good_1 e w Q = Runs Try.prog Q ({ N := 5, wrap := [], pub := [], muts := [], joins := [] } : Cfg) Try.f47 (Try.f47.body.getD .skip) [.sc (.int .i64 e)] w := by kernel_rfl
  rw [e_] at h
  exact runs_fn h Try.func47 (by kernel_rfl) (fun args w => Try.call47 args w) (by kernel_rfl) (by kernel_rfl) rfl rfl

/-- slices.ContainsFunc[[]shiftbell/api.Errno,shiftbell/api.Errno] -/
def wp_slices_ContainsFunc_api_Errno_api_Errno (s : Option Addr) (sl : Nat) (sc : Nat) (f : Value) (w : World) (Q : Value → World → Prop) : Prop :=
  ∀ w0, Ext w w0 →
  FnP Try.prog F_slices_IndexFunc_api_Errno_api_Errno #[(.slice s sl sc), f] w0 fun v1 w1 =>
   Ext w0 w1 ∧
   ∃ t2 : Int, v1 = (.int .i64 t2) ∧
   ∀ w3, Ext w w3 →
   Q (.bool (decide (0 ≤ t2))) w3

theorem ok_slices_ContainsFunc_api_Errno_api_Errno (s : Option Addr) (sl : Nat) (sc : Nat) (f : Value) (w : World) (Q : Value → World → Prop) (h : wp_slices_ContainsFunc_api_Errno_api_Errno s sl sc f w Q) : FnP Try.prog F_slices_ContainsFunc_api_Errno_api_Errno #[(.slice s sl sc), f] w Q := by
  have e_ : wp_slices_ContainsFunc_api_Errno_api_Errno s sl sc f w Q = Runs Try.prog Q ({ N := 9, wrap := [], pub := [], muts := [], joins := [] } : Cfg) Try.f46 (Try.f46.body.getD .skip) [.sc (.slc s sl sc), .sc (.val f)] w := by kernel_rfl
  rw [e_] at h
  exact runs_fn h Try.func46 (by kernel_rfl) (fun args w => Try.call46 args w) (by kernel_rfl) (by kernel_rfl) rfl rfl

/-- slices.IndexFunc[[]shiftbell/api.Errno,shiftbell/api.Errno] -/
def wp_slices_IndexFunc_api_Errno_api_Errno (s : Option Addr) (sl : Nat) (sc : Nat) (f : Value) (w : World) (Q : Value → World → Prop) : Prop :=
  ∃ (I0 : Int → World → Prop) (M0 : Int → World → Nat), I0 0 w ∧
  ∀ (k1 : Int) (w2 : World), I0 k1 w2 →
   (((k1 < (sl : Int)) →
    s ≠ none ∧
    (0 : Int) ≤ k1 ∧
    (k1 : Int) < (sl : Int) ∧
    ∃ t3 : Int, cell w2 (pIdx s k1 1) 0 = some (.int .i64 t3) ∧
    ∀ w4, Ext w2 w4 →
    FnVP Try.prog f [(.int .i64 t3)] w4 fun v5 w5 =>
     Ext w4 w5 ∧
     ∃ t6 : Bool, v5 = (.bool t6) ∧
     ((t6 = true) →
      ∀ w7, Ext w2 w7 →
      Q (.int .i64 k1) w7) ∧
     ((t6 = false) →
      InR .i64 (k1 + 1) ∧
      (I0 (k1 + 1) w2 ∧ M0 (k1 + 1) w2 < M0 k1 w2)))) ∧
   (((sl : Int) ≤ k1) →
    ∀ w3, Ext w2 w3 →
    Q (.int .i64 (-1)) w3)

theorem ok_slices_IndexFunc_api_Errno_api_Errno (s : Option Addr) (sl : Nat) (sc : Nat) (f : Value) (w : World) (Q : Value → World → Prop) (h : wp_slices_IndexFunc_api_Errno_api_Errno s sl sc f w Q) : FnP Try.prog F_slices_IndexFunc_api_Errno_api_Errno #[(.slice s sl sc), f] w Q := by
  have e_ : wp_slices_IndexFunc_api_Errno_api_Errno s sl sc f w Q = Runs Try.prog Q ({ N := 19, wrap := [], pub := [], muts := [], joins := [] } : Cfg) Try.f79 (Try.f79.body.getD .skip) [.sc (.slc s sl sc), .sc (.val f)] w := by kernel_rfl
  rw [e_] at h
  exact runs_fn h Try.func79 (by kernel_rfl) (fun args w => Try.call79 args w) (by kernel_rfl) (by kernel_rfl) rfl rfl

/-- shiftbell/need.parts -/
def wp_need_parts (a : Option Addr) (w : World) (Q : Value → World → Prop) : Prop :=
  a ≠ none ∧
  a ≠ none ∧
  a ≠ none ∧
  a ≠ none ∧
  a ≠ none ∧
  a ≠ none ∧
  ∀ w0, Ext w w0 →
  Run Try.prog (.buildSlice 135 3 [(0, (.agg #[(.string (⟨#[99, 112, 117]⟩ : ByteArray)), (.pointer (pAdd a 0))])), (1, (.agg #[(.string (⟨#[109, 101, 109]⟩ : ByteArray)), (.pointer (pAdd a 1))])), (2, (.agg #[(.string (⟨#[103, 112, 117]⟩ : ByteArray)), (.pointer (pAdd a 2))]))]) w0 fun v1 w1 =>
   Ext w0 w1 ∧
   ∃ t2 : Option Addr, ∃ tl3 : Nat, ∃ tc4 : Nat, v1 = (.slice t2 tl3 tc4) ∧
   ∀ w5, Ext w1 w5 →
   Q (.slice t2 tl3 tc4) w5

theorem ok_need_parts (a : Option Addr) (w : World) (Q : Value → World → Prop) (h : wp_need_parts a w Q) : FnP Try.prog F_need_parts #[(.pointer a)] w Q := by
  have e_ : wp_need_parts a w Q = Runs Try.prog Q ({ N := 16, wrap := [], pub := [], muts := [], joins := [] } : Cfg) Try.f74 (Try.f74.body.getD .skip) [.sc (.ptr a)] w := by kernel_rfl
  rw [e_] at h
  exact runs_fn h Try.func74 (by kernel_rfl) (fun args w => Try.call74 args w) (by kernel_rfl) (by kernel_rfl) rfl rfl

/-- shiftbell/need.Check -/
def wp_need_Check (a_0 : Int) (a_1 : Int) (a_2 : Int) (w : World) (Q : Value → World → Prop) : Prop :=
  ∀ w0, Ext w w0 →
  New w0 34 [(.int .i64 a_0), (.int .i64 a_1), (.int .i64 a_2)] fun p1 w1 =>
   ∀ w2, Ext w1 w2 →
   FnP Try.prog F_need_parts #[(.pointer p1)] w2 fun v3 w3 =>
    Ext w2 w3 ∧
    ∃ t4 : Option Addr, ∃ tl5 : Nat, ∃ tc6 : Nat, v3 = (.slice t4 tl5 tc6) ∧
    ∃ (I7 : Int → World → Prop) (M7 : Int → World → Nat), I7 0 w3 ∧
    ∀ (k8 : Int) (w9 : World), I7 k8 w9 →
     (((k8 < (tl5 : Int)) →
      t4 ≠ none ∧
      (0 : Int) ≤ k8 ∧
      (k8 : Int) < (tl5 : Int) ∧
      (pIdx t4 k8 2) ≠ none ∧
      ∃ t10 : ByteArray, cell w9 (pIdx t4 k8 2) 0 = some (.string t10) ∧
      ∃ t11 : Option Addr, cell w9 (pIdx t4 k8 2) 1 = some (.pointer t11) ∧
      ∀ b12 : Nat, w9.heap.size ≤ b12 → t11 ≠ none ∧
      ∃ t13 : Int, cell w9 t11 0 = some (.int .i64 t13) ∧
      ((0 ≤ t13) →
       t11 ≠ none) ∧
      ((t13 < 0) →
       ∀ w14, Ext w9 w14 →
       Q (.int .i64 4) w14) ∧
      ((0 ≤ t13) →
       ∃ t14 : Int, cell w9 t11 0 = some (.int .i64 t14) ∧
       ((1099511627776 < t14) →
        ∀ w15, Ext w9 w15 →
        Q (.int .i64 4) w15) ∧
       ((t14 ≤ 1099511627776) →
        InR .i64 (k8 + 1) ∧
        (I7 (k8 + 1) w9 ∧ M7 (k8 + 1) w9 < M7 k8 w9))))) ∧
     (((tl5 : Int) ≤ k8) →
      ∀ w10, Ext w9 w10 →
      Q (.int .i64 0) w10)

theorem ok_need_Check (a_0 : Int) (a_1 : Int) (a_2 : Int) (w : World) (Q : Value → World → Prop) (h : wp_need_Check a_0 a_1 a_2 w Q) : FnP Try.prog F_need_Check #[(.agg #[(.int .i64 a_0), (.int .i64 a_1), (.int .i64 a_2)])] w Q := by
  have e_ : wp_need_Check a_0 a_1 a_2 w Q = Runs Try.prog Q ({ N := 24, wrap := [], pub := [1], muts := [], joins := [] } : Cfg) Try.f38 (Try.f38.body.getD .skip) [.agg [.int .i64 a_0, .int .i64 a_1, .int .i64 a_2]] w := by kernel_rfl
  rw [e_] at h
  exact runs_fn h Try.func38 (by kernel_rfl) (fun args w => Try.call38 args w) (by kernel_rfl) (by kernel_rfl) rfl rfl

/-- shiftbell/need.checks -/
def wp_need_checks (l : Option Addr) (ll : Nat) (lc : Nat) (w : World) (Q : Value → World → Prop) : Prop :=
  ∃ (I0 : Int → World → Prop) (M0 : Int → World → Nat), I0 0 w ∧
  ∀ (k1 : Int) (w2 : World), I0 k1 w2 →
   (((k1 < (ll : Int)) →
    l ≠ none ∧
    (0 : Int) ≤ k1 ∧
    (k1 : Int) < (ll : Int) ∧
    (pIdx l k1 3) ≠ none ∧
    ∃ t3 : Int, cell w2 (pIdx l k1 3) 0 = some (.int .i64 t3) ∧
    ∃ t4 : Int, cell w2 (pIdx l k1 3) 1 = some (.int .i64 t4) ∧
    ∃ t5 : Int, cell w2 (pIdx l k1 3) 2 = some (.int .i64 t5) ∧
    ∀ b6 : Nat, w2.heap.size ≤ b6 → ∀ w7, Ext w2 w7 →
    FnP Try.prog F_need_Check #[(.agg #[(.int .i64 t3), (.int .i64 t4), (.int .i64 t5)])] w7 fun v8 w8 =>
     Ext w7 w8 ∧
     ∃ t9 : Int, v8 = (.int .i64 t9) ∧
     ((t9 ≠ 0) →
      ∀ w10, Ext w2 w10 →
      Q (.int .i64 t9) w10) ∧
     ((t9 = 0) →
      InR .i64 (k1 + 1) ∧
      (I0 (k1 + 1) w2 ∧ M0 (k1 + 1) w2 < M0 k1 w2)))) ∧
   (((ll : Int) ≤ k1) →
    ∀ w3, Ext w2 w3 →
    Q (.int .i64 0) w3)

theorem ok_need_checks (l : Option Addr) (ll : Nat) (lc : Nat) (w : World) (Q : Value → World → Prop) (h : wp_need_checks l ll lc w Q) : FnP Try.prog F_need_checks #[(.slice l ll lc)] w Q := by
  have e_ : wp_need_checks l ll lc w Q = Runs Try.prog Q ({ N := 18, wrap := [], pub := [], muts := [], joins := [] } : Cfg) Try.f34 (Try.f34.body.getD .skip) [.sc (.slc l ll lc)] w := by kernel_rfl
  rw [e_] at h
  exact runs_fn h Try.func34 (by kernel_rfl) (fun args w => Try.call34 args w) (by kernel_rfl) (by kernel_rfl) rfl rfl

/-- shiftbell/need.fits -/
def wp_need_fits (a_0 : Int) (a_1 : Int) (a_2 : Int) (b_0 : Int) (b_1 : Int) (b_2 : Int) (w : World) (Q : Value → World → Prop) : Prop :=
  ∀ b0 : Nat, w.heap.size ≤ b0 → ∀ b1 : Nat, w.heap.size ≤ b1 → ∀ w2, Ext w w2 →
  Q (.bool (((decide (a_0 ≤ b_0)) && (decide (a_1 ≤ b_1))) && (decide (a_2 ≤ b_2)))) w2

theorem ok_need_fits (a_0 : Int) (a_1 : Int) (a_2 : Int) (b_0 : Int) (b_1 : Int) (b_2 : Int) (w : World) (Q : Value → World → Prop) (h : wp_need_fits a_0 a_1 a_2 b_0 b_1 b_2 w Q) : FnP Try.prog F_need_fits #[(.agg #[(.int .i64 a_0), (.int .i64 a_1), (.int .i64 a_2)]), (.agg #[(.int .i64 b_0), (.int .i64 b_1), (.int .i64 b_2)])] w Q := by
  have e_ : wp_need_fits a_0 a_1 a_2 b_0 b_1 b_2 w Q = Runs Try.prog Q ({ N := 24, wrap := [], pub := [], muts := [], joins := [] } : Cfg) Try.f73 (Try.f73.body.getD .skip) [.agg [.int .i64 a_0, .int .i64 a_1, .int .i64 a_2], .agg [.int .i64 b_0, .int .i64 b_1, .int .i64 b_2]] w := by kernel_rfl
  rw [e_] at h
  exact runs_fn h Try.func73 (by kernel_rfl) (fun args w => Try.call73 args w) (by kernel_rfl) (by kernel_rfl) rfl rfl

/-- shiftbell/need.Fits -/
def wp_need_Fits (a_0 : Int) (a_1 : Int) (a_2 : Int) (b_0 : Int) (b_1 : Int) (b_2 : Int) (w : World) (Q : Value → World → Prop) : Prop :=
  ∀ b0 : Nat, w.heap.size ≤ b0 → ∀ b1 : Nat, w.heap.size ≤ b1 → ∀ w2, ExtB [] [b0, b1] w w2 →
  Run Try.prog (.buildSlice 51 2 [(0, (.agg #[(.int .i64 a_0), (.int .i64 a_1), (.int .i64 a_2)])), (1, (.agg #[(.int .i64 b_0), (.int .i64 b_1), (.int .i64 b_2)]))]) w2 fun v3 w3 =>
   Ext w2 w3 ∧
   ∃ t4 : Option Addr, ∃ tl5 : Nat, ∃ tc6 : Nat, v3 = (.slice t4 tl5 tc6) ∧
   ∀ w7, Ext w3 w7 →
   FnP Try.prog F_need_checks #[(.slice t4 tl5 tc6)] w7 fun v8 w8 =>
    Ext w7 w8 ∧
    ∃ t9 : Int, v8 = (.int .i64 t9) ∧
    ((t9 ≠ 0) →
     ∀ w10, Ext w3 w10 →
     Q (.tuple #[(.bool false), (.int .i64 t9)]) w10) ∧
    ((t9 = 0) →
     ∀ w10, Ext w3 w10 →
     FnP Try.prog F_need_fits #[(.agg #[(.int .i64 a_0), (.int .i64 a_1), (.int .i64 a_2)]), (.agg #[(.int .i64 b_0), (.int .i64 b_1), (.int .i64 b_2)])] w10 fun v11 w11 =>
      Ext w10 w11 ∧
      ∃ t12 : Bool, v11 = (.bool t12) ∧
      ∀ w13, Ext w3 w13 →
      Q (.tuple #[(.bool t12), (.int .i64 0)]) w13)

theorem ok_need_Fits (a_0 : Int) (a_1 : Int) (a_2 : Int) (b_0 : Int) (b_1 : Int) (b_2 : Int) (w : World) (Q : Value → World → Prop) (h : wp_need_Fits a_0 a_1 a_2 b_0 b_1 b_2 w Q) : FnP Try.prog F_need_Fits #[(.agg #[(.int .i64 a_0), (.int .i64 a_1), (.int .i64 a_2)]), (.agg #[(.int .i64 b_0), (.int .i64 b_1), (.int .i64 b_2)])] w Q := by
  have e_ : wp_need_Fits a_0 a_1 a_2 b_0 b_1 b_2 w Q = Runs Try.prog Q ({ N := 17, wrap := [], pub := [], muts := [], joins := [] } : Cfg) Try.f37 (Try.f37.body.getD .skip) [.agg [.int .i64 a_0, .int .i64 a_1, .int .i64 a_2], .agg [.int .i64 b_0, .int .i64 b_1, .int .i64 b_2]] w := by kernel_rfl
  rw [e_] at h
  exact runs_fn h Try.func37 (by kernel_rfl) (fun args w => Try.call37 args w) (by kernel_rfl) (by kernel_rfl) rfl rfl

/-- shiftbell/need.Add -/
def wp_need_Add (a_0 : Int) (a_1 : Int) (a_2 : Int) (b_0 : Int) (b_1 : Int) (b_2 : Int) (w : World) (Q : Value → World → Prop) : Prop :=
  ∀ b0 : Nat, w.heap.size ≤ b0 → ∀ b1 : Nat, w.heap.size ≤ b1 → ∀ b2 : Nat, w.heap.size ≤ b2 → ∀ w3, ExtB [] [b0, b1, b2] w w3 →
  Run Try.prog (.buildSlice 51 2 [(0, (.agg #[(.int .i64 a_0), (.int .i64 a_1), (.int .i64 a_2)])), (1, (.agg #[(.int .i64 b_0), (.int .i64 b_1), (.int .i64 b_2)]))]) w3 fun v4 w4 =>
   Ext w3 w4 ∧
   ∃ t5 : Option Addr, ∃ tl6 : Nat, ∃ tc7 : Nat, v4 = (.slice t5 tl6 tc7) ∧
   ∀ w8, Ext w4 w8 →
   FnP Try.prog F_need_checks #[(.slice t5 tl6 tc7)] w8 fun v9 w9 =>
    Ext w8 w9 ∧
    ∃ t10 : Int, v9 = (.int .i64 t10) ∧
    ((t10 ≠ 0) →
     ∀ w11, ExtB [b2] [] w4 w11 →
     Q (.tuple #[(.agg #[(.int .i64 0), (.int .i64 0), (.int .i64 0)]), (.int .i64 t10)]) w11) ∧
    ((t10 = 0) →
     InR .i64 (a_0 + b_0) ∧
     InR .i64 (a_1 + b_1) ∧
     InR .i64 (a_2 + b_2) ∧
     ∀ b11 : Nat, w4.heap.size ≤ b11 → ∀ w12, Ext w4 w12 →
     FnP Try.prog F_need_Check #[(.agg #[(.int .i64 (a_0 + b_0)), (.int .i64 (a_1 + b_1)), (.int .i64 (a_2 + b_2))])] w12 fun v13 w13 =>
      Ext w12 w13 ∧
      ∃ t14 : Int, v13 = (.int .i64 t14) ∧
      ((t14 ≠ 0) →
       ∀ w15, ExtB [b2] [] w4 w15 →
       Q (.tuple #[(.agg #[(.int .i64 0), (.int .i64 0), (.int .i64 0)]), (.int .i64 2)]) w15) ∧
      ((t14 = 0) →
       ∀ w15, ExtB [b2] [] w4 w15 →
       Q (.tuple #[(.agg #[(.int .i64 (a_0 + b_0)), (.int .i64 (a_1 + b_1)), (.int .i64 (a_2 + b_2))]), (.int .i64 0)]) w15))

theorem ok_need_Add (a_0 : Int) (a_1 : Int) (a_2 : Int) (b_0 : Int) (b_1 : Int) (b_2 : Int) (w : World) (Q : Value → World → Prop) (h : wp_need_Add a_0 a_1 a_2 b_0 b_1 b_2 w Q) : FnP Try.prog F_need_Add #[(.agg #[(.int .i64 a_0), (.int .i64 a_1), (.int .i64 a_2)]), (.agg #[(.int .i64 b_0), (.int .i64 b_1), (.int .i64 b_2)])] w Q := by
  have e_ : wp_need_Add a_0 a_1 a_2 b_0 b_1 b_2 w Q = Runs Try.prog Q ({ N := 37, wrap := [], pub := [], muts := [], joins := [] } : Cfg) Try.f35 (Try.f35.body.getD .skip) [.agg [.int .i64 a_0, .int .i64 a_1, .int .i64 a_2], .agg [.int .i64 b_0, .int .i64 b_1, .int .i64 b_2]] w := by kernel_rfl
  rw [e_] at h
  exact runs_fn h Try.func35 (by kernel_rfl) (fun args w => Try.call35 args w) (by kernel_rfl) (by kernel_rfl) rfl rfl

/-- shiftbell/need.Sub -/
def wp_need_Sub (a_0 : Int) (a_1 : Int) (a_2 : Int) (b_0 : Int) (b_1 : Int) (b_2 : Int) (w : World) (Q : Value → World → Prop) : Prop :=
  ∀ b0 : Nat, w.heap.size ≤ b0 → ∀ b1 : Nat, w.heap.size ≤ b1 → ∀ b2 : Nat, w.heap.size ≤ b2 → ∀ w3, ExtB [] [b0, b1, b2] w w3 →
  Run Try.prog (.buildSlice 51 2 [(0, (.agg #[(.int .i64 a_0), (.int .i64 a_1), (.int .i64 a_2)])), (1, (.agg #[(.int .i64 b_0), (.int .i64 b_1), (.int .i64 b_2)]))]) w3 fun v4 w4 =>
   Ext w3 w4 ∧
   ∃ t5 : Option Addr, ∃ tl6 : Nat, ∃ tc7 : Nat, v4 = (.slice t5 tl6 tc7) ∧
   ∀ w8, Ext w4 w8 →
   FnP Try.prog F_need_checks #[(.slice t5 tl6 tc7)] w8 fun v9 w9 =>
    Ext w8 w9 ∧
    ∃ t10 : Int, v9 = (.int .i64 t10) ∧
    ((t10 ≠ 0) →
     ∀ w11, ExtB [b2] [] w4 w11 →
     Q (.tuple #[(.agg #[(.int .i64 0), (.int .i64 0), (.int .i64 0)]), (.int .i64 t10)]) w11) ∧
    ((t10 = 0) →
     ∀ w11, Ext w4 w11 →
     FnP Try.prog F_need_fits #[(.agg #[(.int .i64 b_0), (.int .i64 b_1), (.int .i64 b_2)]), (.agg #[(.int .i64 a_0), (.int .i64 a_1), (.int .i64 a_2)])] w11 fun v12 w12 =>
      Ext w11 w12 ∧
      ∃ t13 : Bool, v12 = (.bool t13) ∧
      ((t13 = false) →
       ∀ w14, ExtB [b2] [] w4 w14 →
       Q (.tuple #[(.agg #[(.int .i64 0), (.int .i64 0), (.int .i64 0)]), (.int .i64 10)]) w14) ∧
      ((t13 = true) →
       InR .i64 (a_0 - b_0) ∧
       InR .i64 (a_1 - b_1) ∧
       InR .i64 (a_2 - b_2) ∧
       ∀ w14, ExtB [b2] [] w4 w14 →
       Q (.tuple #[(.agg #[(.int .i64 (a_0 - b_0)), (.int .i64 (a_1 - b_1)), (.int .i64 (a_2 - b_2))]), (.int .i64 0)]) w14))

theorem ok_need_Sub (a_0 : Int) (a_1 : Int) (a_2 : Int) (b_0 : Int) (b_1 : Int) (b_2 : Int) (w : World) (Q : Value → World → Prop) (h : wp_need_Sub a_0 a_1 a_2 b_0 b_1 b_2 w Q) : FnP Try.prog F_need_Sub #[(.agg #[(.int .i64 a_0), (.int .i64 a_1), (.int .i64 a_2)]), (.agg #[(.int .i64 b_0), (.int .i64 b_1), (.int .i64 b_2)])] w Q := by
  have e_ : wp_need_Sub a_0 a_1 a_2 b_0 b_1 b_2 w Q = Runs Try.prog Q ({ N := 38, wrap := [], pub := [], muts := [], joins := [] } : Cfg) Try.f50 (Try.f50.body.getD .skip) [.agg [.int .i64 a_0, .int .i64 a_1, .int .i64 a_2], .agg [.int .i64 b_0, .int .i64 b_1, .int .i64 b_2]] w := by kernel_rfl
  rw [e_] at h
  exact runs_fn h Try.func50 (by kernel_rfl) (fun args w => Try.call50 args w) (by kernel_rfl) (by kernel_rfl) rfl rfl

/-- shiftbell/need.Sum -/
def wp_need_Sum (l : Option Addr) (ll : Nat) (lc : Nat) (w : World) (Q : Value → World → Prop) : Prop :=
  ∀ b0 : Nat, w.heap.size ≤ b0 → ∀ w1, Ext w w1 →
  FnP Try.prog F_need_checks #[(.slice l ll lc)] w1 fun v2 w2 =>
   Ext w1 w2 ∧
   ∃ t3 : Int, v2 = (.int .i64 t3) ∧
   ((t3 ≠ 0) →
    ∀ w4, Ext w w4 →
    Q (.tuple #[(.agg #[(.int .i64 0), (.int .i64 0), (.int .i64 0)]), (.int .i64 t3)]) w4) ∧
   ((t3 = 0) →
    ∀ b4 : Nat, w.heap.size ≤ b4 → ∃ (I5 : Int → Int → Int → Int → World → Prop) (M5 : Int → Int → Int → Int → World → Nat), I5 0 0 0 0 w ∧
    ∀ (k6 : Int) (c7 : Int) (c8 : Int) (c9 : Int) (w10 : World), I5 k6 c7 c8 c9 w10 →
     (((k6 < (ll : Int)) →
      l ≠ none ∧
      (0 : Int) ≤ k6 ∧
      (k6 : Int) < (ll : Int) ∧
      (pIdx l k6 3) ≠ none ∧
      ∃ t11 : Int, ((cell w10 (pIdx l k6 3) 0 = some (.int .i64 t11) ∧ Free [b4] (pIdx l k6 3))) ∧
      ∃ t12 : Int, ((cell w10 (pIdx l k6 3) 1 = some (.int .i64 t12) ∧ Free [b4] (pIdx l k6 3))) ∧
      ∃ t13 : Int, ((cell w10 (pIdx l k6 3) 2 = some (.int .i64 t13) ∧ Free [b4] (pIdx l k6 3))) ∧
      ∀ b14 : Nat, w10.heap.size ≤ b14 → ∀ w15, ExtB [b4] [] w10 w15 →
      FnP Try.prog F_need_Add #[(.agg #[(.int .i64 c7), (.int .i64 c8), (.int .i64 c9)]), (.agg #[(.int .i64 t11), (.int .i64 t12), (.int .i64 t13)])] w15 fun v16 w16 =>
       Ext w15 w16 ∧
       ∃ t_017 : Int, ∃ t_118 : Int, ∃ t_219 : Int, ∃ t20 : Int, v16 = (.tuple #[(.agg #[(.int .i64 t_017), (.int .i64 t_118), (.int .i64 t_219)]), (.int .i64 t20)]) ∧
       ((t20 ≠ 0) →
        ∀ w21, ExtB [b0, b4] [] w10 w21 →
        Q (.tuple #[(.agg #[(.int .i64 0), (.int .i64 0), (.int .i64 0)]), (.int .i64 t20)]) w21) ∧
       ((t20 = 0) →
        InR .i64 (k6 + 1) ∧
        (I5 (k6 + 1) t_017 t_118 t_219 w10 ∧ M5 (k6 + 1) t_017 t_118 t_219 w10 < M5 k6 c7 c8 c9 w10)))) ∧
     (((ll : Int) ≤ k6) →
      ∀ w11, ExtB [b0, b4] [] w10 w11 →
      Q (.tuple #[(.agg #[(.int .i64 c7), (.int .i64 c8), (.int .i64 c9)]), (.int .i64 0)]) w11))

theorem ok_need_Sum (l : Option Addr) (ll : Nat) (lc : Nat) (w : World) (Q : Value → World → Prop) (h : wp_need_Sum l ll lc w Q) : FnP Try.prog F_need_Sum #[(.slice l ll lc)] w Q := by
  have e_ : wp_need_Sum l ll lc w Q = Runs Try.prog Q ({ N := 33, wrap := [], pub := [], muts := [], joins := [] } : Cfg) Try.f15 (Try.f15.body.getD .skip) [.sc (.slc l ll lc)] w := by kernel_rfl
  rw [e_] at h
  exact runs_fn h Try.func15 (by kernel_rfl) (fun args w => Try.call15 args w) (by kernel_rfl) (by kernel_rfl) rfl rfl

end Go.Proofs.Ytblafknmfblgfaa
