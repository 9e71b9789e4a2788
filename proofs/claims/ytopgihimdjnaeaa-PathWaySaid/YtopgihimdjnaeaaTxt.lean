/- The texts of this seat's functions: what each computes, as its symbolic run says it. -/
import Derived.Test.YtopgihimdjnaeaaRows
import Derived.Test.YtopgihimdjnaeaaSxD
import Derived.Test.YtopgihimdjnaeaaSxN
set_option linter.unusedVariables false
set_option linter.unusedSimpArgs false
set_option maxRecDepth 100000
namespace Go.Proofs.Ytopgihimdjnaeaa
open Go.Sx Go.RowKit

abbrev F_shiftbellkeep_GraphOrder : FuncId := 3
abbrev F_shiftbellkeep_graphs : FuncId := 9
abbrev F_graph_Order : FuncId := 10
abbrev F_graph_Knot : FuncId := 11
abbrev F_shiftbellkeep_good : FuncId := 16
abbrev F_slices_Contains_int_int : FuncId := 19
abbrev F_graph_Check : FuncId := 20
abbrev F_graph_closed : FuncId := 21
abbrev F_graph_rows : FuncId := 22
abbrev F_slices_ContainsFunc_api_Errno_api_Errno : FuncId := 25
abbrev F_shiftbellkeep_good_1 : FuncId := 26
abbrev F_slices_Index_int_int : FuncId := 31
abbrev F_slices_IndexFunc_api_Errno_api_Errno : FuncId := 32
abbrev T__0 : TypeId := 0
abbrev T_int64 : TypeId := 2
abbrev T_int : TypeId := 3
abbrev T_bool : TypeId := 4
abbrev T_uint8 : TypeId := 5
abbrev T_string : TypeId := 9
abbrev T_uintptr : TypeId := 12
abbrev T_int32 : TypeId := 21
abbrev T_sl_Edge : TypeId := 22
abbrev T_sl_int : TypeId := 24
abbrev T_Errno : TypeId := 25
abbrev T_sl_int_Errno : TypeId := 26
abbrev T_Edge : TypeId := 29
abbrev T_sl_int64 : TypeId := 31
abbrev T_Plan : TypeId := 33
abbrev T_Plan_Errno : TypeId := 34
abbrev T_sl_uint64 : TypeId := 47
abbrev T_uint64 : TypeId := 48
abbrev T_sl_Errno : TypeId := 52
abbrev T_uint32 : TypeId := 67
abbrev T_ptr_uint8 : TypeId := 71
abbrev T_unsafe_Pointer : TypeId := 76
theorem elem_sl_Edge : slEl Try.prog 22 = some (29, 2, 16, (.agg #[(.int .i64 0), (.int .i64 0)])) := by kernel_rfl
theorem elem_sl_int : slEl Try.prog 24 = some (3, 1, 8, (.int .i64 0)) := by kernel_rfl
theorem elem_sl_int64 : slEl Try.prog 31 = some (2, 1, 8, (.int .i64 0)) := by kernel_rfl
theorem elem_sl_uint64 : slEl Try.prog 47 = some (48, 1, 8, (.int .u64 0)) := by kernel_rfl
theorem elem_sl_Errno : slEl Try.prog 52 = some (25, 1, 8, (.int .i64 0)) := by kernel_rfl

/-- shiftbell/shiftbellkeep.good -/
def wp_shiftbellkeep_good (l : Option Addr) (ll : Nat) (lc : Nat) (w : World) (Q : Value → World → Prop) : Prop :=
  ∀ w0, Ext w w0 →
  FnP Try.prog F_slices_ContainsFunc_api_Errno_api_Errno #[(.slice l ll lc), (.func (.func 26) #[] #[])] w0 fun v1 w1 =>
   Ext w0 w1 ∧
   ∃ t2 : Bool, v1 = (.bool t2) ∧
   ∀ w3, Ext w w3 →
   Q (.bool (!t2)) w3

theorem ok_shiftbellkeep_good (l : Option Addr) (ll : Nat) (lc : Nat) (w : World) (Q : Value → World → Prop) (h : wp_shiftbellkeep_good l ll lc w Q) : FnP Try.prog F_shiftbellkeep_good #[(.slice l ll lc)] w Q := by
  have e_ : wp_shiftbellkeep_good l ll lc w Q = Runs Try.prog Q ({ N := 6, wrap := [], pub := [], muts := [] } : Cfg) Try.f16 (Try.f16.body.getD .skip) [.sc (.slc l ll lc)] w := by kernel_rfl
  rw [e_] at h
  exact runs_fn h Try.func16 (by kernel_rfl) (fun args w => Try.call16 args w) (by kernel_rfl) (by kernel_rfl) rfl rfl

/-- shiftbell/shiftbellkeep.good$1 -/
def wp_shiftbellkeep_good_1 (e : Int) (w : World) (Q : Value → World → Prop) : Prop :=
  ∀ w0, Ext w w0 →
  Q (.bool (decide (e ≠ 0))) w0

theorem ok_shiftbellkeep_good_1 (e : Int) (w : World) (Q : Value → World → Prop) (h : wp_shiftbellkeep_good_1 e w Q) : FnP Try.prog F_shiftbellkeep_good_1 #[(.int .i64 e)] w Q := by
  have e_ : wp_shiftbellkeep_good_1 e w Q = Runs Try.prog Q ({ N := 5, wrap := [], pub := [], muts := [] } : Cfg) Try.f26 (Try.f26.body.getD .skip) [.sc (.int .i64 e)] w := by kernel_rfl
  rw [e_] at h
  exact runs_fn h Try.func26 (by kernel_rfl) (fun args w => Try.call26 args w) (by kernel_rfl) (by kernel_rfl) rfl rfl

/-- slices.ContainsFunc[[]shiftbell/api.Errno,shiftbell/api.Errno] -/
def wp_slices_ContainsFunc_api_Errno_api_Errno (s : Option Addr) (sl : Nat) (sc : Nat) (f : Value) (w : World) (Q : Value → World → Prop) : Prop :=
  ∀ w0, Ext w w0 →
  FnP Try.prog F_slices_IndexFunc_api_Errno_api_Errno #[(.slice s sl sc), f] w0 fun v1 w1 =>
   Ext w0 w1 ∧
   ∃ t2 : Int, v1 = (.int .i64 t2) ∧
   ∀ w3, Ext w w3 →
   Q (.bool (decide (0 ≤ t2))) w3

theorem ok_slices_ContainsFunc_api_Errno_api_Errno (s : Option Addr) (sl : Nat) (sc : Nat) (f : Value) (w : World) (Q : Value → World → Prop) (h : wp_slices_ContainsFunc_api_Errno_api_Errno s sl sc f w Q) : FnP Try.prog F_slices_ContainsFunc_api_Errno_api_Errno #[(.slice s sl sc), f] w Q := by
  have e_ : wp_slices_ContainsFunc_api_Errno_api_Errno s sl sc f w Q = Runs Try.prog Q ({ N := 9, wrap := [], pub := [], muts := [] } : Cfg) Try.f25 (Try.f25.body.getD .skip) [.sc (.slc s sl sc), .sc (.val f)] w := by kernel_rfl
  rw [e_] at h
  exact runs_fn h Try.func25 (by kernel_rfl) (fun args w => Try.call25 args w) (by kernel_rfl) (by kernel_rfl) rfl rfl

/-- slices.IndexFunc[[]shiftbell/api.Errno,shiftbell/api.Errno] -/
def wp_slices_IndexFunc_api_Errno_api_Errno (s : Option Addr) (sl : Nat) (sc : Nat) (f : Value) (w : World) (Q : Value → World → Prop) : Prop :=
  ∃ (I0 : Int → World → Prop) (M0 : Int → World → Nat), I0 0 w ∧
  ∀ (k1 : Int) (w2 : World), I0 k1 w2 →
   ((k1 < (sl : Int)) →
    s ≠ none ∧
    (0 : Int) ≤ k1 ∧
    (k1 : Int) < (sl : Int) ∧
    ∃ t3 : Int, cell w2 (pIdx s k1 1) 0 = some (.int .i64 t3) ∧
    ∀ w4, Ext w2 w4 →
    FnVP Try.prog f [(.int .i64 t3)] w4 fun v5 w5 =>
     Ext w4 w5 ∧
     ∃ t6 : Bool, v5 = (.bool t6) ∧
     ((t6 = true) →
      ∀ w7, Ext w2 w7 →
      Q (.int .i64 k1) w7) ∧
     ((t6 = false) →
      InR .i64 (k1 + 1) ∧
      (I0 (k1 + 1) w2 ∧ M0 (k1 + 1) w2 < M0 k1 w2))) ∧
   (((sl : Int) ≤ k1) →
    ∀ w3, Ext w2 w3 →
    Q (.int .i64 (-1)) w3)

theorem ok_slices_IndexFunc_api_Errno_api_Errno (s : Option Addr) (sl : Nat) (sc : Nat) (f : Value) (w : World) (Q : Value → World → Prop) (h : wp_slices_IndexFunc_api_Errno_api_Errno s sl sc f w Q) : FnP Try.prog F_slices_IndexFunc_api_Errno_api_Errno #[(.slice s sl sc), f] w Q := by
  have e_ : wp_slices_IndexFunc_api_Errno_api_Errno s sl sc f w Q = Runs Try.prog Q ({ N := 19, wrap := [], pub := [], muts := [] } : Cfg) Try.f32 (Try.f32.body.getD .skip) [.sc (.slc s sl sc), .sc (.val f)] w := by kernel_rfl
  rw [e_] at h
  exact runs_fn h Try.func32 (by kernel_rfl) (fun args w => Try.call32 args w) (by kernel_rfl) (by kernel_rfl) rfl rfl

/-- shiftbell/graph.Check -/
def wp_graph_Check (n : Int) (l : Option Addr) (ll : Nat) (lc : Nat) (w : World) (Q : Value → World → Prop) : Prop :=
  (((n < 0) ∨ (60 < n)) →
   ∀ w0, Ext w w0 →
   Q (.int .i64 1) w0) ∧
  (((0 ≤ n) ∧ (n ≤ 60)) →
   ((400 < (ll : Int)) →
    ∀ w0, Ext w w0 →
    Q (.int .i64 2) w0) ∧
   (((ll : Int) ≤ 400) →
    ∃ (I0 : Int → World → Prop) (M0 : Int → World → Nat), I0 0 w ∧
    ∀ (k1 : Int) (w2 : World), I0 k1 w2 →
     ((k1 < (ll : Int)) →
      l ≠ none ∧
      (0 : Int) ≤ k1 ∧
      (k1 : Int) < (ll : Int) ∧
      (pIdx l k1 2) ≠ none ∧
      ∃ t3 : Int, cell w2 (pIdx l k1 2) 0 = some (.int .i64 t3) ∧
      ∃ t4 : Int, cell w2 (pIdx l k1 2) 1 = some (.int .i64 t4) ∧
      ∀ b5 : Nat, w2.heap.size ≤ b5 → (((((t3 < 0) ∨ (n ≤ t3)) ∨ (t4 < 0)) ∨ (n ≤ t4)) →
       ∀ w6, Ext w2 w6 →
       Q (.int .i64 4) w6) ∧
      (((((0 ≤ t3) ∧ (t3 < n)) ∧ (0 ≤ t4)) ∧ (t4 < n)) →
       InR .i64 (k1 + 1) ∧
       (I0 (k1 + 1) w2 ∧ M0 (k1 + 1) w2 < M0 k1 w2))) ∧
     (((ll : Int) ≤ k1) →
      ∀ w3, Ext w2 w3 →
      Q (.int .i64 0) w3)))

theorem ok_graph_Check (n : Int) (l : Option Addr) (ll : Nat) (lc : Nat) (w : World) (Q : Value → World → Prop) (h : wp_graph_Check n l ll lc w Q) : FnP Try.prog F_graph_Check #[(.int .i64 n), (.slice l ll lc)] w Q := by
  have e_ : wp_graph_Check n l ll lc w Q = Runs Try.prog Q ({ N := 45, wrap := [], pub := [], muts := [] } : Cfg) Try.f20 (Try.f20.body.getD .skip) [.sc (.int .i64 n), .sc (.slc l ll lc)] w := by kernel_rfl
  rw [e_] at h
  exact runs_fn h Try.func20 (by kernel_rfl) (fun args w => Try.call20 args w) (by kernel_rfl) (by kernel_rfl) rfl rfl

/-- shiftbell/graph.Order -/
def wp_graph_Order (n : Int) (l : Option Addr) (ll : Nat) (lc : Nat) (w : World) (Q : Value → World → Prop) : Prop :=
  ∀ w0, Ext w w0 →
  FnP Try.prog F_graph_Check #[(.int .i64 n), (.slice l ll lc)] w0 fun v1 w1 =>
   Ext w0 w1 ∧
   ∃ t2 : Int, v1 = (.int .i64 t2) ∧
   ((t2 ≠ 0) →
    ∀ w3, Ext w w3 →
    Q (.tuple #[(.slice none 0 0), (.int .i64 t2)]) w3) ∧
   ((t2 = 0) →
    ∀ w3, Ext w w3 →
    Run Try.prog (.makeSlice 47 (.int .i64 n) (.int .i64 n)) w3 fun v4 w4 =>
     Ext w3 w4 ∧
     ∃ t5 : Option Addr, ∃ tl6 : Nat, ∃ tc7 : Nat, v4 = (.slice t5 tl6 tc7) ∧
     ∃ (I8 : Int → World → Prop) (M8 : Int → World → Nat), I8 0 w4 ∧
     ∀ (k9 : Int) (w10 : World), I8 k9 w10 →
      ((k9 < (ll : Int)) →
       l ≠ none ∧
       (0 : Int) ≤ k9 ∧
       (k9 : Int) < (ll : Int) ∧
       (pIdx l k9 2) ≠ none ∧
       ∃ t11 : Int, cell w10 (pIdx l k9 2) 0 = some (.int .i64 t11) ∧
       ∃ t12 : Int, cell w10 (pIdx l k9 2) 1 = some (.int .i64 t12) ∧
       ∀ b13 : Nat, w10.heap.size ≤ b13 → t5 ≠ none ∧
       (0 : Int) ≤ t12 ∧
       (t12 : Int) < (tl6 : Int) ∧
       ∃ t14 : Int, cell w10 (pIdx t5 t12 1) 0 = some (.int .u64 t14) ∧
       0 ≤ (t11 : Int) ∧
       t5 ≠ none ∧
       (0 : Int) ≤ t12 ∧
       (t12 : Int) < (tl6 : Int) ∧
       Store w10 (pIdx t5 t12 1) [(.int .u64 (iBit .or .u64 t14 (iBit .shl .u64 1 t11)))] [b13] fun w15 =>
        InR .i64 (k9 + 1) ∧
        (I8 (k9 + 1) w15 ∧ M8 (k9 + 1) w15 < M8 k9 w10)) ∧
      (((ll : Int) ≤ k9) →
       0 ≤ (n : Int) ∧
       InR .u64 ((iBit .shl .u64 1 n) - 1) ∧
       ∃ (I11 : Option Addr → Nat → Nat → Int → World → Prop) (M11 : Option Addr → Nat → Nat → Int → World → Nat), I11 none 0 0 ((iBit .shl .u64 1 n) - 1) w10 ∧
       ∀ (out12 : Option Addr) (outl12 : Nat) (outc12 : Nat) (left13 : Int) (w14 : World), I11 out12 outl12 outc12 left13 w14 →
        ((left13 ≠ 0) →
         ∃ (I15 : Int → World → Prop) (M15 : Int → World → Nat), I15 0 w14 ∧
         ∀ (i16 : Int) (w17 : World), I15 i16 w17 →
          ((i16 < n) →
           0 ≤ (i16 : Int)) ∧
          ((i16 < n) →
           (((iBit .and .u64 (iBit .shr .u64 left13 i16) 1) ≠ 0) →
            t5 ≠ none)) ∧
          ((i16 < n) →
           (((iBit .and .u64 (iBit .shr .u64 left13 i16) 1) ≠ 0) →
            (0 : Int) ≤ i16)) ∧
          ((i16 < n) →
           (((iBit .and .u64 (iBit .shr .u64 left13 i16) 1) ≠ 0) →
            (i16 : Int) < (tl6 : Int))) ∧
          ((i16 < n) →
           (((iBit .and .u64 (iBit .shr .u64 left13 i16) 1) = 0) →
            InR .i64 (i16 + 1) ∧
            (I15 (i16 + 1) w17 ∧ M15 (i16 + 1) w17 < M15 i16 w17)) ∧
           (((iBit .and .u64 (iBit .shr .u64 left13 i16) 1) ≠ 0) →
            ∃ t18 : Int, cell w17 (pIdx t5 i16 1) 0 = some (.int .u64 t18) ∧
            (((iBit .and .u64 t18 left13) ≠ 0) →
             InR .i64 (i16 + 1) ∧
             (I15 (i16 + 1) w17 ∧ M15 (i16 + 1) w17 < M15 i16 w17)) ∧
            (((iBit .and .u64 t18 left13) = 0) →
             ((i16 = n) →
              ∀ w19, Ext w17 w19 →
              Q (.tuple #[(.slice none 0 0), (.int .i64 8)]) w19) ∧
             ((i16 ≠ n) →
              ∀ w19, Ext w17 w19 →
              Run Try.prog (.buildSlice 24 1 [(0, (.int .i64 i16))]) w19 fun v20 w20 =>
               Ext w19 w20 ∧
               ∃ t21 : Option Addr, ∃ tl22 : Nat, ∃ tc23 : Nat, v20 = (.slice t21 tl22 tc23) ∧
               ∀ w24, Ext w20 w24 →
               Run Try.prog (.append #[24, 24] 24 [(.slice out12 outl12 outc12), (.slice t21 tl22 tc23)]) w24 fun v25 w25 =>
                ∃ t26 : Option Addr, ∃ tl27 : Nat, ∃ tc28 : Nat, v25 = (.slice t26 tl27 tc28) ∧
                0 ≤ (i16 : Int) ∧
                (I11 t26 tl27 tc28 (iBit .andNot .u64 left13 (iBit .shl .u64 1 i16)) w25 ∧ M11 t26 tl27 tc28 (iBit .andNot .u64 left13 (iBit .shl .u64 1 i16)) w25 < M11 out12 outl12 outc12 left13 w14))))) ∧
          ((n ≤ i16) →
           ((i16 = n) →
            ∀ w18, Ext w17 w18 →
            Q (.tuple #[(.slice none 0 0), (.int .i64 8)]) w18) ∧
           ((i16 ≠ n) →
            ∀ w18, Ext w17 w18 →
            Run Try.prog (.buildSlice 24 1 [(0, (.int .i64 i16))]) w18 fun v19 w19 =>
             Ext w18 w19 ∧
             ∃ t20 : Option Addr, ∃ tl21 : Nat, ∃ tc22 : Nat, v19 = (.slice t20 tl21 tc22) ∧
             ∀ w23, Ext w19 w23 →
             Run Try.prog (.append #[24, 24] 24 [(.slice out12 outl12 outc12), (.slice t20 tl21 tc22)]) w23 fun v24 w24 =>
              ∃ t25 : Option Addr, ∃ tl26 : Nat, ∃ tc27 : Nat, v24 = (.slice t25 tl26 tc27) ∧
              0 ≤ (i16 : Int) ∧
              (I11 t25 tl26 tc27 (iBit .andNot .u64 left13 (iBit .shl .u64 1 i16)) w24 ∧ M11 t25 tl26 tc27 (iBit .andNot .u64 left13 (iBit .shl .u64 1 i16)) w24 < M11 out12 outl12 outc12 left13 w14)))) ∧
        ((left13 = 0) →
         ∀ w15, Ext w14 w15 →
         Q (.tuple #[(.slice out12 outl12 outc12), (.int .i64 0)]) w15)))

theorem ok_graph_Order (n : Int) (l : Option Addr) (ll : Nat) (lc : Nat) (w : World) (Q : Value → World → Prop) (h : wp_graph_Order n l ll lc w Q) : FnP Try.prog F_graph_Order #[(.int .i64 n), (.slice l ll lc)] w Q := by
  have e_ : wp_graph_Order n l ll lc w Q = Runs Try.prog Q ({ N := 76, wrap := [], pub := [], muts := [] } : Cfg) Try.f10 (Try.f10.body.getD .skip) [.sc (.int .i64 n), .sc (.slc l ll lc)] w := by kernel_rfl
  rw [e_] at h
  exact runs_fn h Try.func10 (by kernel_rfl) (fun args w => Try.call10 args w) (by kernel_rfl) (by kernel_rfl) rfl rfl

/-- shiftbell/graph.Knot -/
def wp_graph_Knot (n : Int) (l : Option Addr) (ll : Nat) (lc : Nat) (w : World) (Q : Value → World → Prop) : Prop :=
  ∀ w0, Ext w w0 →
  FnP Try.prog F_graph_Check #[(.int .i64 n), (.slice l ll lc)] w0 fun v1 w1 =>
   Ext w0 w1 ∧
   ∃ t2 : Int, v1 = (.int .i64 t2) ∧
   ((t2 ≠ 0) →
    ∀ w3, Ext w w3 →
    Q (.tuple #[(.slice none 0 0), (.int .i64 t2)]) w3) ∧
   ((t2 = 0) →
    ∀ w3, Ext w w3 →
    FnP Try.prog F_graph_rows #[(.int .i64 n), (.slice l ll lc)] w3 fun v4 w4 =>
     Ext w3 w4 ∧
     ∃ t5 : Option Addr, ∃ tl6 : Nat, ∃ tc7 : Nat, v4 = (.slice t5 tl6 tc7) ∧
     ∀ w8, Ext w4 w8 →
     FnP Try.prog F_graph_closed #[(.slice t5 tl6 tc7)] w8 fun v9 w9 =>
      Ext w8 w9 ∧
      ∃ t10 : Option Addr, ∃ tl11 : Nat, ∃ tc12 : Nat, v9 = (.slice t10 tl11 tc12) ∧
      ∃ (I13 : Option Addr → Nat → Nat → Int → World → Prop) (M13 : Option Addr → Nat → Nat → Int → World → Nat), I13 none 0 0 0 w9 ∧
      ∀ (out14 : Option Addr) (outl14 : Nat) (outc14 : Nat) (k15 : Int) (w16 : World), I13 out14 outl14 outc14 k15 w16 →
       ((k15 < (tl11 : Int)) →
        t10 ≠ none ∧
        (0 : Int) ≤ k15 ∧
        (k15 : Int) < (tl11 : Int) ∧
        ∃ t17 : Int, cell w16 (pIdx t10 k15 1) 0 = some (.int .u64 t17) ∧
        0 ≤ (k15 : Int) ∧
        (((iBit .and .u64 (iBit .shr .u64 t17 k15) 1) = 1) →
         ∀ w18, Ext w16 w18 →
         Run Try.prog (.buildSlice 24 1 [(0, (.int .i64 k15))]) w18 fun v19 w19 =>
          Ext w18 w19 ∧
          ∃ t20 : Option Addr, ∃ tl21 : Nat, ∃ tc22 : Nat, v19 = (.slice t20 tl21 tc22) ∧
          ∀ w23, Ext w19 w23 →
          Run Try.prog (.append #[24, 24] 24 [(.slice out14 outl14 outc14), (.slice t20 tl21 tc22)]) w23 fun v24 w24 =>
           ∃ t25 : Option Addr, ∃ tl26 : Nat, ∃ tc27 : Nat, v24 = (.slice t25 tl26 tc27) ∧
           InR .i64 (k15 + 1) ∧
           (I13 t25 tl26 tc27 (k15 + 1) w24 ∧ M13 t25 tl26 tc27 (k15 + 1) w24 < M13 out14 outl14 outc14 k15 w16)) ∧
        (((iBit .and .u64 (iBit .shr .u64 t17 k15) 1) ≠ 1) →
         InR .i64 (k15 + 1) ∧
         (I13 out14 outl14 outc14 (k15 + 1) w16 ∧ M13 out14 outl14 outc14 (k15 + 1) w16 < M13 out14 outl14 outc14 k15 w16))) ∧
       (((tl11 : Int) ≤ k15) →
        ∀ w17, Ext w16 w17 →
        Q (.tuple #[(.slice out14 outl14 outc14), (.int .i64 0)]) w17))

theorem ok_graph_Knot (n : Int) (l : Option Addr) (ll : Nat) (lc : Nat) (w : World) (Q : Value → World → Prop) (h : wp_graph_Knot n l ll lc w Q) : FnP Try.prog F_graph_Knot #[(.int .i64 n), (.slice l ll lc)] w Q := by
  have e_ : wp_graph_Knot n l ll lc w Q = Runs Try.prog Q ({ N := 37, wrap := [], pub := [], muts := [] } : Cfg) Try.f11 (Try.f11.body.getD .skip) [.sc (.int .i64 n), .sc (.slc l ll lc)] w := by kernel_rfl
  rw [e_] at h
  exact runs_fn h Try.func11 (by kernel_rfl) (fun args w => Try.call11 args w) (by kernel_rfl) (by kernel_rfl) rfl rfl

/-- shiftbell/graph.rows -/
def wp_graph_rows (n : Int) (l : Option Addr) (ll : Nat) (lc : Nat) (w : World) (Q : Value → World → Prop) : Prop :=
  ∀ w0, Ext w w0 →
  Run Try.prog (.makeSlice 47 (.int .i64 n) (.int .i64 n)) w0 fun v1 w1 =>
   Ext w0 w1 ∧
   ∃ t2 : Option Addr, ∃ tl3 : Nat, ∃ tc4 : Nat, v1 = (.slice t2 tl3 tc4) ∧
   ∃ (I5 : Int → World → Prop) (M5 : Int → World → Nat), I5 0 w1 ∧
   ∀ (k6 : Int) (w7 : World), I5 k6 w7 →
    ((k6 < (ll : Int)) →
     l ≠ none ∧
     (0 : Int) ≤ k6 ∧
     (k6 : Int) < (ll : Int) ∧
     (pIdx l k6 2) ≠ none ∧
     ∃ t8 : Int, cell w7 (pIdx l k6 2) 0 = some (.int .i64 t8) ∧
     ∃ t9 : Int, cell w7 (pIdx l k6 2) 1 = some (.int .i64 t9) ∧
     ∀ b10 : Nat, w7.heap.size ≤ b10 → t2 ≠ none ∧
     (0 : Int) ≤ t8 ∧
     (t8 : Int) < (tl3 : Int) ∧
     ∃ t11 : Int, cell w7 (pIdx t2 t8 1) 0 = some (.int .u64 t11) ∧
     0 ≤ (t9 : Int) ∧
     t2 ≠ none ∧
     (0 : Int) ≤ t8 ∧
     (t8 : Int) < (tl3 : Int) ∧
     Store w7 (pIdx t2 t8 1) [(.int .u64 (iBit .or .u64 t11 (iBit .shl .u64 1 t9)))] [b10] fun w12 =>
      InR .i64 (k6 + 1) ∧
      (I5 (k6 + 1) w12 ∧ M5 (k6 + 1) w12 < M5 k6 w7)) ∧
    (((ll : Int) ≤ k6) →
     ∀ w8, Ext w7 w8 →
     Q (.slice t2 tl3 tc4) w8)

theorem ok_graph_rows (n : Int) (l : Option Addr) (ll : Nat) (lc : Nat) (w : World) (Q : Value → World → Prop) (h : wp_graph_rows n l ll lc w Q) : FnP Try.prog F_graph_rows #[(.int .i64 n), (.slice l ll lc)] w Q := by
  have e_ : wp_graph_rows n l ll lc w Q = Runs Try.prog Q ({ N := 28, wrap := [], pub := [], muts := [] } : Cfg) Try.f22 (Try.f22.body.getD .skip) [.sc (.int .i64 n), .sc (.slc l ll lc)] w := by kernel_rfl
  rw [e_] at h
  exact runs_fn h Try.func22 (by kernel_rfl) (fun args w => Try.call22 args w) (by kernel_rfl) (by kernel_rfl) rfl rfl

/-- shiftbell/graph.closed -/
def wp_graph_closed (r : Option Addr) (rl : Nat) (rc : Nat) (w : World) (Q : Value → World → Prop) : Prop :=
  ∀ w0, Ext w w0 →
  Run Try.prog (.append #[47, 47] 47 [(.slice none 0 0), (.slice r rl rc)]) w0 fun v1 w1 =>
   ∃ t2 : Option Addr, ∃ tl3 : Nat, ∃ tc4 : Nat, v1 = (.slice t2 tl3 tc4) ∧
   ∃ (I5 : Int → World → Prop) (M5 : Int → World → Nat), I5 0 w1 ∧
   ∀ (k6 : Int) (w7 : World), I5 k6 w7 →
    ((k6 < (tl3 : Int)) →
     ∃ (I8 : Int → World → Prop) (M8 : Int → World → Nat), I8 0 w7 ∧
     ∀ (k9 : Int) (w10 : World), I8 k9 w10 →
      ((k9 < (tl3 : Int)) →
       t2 ≠ none ∧
       (0 : Int) ≤ k9 ∧
       (k9 : Int) < (tl3 : Int) ∧
       ∃ t11 : Int, cell w10 (pIdx t2 k9 1) 0 = some (.int .u64 t11) ∧
       0 ≤ (k6 : Int) ∧
       (((iBit .and .u64 (iBit .shr .u64 t11 k6) 1) = 1) →
        t2 ≠ none ∧
        (0 : Int) ≤ k9 ∧
        (k9 : Int) < (tl3 : Int) ∧
        ∃ t12 : Int, cell w10 (pIdx t2 k9 1) 0 = some (.int .u64 t12) ∧
        t2 ≠ none ∧
        (0 : Int) ≤ k6 ∧
        (k6 : Int) < (tl3 : Int) ∧
        ∃ t13 : Int, cell w10 (pIdx t2 k6 1) 0 = some (.int .u64 t13) ∧
        t2 ≠ none ∧
        (0 : Int) ≤ k9 ∧
        (k9 : Int) < (tl3 : Int) ∧
        Store w10 (pIdx t2 k9 1) [(.int .u64 (iBit .or .u64 t12 t13))] [] fun w14 =>
         InR .i64 (k9 + 1) ∧
         (I8 (k9 + 1) w14 ∧ M8 (k9 + 1) w14 < M8 k9 w10)) ∧
       (((iBit .and .u64 (iBit .shr .u64 t11 k6) 1) ≠ 1) →
        InR .i64 (k9 + 1) ∧
        (I8 (k9 + 1) w10 ∧ M8 (k9 + 1) w10 < M8 k9 w10))) ∧
      (((tl3 : Int) ≤ k9) →
       InR .i64 (k6 + 1) ∧
       (I5 (k6 + 1) w10 ∧ M5 (k6 + 1) w10 < M5 k6 w7))) ∧
    (((tl3 : Int) ≤ k6) →
     ∀ w8, Ext w7 w8 →
     Q (.slice t2 tl3 tc4) w8)

theorem ok_graph_closed (r : Option Addr) (rl : Nat) (rc : Nat) (w : World) (Q : Value → World → Prop) (h : wp_graph_closed r rl rc w Q) : FnP Try.prog F_graph_closed #[(.slice r rl rc)] w Q := by
  have e_ : wp_graph_closed r rl rc w Q = Runs Try.prog Q ({ N := 39, wrap := [], pub := [], muts := [] } : Cfg) Try.f21 (Try.f21.body.getD .skip) [.sc (.slc r rl rc)] w := by kernel_rfl
  rw [e_] at h
  exact runs_fn h Try.func21 (by kernel_rfl) (fun args w => Try.call21 args w) (by kernel_rfl) (by kernel_rfl) rfl rfl

/-- shiftbell/shiftbellkeep.graphs -/
def wp_shiftbellkeep_graphs  (w : World) (Q : Value → World → Prop) : Prop :=
  ∀ w0, Ext w w0 →
  Run Try.prog (.buildSlice 22 1 [(0, (.agg #[(.int .i64 1), (.int .i64 0)]))]) w0 fun v1 w1 =>
   Ext w0 w1 ∧
   ∃ t2 : Option Addr, ∃ tl3 : Nat, ∃ tc4 : Nat, v1 = (.slice t2 tl3 tc4) ∧
   ∀ w5, Ext w1 w5 →
   FnP Try.prog F_graph_Order #[(.int .i64 2), (.slice t2 tl3 tc4)] w5 fun v6 w6 =>
    Ext w5 w6 ∧
    ∃ t7 : Option Addr, ∃ tl8 : Nat, ∃ tc9 : Nat, ∃ t10 : Int, v6 = (.tuple #[(.slice t7 tl8 tc9), (.int .i64 t10)]) ∧
    (((t10 = 0) ∧ ((tl8 : Int) = 2)) →
     t7 ≠ none) ∧
    (((t10 = 0) ∧ ((tl8 : Int) = 2)) →
     (0 : Int) ≤ 0) ∧
    (((t10 = 0) ∧ ((tl8 : Int) = 2)) →
     (0 : Int) < (tl8 : Int)) ∧
    (((t10 = 0) ∧ ((tl8 : Int) = 2)) →
     ∃ t11 : Int, cell w6 (pIdx t7 0 1) 0 = some (.int .i64 t11) ∧
     ∀ w12, Ext w6 w12 →
     Q (.bool (decide (t11 = 1))) w12) ∧
    (((t10 ≠ 0) ∨ ((tl8 : Int) ≠ 2)) →
     ∀ w11, Ext w6 w11 →
     Q (.bool false) w11)

theorem ok_shiftbellkeep_graphs  (w : World) (Q : Value → World → Prop) (h : wp_shiftbellkeep_graphs  w Q) : FnP Try.prog F_shiftbellkeep_graphs #[] w Q := by
  have e_ : wp_shiftbellkeep_graphs  w Q = Runs Try.prog Q ({ N := 22, wrap := [], pub := [], muts := [] } : Cfg) Try.f9 (Try.f9.body.getD .skip) [] w := by kernel_rfl
  rw [e_] at h
  exact runs_fn h Try.func9 (by kernel_rfl) (fun args w => Try.call9 args w) (by kernel_rfl) (by kernel_rfl) rfl rfl

/-- slices.Contains[[]int,int] -/
def wp_slices_Contains_int_int (s : Option Addr) (sl : Nat) (sc : Nat) (v : Int) (w : World) (Q : Value → World → Prop) : Prop :=
  ∀ w0, Ext w w0 →
  FnP Try.prog F_slices_Index_int_int #[(.slice s sl sc), (.int .i64 v)] w0 fun v1 w1 =>
   Ext w0 w1 ∧
   ∃ t2 : Int, v1 = (.int .i64 t2) ∧
   ∀ w3, Ext w w3 →
   Q (.bool (decide (0 ≤ t2))) w3

theorem ok_slices_Contains_int_int (s : Option Addr) (sl : Nat) (sc : Nat) (v : Int) (w : World) (Q : Value → World → Prop) (h : wp_slices_Contains_int_int s sl sc v w Q) : FnP Try.prog F_slices_Contains_int_int #[(.slice s sl sc), (.int .i64 v)] w Q := by
  have e_ : wp_slices_Contains_int_int s sl sc v w Q = Runs Try.prog Q ({ N := 9, wrap := [], pub := [], muts := [] } : Cfg) Try.f19 (Try.f19.body.getD .skip) [.sc (.slc s sl sc), .sc (.int .i64 v)] w := by kernel_rfl
  rw [e_] at h
  exact runs_fn h Try.func19 (by kernel_rfl) (fun args w => Try.call19 args w) (by kernel_rfl) (by kernel_rfl) rfl rfl

/-- slices.Index[[]int,int] -/
def wp_slices_Index_int_int (s : Option Addr) (sl : Nat) (sc : Nat) (v : Int) (w : World) (Q : Value → World → Prop) : Prop :=
  ∃ (I0 : Int → World → Prop) (M0 : Int → World → Nat), I0 0 w ∧
  ∀ (k1 : Int) (w2 : World), I0 k1 w2 →
   ((k1 < (sl : Int)) →
    s ≠ none ∧
    (0 : Int) ≤ k1 ∧
    (k1 : Int) < (sl : Int) ∧
    ∃ t3 : Int, cell w2 (pIdx s k1 1) 0 = some (.int .i64 t3) ∧
    ((v = t3) →
     ∀ w4, Ext w2 w4 →
     Q (.int .i64 k1) w4) ∧
    ((v ≠ t3) →
     InR .i64 (k1 + 1) ∧
     (I0 (k1 + 1) w2 ∧ M0 (k1 + 1) w2 < M0 k1 w2))) ∧
   (((sl : Int) ≤ k1) →
    ∀ w3, Ext w2 w3 →
    Q (.int .i64 (-1)) w3)

theorem ok_slices_Index_int_int (s : Option Addr) (sl : Nat) (sc : Nat) (v : Int) (w : World) (Q : Value → World → Prop) (h : wp_slices_Index_int_int s sl sc v w Q) : FnP Try.prog F_slices_Index_int_int #[(.slice s sl sc), (.int .i64 v)] w Q := by
  have e_ : wp_slices_Index_int_int s sl sc v w Q = Runs Try.prog Q ({ N := 19, wrap := [], pub := [], muts := [] } : Cfg) Try.f31 (Try.f31.body.getD .skip) [.sc (.slc s sl sc), .sc (.int .i64 v)] w := by kernel_rfl
  rw [e_] at h
  exact runs_fn h Try.func31 (by kernel_rfl) (fun args w => Try.call31 args w) (by kernel_rfl) (by kernel_rfl) rfl rfl

/-- shiftbell/shiftbellkeep.GraphOrder -/
def wp_shiftbellkeep_GraphOrder (n : Int) (l : Option Addr) (ll : Nat) (lc : Nat) (w : World) (Q : Value → World → Prop) : Prop :=
  ∀ w0, Ext w w0 →
  FnP Try.prog F_shiftbellkeep_graphs #[] w0 fun v1 w1 =>
   Ext w0 w1 ∧
   ∃ t2 : Bool, v1 = (.bool t2) ∧
   ((t2 = false) →
    ∀ w3, Ext w w3 →
    Q (.bool false) w3) ∧
   ((t2 = true) →
    ∀ w3, Ext w w3 →
    FnP Try.prog F_graph_Order #[(.int .i64 n), (.slice l ll lc)] w3 fun v4 w4 =>
     Ext w3 w4 ∧
     ∃ t5 : Option Addr, ∃ tl6 : Nat, ∃ tc7 : Nat, ∃ t8 : Int, v4 = (.tuple #[(.slice t5 tl6 tc7), (.int .i64 t8)]) ∧
     ∀ w9, Ext w4 w9 →
     FnP Try.prog F_graph_Knot #[(.int .i64 n), (.slice l ll lc)] w9 fun v10 w10 =>
      Ext w9 w10 ∧
      ∃ t11 : Option Addr, ∃ tl12 : Nat, ∃ tc13 : Nat, ∃ t14 : Int, v10 = (.tuple #[(.slice t11 tl12 tc13), (.int .i64 t14)]) ∧
      ((t8 ≠ 0) →
       ∀ w15, Ext w10 w15 →
       Q (.bool (((decide ((tl6 : Int) = 0)) && (((decide (t8 = 8)) && (decide (t14 = 0))) || ((decide (t8 ≠ 8)) && (decide (t14 ≠ 0))))) && ((decide (t14 ≠ 0)) || (decide (0 < (tl12 : Int)))))) w15) ∧
      ((t8 = 0) →
       ∀ w15, Ext w10 w15 →
       Run Try.prog (.makeSlice 24 (.int .i64 n) (.int .i64 n)) w15 fun v16 w16 =>
        Ext w15 w16 ∧
        ∃ t17 : Option Addr, ∃ tl18 : Nat, ∃ tc19 : Nat, v16 = (.slice t17 tl18 tc19) ∧
        ∃ (I20 : Int → World → Prop) (M20 : Int → World → Nat), I20 0 w16 ∧
        ∀ (k21 : Int) (w22 : World), I20 k21 w22 →
         ((k21 < (tl6 : Int)) →
          t5 ≠ none ∧
          (0 : Int) ≤ k21 ∧
          (k21 : Int) < (tl6 : Int) ∧
          ∃ t23 : Int, cell w22 (pIdx t5 k21 1) 0 = some (.int .i64 t23) ∧
          (((0 ≤ t23) ∧ (t23 < n)) →
           t17 ≠ none) ∧
          (((0 ≤ t23) ∧ (t23 < n)) →
           (0 : Int) ≤ t23) ∧
          (((0 ≤ t23) ∧ (t23 < n)) →
           (t23 : Int) < (tl18 : Int)) ∧
          (((t23 < 0) ∨ (n ≤ t23)) →
           ∀ w24, Ext w22 w24 →
           Q (.bool false) w24) ∧
          (((0 ≤ t23) ∧ (t23 < n)) →
           ∃ t24 : Int, cell w22 (pIdx t17 t23 1) 0 = some (.int .i64 t24) ∧
           ((0 < t24) →
            ∀ w25, Ext w22 w25 →
            Q (.bool false) w25) ∧
           ((t24 ≤ 0) →
            InR .i64 (k21 + 1) ∧
            t17 ≠ none ∧
            (0 : Int) ≤ t23 ∧
            (t23 : Int) < (tl18 : Int) ∧
            Store w22 (pIdx t17 t23 1) [(.int .i64 (k21 + 1))] [] fun w25 =>
             InR .i64 (k21 + 1) ∧
             (I20 (k21 + 1) w25 ∧ M20 (k21 + 1) w25 < M20 k21 w22)))) ∧
         (((tl6 : Int) ≤ k21) →
          ∃ (I23 : Int → World → Prop) (M23 : Int → World → Nat), I23 0 w22 ∧
          ∀ (k24 : Int) (w25 : World), I23 k24 w25 →
           ((k24 < (ll : Int)) →
            l ≠ none ∧
            (0 : Int) ≤ k24 ∧
            (k24 : Int) < (ll : Int) ∧
            (pIdx l k24 2) ≠ none ∧
            ∃ t26 : Int, cell w25 (pIdx l k24 2) 0 = some (.int .i64 t26) ∧
            ∃ t27 : Int, cell w25 (pIdx l k24 2) 1 = some (.int .i64 t27) ∧
            ∀ b28 : Nat, w25.heap.size ≤ b28 → t17 ≠ none ∧
            (0 : Int) ≤ t26 ∧
            (t26 : Int) < (tl18 : Int) ∧
            ∃ t29 : Int, cell w25 (pIdx t17 t26 1) 0 = some (.int .i64 t29) ∧
            t17 ≠ none ∧
            (0 : Int) ≤ t27 ∧
            (t27 : Int) < (tl18 : Int) ∧
            ∃ t30 : Int, cell w25 (pIdx t17 t27 1) 0 = some (.int .i64 t30) ∧
            ((t30 ≤ t29) →
             ∀ w31, Ext w25 w31 →
             Q (.bool false) w31) ∧
            ((t29 < t30) →
             InR .i64 (k24 + 1) ∧
             (I23 (k24 + 1) w25 ∧ M23 (k24 + 1) w25 < M23 k24 w25))) ∧
           (((ll : Int) ≤ k24) →
            ∀ w26, Ext w25 w26 →
            Q (.bool (((decide ((tl6 : Int) = n)) && (decide (t14 = 0))) && (decide ((tl12 : Int) = 0)))) w26))))

theorem ok_shiftbellkeep_GraphOrder (n : Int) (l : Option Addr) (ll : Nat) (lc : Nat) (w : World) (Q : Value → World → Prop) (h : wp_shiftbellkeep_GraphOrder n l ll lc w Q) : FnP Try.prog F_shiftbellkeep_GraphOrder #[(.int .i64 n), (.slice l ll lc)] w Q := by
  have e_ : wp_shiftbellkeep_GraphOrder n l ll lc w Q = Runs Try.prog Q ({ N := 109, wrap := [], pub := [], muts := [] } : Cfg) Try.f3 (Try.f3.body.getD .skip) [.sc (.int .i64 n), .sc (.slc l ll lc)] w := by kernel_rfl
  rw [e_] at h
  exact runs_fn h Try.func3 (by kernel_rfl) (fun args w => Try.call3 args w) (by kernel_rfl) (by kernel_rfl) rfl rfl

theorem open_shiftbellkeep_GraphOrder (W : World) (R : Array Value → Prop) (h : ∀ n : Int, InR .i64 n → ∀ l : Option Addr, ∀ ll : Nat, ∀ lc : Nat, SlcArg Try.prog W 29 l ll lc → R #[(.int .i64 n), (.slice l ll lc)]) (args : Array Value) (hg : GoodAll Try.prog W Try.f3.params.toList args.toList) : R args := by
  have e_ : (ArgsAll Try.prog W Try.f3.params.toList fun l => R l.toArray) = (∀ n : Int, InR .i64 n → ∀ l : Option Addr, ∀ ll : Nat, ∀ lc : Nat, SlcArg Try.prog W 29 l ll lc → R #[(.int .i64 n), (.slice l ll lc)]) := by kernel_rfl
  exact args_open (by rw [e_]; exact h) args hg
-- wit 3 #[(.int .i64 0), (.slice none 0 0)]

end Go.Proofs.Ytopgihimdjnaeaa
