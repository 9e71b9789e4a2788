/- The texts of this seat's functions: what each computes, as its symbolic run says it. -/
import Derived.Test.YtopgihimdjnaeaaDoorRows
import Derived.Test.YtopgihimdjnaeaaDoorSxD
import Derived.Test.YtopgihimdjnaeaaDoorSxN
set_option linter.unusedVariables false
set_option linter.unusedSimpArgs false
set_option maxRecDepth 100000
namespace Go.Proofs.YtopgihimdjnaeaaDoor
open Go.Sx Go.RowKit

abbrev F_shiftbellkeep_GraphTurn : FuncId := 3
abbrev F_shiftbellkeep_graphs : FuncId := 6
abbrev F_graph_Order : FuncId := 7
abbrev F_graph_Reach : FuncId := 8
abbrev F_shiftbellkeep_good : FuncId := 9
abbrev F_slices_Contains_int_int : FuncId := 10
abbrev F_graph_Check : FuncId := 17
abbrev F_graph_list : FuncId := 18
abbrev F_graph_closed : FuncId := 19
abbrev F_graph_rows : FuncId := 20
abbrev F_slices_ContainsFunc_api_Errno_api_Errno : FuncId := 21
abbrev F_shiftbellkeep_good_1 : FuncId := 22
abbrev F_slices_Index_int_int : FuncId := 23
abbrev F_math_bits_TrailingZeros64 : FuncId := 26
abbrev F_slices_IndexFunc_api_Errno_api_Errno : FuncId := 27
abbrev T__0 : TypeId := 0
abbrev T_int64 : TypeId := 2
abbrev T_int : TypeId := 3
abbrev T_bool : TypeId := 4
abbrev T_uint8 : TypeId := 5
abbrev T_string : TypeId := 9
abbrev T_uintptr : TypeId := 12
abbrev T_int32 : TypeId := 21
abbrev T_sl_Edge : TypeId := 22
abbrev T_Edge : TypeId := 25
abbrev T_sl_int : TypeId := 26
abbrev T_Errno : TypeId := 27
abbrev T_sl_int_Errno : TypeId := 28
abbrev T_sl_Edge_Errno : TypeId := 34
abbrev T_sl_uint64 : TypeId := 42
abbrev T_uint64 : TypeId := 43
abbrev T_sl_Errno : TypeId := 47
abbrev T_uint : TypeId := 56
abbrev T_uint32 : TypeId := 64
abbrev T_ptr_uint8 : TypeId := 68
abbrev T_unsafe_Pointer : TypeId := 73
theorem elem_sl_Edge : slEl Tryd.prog 22 = some (25, 2, 16, (.agg #[(.int .i64 0), (.int .i64 0)])) := by kernel_rfl
theorem elem_sl_int : slEl Tryd.prog 26 = some (3, 1, 8, (.int .i64 0)) := by kernel_rfl
theorem elem_sl_uint64 : slEl Tryd.prog 42 = some (43, 1, 8, (.int .u64 0)) := by kernel_rfl
theorem elem_sl_Errno : slEl Tryd.prog 47 = some (27, 1, 8, (.int .i64 0)) := by kernel_rfl

/-- shiftbell/shiftbellkeep.good -/
def wp_shiftbellkeep_good (l : Option Addr) (ll : Nat) (lc : Nat) (w : World) (Q : Value → World → Prop) : Prop :=
  ∀ w0, Ext w w0 →
  FnP Tryd.prog F_slices_ContainsFunc_api_Errno_api_Errno #[(.slice l ll lc), (.func (.func 22) #[] #[])] w0 fun v1 w1 =>
   Ext w0 w1 ∧
   ∃ t2 : Bool, v1 = (.bool t2) ∧
   ∀ w3, Ext w w3 →
   Q (.bool (!t2)) w3

theorem ok_shiftbellkeep_good (l : Option Addr) (ll : Nat) (lc : Nat) (w : World) (Q : Value → World → Prop) (h : wp_shiftbellkeep_good l ll lc w Q) : FnP Tryd.prog F_shiftbellkeep_good #[(.slice l ll lc)] w Q := by
  have e_ : wp_shiftbellkeep_good l ll lc w Q = Runs Tryd.prog Q ({ N := 6, wrap := [], pub := [], muts := [] } : Cfg) Tryd.f9 (Tryd.f9.body.getD .skip) [.sc (.slc l ll lc)] w := by kernel_rfl
  rw [e_] at h
  exact runs_fn h Tryd.func9 (by kernel_rfl) (fun args w => Tryd.call9 args w) (by kernel_rfl) (by kernel_rfl) rfl rfl

/-- shiftbell/shiftbellkeep.good$1 -/
def wp_shiftbellkeep_good_1 (e : Int) (w : World) (Q : Value → World → Prop) : Prop :=
  ∀ w0, Ext w w0 →
  Q (.bool (decide (e ≠ 0))) w0

theorem ok_shiftbellkeep_good_1 (e : Int) (w : World) (Q : Value → World → Prop) (h : wp_shiftbellkeep_good_1 e w Q) : FnP Tryd.prog F_shiftbellkeep_good_1 #[(.int .i64 e)] w Q := by
  have e_ : wp_shiftbellkeep_good_1 e w Q = Runs Tryd.prog Q ({ N := 5, wrap := [], pub := [], muts := [] } : Cfg) Tryd.f22 (Tryd.f22.body.getD .skip) [.sc (.int .i64 e)] w := by kernel_rfl
  rw [e_] at h
  exact runs_fn h Tryd.func22 (by kernel_rfl) (fun args w => Tryd.call22 args w) (by kernel_rfl) (by kernel_rfl) rfl rfl

/-- slices.ContainsFunc[[]shiftbell/api.Errno,shiftbell/api.Errno] -/
def wp_slices_ContainsFunc_api_Errno_api_Errno (s : Option Addr) (sl : Nat) (sc : Nat) (f : Value) (w : World) (Q : Value → World → Prop) : Prop :=
  ∀ w0, Ext w w0 →
  FnP Tryd.prog F_slices_IndexFunc_api_Errno_api_Errno #[(.slice s sl sc), f] w0 fun v1 w1 =>
   Ext w0 w1 ∧
   ∃ t2 : Int, v1 = (.int .i64 t2) ∧
   ∀ w3, Ext w w3 →
   Q (.bool (decide (0 ≤ t2))) w3

theorem ok_slices_ContainsFunc_api_Errno_api_Errno (s : Option Addr) (sl : Nat) (sc : Nat) (f : Value) (w : World) (Q : Value → World → Prop) (h : wp_slices_ContainsFunc_api_Errno_api_Errno s sl sc f w Q) : FnP Tryd.prog F_slices_ContainsFunc_api_Errno_api_Errno #[(.slice s sl sc), f] w Q := by
  have e_ : wp_slices_ContainsFunc_api_Errno_api_Errno s sl sc f w Q = Runs Tryd.prog Q ({ N := 9, wrap := [], pub := [], muts := [] } : Cfg) Tryd.f21 (Tryd.f21.body.getD .skip) [.sc (.slc s sl sc), .sc (.val f)] w := by kernel_rfl
  rw [e_] at h
  exact runs_fn h Tryd.func21 (by kernel_rfl) (fun args w => Tryd.call21 args w) (by kernel_rfl) (by kernel_rfl) rfl rfl

/-- slices.IndexFunc[[]shiftbell/api.Errno,shiftbell/api.Errno] -/
def wp_slices_IndexFunc_api_Errno_api_Errno (s : Option Addr) (sl : Nat) (sc : Nat) (f : Value) (w : World) (Q : Value → World → Prop) : Prop :=
  ∃ (I0 : Int → World → Prop) (M0 : Int → World → Nat), I0 0 w ∧
  ∀ (k1 : Int) (w2 : World), I0 k1 w2 →
   ((k1 < (sl : Int)) →
    s ≠ none ∧
    (0 : Int) ≤ k1 ∧
    (k1 : Int) < (sl : Int) ∧
    ∃ t3 : Int, cell w2 (pIdx s k1 1) 0 = some (.int .i64 t3) ∧
    ∀ w4, Ext w2 w4 →
    FnVP Tryd.prog f [(.int .i64 t3)] w4 fun v5 w5 =>
     Ext w4 w5 ∧
     ∃ t6 : Bool, v5 = (.bool t6) ∧
     ((t6 = true) →
      ∀ w7, Ext w2 w7 →
      Q (.int .i64 k1) w7) ∧
     ((t6 = false) →
      InR .i64 (k1 + 1) ∧
      (I0 (k1 + 1) w2 ∧ M0 (k1 + 1) w2 < M0 k1 w2))) ∧
   (((sl : Int) ≤ k1) →
    ∀ w3, Ext w2 w3 →
    Q (.int .i64 (-1)) w3)

theorem ok_slices_IndexFunc_api_Errno_api_Errno (s : Option Addr) (sl : Nat) (sc : Nat) (f : Value) (w : World) (Q : Value → World → Prop) (h : wp_slices_IndexFunc_api_Errno_api_Errno s sl sc f w Q) : FnP Tryd.prog F_slices_IndexFunc_api_Errno_api_Errno #[(.slice s sl sc), f] w Q := by
  have e_ : wp_slices_IndexFunc_api_Errno_api_Errno s sl sc f w Q = Runs Tryd.prog Q ({ N := 19, wrap := [], pub := [], muts := [] } : Cfg) Tryd.f27 (Tryd.f27.body.getD .skip) [.sc (.slc s sl sc), .sc (.val f)] w := by kernel_rfl
  rw [e_] at h
  exact runs_fn h Tryd.func27 (by kernel_rfl) (fun args w => Tryd.call27 args w) (by kernel_rfl) (by kernel_rfl) rfl rfl

/-- shiftbell/graph.Check -/
def wp_graph_Check (n : Int) (l : Option Addr) (ll : Nat) (lc : Nat) (w : World) (Q : Value → World → Prop) : Prop :=
  (((n < 0) ∨ (60 < n)) →
   ∀ w0, Ext w w0 →
   Q (.int .i64 1) w0) ∧
  (((0 ≤ n) ∧ (n ≤ 60)) →
   ((400 < (ll : Int)) →
    ∀ w0, Ext w w0 →
    Q (.int .i64 2) w0) ∧
   (((ll : Int) ≤ 400) →
    ∃ (I0 : Int → World → Prop) (M0 : Int → World → Nat), I0 0 w ∧
    ∀ (k1 : Int) (w2 : World), I0 k1 w2 →
     ((k1 < (ll : Int)) →
      l ≠ none ∧
      (0 : Int) ≤ k1 ∧
      (k1 : Int) < (ll : Int) ∧
      (pIdx l k1 2) ≠ none ∧
      ∃ t3 : Int, cell w2 (pIdx l k1 2) 0 = some (.int .i64 t3) ∧
      ∃ t4 : Int, cell w2 (pIdx l k1 2) 1 = some (.int .i64 t4) ∧
      ∀ b5 : Nat, w2.heap.size ≤ b5 → (((((t3 < 0) ∨ (n ≤ t3)) ∨ (t4 < 0)) ∨ (n ≤ t4)) →
       ∀ w6, Ext w2 w6 →
       Q (.int .i64 4) w6) ∧
      (((((0 ≤ t3) ∧ (t3 < n)) ∧ (0 ≤ t4)) ∧ (t4 < n)) →
       InR .i64 (k1 + 1) ∧
       (I0 (k1 + 1) w2 ∧ M0 (k1 + 1) w2 < M0 k1 w2))) ∧
     (((ll : Int) ≤ k1) →
      ∀ w3, Ext w2 w3 →
      Q (.int .i64 0) w3)))

theorem ok_graph_Check (n : Int) (l : Option Addr) (ll : Nat) (lc : Nat) (w : World) (Q : Value → World → Prop) (h : wp_graph_Check n l ll lc w Q) : FnP Tryd.prog F_graph_Check #[(.int .i64 n), (.slice l ll lc)] w Q := by
  have e_ : wp_graph_Check n l ll lc w Q = Runs Tryd.prog Q ({ N := 45, wrap := [], pub := [], muts := [] } : Cfg) Tryd.f17 (Tryd.f17.body.getD .skip) [.sc (.int .i64 n), .sc (.slc l ll lc)] w := by kernel_rfl
  rw [e_] at h
  exact runs_fn h Tryd.func17 (by kernel_rfl) (fun args w => Tryd.call17 args w) (by kernel_rfl) (by kernel_rfl) rfl rfl

/-- shiftbell/graph.Order -/
def wp_graph_Order (n : Int) (l : Option Addr) (ll : Nat) (lc : Nat) (w : World) (Q : Value → World → Prop) : Prop :=
  ∀ w0, Ext w w0 →
  FnP Tryd.prog F_graph_Check #[(.int .i64 n), (.slice l ll lc)] w0 fun v1 w1 =>
   Ext w0 w1 ∧
   ∃ t2 : Int, v1 = (.int .i64 t2) ∧
   ((t2 ≠ 0) →
    ∀ w3, Ext w w3 →
    Q (.tuple #[(.slice none 0 0), (.int .i64 t2)]) w3) ∧
   ((t2 = 0) →
    ∀ w3, Ext w w3 →
    Run Tryd.prog (.makeSlice 42 (.int .i64 n) (.int .i64 n)) w3 fun v4 w4 =>
     Ext w3 w4 ∧
     ∃ t5 : Option Addr, ∃ tl6 : Nat, ∃ tc7 : Nat, v4 = (.slice t5 tl6 tc7) ∧
     ∃ (I8 : Int → World → Prop) (M8 : Int → World → Nat), I8 0 w4 ∧
     ∀ (k9 : Int) (w10 : World), I8 k9 w10 →
      ((k9 < (ll : Int)) →
       l ≠ none ∧
       (0 : Int) ≤ k9 ∧
       (k9 : Int) < (ll : Int) ∧
       (pIdx l k9 2) ≠ none ∧
       ∃ t11 : Int, cell w10 (pIdx l k9 2) 0 = some (.int .i64 t11) ∧
       ∃ t12 : Int, cell w10 (pIdx l k9 2) 1 = some (.int .i64 t12) ∧
       ∀ b13 : Nat, w10.heap.size ≤ b13 → t5 ≠ none ∧
       (0 : Int) ≤ t12 ∧
       (t12 : Int) < (tl6 : Int) ∧
       ∃ t14 : Int, cell w10 (pIdx t5 t12 1) 0 = some (.int .u64 t14) ∧
       0 ≤ (t11 : Int) ∧
       t5 ≠ none ∧
       (0 : Int) ≤ t12 ∧
       (t12 : Int) < (tl6 : Int) ∧
       Store w10 (pIdx t5 t12 1) [(.int .u64 (iBit .or .u64 t14 (iBit .shl .u64 1 t11)))] [b13] fun w15 =>
        InR .i64 (k9 + 1) ∧
        (I8 (k9 + 1) w15 ∧ M8 (k9 + 1) w15 < M8 k9 w10)) ∧
      (((ll : Int) ≤ k9) →
       0 ≤ (n : Int) ∧
       InR .u64 ((iBit .shl .u64 1 n) - 1) ∧
       ∃ (I11 : Option Addr → Nat → Nat → Int → World → Prop) (M11 : Option Addr → Nat → Nat → Int → World → Nat), I11 none 0 0 ((iBit .shl .u64 1 n) - 1) w10 ∧
       ∀ (out12 : Option Addr) (outl12 : Nat) (outc12 : Nat) (left13 : Int) (w14 : World), I11 out12 outl12 outc12 left13 w14 →
        ((left13 ≠ 0) →
         ∃ (I15 : Int → World → Prop) (M15 : Int → World → Nat), I15 0 w14 ∧
         ∀ (i16 : Int) (w17 : World), I15 i16 w17 →
          ((i16 < n) →
           0 ≤ (i16 : Int)) ∧
          ((i16 < n) →
           (((iBit .and .u64 (iBit .shr .u64 left13 i16) 1) ≠ 0) →
            t5 ≠ none)) ∧
          ((i16 < n) →
           (((iBit .and .u64 (iBit .shr .u64 left13 i16) 1) ≠ 0) →
            (0 : Int) ≤ i16)) ∧
          ((i16 < n) →
           (((iBit .and .u64 (iBit .shr .u64 left13 i16) 1) ≠ 0) →
            (i16 : Int) < (tl6 : Int))) ∧
          ((i16 < n) →
           (((iBit .and .u64 (iBit .shr .u64 left13 i16) 1) = 0) →
            InR .i64 (i16 + 1) ∧
            (I15 (i16 + 1) w17 ∧ M15 (i16 + 1) w17 < M15 i16 w17)) ∧
           (((iBit .and .u64 (iBit .shr .u64 left13 i16) 1) ≠ 0) →
            ∃ t18 : Int, cell w17 (pIdx t5 i16 1) 0 = some (.int .u64 t18) ∧
            (((iBit .and .u64 t18 left13) ≠ 0) →
             InR .i64 (i16 + 1) ∧
             (I15 (i16 + 1) w17 ∧ M15 (i16 + 1) w17 < M15 i16 w17)) ∧
            (((iBit .and .u64 t18 left13) = 0) →
             ((i16 = n) →
              ∀ w19, Ext w17 w19 →
              Q (.tuple #[(.slice none 0 0), (.int .i64 8)]) w19) ∧
             ((i16 ≠ n) →
              ∀ w19, Ext w17 w19 →
              Run Tryd.prog (.buildSlice 26 1 [(0, (.int .i64 i16))]) w19 fun v20 w20 =>
               Ext w19 w20 ∧
               ∃ t21 : Option Addr, ∃ tl22 : Nat, ∃ tc23 : Nat, v20 = (.slice t21 tl22 tc23) ∧
               ∀ w24, Ext w20 w24 →
               Run Tryd.prog (.append #[26, 26] 26 [(.slice out12 outl12 outc12), (.slice t21 tl22 tc23)]) w24 fun v25 w25 =>
                ∃ t26 : Option Addr, ∃ tl27 : Nat, ∃ tc28 : Nat, v25 = (.slice t26 tl27 tc28) ∧
                0 ≤ (i16 : Int) ∧
                (I11 t26 tl27 tc28 (iBit .andNot .u64 left13 (iBit .shl .u64 1 i16)) w25 ∧ M11 t26 tl27 tc28 (iBit .andNot .u64 left13 (iBit .shl .u64 1 i16)) w25 < M11 out12 outl12 outc12 left13 w14))))) ∧
          ((n ≤ i16) →
           ((i16 = n) →
            ∀ w18, Ext w17 w18 →
            Q (.tuple #[(.slice none 0 0), (.int .i64 8)]) w18) ∧
           ((i16 ≠ n) →
            ∀ w18, Ext w17 w18 →
            Run Tryd.prog (.buildSlice 26 1 [(0, (.int .i64 i16))]) w18 fun v19 w19 =>
             Ext w18 w19 ∧
             ∃ t20 : Option Addr, ∃ tl21 : Nat, ∃ tc22 : Nat, v19 = (.slice t20 tl21 tc22) ∧
             ∀ w23, Ext w19 w23 →
             Run Tryd.prog (.append #[26, 26] 26 [(.slice out12 outl12 outc12), (.slice t20 tl21 tc22)]) w23 fun v24 w24 =>
              ∃ t25 : Option Addr, ∃ tl26 : Nat, ∃ tc27 : Nat, v24 = (.slice t25 tl26 tc27) ∧
              0 ≤ (i16 : Int) ∧
              (I11 t25 tl26 tc27 (iBit .andNot .u64 left13 (iBit .shl .u64 1 i16)) w24 ∧ M11 t25 tl26 tc27 (iBit .andNot .u64 left13 (iBit .shl .u64 1 i16)) w24 < M11 out12 outl12 outc12 left13 w14)))) ∧
        ((left13 = 0) →
         ∀ w15, Ext w14 w15 →
         Q (.tuple #[(.slice out12 outl12 outc12), (.int .i64 0)]) w15)))

theorem ok_graph_Order (n : Int) (l : Option Addr) (ll : Nat) (lc : Nat) (w : World) (Q : Value → World → Prop) (h : wp_graph_Order n l ll lc w Q) : FnP Tryd.prog F_graph_Order #[(.int .i64 n), (.slice l ll lc)] w Q := by
  have e_ : wp_graph_Order n l ll lc w Q = Runs Tryd.prog Q ({ N := 76, wrap := [], pub := [], muts := [] } : Cfg) Tryd.f7 (Tryd.f7.body.getD .skip) [.sc (.int .i64 n), .sc (.slc l ll lc)] w := by kernel_rfl
  rw [e_] at h
  exact runs_fn h Tryd.func7 (by kernel_rfl) (fun args w => Tryd.call7 args w) (by kernel_rfl) (by kernel_rfl) rfl rfl

/-- shiftbell/graph.rows -/
def wp_graph_rows (n : Int) (l : Option Addr) (ll : Nat) (lc : Nat) (w : World) (Q : Value → World → Prop) : Prop :=
  ∀ w0, Ext w w0 →
  Run Tryd.prog (.makeSlice 42 (.int .i64 n) (.int .i64 n)) w0 fun v1 w1 =>
   Ext w0 w1 ∧
   ∃ t2 : Option Addr, ∃ tl3 : Nat, ∃ tc4 : Nat, v1 = (.slice t2 tl3 tc4) ∧
   ∃ (I5 : Int → World → Prop) (M5 : Int → World → Nat), I5 0 w1 ∧
   ∀ (k6 : Int) (w7 : World), I5 k6 w7 →
    ((k6 < (ll : Int)) →
     l ≠ none ∧
     (0 : Int) ≤ k6 ∧
     (k6 : Int) < (ll : Int) ∧
     (pIdx l k6 2) ≠ none ∧
     ∃ t8 : Int, cell w7 (pIdx l k6 2) 0 = some (.int .i64 t8) ∧
     ∃ t9 : Int, cell w7 (pIdx l k6 2) 1 = some (.int .i64 t9) ∧
     ∀ b10 : Nat, w7.heap.size ≤ b10 → t2 ≠ none ∧
     (0 : Int) ≤ t8 ∧
     (t8 : Int) < (tl3 : Int) ∧
     ∃ t11 : Int, cell w7 (pIdx t2 t8 1) 0 = some (.int .u64 t11) ∧
     0 ≤ (t9 : Int) ∧
     t2 ≠ none ∧
     (0 : Int) ≤ t8 ∧
     (t8 : Int) < (tl3 : Int) ∧
     Store w7 (pIdx t2 t8 1) [(.int .u64 (iBit .or .u64 t11 (iBit .shl .u64 1 t9)))] [b10] fun w12 =>
      InR .i64 (k6 + 1) ∧
      (I5 (k6 + 1) w12 ∧ M5 (k6 + 1) w12 < M5 k6 w7)) ∧
    (((ll : Int) ≤ k6) →
     ∀ w8, Ext w7 w8 →
     Q (.slice t2 tl3 tc4) w8)

theorem ok_graph_rows (n : Int) (l : Option Addr) (ll : Nat) (lc : Nat) (w : World) (Q : Value → World → Prop) (h : wp_graph_rows n l ll lc w Q) : FnP Tryd.prog F_graph_rows #[(.int .i64 n), (.slice l ll lc)] w Q := by
  have e_ : wp_graph_rows n l ll lc w Q = Runs Tryd.prog Q ({ N := 28, wrap := [], pub := [], muts := [] } : Cfg) Tryd.f20 (Tryd.f20.body.getD .skip) [.sc (.int .i64 n), .sc (.slc l ll lc)] w := by kernel_rfl
  rw [e_] at h
  exact runs_fn h Tryd.func20 (by kernel_rfl) (fun args w => Tryd.call20 args w) (by kernel_rfl) (by kernel_rfl) rfl rfl

/-- shiftbell/graph.closed -/
def wp_graph_closed (r : Option Addr) (rl : Nat) (rc : Nat) (w : World) (Q : Value → World → Prop) : Prop :=
  ∀ w0, Ext w w0 →
  Run Tryd.prog (.append #[42, 42] 42 [(.slice none 0 0), (.slice r rl rc)]) w0 fun v1 w1 =>
   ∃ t2 : Option Addr, ∃ tl3 : Nat, ∃ tc4 : Nat, v1 = (.slice t2 tl3 tc4) ∧
   ∃ (I5 : Int → World → Prop) (M5 : Int → World → Nat), I5 0 w1 ∧
   ∀ (k6 : Int) (w7 : World), I5 k6 w7 →
    ((k6 < (tl3 : Int)) →
     ∃ (I8 : Int → World → Prop) (M8 : Int → World → Nat), I8 0 w7 ∧
     ∀ (k9 : Int) (w10 : World), I8 k9 w10 →
      ((k9 < (tl3 : Int)) →
       t2 ≠ none ∧
       (0 : Int) ≤ k9 ∧
       (k9 : Int) < (tl3 : Int) ∧
       ∃ t11 : Int, cell w10 (pIdx t2 k9 1) 0 = some (.int .u64 t11) ∧
       0 ≤ (k6 : Int) ∧
       (((iBit .and .u64 (iBit .shr .u64 t11 k6) 1) = 1) →
        t2 ≠ none ∧
        (0 : Int) ≤ k9 ∧
        (k9 : Int) < (tl3 : Int) ∧
        ∃ t12 : Int, cell w10 (pIdx t2 k9 1) 0 = some (.int .u64 t12) ∧
        t2 ≠ none ∧
        (0 : Int) ≤ k6 ∧
        (k6 : Int) < (tl3 : Int) ∧
        ∃ t13 : Int, cell w10 (pIdx t2 k6 1) 0 = some (.int .u64 t13) ∧
        t2 ≠ none ∧
        (0 : Int) ≤ k9 ∧
        (k9 : Int) < (tl3 : Int) ∧
        Store w10 (pIdx t2 k9 1) [(.int .u64 (iBit .or .u64 t12 t13))] [] fun w14 =>
         InR .i64 (k9 + 1) ∧
         (I8 (k9 + 1) w14 ∧ M8 (k9 + 1) w14 < M8 k9 w10)) ∧
       (((iBit .and .u64 (iBit .shr .u64 t11 k6) 1) ≠ 1) →
        InR .i64 (k9 + 1) ∧
        (I8 (k9 + 1) w10 ∧ M8 (k9 + 1) w10 < M8 k9 w10))) ∧
      (((tl3 : Int) ≤ k9) →
       InR .i64 (k6 + 1) ∧
       (I5 (k6 + 1) w10 ∧ M5 (k6 + 1) w10 < M5 k6 w7))) ∧
    (((tl3 : Int) ≤ k6) →
     ∀ w8, Ext w7 w8 →
     Q (.slice t2 tl3 tc4) w8)

theorem ok_graph_closed (r : Option Addr) (rl : Nat) (rc : Nat) (w : World) (Q : Value → World → Prop) (h : wp_graph_closed r rl rc w Q) : FnP Tryd.prog F_graph_closed #[(.slice r rl rc)] w Q := by
  have e_ : wp_graph_closed r rl rc w Q = Runs Tryd.prog Q ({ N := 39, wrap := [], pub := [], muts := [] } : Cfg) Tryd.f19 (Tryd.f19.body.getD .skip) [.sc (.slc r rl rc)] w := by kernel_rfl
  rw [e_] at h
  exact runs_fn h Tryd.func19 (by kernel_rfl) (fun args w => Tryd.call19 args w) (by kernel_rfl) (by kernel_rfl) rfl rfl

/-- shiftbell/graph.list -/
def wp_graph_list (s : Int) (w : World) (Q : Value → World → Prop) : Prop :=
  ∃ (I0 : Option Addr → Nat → Nat → Int → World → Prop) (M0 : Option Addr → Nat → Nat → Int → World → Nat), I0 none 0 0 s w ∧
  ∀ (out1 : Option Addr) (outl1 : Nat) (outc1 : Nat) (s2 : Int) (w3 : World), I0 out1 outl1 outc1 s2 w3 →
   ((s2 ≠ 0) →
    ∀ w4, Ext w3 w4 →
    FnP Tryd.prog F_math_bits_TrailingZeros64 #[(.int .u64 s2)] w4 fun v5 w5 =>
     Ext w4 w5 ∧
     ∃ t6 : Int, v5 = (.int .i64 t6) ∧
     ∀ w7, Ext w3 w7 →
     Run Tryd.prog (.buildSlice 26 1 [(0, (.int .i64 t6))]) w7 fun v8 w8 =>
      Ext w7 w8 ∧
      ∃ t9 : Option Addr, ∃ tl10 : Nat, ∃ tc11 : Nat, v8 = (.slice t9 tl10 tc11) ∧
      ∀ w12, Ext w8 w12 →
      Run Tryd.prog (.append #[26, 26] 26 [(.slice out1 outl1 outc1), (.slice t9 tl10 tc11)]) w12 fun v13 w13 =>
       ∃ t14 : Option Addr, ∃ tl15 : Nat, ∃ tc16 : Nat, v13 = (.slice t14 tl15 tc16) ∧
       InR .u64 (s2 - 1) ∧
       (I0 t14 tl15 tc16 (iBit .and .u64 s2 (s2 - 1)) w13 ∧ M0 t14 tl15 tc16 (iBit .and .u64 s2 (s2 - 1)) w13 < M0 out1 outl1 outc1 s2 w3)) ∧
   ((s2 = 0) →
    ∀ w4, Ext w3 w4 →
    Q (.slice out1 outl1 outc1) w4)

theorem ok_graph_list (s : Int) (w : World) (Q : Value → World → Prop) (h : wp_graph_list s w Q) : FnP Tryd.prog F_graph_list #[(.int .u64 s)] w Q := by
  have e_ : wp_graph_list s w Q = Runs Tryd.prog Q ({ N := 16, wrap := [], pub := [], muts := [] } : Cfg) Tryd.f18 (Tryd.f18.body.getD .skip) [.sc (.int .u64 s)] w := by kernel_rfl
  rw [e_] at h
  exact runs_fn h Tryd.func18 (by kernel_rfl) (fun args w => Tryd.call18 args w) (by kernel_rfl) (by kernel_rfl) rfl rfl

/-- shiftbell/graph.Reach -/
def wp_graph_Reach (n : Int) (l : Option Addr) (ll : Nat) (lc : Nat) (from_v : Int) (w : World) (Q : Value → World → Prop) : Prop :=
  ∀ w0, Ext w w0 →
  FnP Tryd.prog F_graph_Check #[(.int .i64 n), (.slice l ll lc)] w0 fun v1 w1 =>
   Ext w0 w1 ∧
   ∃ t2 : Int, v1 = (.int .i64 t2) ∧
   ((t2 ≠ 0) →
    ∀ w3, Ext w w3 →
    Q (.tuple #[(.slice none 0 0), (.int .i64 t2)]) w3) ∧
   ((t2 = 0) →
    (((from_v < 0) ∨ (n ≤ from_v)) →
     ∀ w3, Ext w w3 →
     Q (.tuple #[(.slice none 0 0), (.int .i64 4)]) w3) ∧
    (((0 ≤ from_v) ∧ (from_v < n)) →
     ∀ w3, Ext w w3 →
     FnP Tryd.prog F_graph_rows #[(.int .i64 n), (.slice l ll lc)] w3 fun v4 w4 =>
      Ext w3 w4 ∧
      ∃ t5 : Option Addr, ∃ tl6 : Nat, ∃ tc7 : Nat, v4 = (.slice t5 tl6 tc7) ∧
      ∀ w8, Ext w4 w8 →
      FnP Tryd.prog F_graph_closed #[(.slice t5 tl6 tc7)] w8 fun v9 w9 =>
       Ext w8 w9 ∧
       ∃ t10 : Option Addr, ∃ tl11 : Nat, ∃ tc12 : Nat, v9 = (.slice t10 tl11 tc12) ∧
       t10 ≠ none ∧
       (0 : Int) ≤ from_v ∧
       (from_v : Int) < (tl11 : Int) ∧
       ∃ t13 : Int, cell w9 (pIdx t10 from_v 1) 0 = some (.int .u64 t13) ∧
       ∀ w14, Ext w9 w14 →
       FnP Tryd.prog F_graph_list #[(.int .u64 t13)] w14 fun v15 w15 =>
        Ext w14 w15 ∧
        ∃ t16 : Option Addr, ∃ tl17 : Nat, ∃ tc18 : Nat, v15 = (.slice t16 tl17 tc18) ∧
        ∀ w19, Ext w15 w19 →
        Q (.tuple #[(.slice t16 tl17 tc18), (.int .i64 0)]) w19))

theorem ok_graph_Reach (n : Int) (l : Option Addr) (ll : Nat) (lc : Nat) (from_v : Int) (w : World) (Q : Value → World → Prop) (h : wp_graph_Reach n l ll lc from_v w Q) : FnP Tryd.prog F_graph_Reach #[(.int .i64 n), (.slice l ll lc), (.int .i64 from_v)] w Q := by
  have e_ : wp_graph_Reach n l ll lc from_v w Q = Runs Tryd.prog Q ({ N := 30, wrap := [], pub := [], muts := [] } : Cfg) Tryd.f8 (Tryd.f8.body.getD .skip) [.sc (.int .i64 n), .sc (.slc l ll lc), .sc (.int .i64 from_v)] w := by kernel_rfl
  rw [e_] at h
  exact runs_fn h Tryd.func8 (by kernel_rfl) (fun args w => Tryd.call8 args w) (by kernel_rfl) (by kernel_rfl) rfl rfl

/-- math/bits.TrailingZeros64 -/
def wp_math_bits_TrailingZeros64 (x : Int) (w : World) (Q : Value → World → Prop) : Prop :=
  ((x = 0) →
   ∀ w0, Ext w w0 →
   Q (.int .i64 64) w0) ∧
  ((x ≠ 0) →
   (some (⟨0, 0, none⟩ : Addr)) ≠ none ∧
   (0 : Int) ≤ (iBit .shr .u64 (IntKind.wrap .u64 ((iBit .and .u64 x (IntKind.wrap .u64 (0 - x))) * 285870213051353865)) 58) ∧
   ((iBit .shr .u64 (IntKind.wrap .u64 ((iBit .and .u64 x (IntKind.wrap .u64 (0 - x))) * 285870213051353865)) 58) : Int) < 64 ∧
   ∃ t0 : Int, cell w (pIdx (some (⟨0, 0, none⟩ : Addr)) (iBit .shr .u64 (IntKind.wrap .u64 ((iBit .and .u64 x (IntKind.wrap .u64 (0 - x))) * 285870213051353865)) 58) 1) 0 = some (.int .u8 t0) ∧
   InR .i64 t0 ∧
   ∀ w1, Ext w w1 →
   Q (.int .i64 t0) w1)

theorem ok_math_bits_TrailingZeros64 (x : Int) (w : World) (Q : Value → World → Prop) (h : wp_math_bits_TrailingZeros64 x w Q) : FnP Tryd.prog F_math_bits_TrailingZeros64 #[(.int .u64 x)] w Q := by
  have e_ : wp_math_bits_TrailingZeros64 x w Q = Runs Tryd.prog Q ({ N := 14, wrap := [7, 9], pub := [], muts := [] } : Cfg) Tryd.f26 (Tryd.f26.body.getD .skip) [.sc (.int .u64 x)] w := by kernel_rfl
  rw [e_] at h
  exact runs_fn h Tryd.func26 (by kernel_rfl) (fun args w => Tryd.call26 args w) (by kernel_rfl) (by kernel_rfl) rfl rfl

/-- shiftbell/shiftbellkeep.graphs -/
def wp_shiftbellkeep_graphs  (w : World) (Q : Value → World → Prop) : Prop :=
  ∀ w0, Ext w w0 →
  Run Tryd.prog (.buildSlice 22 1 [(0, (.agg #[(.int .i64 1), (.int .i64 0)]))]) w0 fun v1 w1 =>
   Ext w0 w1 ∧
   ∃ t2 : Option Addr, ∃ tl3 : Nat, ∃ tc4 : Nat, v1 = (.slice t2 tl3 tc4) ∧
   ∀ w5, Ext w1 w5 →
   FnP Tryd.prog F_graph_Order #[(.int .i64 2), (.slice t2 tl3 tc4)] w5 fun v6 w6 =>
    Ext w5 w6 ∧
    ∃ t7 : Option Addr, ∃ tl8 : Nat, ∃ tc9 : Nat, ∃ t10 : Int, v6 = (.tuple #[(.slice t7 tl8 tc9), (.int .i64 t10)]) ∧
    (((t10 = 0) ∧ ((tl8 : Int) = 2)) →
     t7 ≠ none) ∧
    (((t10 = 0) ∧ ((tl8 : Int) = 2)) →
     (0 : Int) ≤ 0) ∧
    (((t10 = 0) ∧ ((tl8 : Int) = 2)) →
     (0 : Int) < (tl8 : Int)) ∧
    (((t10 = 0) ∧ ((tl8 : Int) = 2)) →
     ∃ t11 : Int, cell w6 (pIdx t7 0 1) 0 = some (.int .i64 t11) ∧
     ∀ w12, Ext w6 w12 →
     Q (.bool (decide (t11 = 1))) w12) ∧
    (((t10 ≠ 0) ∨ ((tl8 : Int) ≠ 2)) →
     ∀ w11, Ext w6 w11 →
     Q (.bool false) w11)

theorem ok_shiftbellkeep_graphs  (w : World) (Q : Value → World → Prop) (h : wp_shiftbellkeep_graphs  w Q) : FnP Tryd.prog F_shiftbellkeep_graphs #[] w Q := by
  have e_ : wp_shiftbellkeep_graphs  w Q = Runs Tryd.prog Q ({ N := 22, wrap := [], pub := [], muts := [] } : Cfg) Tryd.f6 (Tryd.f6.body.getD .skip) [] w := by kernel_rfl
  rw [e_] at h
  exact runs_fn h Tryd.func6 (by kernel_rfl) (fun args w => Tryd.call6 args w) (by kernel_rfl) (by kernel_rfl) rfl rfl

/-- slices.Contains[[]int,int] -/
def wp_slices_Contains_int_int (s : Option Addr) (sl : Nat) (sc : Nat) (v : Int) (w : World) (Q : Value → World → Prop) : Prop :=
  ∀ w0, Ext w w0 →
  FnP Tryd.prog F_slices_Index_int_int #[(.slice s sl sc), (.int .i64 v)] w0 fun v1 w1 =>
   Ext w0 w1 ∧
   ∃ t2 : Int, v1 = (.int .i64 t2) ∧
   ∀ w3, Ext w w3 →
   Q (.bool (decide (0 ≤ t2))) w3

theorem ok_slices_Contains_int_int (s : Option Addr) (sl : Nat) (sc : Nat) (v : Int) (w : World) (Q : Value → World → Prop) (h : wp_slices_Contains_int_int s sl sc v w Q) : FnP Tryd.prog F_slices_Contains_int_int #[(.slice s sl sc), (.int .i64 v)] w Q := by
  have e_ : wp_slices_Contains_int_int s sl sc v w Q = Runs Tryd.prog Q ({ N := 9, wrap := [], pub := [], muts := [] } : Cfg) Tryd.f10 (Tryd.f10.body.getD .skip) [.sc (.slc s sl sc), .sc (.int .i64 v)] w := by kernel_rfl
  rw [e_] at h
  exact runs_fn h Tryd.func10 (by kernel_rfl) (fun args w => Tryd.call10 args w) (by kernel_rfl) (by kernel_rfl) rfl rfl

/-- slices.Index[[]int,int] -/
def wp_slices_Index_int_int (s : Option Addr) (sl : Nat) (sc : Nat) (v : Int) (w : World) (Q : Value → World → Prop) : Prop :=
  ∃ (I0 : Int → World → Prop) (M0 : Int → World → Nat), I0 0 w ∧
  ∀ (k1 : Int) (w2 : World), I0 k1 w2 →
   ((k1 < (sl : Int)) →
    s ≠ none ∧
    (0 : Int) ≤ k1 ∧
    (k1 : Int) < (sl : Int) ∧
    ∃ t3 : Int, cell w2 (pIdx s k1 1) 0 = some (.int .i64 t3) ∧
    ((v = t3) →
     ∀ w4, Ext w2 w4 →
     Q (.int .i64 k1) w4) ∧
    ((v ≠ t3) →
     InR .i64 (k1 + 1) ∧
     (I0 (k1 + 1) w2 ∧ M0 (k1 + 1) w2 < M0 k1 w2))) ∧
   (((sl : Int) ≤ k1) →
    ∀ w3, Ext w2 w3 →
    Q (.int .i64 (-1)) w3)

theorem ok_slices_Index_int_int (s : Option Addr) (sl : Nat) (sc : Nat) (v : Int) (w : World) (Q : Value → World → Prop) (h : wp_slices_Index_int_int s sl sc v w Q) : FnP Tryd.prog F_slices_Index_int_int #[(.slice s sl sc), (.int .i64 v)] w Q := by
  have e_ : wp_slices_Index_int_int s sl sc v w Q = Runs Tryd.prog Q ({ N := 19, wrap := [], pub := [], muts := [] } : Cfg) Tryd.f23 (Tryd.f23.body.getD .skip) [.sc (.slc s sl sc), .sc (.int .i64 v)] w := by kernel_rfl
  rw [e_] at h
  exact runs_fn h Tryd.func23 (by kernel_rfl) (fun args w => Tryd.call23 args w) (by kernel_rfl) (by kernel_rfl) rfl rfl

/-- shiftbell/shiftbellkeep.GraphTurn -/
def wp_shiftbellkeep_GraphTurn (n : Int) (l : Option Addr) (ll : Nat) (lc : Nat) (i : Int) (k : Int) (w : World) (Q : Value → World → Prop) : Prop :=
  ∀ w0, Ext w w0 →
  FnP Tryd.prog F_shiftbellkeep_graphs #[] w0 fun v1 w1 =>
   Ext w0 w1 ∧
   ∃ t2 : Bool, v1 = (.bool t2) ∧
   ((t2 = false) →
    ∀ w3, Ext w w3 →
    Q (.bool false) w3) ∧
   ((t2 = true) →
    ∃ (I3 : Option Addr → Nat → Nat → Int → World → Prop) (M3 : Option Addr → Nat → Nat → Int → World → Nat), I3 none 0 0 0 w ∧
    ∀ (m4 : Option Addr) (ml4 : Nat) (mc4 : Nat) (k5 : Int) (w6 : World), I3 m4 ml4 mc4 k5 w6 →
     ((k5 < (ll : Int)) →
      l ≠ none ∧
      (0 : Int) ≤ k5 ∧
      (k5 : Int) < (ll : Int) ∧
      (pIdx l k5 2) ≠ none ∧
      ∃ t7 : Int, cell w6 (pIdx l k5 2) 0 = some (.int .i64 t7) ∧
      ∃ t8 : Int, cell w6 (pIdx l k5 2) 1 = some (.int .i64 t8) ∧
      ∀ b9 : Nat, w6.heap.size ≤ b9 → ∀ w10, ExtB [] [b9] w6 w10 →
      Run Tryd.prog (.buildSlice 22 1 [(0, (.agg #[(.int .i64 t8), (.int .i64 t7)]))]) w10 fun v11 w11 =>
       Ext w10 w11 ∧
       ∃ t12 : Option Addr, ∃ tl13 : Nat, ∃ tc14 : Nat, v11 = (.slice t12 tl13 tc14) ∧
       ∀ w15, ExtB [] [b9] w11 w15 →
       Run Tryd.prog (.append #[22, 22] 22 [(.slice m4 ml4 mc4), (.slice t12 tl13 tc14)]) w15 fun v16 w16 =>
        Kept [b9] w15 w16 ∧
        ∃ t17 : Option Addr, ∃ tl18 : Nat, ∃ tc19 : Nat, v16 = (.slice t17 tl18 tc19) ∧
        InR .i64 (k5 + 1) ∧
        (I3 t17 tl18 tc19 (k5 + 1) w16 ∧ M3 t17 tl18 tc19 (k5 + 1) w16 < M3 m4 ml4 mc4 k5 w6)) ∧
     (((ll : Int) ≤ k5) →
      ∀ w7, Ext w6 w7 →
      FnP Tryd.prog F_graph_Order #[(.int .i64 n), (.slice l ll lc)] w7 fun v8 w8 =>
       Ext w7 w8 ∧
       ∃ t9 : Option Addr, ∃ tl10 : Nat, ∃ tc11 : Nat, ∃ t12 : Int, v8 = (.tuple #[(.slice t9 tl10 tc11), (.int .i64 t12)]) ∧
       ∀ w13, Ext w8 w13 →
       FnP Tryd.prog F_graph_Order #[(.int .i64 n), (.slice m4 ml4 mc4)] w13 fun v14 w14 =>
        Ext w13 w14 ∧
        ∃ t15 : Option Addr, ∃ tl16 : Nat, ∃ tc17 : Nat, ∃ t18 : Int, v14 = (.tuple #[(.slice t15 tl16 tc17), (.int .i64 t18)]) ∧
        ∀ w19, Ext w14 w19 →
        FnP Tryd.prog F_graph_Reach #[(.int .i64 n), (.slice l ll lc), (.int .i64 i)] w19 fun v20 w20 =>
         Ext w19 w20 ∧
         ∃ t21 : Option Addr, ∃ tl22 : Nat, ∃ tc23 : Nat, ∃ t24 : Int, v20 = (.tuple #[(.slice t21 tl22 tc23), (.int .i64 t24)]) ∧
         ∀ w25, Ext w20 w25 →
         FnP Tryd.prog F_graph_Reach #[(.int .i64 n), (.slice m4 ml4 mc4), (.int .i64 k)] w25 fun v26 w26 =>
          Ext w25 w26 ∧
          ∃ t27 : Option Addr, ∃ tl28 : Nat, ∃ tc29 : Nat, ∃ t30 : Int, v26 = (.tuple #[(.slice t27 tl28 tc29), (.int .i64 t30)]) ∧
          ((t12 = t18) →
           ∀ w31, Ext w26 w31 →
           Run Tryd.prog (.buildSlice 47 2 [(0, (.int .i64 t24)), (1, (.int .i64 t30))]) w31 fun v32 w32 =>
            Ext w31 w32 ∧
            ∃ t33 : Option Addr, ∃ tl34 : Nat, ∃ tc35 : Nat, v32 = (.slice t33 tl34 tc35) ∧
            ∀ w36, Ext w32 w36 →
            FnP Tryd.prog F_shiftbellkeep_good #[(.slice t33 tl34 tc35)] w36 fun v37 w37 =>
             Ext w36 w37 ∧
             ∃ t38 : Bool, v37 = (.bool t38) ∧
             ((t38 = false) →
              ∀ w39, Ext w32 w39 →
              Q (.bool true) w39) ∧
             ((t38 = true) →
              ∀ w39, Ext w32 w39 →
              FnP Tryd.prog F_slices_Contains_int_int #[(.slice t21 tl22 tc23), (.int .i64 k)] w39 fun v40 w40 =>
               Ext w39 w40 ∧
               ∃ t41 : Bool, v40 = (.bool t41) ∧
               ∀ w42, Ext w32 w42 →
               FnP Tryd.prog F_slices_Contains_int_int #[(.slice t27 tl28 tc29), (.int .i64 i)] w42 fun v43 w43 =>
                Ext w42 w43 ∧
                ∃ t44 : Bool, v43 = (.bool t44) ∧
                ∀ w45, Ext w32 w45 →
                Q (.bool ((t41 && t44) || ((!t41) && (!t44)))) w45)) ∧
          ((t12 ≠ t18) →
           ∀ w31, Ext w26 w31 →
           Q (.bool false) w31)))

theorem ok_shiftbellkeep_GraphTurn (n : Int) (l : Option Addr) (ll : Nat) (lc : Nat) (i : Int) (k : Int) (w : World) (Q : Value → World → Prop) (h : wp_shiftbellkeep_GraphTurn n l ll lc i k w Q) : FnP Tryd.prog F_shiftbellkeep_GraphTurn #[(.int .i64 n), (.slice l ll lc), (.int .i64 i), (.int .i64 k)] w Q := by
  have e_ : wp_shiftbellkeep_GraphTurn n l ll lc i k w Q = Runs Tryd.prog Q ({ N := 82, wrap := [], pub := [], muts := [] } : Cfg) Tryd.f3 (Tryd.f3.body.getD .skip) [.sc (.int .i64 n), .sc (.slc l ll lc), .sc (.int .i64 i), .sc (.int .i64 k)] w := by kernel_rfl
  rw [e_] at h
  exact runs_fn h Tryd.func3 (by kernel_rfl) (fun args w => Tryd.call3 args w) (by kernel_rfl) (by kernel_rfl) rfl rfl

theorem open_shiftbellkeep_GraphTurn (W : World) (R : Array Value → Prop) (h : ∀ n : Int, InR .i64 n → ∀ l : Option Addr, ∀ ll : Nat, ∀ lc : Nat, SlcArg Tryd.prog W 25 l ll lc → ∀ i : Int, InR .i64 i → ∀ k : Int, InR .i64 k → R #[(.int .i64 n), (.slice l ll lc), (.int .i64 i), (.int .i64 k)]) (args : Array Value) (hg : GoodAll Tryd.prog W Tryd.f3.params.toList args.toList) : R args := by
  have e_ : (ArgsAll Tryd.prog W Tryd.f3.params.toList fun l => R l.toArray) = (∀ n : Int, InR .i64 n → ∀ l : Option Addr, ∀ ll : Nat, ∀ lc : Nat, SlcArg Tryd.prog W 25 l ll lc → ∀ i : Int, InR .i64 i → ∀ k : Int, InR .i64 k → R #[(.int .i64 n), (.slice l ll lc), (.int .i64 i), (.int .i64 k)]) := by kernel_rfl
  exact args_open (by rw [e_]; exact h) args hg
-- wit 3 #[(.int .i64 0), (.slice none 0 0), (.int .i64 0), (.int .i64 0)]

end Go.Proofs.YtopgihimdjnaeaaDoor
