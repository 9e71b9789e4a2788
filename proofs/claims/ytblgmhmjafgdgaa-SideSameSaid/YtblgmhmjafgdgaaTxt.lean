/- The texts of this seat's functions: what each computes, as its symbolic run says it. -/
import Derived.Test.YtblgmhmjafgdgaaRows
import Derived.Test.YtblgmhmjafgdgaaSxD
import Derived.Test.YtblgmhmjafgdgaaSxN
set_option linter.unusedVariables false
set_option linter.unusedSimpArgs false
set_option maxRecDepth 100000
namespace Go.Proofs.Ytblgmhmjafgdgaa
open Go.Sx Go.RowKit

abbrev F_slices_Equal_int64_int64 : FuncId := 7
abbrev F_slices_Equal_int_int : FuncId := 8
abbrev F_side_Spans_1 : FuncId := 10
abbrev F_path_Times : FuncId := 11
abbrev F_side_Bins_1 : FuncId := 13
abbrev F_pack_Down : FuncId := 14
abbrev F_path_check : FuncId := 20
abbrev F_pack_Check : FuncId := 22
abbrev F_pack_numbers : FuncId := 23
abbrev F_slices_SortStableFunc_int_int : FuncId := 24
abbrev F_pack_Down_1 : FuncId := 25
abbrev F_cmp_Compare_int64 : FuncId := 26
abbrev F_pack_first : FuncId := 27
abbrev F_graph_Check : FuncId := 47
abbrev F_graph_Order : FuncId := 48
abbrev F_slices_stableCmpFunc_int : FuncId := 49
abbrev F_cmp_isNaN_int64 : FuncId := 50
abbrev F_slices_insertionSortCmpFunc_int : FuncId := 56
abbrev F_slices_symMergeCmpFunc_int : FuncId := 57
abbrev F_slices_rotateCmpFunc_int : FuncId := 58
abbrev F_slices_swapRangeCmpFunc_int : FuncId := 59
abbrev T__0 : TypeId := 0
abbrev T_int64 : TypeId := 2
abbrev T_int : TypeId := 3
abbrev T_bool : TypeId := 4
abbrev T_uint8 : TypeId := 5
abbrev T_string : TypeId := 9
abbrev T_uintptr : TypeId := 12
abbrev T_int32 : TypeId := 21
abbrev T_sl_Net : TypeId := 22
abbrev T_sl_sl_int64 : TypeId := 23
abbrev T_sl_int64 : TypeId := 25
abbrev T_Errno : TypeId := 26
abbrev T_sl_int64_Errno : TypeId := 27
abbrev T_sl_int : TypeId := 29
abbrev T_sl_int_Errno : TypeId := 30
abbrev T_sl_Edge : TypeId := 35
abbrev T_Net : TypeId := 37
abbrev T_Plan : TypeId := 40
abbrev T_Plan_Errno : TypeId := 41
abbrev T_sl_int_int_Errno : TypeId := 45
abbrev T_atomic_noCopy : TypeId := 49
abbrev T_atomic_align64 : TypeId := 50
abbrev T_atomic_Int64 : TypeId := 52
abbrev T_sync_noCopy : TypeId := 53
abbrev T_uint64 : TypeId := 54
abbrev T_atomic_Uint64 : TypeId := 56
abbrev T_uint32 : TypeId := 57
abbrev T_sync_WaitGroup : TypeId := 59
abbrev T_Edge : TypeId := 64
abbrev T_sl_int_int : TypeId := 70
abbrev T_ptr_sync_WaitGroup : TypeId := 72
abbrev T_unsafe_Pointer : TypeId := 74
abbrev T_synctest_Association : TypeId := 75
abbrev T_uint : TypeId := 79
abbrev T_ptr_uint32 : TypeId := 80
abbrev T_ptr_atomic_Int64 : TypeId := 85
abbrev T_ptr_int64 : TypeId := 87
abbrev T_ptr_atomic_Uint64 : TypeId := 95
abbrev T_ptr_uint64 : TypeId := 97
abbrev T_sl_uint64 : TypeId := 101
abbrev T_ptr_uint8 : TypeId := 114
theorem elem_sl_Net : slEl Try.prog 22 = some (37, 3, 56, (.agg #[(.int .i64 0), (.slice none 0 0), (.slice none 0 0)])) := by kernel_rfl
theorem elem_sl_sl_int64 : slEl Try.prog 23 = some (25, 1, 24, (.slice none 0 0)) := by kernel_rfl
theorem elem_sl_int64 : slEl Try.prog 25 = some (2, 1, 8, (.int .i64 0)) := by kernel_rfl
theorem elem_sl_int : slEl Try.prog 29 = some (3, 1, 8, (.int .i64 0)) := by kernel_rfl
theorem elem_sl_Edge : slEl Try.prog 35 = some (64, 2, 16, (.agg #[(.int .i64 0), (.int .i64 0)])) := by kernel_rfl
theorem elem_sl_uint64 : slEl Try.prog 101 = some (54, 1, 8, (.int .u64 0)) := by kernel_rfl

/-- shiftbell/graph.Check -/
def wp_graph_Check (n : Int) (l : Option Addr) (ll : Nat) (lc : Nat) (w : World) (Q : Value → World → Prop) : Prop :=
  (((n < 0) ∨ (60 < n)) →
   ∀ w0, Ext w w0 →
   Q (.int .i64 1) w0) ∧
  (((0 ≤ n) ∧ (n ≤ 60)) →
   ((400 < (ll : Int)) →
    ∀ w0, Ext w w0 →
    Q (.int .i64 2) w0) ∧
   (((ll : Int) ≤ 400) →
    ∃ (I0 : Int → World → Prop) (M0 : Int → World → Nat), I0 0 w ∧
    ∀ (k1 : Int) (w2 : World), I0 k1 w2 →
     (((k1 < (ll : Int)) →
      l ≠ none ∧
      (0 : Int) ≤ k1 ∧
      (k1 : Int) < (ll : Int) ∧
      (pIdx l k1 2) ≠ none ∧
      ∃ t3 : Int, cell w2 (pIdx l k1 2) 0 = some (.int .i64 t3) ∧
      ∃ t4 : Int, cell w2 (pIdx l k1 2) 1 = some (.int .i64 t4) ∧
      ∀ b5 : Nat, w2.heap.size ≤ b5 → (((((t3 < 0) ∨ (n ≤ t3)) ∨ (t4 < 0)) ∨ (n ≤ t4)) →
       ∀ w6, Ext w2 w6 →
       Q (.int .i64 4) w6) ∧
      (((((0 ≤ t3) ∧ (t3 < n)) ∧ (0 ≤ t4)) ∧ (t4 < n)) →
       InR .i64 (k1 + 1) ∧
       (I0 (k1 + 1) w2 ∧ M0 (k1 + 1) w2 < M0 k1 w2)))) ∧
     (((ll : Int) ≤ k1) →
      ∀ w3, Ext w2 w3 →
      Q (.int .i64 0) w3)))

theorem ok_graph_Check (n : Int) (l : Option Addr) (ll : Nat) (lc : Nat) (w : World) (Q : Value → World → Prop) (h : wp_graph_Check n l ll lc w Q) : FnP Try.prog F_graph_Check #[(.int .i64 n), (.slice l ll lc)] w Q := by
  have e_ : wp_graph_Check n l ll lc w Q = Runs Try.prog Q ({ N := 45, wrap := [], pub := [], muts := [], joins := [] } : Cfg) Try.f47 (Try.f47.body.getD .skip) [.sc (.int .i64 n), .sc (.slc l ll lc)] w := by kernel_rfl
  rw [e_] at h
  exact runs_fn h Try.func47 (by kernel_rfl) (fun args w => Try.call47 args w) (by kernel_rfl) (by kernel_rfl) rfl rfl

/-- shiftbell/graph.Order -/
def wp_graph_Order (n : Int) (l : Option Addr) (ll : Nat) (lc : Nat) (w : World) (Q : Value → World → Prop) : Prop :=
  ∀ w0, Ext w w0 →
  FnP Try.prog F_graph_Check #[(.int .i64 n), (.slice l ll lc)] w0 fun v1 w1 =>
   Ext w0 w1 ∧
   ∃ t2 : Int, v1 = (.int .i64 t2) ∧
   ((t2 ≠ 0) →
    ∀ w3, Ext w w3 →
    Q (.tuple #[(.slice none 0 0), (.int .i64 t2)]) w3) ∧
   ((t2 = 0) →
    ∀ w3, Ext w w3 →
    Run Try.prog (.makeSlice 101 (.int .i64 n) (.int .i64 n)) w3 fun v4 w4 =>
     Ext w3 w4 ∧
     ∃ t5 : Option Addr, ∃ tl6 : Nat, ∃ tc7 : Nat, v4 = (.slice t5 tl6 tc7) ∧
     ∃ (I8 : Int → World → Prop) (M8 : Int → World → Nat), I8 0 w4 ∧
     ∀ (k9 : Int) (w10 : World), I8 k9 w10 →
      (((k9 < (ll : Int)) →
       l ≠ none ∧
       (0 : Int) ≤ k9 ∧
       (k9 : Int) < (ll : Int) ∧
       (pIdx l k9 2) ≠ none ∧
       ∃ t11 : Int, cell w10 (pIdx l k9 2) 0 = some (.int .i64 t11) ∧
       ∃ t12 : Int, cell w10 (pIdx l k9 2) 1 = some (.int .i64 t12) ∧
       ∀ b13 : Nat, w10.heap.size ≤ b13 → t5 ≠ none ∧
       (0 : Int) ≤ t12 ∧
       (t12 : Int) < (tl6 : Int) ∧
       ∃ t14 : Int, cell w10 (pIdx t5 t12 1) 0 = some (.int .u64 t14) ∧
       0 ≤ (t11 : Int) ∧
       t5 ≠ none ∧
       (0 : Int) ≤ t12 ∧
       (t12 : Int) < (tl6 : Int) ∧
       Store w10 (pIdx t5 t12 1) [(.int .u64 (iBit .or .u64 t14 (iBit .shl .u64 1 t11)))] [b13] fun w15 =>
        InR .i64 (k9 + 1) ∧
        (I8 (k9 + 1) w15 ∧ M8 (k9 + 1) w15 < M8 k9 w10))) ∧
      (((ll : Int) ≤ k9) →
       0 ≤ (n : Int) ∧
       InR .u64 ((iBit .shl .u64 1 n) - 1) ∧
       ∃ (I11 : Option Addr → Nat → Nat → Int → World → Prop) (M11 : Option Addr → Nat → Nat → Int → World → Nat), I11 none 0 0 ((iBit .shl .u64 1 n) - 1) w10 ∧
       ∀ (out12 : Option Addr) (outl12 : Nat) (outc12 : Nat) (left13 : Int) (w14 : World), I11 out12 outl12 outc12 left13 w14 →
        (((left13 ≠ 0) →
         ∃ (I15 : Int → World → Prop) (M15 : Int → World → Nat), I15 0 w14 ∧
         ∀ (i16 : Int) (w17 : World), I15 i16 w17 →
          ((i16 < n) →
           0 ≤ (i16 : Int)) ∧
          ((i16 < n) →
           (((iBit .and .u64 (iBit .shr .u64 left13 i16) 1) ≠ 0) →
            t5 ≠ none)) ∧
          ((i16 < n) →
           (((iBit .and .u64 (iBit .shr .u64 left13 i16) 1) ≠ 0) →
            (0 : Int) ≤ i16)) ∧
          ((i16 < n) →
           (((iBit .and .u64 (iBit .shr .u64 left13 i16) 1) ≠ 0) →
            (i16 : Int) < (tl6 : Int))) ∧
          (((i16 < n) →
           ((((iBit .and .u64 (iBit .shr .u64 left13 i16) 1) = 0) →
            InR .i64 (i16 + 1) ∧
            (I15 (i16 + 1) w17 ∧ M15 (i16 + 1) w17 < M15 i16 w17))) ∧
           (((iBit .and .u64 (iBit .shr .u64 left13 i16) 1) ≠ 0) →
            ∃ t18 : Int, cell w17 (pIdx t5 i16 1) 0 = some (.int .u64 t18) ∧
            ((((iBit .and .u64 t18 left13) ≠ 0) →
             InR .i64 (i16 + 1) ∧
             (I15 (i16 + 1) w17 ∧ M15 (i16 + 1) w17 < M15 i16 w17))) ∧
            (((iBit .and .u64 t18 left13) = 0) →
             ((i16 = n) →
              ∀ w19, Ext w17 w19 →
              Q (.tuple #[(.slice none 0 0), (.int .i64 8)]) w19) ∧
             ((i16 ≠ n) →
              ∀ w19, Ext w17 w19 →
              Run Try.prog (.buildSlice 29 1 [(0, (.int .i64 i16))]) w19 fun v20 w20 =>
               Ext w19 w20 ∧
               ∃ t21 : Option Addr, ∃ tl22 : Nat, ∃ tc23 : Nat, v20 = (.slice t21 tl22 tc23) ∧
               ∀ w24, Ext w20 w24 →
               Run Try.prog (.append #[29, 29] 29 [(.slice out12 outl12 outc12), (.slice t21 tl22 tc23)]) w24 fun v25 w25 =>
                ∃ t26 : Option Addr, ∃ tl27 : Nat, ∃ tc28 : Nat, v25 = (.slice t26 tl27 tc28) ∧
                0 ≤ (i16 : Int) ∧
                (I11 t26 tl27 tc28 (iBit .andNot .u64 left13 (iBit .shl .u64 1 i16)) w25 ∧ M11 t26 tl27 tc28 (iBit .andNot .u64 left13 (iBit .shl .u64 1 i16)) w25 < M11 out12 outl12 outc12 left13 w14)))))) ∧
          ((n ≤ i16) →
           ((i16 = n) →
            ∀ w18, Ext w17 w18 →
            Q (.tuple #[(.slice none 0 0), (.int .i64 8)]) w18) ∧
           ((i16 ≠ n) →
            ∀ w18, Ext w17 w18 →
            Run Try.prog (.buildSlice 29 1 [(0, (.int .i64 i16))]) w18 fun v19 w19 =>
             Ext w18 w19 ∧
             ∃ t20 : Option Addr, ∃ tl21 : Nat, ∃ tc22 : Nat, v19 = (.slice t20 tl21 tc22) ∧
             ∀ w23, Ext w19 w23 →
             Run Try.prog (.append #[29, 29] 29 [(.slice out12 outl12 outc12), (.slice t20 tl21 tc22)]) w23 fun v24 w24 =>
              ∃ t25 : Option Addr, ∃ tl26 : Nat, ∃ tc27 : Nat, v24 = (.slice t25 tl26 tc27) ∧
              0 ≤ (i16 : Int) ∧
              (I11 t25 tl26 tc27 (iBit .andNot .u64 left13 (iBit .shl .u64 1 i16)) w24 ∧ M11 t25 tl26 tc27 (iBit .andNot .u64 left13 (iBit .shl .u64 1 i16)) w24 < M11 out12 outl12 outc12 left13 w14))))) ∧
        ((left13 = 0) →
         ∀ w15, Ext w14 w15 →
         Q (.tuple #[(.slice out12 outl12 outc12), (.int .i64 0)]) w15)))

theorem ok_graph_Order (n : Int) (l : Option Addr) (ll : Nat) (lc : Nat) (w : World) (Q : Value → World → Prop) (h : wp_graph_Order n l ll lc w Q) : FnP Try.prog F_graph_Order #[(.int .i64 n), (.slice l ll lc)] w Q := by
  have e_ : wp_graph_Order n l ll lc w Q = Runs Try.prog Q ({ N := 76, wrap := [], pub := [], muts := [], joins := [] } : Cfg) Try.f48 (Try.f48.body.getD .skip) [.sc (.int .i64 n), .sc (.slc l ll lc)] w := by kernel_rfl
  rw [e_] at h
  exact runs_fn h Try.func48 (by kernel_rfl) (fun args w => Try.call48 args w) (by kernel_rfl) (by kernel_rfl) rfl rfl

/-- shiftbell/path.check -/
def wp_path_check (n : Int) (l : Option Addr) (ll : Nat) (lc : Nat) (d : Option Addr) (dl : Nat) (dc : Nat) (w : World) (Q : Value → World → Prop) : Prop :=
  ∀ w0, Ext w w0 →
  FnP Try.prog F_graph_Check #[(.int .i64 n), (.slice l ll lc)] w0 fun v1 w1 =>
   Ext w0 w1 ∧
   ∃ t2 : Int, v1 = (.int .i64 t2) ∧
   ((t2 ≠ 0) →
    ∀ w3, Ext w w3 →
    Q (.tuple #[(.slice none 0 0), (.int .i64 t2)]) w3) ∧
   ((t2 = 0) →
    (((dl : Int) ≠ n) →
     ∀ w3, Ext w w3 →
     Q (.tuple #[(.slice none 0 0), (.int .i64 1)]) w3) ∧
    (((dl : Int) = n) →
     ∃ (I3 : Int → World → Prop) (M3 : Int → World → Nat), I3 0 w ∧
     ∀ (k4 : Int) (w5 : World), I3 k4 w5 →
      (((k4 < (dl : Int)) →
       d ≠ none ∧
       (0 : Int) ≤ k4 ∧
       (k4 : Int) < (dl : Int) ∧
       ∃ t6 : Int, cell w5 (pIdx d k4 1) 0 = some (.int .i64 t6) ∧
       (((t6 < 0) ∨ (1000000000 < t6)) →
        ∀ w7, Ext w5 w7 →
        Q (.tuple #[(.slice none 0 0), (.int .i64 1)]) w7) ∧
       (((0 ≤ t6) ∧ (t6 ≤ 1000000000)) →
        InR .i64 (k4 + 1) ∧
        (I3 (k4 + 1) w5 ∧ M3 (k4 + 1) w5 < M3 k4 w5)))) ∧
      (((dl : Int) ≤ k4) →
       ∀ w6, Ext w5 w6 →
       FnP Try.prog F_graph_Order #[(.int .i64 n), (.slice l ll lc)] w6 fun v7 w7 =>
        Ext w6 w7 ∧
        ∃ t8 : Option Addr, ∃ tl9 : Nat, ∃ tc10 : Nat, ∃ t11 : Int, v7 = (.tuple #[(.slice t8 tl9 tc10), (.int .i64 t11)]) ∧
        ∀ w12, Ext w7 w12 →
        Q (.tuple #[(.slice t8 tl9 tc10), (.int .i64 t11)]) w12)))

theorem ok_path_check (n : Int) (l : Option Addr) (ll : Nat) (lc : Nat) (d : Option Addr) (dl : Nat) (dc : Nat) (w : World) (Q : Value → World → Prop) (h : wp_path_check n l ll lc d dl dc w Q) : FnP Try.prog F_path_check #[(.int .i64 n), (.slice l ll lc), (.slice d dl dc)] w Q := by
  have e_ : wp_path_check n l ll lc d dl dc w Q = Runs Try.prog Q ({ N := 39, wrap := [], pub := [], muts := [], joins := [] } : Cfg) Try.f20 (Try.f20.body.getD .skip) [.sc (.int .i64 n), .sc (.slc l ll lc), .sc (.slc d dl dc)] w := by kernel_rfl
  rw [e_] at h
  exact runs_fn h Try.func20 (by kernel_rfl) (fun args w => Try.call20 args w) (by kernel_rfl) (by kernel_rfl) rfl rfl

/-- shiftbell/path.Times -/
def wp_path_Times (n : Int) (l : Option Addr) (ll : Nat) (lc : Nat) (d : Option Addr) (dl : Nat) (dc : Nat) (w : World) (Q : Value → World → Prop) : Prop :=
  ∀ b0 : Nat, w.heap.size ≤ b0 → ∀ w1, ExtB [] [b0] w w1 →
  FnP Try.prog F_path_check #[(.int .i64 n), (.slice l ll lc), (.slice d dl dc)] w1 fun v2 w2 =>
   Ext w1 w2 ∧
   ∃ t3 : Option Addr, ∃ tl4 : Nat, ∃ tc5 : Nat, ∃ t6 : Int, v2 = (.tuple #[(.slice t3 tl4 tc5), (.int .i64 t6)]) ∧
   ((t6 ≠ 0) →
    ∀ w7, ExtB [b0] [] w2 w7 →
    Q (.tuple #[(.agg #[(.slice none 0 0), (.slice none 0 0), (.int .i64 0)]), (.int .i64 t6)]) w7) ∧
   ((t6 = 0) →
    ∃ (J7 : Option Addr → World → Prop), ((∀ w10, ExtB [] [b0] w2 w10 →
     Run Try.prog (.makeSlice 25 (.int .i64 n) (.int .i64 n)) w10 fun v11 w11 =>
      Ext w10 w11 ∧
      ∃ t12 : Option Addr, ∃ tl13 : Nat, ∃ tc14 : Nat, v11 = (.slice t12 tl13 tc14) ∧
      (∀ w15, ExtB [] [b0] w11 w15 →
      Run Try.prog (.makeSlice 25 (.int .i64 n) (.int .i64 n)) w15 fun v16 w16 =>
       Ext w15 w16 ∧
       ∃ t17 : Option Addr, ∃ tl18 : Nat, ∃ tc19 : Nat, v16 = (.slice t17 tl18 tc19) ∧
       ∀ w20, ExtB [] [b0] w16 w20 →
       New w20 40 [(.slice none 0 0), (.slice none 0 0), (.int .i64 0)] fun p21 w21 =>
        Store w21 p21 [(.slice t12 tl13 tc14), (.slice t17 tl18 tc19), (.int .i64 0)] [b0] fun w22 =>
         J7 p21 w22) ∧
      ∀ w15, ExtB [] [b0] w11 w15 →
      New w15 40 [(.slice none 0 0), (.slice none 0 0), (.int .i64 0)] fun p16 w16 =>
       ∀ w17, ExtB [] [b0] w16 w17 →
       Run Try.prog (.makeSlice 25 (.int .i64 n) (.int .i64 n)) w17 fun v18 w18 =>
        Ext w17 w18 ∧
        ∃ t19 : Option Addr, ∃ tl20 : Nat, ∃ tc21 : Nat, v18 = (.slice t19 tl20 tc21) ∧
        Store w18 p16 [(.slice t12 tl13 tc14), (.slice t19 tl20 tc21), (.int .i64 0)] [b0] fun w22 =>
         J7 p16 w22) ∧
     (∀ w10, ExtB [] [b0] w2 w10 →
     Run Try.prog (.makeSlice 25 (.int .i64 n) (.int .i64 n)) w10 fun v11 w11 =>
      Ext w10 w11 ∧
      ∃ t12 : Option Addr, ∃ tl13 : Nat, ∃ tc14 : Nat, v11 = (.slice t12 tl13 tc14) ∧
      (∀ w15, ExtB [] [b0] w11 w15 →
      Run Try.prog (.makeSlice 25 (.int .i64 n) (.int .i64 n)) w15 fun v16 w16 =>
       Ext w15 w16 ∧
       ∃ t17 : Option Addr, ∃ tl18 : Nat, ∃ tc19 : Nat, v16 = (.slice t17 tl18 tc19) ∧
       ∀ w20, ExtB [] [b0] w16 w20 →
       New w20 40 [(.slice none 0 0), (.slice none 0 0), (.int .i64 0)] fun p21 w21 =>
        Store w21 p21 [(.slice t17 tl18 tc19), (.slice t12 tl13 tc14), (.int .i64 0)] [b0] fun w22 =>
         J7 p21 w22) ∧
      ∀ w15, ExtB [] [b0] w11 w15 →
      New w15 40 [(.slice none 0 0), (.slice none 0 0), (.int .i64 0)] fun p16 w16 =>
       ∀ w17, ExtB [] [b0] w16 w17 →
       Run Try.prog (.makeSlice 25 (.int .i64 n) (.int .i64 n)) w17 fun v18 w18 =>
        Ext w17 w18 ∧
        ∃ t19 : Option Addr, ∃ tl20 : Nat, ∃ tc21 : Nat, v18 = (.slice t19 tl20 tc21) ∧
        Store w18 p16 [(.slice t19 tl20 tc21), (.slice t12 tl13 tc14), (.int .i64 0)] [b0] fun w22 =>
         J7 p16 w22) ∧
     ∀ w10, ExtB [] [b0] w2 w10 →
     New w10 40 [(.slice none 0 0), (.slice none 0 0), (.int .i64 0)] fun p11 w11 =>
      (∀ w12, ExtB [] [b0] w11 w12 →
      Run Try.prog (.makeSlice 25 (.int .i64 n) (.int .i64 n)) w12 fun v13 w13 =>
       Ext w12 w13 ∧
       ∃ t14 : Option Addr, ∃ tl15 : Nat, ∃ tc16 : Nat, v13 = (.slice t14 tl15 tc16) ∧
       ∀ w17, ExtB [] [b0] w13 w17 →
       Run Try.prog (.makeSlice 25 (.int .i64 n) (.int .i64 n)) w17 fun v18 w18 =>
        Ext w17 w18 ∧
        ∃ t19 : Option Addr, ∃ tl20 : Nat, ∃ tc21 : Nat, v18 = (.slice t19 tl20 tc21) ∧
        Store w18 p11 [(.slice t14 tl15 tc16), (.slice t19 tl20 tc21), (.int .i64 0)] [b0] fun w22 =>
         J7 p11 w22) ∧
      ∀ w12, ExtB [] [b0] w11 w12 →
      Run Try.prog (.makeSlice 25 (.int .i64 n) (.int .i64 n)) w12 fun v13 w13 =>
       Ext w12 w13 ∧
       ∃ t14 : Option Addr, ∃ tl15 : Nat, ∃ tc16 : Nat, v13 = (.slice t14 tl15 tc16) ∧
       ∀ w17, ExtB [] [b0] w13 w17 →
       Run Try.prog (.makeSlice 25 (.int .i64 n) (.int .i64 n)) w17 fun v18 w18 =>
        Ext w17 w18 ∧
        ∃ t19 : Option Addr, ∃ tl20 : Nat, ∃ tc21 : Nat, v18 = (.slice t19 tl20 tc21) ∧
        Store w18 p11 [(.slice t19 tl20 tc21), (.slice t14 tl15 tc16), (.int .i64 0)] [b0] fun w22 =>
         J7 p11 w22) ∧
    ∀ (p8 : Option Addr) (w9 : World), J7 p8 w9 →
     ∃ (I10 : Int → World → Prop) (M10 : Int → World → Nat), I10 0 w9 ∧
     ∀ (k11 : Int) (w12 : World), I10 k11 w12 →
      (((k11 < (tl4 : Int)) →
       t3 ≠ none ∧
       (0 : Int) ≤ k11 ∧
       (k11 : Int) < (tl4 : Int) ∧
       ∃ t13 : Int, cell w12 (pIdx t3 k11 1) 0 = some (.int .i64 t13) ∧
       ∃ (I14 : Int → World → Prop) (M14 : Int → World → Nat), I14 0 w12 ∧
       ∀ (k15 : Int) (w16 : World), I14 k15 w16 →
        (((k15 < (ll : Int)) →
         l ≠ none ∧
         (0 : Int) ≤ k15 ∧
         (k15 : Int) < (ll : Int) ∧
         (pIdx l k15 2) ≠ none ∧
         ∃ t17 : Int, cell w16 (pIdx l k15 2) 0 = some (.int .i64 t17) ∧
         ∃ t18 : Int, cell w16 (pIdx l k15 2) 1 = some (.int .i64 t18) ∧
         ∀ b19 : Nat, w16.heap.size ≤ b19 → (((t18 = t13) →
          p8 ≠ none ∧
          ∃ t20 : Option Addr, ∃ tl21 : Nat, ∃ tc22 : Nat, cell w16 (pAdd p8 0) 0 = some (.slice t20 tl21 tc22) ∧
          p8 ≠ none ∧
          ∃ t23 : Option Addr, ∃ tl24 : Nat, ∃ tc25 : Nat, cell w16 (pAdd p8 0) 0 = some (.slice t23 tl24 tc25) ∧
          t23 ≠ none ∧
          (0 : Int) ≤ t13 ∧
          (t13 : Int) < (tl24 : Int) ∧
          ∃ t26 : Int, cell w16 (pIdx t23 t13 1) 0 = some (.int .i64 t26) ∧
          p8 ≠ none ∧
          ∃ t27 : Option Addr, ∃ tl28 : Nat, ∃ tc29 : Nat, cell w16 (pAdd p8 0) 0 = some (.slice t27 tl28 tc29) ∧
          t27 ≠ none ∧
          (0 : Int) ≤ t17 ∧
          (t17 : Int) < (tl28 : Int) ∧
          ∃ t30 : Int, cell w16 (pIdx t27 t17 1) 0 = some (.int .i64 t30) ∧
          d ≠ none ∧
          (0 : Int) ≤ t17 ∧
          (t17 : Int) < (dl : Int) ∧
          ∃ t31 : Int, cell w16 (pIdx d t17 1) 0 = some (.int .i64 t31) ∧
          InR .i64 (t30 + t31) ∧
          t20 ≠ none ∧
          (0 : Int) ≤ t13 ∧
          (t13 : Int) < (tl21 : Int) ∧
          Store w16 (pIdx t20 t13 1) [(.int .i64 (max t26 (t30 + t31)))] [b0, b19] fun w32 =>
           InR .i64 (k15 + 1) ∧
           (I14 (k15 + 1) w32 ∧ M14 (k15 + 1) w32 < M14 k15 w16))) ∧
         ((t18 ≠ t13) →
          InR .i64 (k15 + 1) ∧
          (I14 (k15 + 1) w16 ∧ M14 (k15 + 1) w16 < M14 k15 w16)))) ∧
        (((ll : Int) ≤ k15) →
         p8 ≠ none ∧
         ∃ t17 : Int, cell w16 (pAdd p8 2) 0 = some (.int .i64 t17) ∧
         p8 ≠ none ∧
         ∃ t18 : Option Addr, ∃ tl19 : Nat, ∃ tc20 : Nat, cell w16 (pAdd p8 0) 0 = some (.slice t18 tl19 tc20) ∧
         t18 ≠ none ∧
         (0 : Int) ≤ t13 ∧
         (t13 : Int) < (tl19 : Int) ∧
         ∃ t21 : Int, cell w16 (pIdx t18 t13 1) 0 = some (.int .i64 t21) ∧
         d ≠ none ∧
         (0 : Int) ≤ t13 ∧
         (t13 : Int) < (dl : Int) ∧
         ∃ t22 : Int, cell w16 (pIdx d t13 1) 0 = some (.int .i64 t22) ∧
         InR .i64 (t21 + t22) ∧
         p8 ≠ none ∧
         Store w16 (pAdd p8 2) [(.int .i64 (max t17 (t21 + t22)))] [b0] fun w23 =>
          InR .i64 (k11 + 1) ∧
          (I10 (k11 + 1) w23 ∧ M10 (k11 + 1) w23 < M10 k11 w12)))) ∧
      (((tl4 : Int) ≤ k11) →
       ∃ (I13 : Int → World → Prop) (M13 : Int → World → Nat), I13 0 w12 ∧
       ∀ (k14 : Int) (w15 : World), I13 k14 w15 →
        (((k14 < (tl4 : Int)) →
         InR .i64 ((tl4 : Int) - 1) ∧
         InR .i64 (((tl4 : Int) - 1) - k14) ∧
         t3 ≠ none ∧
         (0 : Int) ≤ (((tl4 : Int) - 1) - k14) ∧
         ((((tl4 : Int) - 1) - k14) : Int) < (tl4 : Int) ∧
         ∃ t16 : Int, cell w15 (pIdx t3 (((tl4 : Int) - 1) - k14) 1) 0 = some (.int .i64 t16) ∧
         p8 ≠ none ∧
         ∃ t17 : Int, cell w15 (pAdd p8 2) 0 = some (.int .i64 t17) ∧
         ∃ (I18 : Int → Int → World → Prop) (M18 : Int → Int → World → Nat), I18 t17 0 w15 ∧
         ∀ (end19 : Int) (k20 : Int) (w21 : World), I18 end19 k20 w21 →
          (((k20 < (ll : Int)) →
           l ≠ none ∧
           (0 : Int) ≤ k20 ∧
           (k20 : Int) < (ll : Int) ∧
           (pIdx l k20 2) ≠ none ∧
           ∃ t22 : Int, cell w21 (pIdx l k20 2) 0 = some (.int .i64 t22) ∧
           ∃ t23 : Int, cell w21 (pIdx l k20 2) 1 = some (.int .i64 t23) ∧
           ∀ b24 : Nat, w21.heap.size ≤ b24 → (((t22 = t16) →
            p8 ≠ none ∧
            ∃ t25 : Option Addr, ∃ tl26 : Nat, ∃ tc27 : Nat, cell w21 (pAdd p8 1) 0 = some (.slice t25 tl26 tc27) ∧
            t25 ≠ none ∧
            (0 : Int) ≤ t23 ∧
            (t23 : Int) < (tl26 : Int) ∧
            ∃ t28 : Int, cell w21 (pIdx t25 t23 1) 0 = some (.int .i64 t28) ∧
            InR .i64 (k20 + 1) ∧
            (I18 (min end19 t28) (k20 + 1) w21 ∧ M18 (min end19 t28) (k20 + 1) w21 < M18 end19 k20 w21))) ∧
           ((t22 ≠ t16) →
            InR .i64 (k20 + 1) ∧
            (I18 end19 (k20 + 1) w21 ∧ M18 end19 (k20 + 1) w21 < M18 end19 k20 w21)))) ∧
          (((ll : Int) ≤ k20) →
           p8 ≠ none ∧
           ∃ t22 : Option Addr, ∃ tl23 : Nat, ∃ tc24 : Nat, cell w21 (pAdd p8 1) 0 = some (.slice t22 tl23 tc24) ∧
           d ≠ none ∧
           (0 : Int) ≤ t16 ∧
           (t16 : Int) < (dl : Int) ∧
           ∃ t25 : Int, cell w21 (pIdx d t16 1) 0 = some (.int .i64 t25) ∧
           InR .i64 (end19 - t25) ∧
           t22 ≠ none ∧
           (0 : Int) ≤ t16 ∧
           (t16 : Int) < (tl23 : Int) ∧
           Store w21 (pIdx t22 t16 1) [(.int .i64 (end19 - t25))] [b0] fun w26 =>
            InR .i64 (k14 + 1) ∧
            (I13 (k14 + 1) w26 ∧ M13 (k14 + 1) w26 < M13 k14 w15)))) ∧
        (((tl4 : Int) ≤ k14) →
         p8 ≠ none ∧
         ∃ t16 : Option Addr, ∃ tl17 : Nat, ∃ tc18 : Nat, cell w15 p8 0 = some (.slice t16 tl17 tc18) ∧
         ∃ t19 : Option Addr, ∃ tl20 : Nat, ∃ tc21 : Nat, cell w15 p8 1 = some (.slice t19 tl20 tc21) ∧
         ∃ t22 : Int, cell w15 p8 2 = some (.int .i64 t22) ∧
         ∀ w23, ExtB [b0] [] w15 w23 →
         Q (.tuple #[(.agg #[(.slice t16 tl17 tc18), (.slice t19 tl20 tc21), (.int .i64 t22)]), (.int .i64 0)]) w23)))

theorem ok_path_Times (n : Int) (l : Option Addr) (ll : Nat) (lc : Nat) (d : Option Addr) (dl : Nat) (dc : Nat) (w : World) (Q : Value → World → Prop) (h : wp_path_Times n l ll lc d dl dc w Q) : FnP Try.prog F_path_Times #[(.int .i64 n), (.slice l ll lc), (.slice d dl dc)] w Q := by
  have e_ : wp_path_Times n l ll lc d dl dc w Q = Runs Try.prog Q ({ N := 136, wrap := [], pub := [10], muts := [], joins := [] } : Cfg) Try.f11 (Try.f11.body.getD .skip) [.sc (.int .i64 n), .sc (.slc l ll lc), .sc (.slc d dl dc)] w := by kernel_rfl
  rw [e_] at h
  exact runs_fn h Try.func11 (by kernel_rfl) (fun args w => Try.call11 args w) (by kernel_rfl) (by kernel_rfl) rfl rfl

/-- shiftbell/pack.first -/
def wp_pack_first (l : Option Addr) (ll : Nat) (lc : Nat) (size : Int) (row : Option Addr) (rowl : Nat) (rowc : Nat) (w : World) (Q : Value → World → Prop) : Prop :=
  ∀ w0, Ext w w0 →
  Run Try.prog (.makeSlice 29 (.int .i64 (ll : Int)) (.int .i64 (ll : Int))) w0 fun v1 w1 =>
   Ext w0 w1 ∧
   ∃ t2 : Option Addr, ∃ tl3 : Nat, ∃ tc4 : Nat, v1 = (.slice t2 tl3 tc4) ∧
   ∃ (I5 : Option Addr → Nat → Nat → Int → World → Prop) (M5 : Option Addr → Nat → Nat → Int → World → Nat), I5 none 0 0 0 w1 ∧
   ∀ (full6 : Option Addr) (fulll6 : Nat) (fullc6 : Nat) (k7 : Int) (w8 : World), I5 full6 fulll6 fullc6 k7 w8 →
    (((k7 < (rowl : Int)) →
     row ≠ none ∧
     (0 : Int) ≤ k7 ∧
     (k7 : Int) < (rowl : Int) ∧
     ∃ t9 : Int, cell w8 (pIdx row k7 1) 0 = some (.int .i64 t9) ∧
     ∃ (I10 : Int → World → Prop) (M10 : Int → World → Nat), I10 0 w8 ∧
     ∀ (k11 : Int) (w12 : World), I10 k11 w12 →
      ((k11 < (fulll6 : Int)) →
       full6 ≠ none) ∧
      ((k11 < (fulll6 : Int)) →
       (0 : Int) ≤ k11) ∧
      ((k11 < (fulll6 : Int)) →
       (k11 : Int) < (fulll6 : Int)) ∧
      (((k11 < (fulll6 : Int)) →
       ∃ t13 : Int, cell w12 (pIdx full6 k11 1) 0 = some (.int .i64 t13) ∧
       l ≠ none ∧
       (0 : Int) ≤ t9 ∧
       (t9 : Int) < (ll : Int) ∧
       ∃ t14 : Int, cell w12 (pIdx l t9 1) 0 = some (.int .i64 t14) ∧
       InR .i64 (t13 + t14) ∧
       (((size < (t13 + t14)) →
        InR .i64 (k11 + 1) ∧
        (I10 (k11 + 1) w12 ∧ M10 (k11 + 1) w12 < M10 k11 w12))) ∧
       (((t13 + t14) ≤ size) →
        (((k11 = (fulll6 : Int)) →
         ∀ w15, Ext w12 w15 →
         Run Try.prog (.buildSlice 25 1 [(0, (.int .i64 0))]) w15 fun v16 w16 =>
          Ext w15 w16 ∧
          ∃ t17 : Option Addr, ∃ tl18 : Nat, ∃ tc19 : Nat, v16 = (.slice t17 tl18 tc19) ∧
          ∀ w20, Ext w16 w20 →
          Run Try.prog (.append #[25, 25] 25 [(.slice full6 fulll6 fullc6), (.slice t17 tl18 tc19)]) w20 fun v21 w21 =>
           ∃ t22 : Option Addr, ∃ tl23 : Nat, ∃ tc24 : Nat, v21 = (.slice t22 tl23 tc24) ∧
           t22 ≠ none ∧
           (0 : Int) ≤ k11 ∧
           (k11 : Int) < (tl23 : Int) ∧
           ∃ t25 : Int, cell w21 (pIdx t22 k11 1) 0 = some (.int .i64 t25) ∧
           l ≠ none ∧
           (0 : Int) ≤ t9 ∧
           (t9 : Int) < (ll : Int) ∧
           ∃ t26 : Int, cell w21 (pIdx l t9 1) 0 = some (.int .i64 t26) ∧
           InR .i64 (t25 + t26) ∧
           t22 ≠ none ∧
           (0 : Int) ≤ k11 ∧
           (k11 : Int) < (tl23 : Int) ∧
           Store w21 (pIdx t22 k11 1) [(.int .i64 (t25 + t26))] [] fun w27 =>
            t2 ≠ none ∧
            (0 : Int) ≤ t9 ∧
            (t9 : Int) < (tl3 : Int) ∧
            Store w27 (pIdx t2 t9 1) [(.int .i64 k11)] [] fun w28 =>
             InR .i64 (k7 + 1) ∧
             (I5 t22 tl23 tc24 (k7 + 1) w28 ∧ M5 t22 tl23 tc24 (k7 + 1) w28 < M5 full6 fulll6 fullc6 k7 w8))) ∧
        ((k11 ≠ (fulll6 : Int)) →
         full6 ≠ none ∧
         (0 : Int) ≤ k11 ∧
         (k11 : Int) < (fulll6 : Int) ∧
         ∃ t15 : Int, cell w12 (pIdx full6 k11 1) 0 = some (.int .i64 t15) ∧
         l ≠ none ∧
         (0 : Int) ≤ t9 ∧
         (t9 : Int) < (ll : Int) ∧
         ∃ t16 : Int, cell w12 (pIdx l t9 1) 0 = some (.int .i64 t16) ∧
         InR .i64 (t15 + t16) ∧
         full6 ≠ none ∧
         (0 : Int) ≤ k11 ∧
         (k11 : Int) < (fulll6 : Int) ∧
         Store w12 (pIdx full6 k11 1) [(.int .i64 (t15 + t16))] [] fun w17 =>
          t2 ≠ none ∧
          (0 : Int) ≤ t9 ∧
          (t9 : Int) < (tl3 : Int) ∧
          Store w17 (pIdx t2 t9 1) [(.int .i64 k11)] [] fun w18 =>
           InR .i64 (k7 + 1) ∧
           (I5 full6 fulll6 fullc6 (k7 + 1) w18 ∧ M5 full6 fulll6 fullc6 (k7 + 1) w18 < M5 full6 fulll6 fullc6 k7 w8))))) ∧
      (((fulll6 : Int) ≤ k11) →
       (((k11 = (fulll6 : Int)) →
        ∀ w13, Ext w12 w13 →
        Run Try.prog (.buildSlice 25 1 [(0, (.int .i64 0))]) w13 fun v14 w14 =>
         Ext w13 w14 ∧
         ∃ t15 : Option Addr, ∃ tl16 : Nat, ∃ tc17 : Nat, v14 = (.slice t15 tl16 tc17) ∧
         ∀ w18, Ext w14 w18 →
         Run Try.prog (.append #[25, 25] 25 [(.slice full6 fulll6 fullc6), (.slice t15 tl16 tc17)]) w18 fun v19 w19 =>
          ∃ t20 : Option Addr, ∃ tl21 : Nat, ∃ tc22 : Nat, v19 = (.slice t20 tl21 tc22) ∧
          t20 ≠ none ∧
          (0 : Int) ≤ k11 ∧
          (k11 : Int) < (tl21 : Int) ∧
          ∃ t23 : Int, cell w19 (pIdx t20 k11 1) 0 = some (.int .i64 t23) ∧
          l ≠ none ∧
          (0 : Int) ≤ t9 ∧
          (t9 : Int) < (ll : Int) ∧
          ∃ t24 : Int, cell w19 (pIdx l t9 1) 0 = some (.int .i64 t24) ∧
          InR .i64 (t23 + t24) ∧
          t20 ≠ none ∧
          (0 : Int) ≤ k11 ∧
          (k11 : Int) < (tl21 : Int) ∧
          Store w19 (pIdx t20 k11 1) [(.int .i64 (t23 + t24))] [] fun w25 =>
           t2 ≠ none ∧
           (0 : Int) ≤ t9 ∧
           (t9 : Int) < (tl3 : Int) ∧
           Store w25 (pIdx t2 t9 1) [(.int .i64 k11)] [] fun w26 =>
            InR .i64 (k7 + 1) ∧
            (I5 t20 tl21 tc22 (k7 + 1) w26 ∧ M5 t20 tl21 tc22 (k7 + 1) w26 < M5 full6 fulll6 fullc6 k7 w8))) ∧
       ((k11 ≠ (fulll6 : Int)) →
        full6 ≠ none ∧
        (0 : Int) ≤ k11 ∧
        (k11 : Int) < (fulll6 : Int) ∧
        ∃ t13 : Int, cell w12 (pIdx full6 k11 1) 0 = some (.int .i64 t13) ∧
        l ≠ none ∧
        (0 : Int) ≤ t9 ∧
        (t9 : Int) < (ll : Int) ∧
        ∃ t14 : Int, cell w12 (pIdx l t9 1) 0 = some (.int .i64 t14) ∧
        InR .i64 (t13 + t14) ∧
        full6 ≠ none ∧
        (0 : Int) ≤ k11 ∧
        (k11 : Int) < (fulll6 : Int) ∧
        Store w12 (pIdx full6 k11 1) [(.int .i64 (t13 + t14))] [] fun w15 =>
         t2 ≠ none ∧
         (0 : Int) ≤ t9 ∧
         (t9 : Int) < (tl3 : Int) ∧
         Store w15 (pIdx t2 t9 1) [(.int .i64 k11)] [] fun w16 =>
          InR .i64 (k7 + 1) ∧
          (I5 full6 fulll6 fullc6 (k7 + 1) w16 ∧ M5 full6 fulll6 fullc6 (k7 + 1) w16 < M5 full6 fulll6 fullc6 k7 w8))))) ∧
    (((rowl : Int) ≤ k7) →
     ∀ w9, Ext w8 w9 →
     Q (.tuple #[(.slice t2 tl3 tc4), (.int .i64 (fulll6 : Int))]) w9)

theorem ok_pack_first (l : Option Addr) (ll : Nat) (lc : Nat) (size : Int) (row : Option Addr) (rowl : Nat) (rowc : Nat) (w : World) (Q : Value → World → Prop) (h : wp_pack_first l ll lc size row rowl rowc w Q) : FnP Try.prog F_pack_first #[(.slice l ll lc), (.int .i64 size), (.slice row rowl rowc)] w Q := by
  have e_ : wp_pack_first l ll lc size row rowl rowc w Q = Runs Try.prog Q ({ N := 66, wrap := [], pub := [], muts := [], joins := [] } : Cfg) Try.f27 (Try.f27.body.getD .skip) [.sc (.slc l ll lc), .sc (.int .i64 size), .sc (.slc row rowl rowc)] w := by kernel_rfl
  rw [e_] at h
  exact runs_fn h Try.func27 (by kernel_rfl) (fun args w => Try.call27 args w) (by kernel_rfl) (by kernel_rfl) rfl rfl

/-- shiftbell/pack.numbers -/
def wp_pack_numbers (n : Int) (w : World) (Q : Value → World → Prop) : Prop :=
  ∃ (I0 : Option Addr → Nat → Nat → Int → World → Prop) (M0 : Option Addr → Nat → Nat → Int → World → Nat), I0 none 0 0 0 w ∧
  ∀ (out1 : Option Addr) (outl1 : Nat) (outc1 : Nat) (k2 : Int) (w3 : World), I0 out1 outl1 outc1 k2 w3 →
   (((k2 < n) →
    ∀ w4, Ext w3 w4 →
    Run Try.prog (.buildSlice 29 1 [(0, (.int .i64 k2))]) w4 fun v5 w5 =>
     Ext w4 w5 ∧
     ∃ t6 : Option Addr, ∃ tl7 : Nat, ∃ tc8 : Nat, v5 = (.slice t6 tl7 tc8) ∧
     ∀ w9, Ext w5 w9 →
     Run Try.prog (.append #[29, 29] 29 [(.slice out1 outl1 outc1), (.slice t6 tl7 tc8)]) w9 fun v10 w10 =>
      ∃ t11 : Option Addr, ∃ tl12 : Nat, ∃ tc13 : Nat, v10 = (.slice t11 tl12 tc13) ∧
      InR .i64 (k2 + 1) ∧
      (I0 t11 tl12 tc13 (k2 + 1) w10 ∧ M0 t11 tl12 tc13 (k2 + 1) w10 < M0 out1 outl1 outc1 k2 w3))) ∧
   ((n ≤ k2) →
    ∀ w4, Ext w3 w4 →
    Q (.slice out1 outl1 outc1) w4)

theorem ok_pack_numbers (n : Int) (w : World) (Q : Value → World → Prop) (h : wp_pack_numbers n w Q) : FnP Try.prog F_pack_numbers #[(.int .i64 n)] w Q := by
  have e_ : wp_pack_numbers n w Q = Runs Try.prog Q ({ N := 15, wrap := [], pub := [], muts := [], joins := [] } : Cfg) Try.f23 (Try.f23.body.getD .skip) [.sc (.int .i64 n)] w := by kernel_rfl
  rw [e_] at h
  exact runs_fn h Try.func23 (by kernel_rfl) (fun args w => Try.call23 args w) (by kernel_rfl) (by kernel_rfl) rfl rfl

/-- shiftbell/pack.Check -/
def wp_pack_Check (l : Option Addr) (ll : Nat) (lc : Nat) (size : Int) (w : World) (Q : Value → World → Prop) : Prop :=
  ((100 < (ll : Int)) →
   ∀ w0, Ext w w0 →
   Q (.int .i64 2) w0) ∧
  (((ll : Int) ≤ 100) →
   (((size < 1) ∨ (1099511627776 < size)) →
    ∀ w0, Ext w w0 →
    Q (.int .i64 1) w0) ∧
   (((1 ≤ size) ∧ (size ≤ 1099511627776)) →
    ∃ (I0 : Int → World → Prop) (M0 : Int → World → Nat), I0 0 w ∧
    ∀ (k1 : Int) (w2 : World), I0 k1 w2 →
     (((k1 < (ll : Int)) →
      l ≠ none ∧
      (0 : Int) ≤ k1 ∧
      (k1 : Int) < (ll : Int) ∧
      ∃ t3 : Int, cell w2 (pIdx l k1 1) 0 = some (.int .i64 t3) ∧
      (((t3 < 1) ∨ (size < t3)) →
       ∀ w4, Ext w2 w4 →
       Q (.int .i64 4) w4) ∧
      (((1 ≤ t3) ∧ (t3 ≤ size)) →
       InR .i64 (k1 + 1) ∧
       (I0 (k1 + 1) w2 ∧ M0 (k1 + 1) w2 < M0 k1 w2)))) ∧
     (((ll : Int) ≤ k1) →
      ∀ w3, Ext w2 w3 →
      Q (.int .i64 0) w3)))

theorem ok_pack_Check (l : Option Addr) (ll : Nat) (lc : Nat) (size : Int) (w : World) (Q : Value → World → Prop) (h : wp_pack_Check l ll lc size w Q) : FnP Try.prog F_pack_Check #[(.slice l ll lc), (.int .i64 size)] w Q := by
  have e_ : wp_pack_Check l ll lc size w Q = Runs Try.prog Q ({ N := 32, wrap := [], pub := [], muts := [], joins := [] } : Cfg) Try.f22 (Try.f22.body.getD .skip) [.sc (.slc l ll lc), .sc (.int .i64 size)] w := by kernel_rfl
  rw [e_] at h
  exact runs_fn h Try.func22 (by kernel_rfl) (fun args w => Try.call22 args w) (by kernel_rfl) (by kernel_rfl) rfl rfl

/-- cmp.Compare[int64] -/
def wp_cmp_Compare_int64 (x : Int) (y : Int) (w : World) (Q : Value → World → Prop) : Prop :=
  ∀ w0, Ext w w0 →
  FnP Try.prog F_cmp_isNaN_int64 #[(.int .i64 x)] w0 fun v1 w1 =>
   Ext w0 w1 ∧
   ∃ t2 : Bool, v1 = (.bool t2) ∧
   ∀ w3, Ext w w3 →
   FnP Try.prog F_cmp_isNaN_int64 #[(.int .i64 y)] w3 fun v4 w4 =>
    Ext w3 w4 ∧
    ∃ t5 : Bool, v4 = (.bool t5) ∧
    (((t2 = true) →
     ((t5 = true) →
      ∀ w6, Ext w w6 →
      Q (.int .i64 0) w6) ∧
     ((t5 = false) →
      ∀ w6, Ext w w6 →
      Q (.int .i64 (-1)) w6))) ∧
    ((t2 = false) →
     ((t5 = true) →
      ∀ w6, Ext w w6 →
      Q (.int .i64 1) w6) ∧
     ((t5 = false) →
      ((x < y) →
       ∀ w6, Ext w w6 →
       Q (.int .i64 (-1)) w6) ∧
      ((y ≤ x) →
       ((y < x) →
        ∀ w6, Ext w w6 →
        Q (.int .i64 1) w6) ∧
       ((x ≤ y) →
        ∀ w6, Ext w w6 →
        Q (.int .i64 0) w6))))

theorem ok_cmp_Compare_int64 (x : Int) (y : Int) (w : World) (Q : Value → World → Prop) (h : wp_cmp_Compare_int64 x y w Q) : FnP Try.prog F_cmp_Compare_int64 #[(.int .i64 x), (.int .i64 y)] w Q := by
  have e_ : wp_cmp_Compare_int64 x y w Q = Runs Try.prog Q ({ N := 20, wrap := [], pub := [], muts := [], joins := [] } : Cfg) Try.f26 (Try.f26.body.getD .skip) [.sc (.int .i64 x), .sc (.int .i64 y)] w := by kernel_rfl
  rw [e_] at h
  exact runs_fn h Try.func26 (by kernel_rfl) (fun args w => Try.call26 args w) (by kernel_rfl) (by kernel_rfl) rfl rfl

/-- cmp.isNaN[int64] -/
def wp_cmp_isNaN_int64 (x : Int) (w : World) (Q : Value → World → Prop) : Prop :=
  ∀ w0, Ext w w0 →
  Q (.bool (decide (x ≠ x))) w0

theorem ok_cmp_isNaN_int64 (x : Int) (w : World) (Q : Value → World → Prop) (h : wp_cmp_isNaN_int64 x w Q) : FnP Try.prog F_cmp_isNaN_int64 #[(.int .i64 x)] w Q := by
  have e_ : wp_cmp_isNaN_int64 x w Q = Runs Try.prog Q ({ N := 6, wrap := [], pub := [], muts := [], joins := [] } : Cfg) Try.f50 (Try.f50.body.getD .skip) [.sc (.int .i64 x)] w := by kernel_rfl
  rw [e_] at h
  exact runs_fn h Try.func50 (by kernel_rfl) (fun args w => Try.call50 args w) (by kernel_rfl) (by kernel_rfl) rfl rfl

/-- slices.SortStableFunc[[]int,int] -/
def wp_slices_SortStableFunc_int_int (x : Option Addr) (xl : Nat) (xc : Nat) (cmp : Value) (w : World) (Q : Value → World → Prop) : Prop :=
  ∀ w0, Ext w w0 →
  FnP Try.prog F_slices_stableCmpFunc_int #[(.slice x xl xc), (.int .i64 (xl : Int)), cmp] w0 fun v1 w1 =>
   v1 = (.tuple #[]) ∧
   ∀ w2, Ext w1 w2 →
   Q (.tuple #[]) w2

theorem ok_slices_SortStableFunc_int_int (x : Option Addr) (xl : Nat) (xc : Nat) (cmp : Value) (w : World) (Q : Value → World → Prop) (h : wp_slices_SortStableFunc_int_int x xl xc cmp w Q) : FnP Try.prog F_slices_SortStableFunc_int_int #[(.slice x xl xc), cmp] w Q := by
  have e_ : wp_slices_SortStableFunc_int_int x xl xc cmp w Q = Runs Try.prog Q ({ N := 9, wrap := [], pub := [], muts := [49], joins := [] } : Cfg) Try.f24 (Try.f24.body.getD .skip) [.sc (.slc x xl xc), .sc (.val cmp)] w := by kernel_rfl
  rw [e_] at h
  exact runs_fn h Try.func24 (by kernel_rfl) (fun args w => Try.call24 args w) (by kernel_rfl) (by kernel_rfl) rfl rfl

/-- slices.stableCmpFunc[int] -/
def wp_slices_stableCmpFunc_int (data : Option Addr) (datal : Nat) (datac : Nat) (n : Int) (cmp : Value) (w : World) (Q : Value → World → Prop) : Prop :=
  ∃ (I0 : Int → Int → World → Prop) (M0 : Int → Int → World → Nat), I0 0 20 w ∧
  ∀ (a1 : Int) (b2 : Int) (w3 : World), I0 a1 b2 w3 →
   (((b2 ≤ n) →
    ∀ w4, Ext w3 w4 →
    FnP Try.prog F_slices_insertionSortCmpFunc_int #[(.slice data datal datac), (.int .i64 a1), (.int .i64 b2), cmp] w4 fun v5 w5 =>
     v5 = (.tuple #[]) ∧
     InR .i64 (b2 + 20) ∧
     (I0 b2 (b2 + 20) w5 ∧ M0 b2 (b2 + 20) w5 < M0 a1 b2 w3))) ∧
   ((n < b2) →
    ∀ w4, Ext w3 w4 →
    FnP Try.prog F_slices_insertionSortCmpFunc_int #[(.slice data datal datac), (.int .i64 a1), (.int .i64 n), cmp] w4 fun v5 w5 =>
     v5 = (.tuple #[]) ∧
     ∃ (I6 : Int → Int → Int → World → Prop) (M6 : Int → Int → Int → World → Nat), I6 a1 b2 20 w5 ∧
     ∀ (a7 : Int) (b8 : Int) (blockSize9 : Int) (w10 : World), I6 a7 b8 blockSize9 w10 →
      (((blockSize9 < n) →
       InR .i64 (2 * blockSize9) ∧
       ∃ (I11 : Int → Int → World → Prop) (M11 : Int → Int → World → Nat), I11 0 (2 * blockSize9) w10 ∧
       ∀ (a12 : Int) (b13 : Int) (w14 : World), I11 a12 b13 w14 →
        (((b13 ≤ n) →
         InR .i64 (a12 + blockSize9) ∧
         ∀ w15, Ext w14 w15 →
         FnP Try.prog F_slices_symMergeCmpFunc_int #[(.slice data datal datac), (.int .i64 a12), (.int .i64 (a12 + blockSize9)), (.int .i64 b13), cmp] w15 fun v16 w16 =>
          v16 = (.tuple #[]) ∧
          InR .i64 (2 * blockSize9) ∧
          InR .i64 (b13 + (2 * blockSize9)) ∧
          (I11 b13 (b13 + (2 * blockSize9)) w16 ∧ M11 b13 (b13 + (2 * blockSize9)) w16 < M11 a12 b13 w14))) ∧
        ((n < b13) →
         InR .i64 (a12 + blockSize9) ∧
         ((((a12 + blockSize9) < n) →
          ∀ w15, Ext w14 w15 →
          FnP Try.prog F_slices_symMergeCmpFunc_int #[(.slice data datal datac), (.int .i64 a12), (.int .i64 (a12 + blockSize9)), (.int .i64 n), cmp] w15 fun v16 w16 =>
           v16 = (.tuple #[]) ∧
           InR .i64 (blockSize9 * 2) ∧
           (I6 a12 b13 (blockSize9 * 2) w16 ∧ M6 a12 b13 (blockSize9 * 2) w16 < M6 a7 b8 blockSize9 w10))) ∧
         ((n ≤ (a12 + blockSize9)) →
          InR .i64 (blockSize9 * 2) ∧
          (I6 a12 b13 (blockSize9 * 2) w14 ∧ M6 a12 b13 (blockSize9 * 2) w14 < M6 a7 b8 blockSize9 w10))))) ∧
      ((n ≤ blockSize9) →
       ∀ w11, Ext w10 w11 →
       Q (.tuple #[]) w11))

theorem ok_slices_stableCmpFunc_int (data : Option Addr) (datal : Nat) (datac : Nat) (n : Int) (cmp : Value) (w : World) (Q : Value → World → Prop) (h : wp_slices_stableCmpFunc_int data datal datac n cmp w Q) : FnP Try.prog F_slices_stableCmpFunc_int #[(.slice data datal datac), (.int .i64 n), cmp] w Q := by
  have e_ : wp_slices_stableCmpFunc_int data datal datac n cmp w Q = Runs Try.prog Q ({ N := 63, wrap := [], pub := [], muts := [56, 57], joins := [] } : Cfg) Try.f49 (Try.f49.body.getD .skip) [.sc (.slc data datal datac), .sc (.int .i64 n), .sc (.val cmp)] w := by kernel_rfl
  rw [e_] at h
  exact runs_fn h Try.func49 (by kernel_rfl) (fun args w => Try.call49 args w) (by kernel_rfl) (by kernel_rfl) rfl rfl

/-- slices.insertionSortCmpFunc[int] -/
def wp_slices_insertionSortCmpFunc_int (data : Option Addr) (datal : Nat) (datac : Nat) (a : Int) (b : Int) (cmp : Value) (w : World) (Q : Value → World → Prop) : Prop :=
  InR .i64 (a + 1) ∧
  ∃ (I0 : Int → World → Prop) (M0 : Int → World → Nat), I0 (a + 1) w ∧
  ∀ (i1 : Int) (w2 : World), I0 i1 w2 →
   (((i1 < b) →
    ∃ (I3 : Int → World → Prop) (M3 : Int → World → Nat), I3 i1 w2 ∧
    ∀ (j4 : Int) (w5 : World), I3 j4 w5 →
     ((a < j4) →
      data ≠ none) ∧
     ((a < j4) →
      (0 : Int) ≤ j4) ∧
     ((a < j4) →
      (j4 : Int) < (datal : Int)) ∧
     (((a < j4) →
      ∃ t6 : Int, cell w5 (pIdx data j4 1) 0 = some (.int .i64 t6) ∧
      InR .i64 (j4 - 1) ∧
      data ≠ none ∧
      (0 : Int) ≤ (j4 - 1) ∧
      ((j4 - 1) : Int) < (datal : Int) ∧
      ∃ t7 : Int, cell w5 (pIdx data (j4 - 1) 1) 0 = some (.int .i64 t7) ∧
      ∀ w8, Ext w5 w8 →
      FnVP Try.prog cmp [(.int .i64 t6), (.int .i64 t7)] w8 fun v9 w9 =>
       Ext w8 w9 ∧
       ∃ t10 : Int, v9 = (.int .i64 t10) ∧
       (((t10 < 0) →
        InR .i64 (j4 - 1) ∧
        InR .i64 (j4 - 1) ∧
        data ≠ none ∧
        (0 : Int) ≤ (j4 - 1) ∧
        ((j4 - 1) : Int) < (datal : Int) ∧
        ∃ t11 : Int, cell w5 (pIdx data (j4 - 1) 1) 0 = some (.int .i64 t11) ∧
        data ≠ none ∧
        (0 : Int) ≤ j4 ∧
        (j4 : Int) < (datal : Int) ∧
        ∃ t12 : Int, cell w5 (pIdx data j4 1) 0 = some (.int .i64 t12) ∧
        data ≠ none ∧
        (0 : Int) ≤ j4 ∧
        (j4 : Int) < (datal : Int) ∧
        Store w5 (pIdx data j4 1) [(.int .i64 t11)] [] fun w13 =>
         data ≠ none ∧
         (0 : Int) ≤ (j4 - 1) ∧
         ((j4 - 1) : Int) < (datal : Int) ∧
         Store w13 (pIdx data (j4 - 1) 1) [(.int .i64 t12)] [] fun w14 =>
          InR .i64 (j4 - 1) ∧
          (I3 (j4 - 1) w14 ∧ M3 (j4 - 1) w14 < M3 j4 w5))) ∧
       ((0 ≤ t10) →
        InR .i64 (i1 + 1) ∧
        (I0 (i1 + 1) w5 ∧ M0 (i1 + 1) w5 < M0 i1 w2)))) ∧
     ((j4 ≤ a) →
      InR .i64 (i1 + 1) ∧
      (I0 (i1 + 1) w5 ∧ M0 (i1 + 1) w5 < M0 i1 w2)))) ∧
   ((b ≤ i1) →
    ∀ w3, Ext w2 w3 →
    Q (.tuple #[]) w3)

theorem ok_slices_insertionSortCmpFunc_int (data : Option Addr) (datal : Nat) (datac : Nat) (a : Int) (b : Int) (cmp : Value) (w : World) (Q : Value → World → Prop) (h : wp_slices_insertionSortCmpFunc_int data datal datac a b cmp w Q) : FnP Try.prog F_slices_insertionSortCmpFunc_int #[(.slice data datal datac), (.int .i64 a), (.int .i64 b), cmp] w Q := by
  have e_ : wp_slices_insertionSortCmpFunc_int data datal datac a b cmp w Q = Runs Try.prog Q ({ N := 53, wrap := [], pub := [], muts := [], joins := [] } : Cfg) Try.f56 (Try.f56.body.getD .skip) [.sc (.slc data datal datac), .sc (.int .i64 a), .sc (.int .i64 b), .sc (.val cmp)] w := by kernel_rfl
  rw [e_] at h
  exact runs_fn h Try.func56 (by kernel_rfl) (fun args w => Try.call56 args w) (by kernel_rfl) (by kernel_rfl) rfl rfl

/-- slices.symMergeCmpFunc[int] -/
def wp_slices_symMergeCmpFunc_int (data : Option Addr) (datal : Nat) (datac : Nat) (a : Int) (m : Int) (b : Int) (cmp : Value) (w : World) (Q : Value → World → Prop) : Prop :=
  InR .i64 (m - a) ∧
  ((((m - a) = 1) →
   ∃ (I0 : Int → Int → World → Prop) (M0 : Int → Int → World → Nat), I0 m b w ∧
   ∀ (i1 : Int) (j2 : Int) (w3 : World), I0 i1 j2 w3 →
    (((i1 < j2) →
     InR .i64 (i1 + j2) ∧
     InR .u64 (i1 + j2) ∧
     InR .i64 (iBit .shr .u64 (i1 + j2) 1) ∧
     data ≠ none ∧
     (0 : Int) ≤ (iBit .shr .u64 (i1 + j2) 1) ∧
     ((iBit .shr .u64 (i1 + j2) 1) : Int) < (datal : Int) ∧
     ∃ t4 : Int, cell w3 (pIdx data (iBit .shr .u64 (i1 + j2) 1) 1) 0 = some (.int .i64 t4) ∧
     data ≠ none ∧
     (0 : Int) ≤ a ∧
     (a : Int) < (datal : Int) ∧
     ∃ t5 : Int, cell w3 (pIdx data a 1) 0 = some (.int .i64 t5) ∧
     ∀ w6, Ext w3 w6 →
     FnVP Try.prog cmp [(.int .i64 t4), (.int .i64 t5)] w6 fun v7 w7 =>
      Ext w6 w7 ∧
      ∃ t8 : Int, v7 = (.int .i64 t8) ∧
      (((t8 < 0) →
       InR .i64 ((iBit .shr .u64 (i1 + j2) 1) + 1) ∧
       (I0 ((iBit .shr .u64 (i1 + j2) 1) + 1) j2 w3 ∧ M0 ((iBit .shr .u64 (i1 + j2) 1) + 1) j2 w3 < M0 i1 j2 w3))) ∧
      ((0 ≤ t8) →
       (I0 i1 (iBit .shr .u64 (i1 + j2) 1) w3 ∧ M0 i1 (iBit .shr .u64 (i1 + j2) 1) w3 < M0 i1 j2 w3)))) ∧
    ((j2 ≤ i1) →
     ∃ (I4 : Int → World → Prop) (M4 : Int → World → Nat), I4 a w3 ∧
     ∀ (k5 : Int) (w6 : World), I4 k5 w6 →
      InR .i64 (i1 - 1) ∧
      (((k5 < (i1 - 1)) →
       InR .i64 (k5 + 1) ∧
       InR .i64 (k5 + 1) ∧
       data ≠ none ∧
       (0 : Int) ≤ (k5 + 1) ∧
       ((k5 + 1) : Int) < (datal : Int) ∧
       ∃ t7 : Int, cell w6 (pIdx data (k5 + 1) 1) 0 = some (.int .i64 t7) ∧
       data ≠ none ∧
       (0 : Int) ≤ k5 ∧
       (k5 : Int) < (datal : Int) ∧
       ∃ t8 : Int, cell w6 (pIdx data k5 1) 0 = some (.int .i64 t8) ∧
       data ≠ none ∧
       (0 : Int) ≤ k5 ∧
       (k5 : Int) < (datal : Int) ∧
       Store w6 (pIdx data k5 1) [(.int .i64 t7)] [] fun w9 =>
        data ≠ none ∧
        (0 : Int) ≤ (k5 + 1) ∧
        ((k5 + 1) : Int) < (datal : Int) ∧
        Store w9 (pIdx data (k5 + 1) 1) [(.int .i64 t8)] [] fun w10 =>
         InR .i64 (k5 + 1) ∧
         (I4 (k5 + 1) w10 ∧ M4 (k5 + 1) w10 < M4 k5 w6))) ∧
      (((i1 - 1) ≤ k5) →
       ∀ w7, Ext w6 w7 →
       Q (.tuple #[]) w7)))) ∧
  (((m - a) ≠ 1) →
   InR .i64 (b - m) ∧
   ((((b - m) = 1) →
    ∃ (I0 : Int → Int → World → Prop) (M0 : Int → Int → World → Nat), I0 a m w ∧
    ∀ (i1 : Int) (j2 : Int) (w3 : World), I0 i1 j2 w3 →
     (((i1 < j2) →
      InR .i64 (i1 + j2) ∧
      InR .u64 (i1 + j2) ∧
      InR .i64 (iBit .shr .u64 (i1 + j2) 1) ∧
      data ≠ none ∧
      (0 : Int) ≤ m ∧
      (m : Int) < (datal : Int) ∧
      ∃ t4 : Int, cell w3 (pIdx data m 1) 0 = some (.int .i64 t4) ∧
      data ≠ none ∧
      (0 : Int) ≤ (iBit .shr .u64 (i1 + j2) 1) ∧
      ((iBit .shr .u64 (i1 + j2) 1) : Int) < (datal : Int) ∧
      ∃ t5 : Int, cell w3 (pIdx data (iBit .shr .u64 (i1 + j2) 1) 1) 0 = some (.int .i64 t5) ∧
      ∀ w6, Ext w3 w6 →
      FnVP Try.prog cmp [(.int .i64 t4), (.int .i64 t5)] w6 fun v7 w7 =>
       Ext w6 w7 ∧
       ∃ t8 : Int, v7 = (.int .i64 t8) ∧
       (((0 ≤ t8) →
        InR .i64 ((iBit .shr .u64 (i1 + j2) 1) + 1) ∧
        (I0 ((iBit .shr .u64 (i1 + j2) 1) + 1) j2 w3 ∧ M0 ((iBit .shr .u64 (i1 + j2) 1) + 1) j2 w3 < M0 i1 j2 w3))) ∧
       ((t8 < 0) →
        (I0 i1 (iBit .shr .u64 (i1 + j2) 1) w3 ∧ M0 i1 (iBit .shr .u64 (i1 + j2) 1) w3 < M0 i1 j2 w3)))) ∧
     ((j2 ≤ i1) →
      ∃ (I4 : Int → World → Prop) (M4 : Int → World → Nat), I4 m w3 ∧
      ∀ (k5 : Int) (w6 : World), I4 k5 w6 →
       (((i1 < k5) →
        InR .i64 (k5 - 1) ∧
        InR .i64 (k5 - 1) ∧
        data ≠ none ∧
        (0 : Int) ≤ (k5 - 1) ∧
        ((k5 - 1) : Int) < (datal : Int) ∧
        ∃ t7 : Int, cell w6 (pIdx data (k5 - 1) 1) 0 = some (.int .i64 t7) ∧
        data ≠ none ∧
        (0 : Int) ≤ k5 ∧
        (k5 : Int) < (datal : Int) ∧
        ∃ t8 : Int, cell w6 (pIdx data k5 1) 0 = some (.int .i64 t8) ∧
        data ≠ none ∧
        (0 : Int) ≤ k5 ∧
        (k5 : Int) < (datal : Int) ∧
        Store w6 (pIdx data k5 1) [(.int .i64 t7)] [] fun w9 =>
         data ≠ none ∧
         (0 : Int) ≤ (k5 - 1) ∧
         ((k5 - 1) : Int) < (datal : Int) ∧
         Store w9 (pIdx data (k5 - 1) 1) [(.int .i64 t8)] [] fun w10 =>
          InR .i64 (k5 - 1) ∧
          (I4 (k5 - 1) w10 ∧ M4 (k5 - 1) w10 < M4 k5 w6))) ∧
       ((k5 ≤ i1) →
        ∀ w7, Ext w6 w7 →
        Q (.tuple #[]) w7)))) ∧
   (((b - m) ≠ 1) →
    InR .i64 (a + b) ∧
    InR .u64 (a + b) ∧
    InR .i64 (iBit .shr .u64 (a + b) 1) ∧
    InR .i64 ((iBit .shr .u64 (a + b) 1) + m) ∧
    ((((iBit .shr .u64 (a + b) 1) < m) →
     InR .i64 (((iBit .shr .u64 (a + b) 1) + m) - b) ∧
     InR .i64 (((iBit .shr .u64 (a + b) 1) + m) - 1) ∧
     ∃ (I0 : Int → Int → World → Prop) (M0 : Int → Int → World → Nat), I0 (((iBit .shr .u64 (a + b) 1) + m) - b) (iBit .shr .u64 (a + b) 1) w ∧
     ∀ (start1 : Int) (r2 : Int) (w3 : World), I0 start1 r2 w3 →
      (((start1 < r2) →
       InR .i64 (start1 + r2) ∧
       InR .u64 (start1 + r2) ∧
       InR .i64 (iBit .shr .u64 (start1 + r2) 1) ∧
       InR .i64 ((((iBit .shr .u64 (a + b) 1) + m) - 1) - (iBit .shr .u64 (start1 + r2) 1)) ∧
       data ≠ none ∧
       (0 : Int) ≤ ((((iBit .shr .u64 (a + b) 1) + m) - 1) - (iBit .shr .u64 (start1 + r2) 1)) ∧
       (((((iBit .shr .u64 (a + b) 1) + m) - 1) - (iBit .shr .u64 (start1 + r2) 1)) : Int) < (datal : Int) ∧
       ∃ t4 : Int, cell w3 (pIdx data ((((iBit .shr .u64 (a + b) 1) + m) - 1) - (iBit .shr .u64 (start1 + r2) 1)) 1) 0 = some (.int .i64 t4) ∧
       data ≠ none ∧
       (0 : Int) ≤ (iBit .shr .u64 (start1 + r2) 1) ∧
       ((iBit .shr .u64 (start1 + r2) 1) : Int) < (datal : Int) ∧
       ∃ t5 : Int, cell w3 (pIdx data (iBit .shr .u64 (start1 + r2) 1) 1) 0 = some (.int .i64 t5) ∧
       ∀ w6, Ext w3 w6 →
       FnVP Try.prog cmp [(.int .i64 t4), (.int .i64 t5)] w6 fun v7 w7 =>
        Ext w6 w7 ∧
        ∃ t8 : Int, v7 = (.int .i64 t8) ∧
        (((0 ≤ t8) →
         InR .i64 ((iBit .shr .u64 (start1 + r2) 1) + 1) ∧
         (I0 ((iBit .shr .u64 (start1 + r2) 1) + 1) r2 w3 ∧ M0 ((iBit .shr .u64 (start1 + r2) 1) + 1) r2 w3 < M0 start1 r2 w3))) ∧
        ((t8 < 0) →
         (I0 start1 (iBit .shr .u64 (start1 + r2) 1) w3 ∧ M0 start1 (iBit .shr .u64 (start1 + r2) 1) w3 < M0 start1 r2 w3)))) ∧
      ((r2 ≤ start1) →
       InR .i64 (((iBit .shr .u64 (a + b) 1) + m) - start1) ∧
       ((((start1 < m) ∧ (m < (((iBit .shr .u64 (a + b) 1) + m) - start1))) →
        ∀ w4, Ext w3 w4 →
        FnP Try.prog F_slices_rotateCmpFunc_int #[(.slice data datal datac), (.int .i64 start1), (.int .i64 m), (.int .i64 (((iBit .shr .u64 (a + b) 1) + m) - start1)), cmp] w4 fun v5 w5 =>
         v5 = (.tuple #[]) ∧
         ((((a < start1) ∧ (start1 < (iBit .shr .u64 (a + b) 1))) →
          ∀ w6, Ext w5 w6 →
          FnP Try.prog F_slices_symMergeCmpFunc_int #[(.slice data datal datac), (.int .i64 a), (.int .i64 start1), (.int .i64 (iBit .shr .u64 (a + b) 1)), cmp] w6 fun v7 w7 =>
           v7 = (.tuple #[]) ∧
           (((((iBit .shr .u64 (a + b) 1) < (((iBit .shr .u64 (a + b) 1) + m) - start1)) ∧ ((((iBit .shr .u64 (a + b) 1) + m) - start1) < b)) →
            ∀ w8, Ext w7 w8 →
            FnP Try.prog F_slices_symMergeCmpFunc_int #[(.slice data datal datac), (.int .i64 (iBit .shr .u64 (a + b) 1)), (.int .i64 (((iBit .shr .u64 (a + b) 1) + m) - start1)), (.int .i64 b), cmp] w8 fun v9 w9 =>
             v9 = (.tuple #[]) ∧
             ∀ w10, Ext w9 w10 →
             Q (.tuple #[]) w10)) ∧
           ((((((iBit .shr .u64 (a + b) 1) + m) - start1) ≤ (iBit .shr .u64 (a + b) 1)) ∨ (b ≤ (((iBit .shr .u64 (a + b) 1) + m) - start1))) →
            ∀ w8, Ext w7 w8 →
            Q (.tuple #[]) w8))) ∧
         (((start1 ≤ a) ∨ ((iBit .shr .u64 (a + b) 1) ≤ start1)) →
          (((((iBit .shr .u64 (a + b) 1) < (((iBit .shr .u64 (a + b) 1) + m) - start1)) ∧ ((((iBit .shr .u64 (a + b) 1) + m) - start1) < b)) →
           ∀ w6, Ext w5 w6 →
           FnP Try.prog F_slices_symMergeCmpFunc_int #[(.slice data datal datac), (.int .i64 (iBit .shr .u64 (a + b) 1)), (.int .i64 (((iBit .shr .u64 (a + b) 1) + m) - start1)), (.int .i64 b), cmp] w6 fun v7 w7 =>
            v7 = (.tuple #[]) ∧
            ∀ w8, Ext w7 w8 →
            Q (.tuple #[]) w8)) ∧
          ((((((iBit .shr .u64 (a + b) 1) + m) - start1) ≤ (iBit .shr .u64 (a + b) 1)) ∨ (b ≤ (((iBit .shr .u64 (a + b) 1) + m) - start1))) →
           ∀ w6, Ext w5 w6 →
           Q (.tuple #[]) w6)))) ∧
       (((m ≤ start1) ∨ ((((iBit .shr .u64 (a + b) 1) + m) - start1) ≤ m)) →
        ((((a < start1) ∧ (start1 < (iBit .shr .u64 (a + b) 1))) →
         ∀ w4, Ext w3 w4 →
         FnP Try.prog F_slices_symMergeCmpFunc_int #[(.slice data datal datac), (.int .i64 a), (.int .i64 start1), (.int .i64 (iBit .shr .u64 (a + b) 1)), cmp] w4 fun v5 w5 =>
          v5 = (.tuple #[]) ∧
          (((((iBit .shr .u64 (a + b) 1) < (((iBit .shr .u64 (a + b) 1) + m) - start1)) ∧ ((((iBit .shr .u64 (a + b) 1) + m) - start1) < b)) →
           ∀ w6, Ext w5 w6 →
           FnP Try.prog F_slices_symMergeCmpFunc_int #[(.slice data datal datac), (.int .i64 (iBit .shr .u64 (a + b) 1)), (.int .i64 (((iBit .shr .u64 (a + b) 1) + m) - start1)), (.int .i64 b), cmp] w6 fun v7 w7 =>
            v7 = (.tuple #[]) ∧
            ∀ w8, Ext w7 w8 →
            Q (.tuple #[]) w8)) ∧
          ((((((iBit .shr .u64 (a + b) 1) + m) - start1) ≤ (iBit .shr .u64 (a + b) 1)) ∨ (b ≤ (((iBit .shr .u64 (a + b) 1) + m) - start1))) →
           ∀ w6, Ext w5 w6 →
           Q (.tuple #[]) w6))) ∧
        (((start1 ≤ a) ∨ ((iBit .shr .u64 (a + b) 1) ≤ start1)) →
         (((((iBit .shr .u64 (a + b) 1) < (((iBit .shr .u64 (a + b) 1) + m) - start1)) ∧ ((((iBit .shr .u64 (a + b) 1) + m) - start1) < b)) →
          ∀ w4, Ext w3 w4 →
          FnP Try.prog F_slices_symMergeCmpFunc_int #[(.slice data datal datac), (.int .i64 (iBit .shr .u64 (a + b) 1)), (.int .i64 (((iBit .shr .u64 (a + b) 1) + m) - start1)), (.int .i64 b), cmp] w4 fun v5 w5 =>
           v5 = (.tuple #[]) ∧
           ∀ w6, Ext w5 w6 →
           Q (.tuple #[]) w6)) ∧
         ((((((iBit .shr .u64 (a + b) 1) + m) - start1) ≤ (iBit .shr .u64 (a + b) 1)) ∨ (b ≤ (((iBit .shr .u64 (a + b) 1) + m) - start1))) →
          ∀ w4, Ext w3 w4 →
          Q (.tuple #[]) w4)))))) ∧
    ((m ≤ (iBit .shr .u64 (a + b) 1)) →
     InR .i64 (((iBit .shr .u64 (a + b) 1) + m) - 1) ∧
     ∃ (I0 : Int → Int → World → Prop) (M0 : Int → Int → World → Nat), I0 a m w ∧
     ∀ (start1 : Int) (r2 : Int) (w3 : World), I0 start1 r2 w3 →
      (((start1 < r2) →
       InR .i64 (start1 + r2) ∧
       InR .u64 (start1 + r2) ∧
       InR .i64 (iBit .shr .u64 (start1 + r2) 1) ∧
       InR .i64 ((((iBit .shr .u64 (a + b) 1) + m) - 1) - (iBit .shr .u64 (start1 + r2) 1)) ∧
       data ≠ none ∧
       (0 : Int) ≤ ((((iBit .shr .u64 (a + b) 1) + m) - 1) - (iBit .shr .u64 (start1 + r2) 1)) ∧
       (((((iBit .shr .u64 (a + b) 1) + m) - 1) - (iBit .shr .u64 (start1 + r2) 1)) : Int) < (datal : Int) ∧
       ∃ t4 : Int, cell w3 (pIdx data ((((iBit .shr .u64 (a + b) 1) + m) - 1) - (iBit .shr .u64 (start1 + r2) 1)) 1) 0 = some (.int .i64 t4) ∧
       data ≠ none ∧
       (0 : Int) ≤ (iBit .shr .u64 (start1 + r2) 1) ∧
       ((iBit .shr .u64 (start1 + r2) 1) : Int) < (datal : Int) ∧
       ∃ t5 : Int, cell w3 (pIdx data (iBit .shr .u64 (start1 + r2) 1) 1) 0 = some (.int .i64 t5) ∧
       ∀ w6, Ext w3 w6 →
       FnVP Try.prog cmp [(.int .i64 t4), (.int .i64 t5)] w6 fun v7 w7 =>
        Ext w6 w7 ∧
        ∃ t8 : Int, v7 = (.int .i64 t8) ∧
        (((0 ≤ t8) →
         InR .i64 ((iBit .shr .u64 (start1 + r2) 1) + 1) ∧
         (I0 ((iBit .shr .u64 (start1 + r2) 1) + 1) r2 w3 ∧ M0 ((iBit .shr .u64 (start1 + r2) 1) + 1) r2 w3 < M0 start1 r2 w3))) ∧
        ((t8 < 0) →
         (I0 start1 (iBit .shr .u64 (start1 + r2) 1) w3 ∧ M0 start1 (iBit .shr .u64 (start1 + r2) 1) w3 < M0 start1 r2 w3)))) ∧
      ((r2 ≤ start1) →
       InR .i64 (((iBit .shr .u64 (a + b) 1) + m) - start1) ∧
       ((((start1 < m) ∧ (m < (((iBit .shr .u64 (a + b) 1) + m) - start1))) →
        ∀ w4, Ext w3 w4 →
        FnP Try.prog F_slices_rotateCmpFunc_int #[(.slice data datal datac), (.int .i64 start1), (.int .i64 m), (.int .i64 (((iBit .shr .u64 (a + b) 1) + m) - start1)), cmp] w4 fun v5 w5 =>
         v5 = (.tuple #[]) ∧
         ((((a < start1) ∧ (start1 < (iBit .shr .u64 (a + b) 1))) →
          ∀ w6, Ext w5 w6 →
          FnP Try.prog F_slices_symMergeCmpFunc_int #[(.slice data datal datac), (.int .i64 a), (.int .i64 start1), (.int .i64 (iBit .shr .u64 (a + b) 1)), cmp] w6 fun v7 w7 =>
           v7 = (.tuple #[]) ∧
           (((((iBit .shr .u64 (a + b) 1) < (((iBit .shr .u64 (a + b) 1) + m) - start1)) ∧ ((((iBit .shr .u64 (a + b) 1) + m) - start1) < b)) →
            ∀ w8, Ext w7 w8 →
            FnP Try.prog F_slices_symMergeCmpFunc_int #[(.slice data datal datac), (.int .i64 (iBit .shr .u64 (a + b) 1)), (.int .i64 (((iBit .shr .u64 (a + b) 1) + m) - start1)), (.int .i64 b), cmp] w8 fun v9 w9 =>
             v9 = (.tuple #[]) ∧
             ∀ w10, Ext w9 w10 →
             Q (.tuple #[]) w10)) ∧
           ((((((iBit .shr .u64 (a + b) 1) + m) - start1) ≤ (iBit .shr .u64 (a + b) 1)) ∨ (b ≤ (((iBit .shr .u64 (a + b) 1) + m) - start1))) →
            ∀ w8, Ext w7 w8 →
            Q (.tuple #[]) w8))) ∧
         (((start1 ≤ a) ∨ ((iBit .shr .u64 (a + b) 1) ≤ start1)) →
          (((((iBit .shr .u64 (a + b) 1) < (((iBit .shr .u64 (a + b) 1) + m) - start1)) ∧ ((((iBit .shr .u64 (a + b) 1) + m) - start1) < b)) →
           ∀ w6, Ext w5 w6 →
           FnP Try.prog F_slices_symMergeCmpFunc_int #[(.slice data datal datac), (.int .i64 (iBit .shr .u64 (a + b) 1)), (.int .i64 (((iBit .shr .u64 (a + b) 1) + m) - start1)), (.int .i64 b), cmp] w6 fun v7 w7 =>
            v7 = (.tuple #[]) ∧
            ∀ w8, Ext w7 w8 →
            Q (.tuple #[]) w8)) ∧
          ((((((iBit .shr .u64 (a + b) 1) + m) - start1) ≤ (iBit .shr .u64 (a + b) 1)) ∨ (b ≤ (((iBit .shr .u64 (a + b) 1) + m) - start1))) →
           ∀ w6, Ext w5 w6 →
           Q (.tuple #[]) w6)))) ∧
       (((m ≤ start1) ∨ ((((iBit .shr .u64 (a + b) 1) + m) - start1) ≤ m)) →
        ((((a < start1) ∧ (start1 < (iBit .shr .u64 (a + b) 1))) →
         ∀ w4, Ext w3 w4 →
         FnP Try.prog F_slices_symMergeCmpFunc_int #[(.slice data datal datac), (.int .i64 a), (.int .i64 start1), (.int .i64 (iBit .shr .u64 (a + b) 1)), cmp] w4 fun v5 w5 =>
          v5 = (.tuple #[]) ∧
          (((((iBit .shr .u64 (a + b) 1) < (((iBit .shr .u64 (a + b) 1) + m) - start1)) ∧ ((((iBit .shr .u64 (a + b) 1) + m) - start1) < b)) →
           ∀ w6, Ext w5 w6 →
           FnP Try.prog F_slices_symMergeCmpFunc_int #[(.slice data datal datac), (.int .i64 (iBit .shr .u64 (a + b) 1)), (.int .i64 (((iBit .shr .u64 (a + b) 1) + m) - start1)), (.int .i64 b), cmp] w6 fun v7 w7 =>
            v7 = (.tuple #[]) ∧
            ∀ w8, Ext w7 w8 →
            Q (.tuple #[]) w8)) ∧
          ((((((iBit .shr .u64 (a + b) 1) + m) - start1) ≤ (iBit .shr .u64 (a + b) 1)) ∨ (b ≤ (((iBit .shr .u64 (a + b) 1) + m) - start1))) →
           ∀ w6, Ext w5 w6 →
           Q (.tuple #[]) w6))) ∧
        (((start1 ≤ a) ∨ ((iBit .shr .u64 (a + b) 1) ≤ start1)) →
         (((((iBit .shr .u64 (a + b) 1) < (((iBit .shr .u64 (a + b) 1) + m) - start1)) ∧ ((((iBit .shr .u64 (a + b) 1) + m) - start1) < b)) →
          ∀ w4, Ext w3 w4 →
          FnP Try.prog F_slices_symMergeCmpFunc_int #[(.slice data datal datac), (.int .i64 (iBit .shr .u64 (a + b) 1)), (.int .i64 (((iBit .shr .u64 (a + b) 1) + m) - start1)), (.int .i64 b), cmp] w4 fun v5 w5 =>
           v5 = (.tuple #[]) ∧
           ∀ w6, Ext w5 w6 →
           Q (.tuple #[]) w6)) ∧
         ((((((iBit .shr .u64 (a + b) 1) + m) - start1) ≤ (iBit .shr .u64 (a + b) 1)) ∨ (b ≤ (((iBit .shr .u64 (a + b) 1) + m) - start1))) →
          ∀ w4, Ext w3 w4 →
          Q (.tuple #[]) w4)))))))

theorem ok_slices_symMergeCmpFunc_int (data : Option Addr) (datal : Nat) (datac : Nat) (a : Int) (m : Int) (b : Int) (cmp : Value) (w : World) (Q : Value → World → Prop) (h : wp_slices_symMergeCmpFunc_int data datal datac a m b cmp w Q) : FnP Try.prog F_slices_symMergeCmpFunc_int #[(.slice data datal datac), (.int .i64 a), (.int .i64 m), (.int .i64 b), cmp] w Q := by
  have e_ : wp_slices_symMergeCmpFunc_int data datal datac a m b cmp w Q = Runs Try.prog Q ({ N := 220, wrap := [], pub := [], muts := [57, 58, 59], joins := [] } : Cfg) Try.f57 (Try.f57.body.getD .skip) [.sc (.slc data datal datac), .sc (.int .i64 a), .sc (.int .i64 m), .sc (.int .i64 b), .sc (.val cmp)] w := by kernel_rfl
  rw [e_] at h
  exact runs_fn h Try.func57 (by kernel_rfl) (fun args w => Try.call57 args w) (by kernel_rfl) (by kernel_rfl) rfl rfl

/-- slices.rotateCmpFunc[int] -/
def wp_slices_rotateCmpFunc_int (data : Option Addr) (datal : Nat) (datac : Nat) (a : Int) (m : Int) (b : Int) (cmp : Value) (w : World) (Q : Value → World → Prop) : Prop :=
  InR .i64 (m - a) ∧
  InR .i64 (b - m) ∧
  ∃ (I0 : Int → Int → World → Prop) (M0 : Int → Int → World → Nat), I0 (m - a) (b - m) w ∧
  ∀ (i1 : Int) (j2 : Int) (w3 : World), I0 i1 j2 w3 →
   (((i1 ≠ j2) →
    (((j2 < i1) →
     InR .i64 (m - i1) ∧
     ∀ w4, Ext w3 w4 →
     FnP Try.prog F_slices_swapRangeCmpFunc_int #[(.slice data datal datac), (.int .i64 (m - i1)), (.int .i64 m), (.int .i64 j2), cmp] w4 fun v5 w5 =>
      v5 = (.tuple #[]) ∧
      InR .i64 (i1 - j2) ∧
      (I0 (i1 - j2) j2 w5 ∧ M0 (i1 - j2) j2 w5 < M0 i1 j2 w3))) ∧
    ((i1 ≤ j2) →
     InR .i64 (m - i1) ∧
     InR .i64 (m + j2) ∧
     InR .i64 ((m + j2) - i1) ∧
     ∀ w4, Ext w3 w4 →
     FnP Try.prog F_slices_swapRangeCmpFunc_int #[(.slice data datal datac), (.int .i64 (m - i1)), (.int .i64 ((m + j2) - i1)), (.int .i64 i1), cmp] w4 fun v5 w5 =>
      v5 = (.tuple #[]) ∧
      InR .i64 (j2 - i1) ∧
      (I0 i1 (j2 - i1) w5 ∧ M0 i1 (j2 - i1) w5 < M0 i1 j2 w3)))) ∧
   ((i1 = j2) →
    InR .i64 (m - i1) ∧
    ∀ w4, Ext w3 w4 →
    FnP Try.prog F_slices_swapRangeCmpFunc_int #[(.slice data datal datac), (.int .i64 (m - i1)), (.int .i64 m), (.int .i64 i1), cmp] w4 fun v5 w5 =>
     v5 = (.tuple #[]) ∧
     ∀ w6, Ext w5 w6 →
     Q (.tuple #[]) w6)

theorem ok_slices_rotateCmpFunc_int (data : Option Addr) (datal : Nat) (datac : Nat) (a : Int) (m : Int) (b : Int) (cmp : Value) (w : World) (Q : Value → World → Prop) (h : wp_slices_rotateCmpFunc_int data datal datac a m b cmp w Q) : FnP Try.prog F_slices_rotateCmpFunc_int #[(.slice data datal datac), (.int .i64 a), (.int .i64 m), (.int .i64 b), cmp] w Q := by
  have e_ : wp_slices_rotateCmpFunc_int data datal datac a m b cmp w Q = Runs Try.prog Q ({ N := 58, wrap := [], pub := [], muts := [59], joins := [] } : Cfg) Try.f58 (Try.f58.body.getD .skip) [.sc (.slc data datal datac), .sc (.int .i64 a), .sc (.int .i64 m), .sc (.int .i64 b), .sc (.val cmp)] w := by kernel_rfl
  rw [e_] at h
  exact runs_fn h Try.func58 (by kernel_rfl) (fun args w => Try.call58 args w) (by kernel_rfl) (by kernel_rfl) rfl rfl

/-- slices.swapRangeCmpFunc[int] -/
def wp_slices_swapRangeCmpFunc_int (data : Option Addr) (datal : Nat) (datac : Nat) (a : Int) (b : Int) (n : Int) (cmp : Value) (w : World) (Q : Value → World → Prop) : Prop :=
  ∃ (I0 : Int → World → Prop) (M0 : Int → World → Nat), I0 0 w ∧
  ∀ (i1 : Int) (w2 : World), I0 i1 w2 →
   (((i1 < n) →
    InR .i64 (a + i1) ∧
    InR .i64 (b + i1) ∧
    InR .i64 (b + i1) ∧
    data ≠ none ∧
    (0 : Int) ≤ (b + i1) ∧
    ((b + i1) : Int) < (datal : Int) ∧
    ∃ t3 : Int, cell w2 (pIdx data (b + i1) 1) 0 = some (.int .i64 t3) ∧
    InR .i64 (a + i1) ∧
    data ≠ none ∧
    (0 : Int) ≤ (a + i1) ∧
    ((a + i1) : Int) < (datal : Int) ∧
    ∃ t4 : Int, cell w2 (pIdx data (a + i1) 1) 0 = some (.int .i64 t4) ∧
    data ≠ none ∧
    (0 : Int) ≤ (a + i1) ∧
    ((a + i1) : Int) < (datal : Int) ∧
    Store w2 (pIdx data (a + i1) 1) [(.int .i64 t3)] [] fun w5 =>
     data ≠ none ∧
     (0 : Int) ≤ (b + i1) ∧
     ((b + i1) : Int) < (datal : Int) ∧
     Store w5 (pIdx data (b + i1) 1) [(.int .i64 t4)] [] fun w6 =>
      InR .i64 (i1 + 1) ∧
      (I0 (i1 + 1) w6 ∧ M0 (i1 + 1) w6 < M0 i1 w2))) ∧
   ((n ≤ i1) →
    ∀ w3, Ext w2 w3 →
    Q (.tuple #[]) w3)

theorem ok_slices_swapRangeCmpFunc_int (data : Option Addr) (datal : Nat) (datac : Nat) (a : Int) (b : Int) (n : Int) (cmp : Value) (w : World) (Q : Value → World → Prop) (h : wp_slices_swapRangeCmpFunc_int data datal datac a b n cmp w Q) : FnP Try.prog F_slices_swapRangeCmpFunc_int #[(.slice data datal datac), (.int .i64 a), (.int .i64 b), (.int .i64 n), cmp] w Q := by
  have e_ : wp_slices_swapRangeCmpFunc_int data datal datac a b n cmp w Q = Runs Try.prog Q ({ N := 38, wrap := [], pub := [], muts := [], joins := [] } : Cfg) Try.f59 (Try.f59.body.getD .skip) [.sc (.slc data datal datac), .sc (.int .i64 a), .sc (.int .i64 b), .sc (.int .i64 n), .sc (.val cmp)] w := by kernel_rfl
  rw [e_] at h
  exact runs_fn h Try.func59 (by kernel_rfl) (fun args w => Try.call59 args w) (by kernel_rfl) (by kernel_rfl) rfl rfl

/-- shiftbell/pack.Down -/
def wp_pack_Down (l : Option Addr) (ll : Nat) (lc : Nat) (size : Int) (w : World) (Q : Value → World → Prop) : Prop :=
  ∀ w0, Ext w w0 →
  New w0 25 [(.slice l ll lc)] fun p1 w1 =>
   ∃ t2 : Option Addr, ∃ tl3 : Nat, ∃ tc4 : Nat, cell w1 p1 0 = some (.slice t2 tl3 tc4) ∧
   ∀ w5, Ext w1 w5 →
   FnP Try.prog F_pack_Check #[(.slice t2 tl3 tc4), (.int .i64 size)] w5 fun v6 w6 =>
    Ext w5 w6 ∧
    ∃ t7 : Int, v6 = (.int .i64 t7) ∧
    ((t7 ≠ 0) →
     ∀ w8, Ext w1 w8 →
     Q (.tuple #[(.slice none 0 0), (.int .i64 0), (.int .i64 t7)]) w8) ∧
    ((t7 = 0) →
     ∃ t8 : Option Addr, ∃ tl9 : Nat, ∃ tc10 : Nat, cell w1 p1 0 = some (.slice t8 tl9 tc10) ∧
     ∀ w11, Ext w1 w11 →
     FnP Try.prog F_pack_numbers #[(.int .i64 (tl9 : Int))] w11 fun v12 w12 =>
      Ext w11 w12 ∧
      ∃ t13 : Option Addr, ∃ tl14 : Nat, ∃ tc15 : Nat, v12 = (.slice t13 tl14 tc15) ∧
      ∀ w16, Ext w12 w16 →
      FnP Try.prog F_slices_SortStableFunc_int_int #[(.slice t13 tl14 tc15), (.func (.func 25) #[] #[(.pointer p1)])] w16 fun v17 w17 =>
       v17 = (.tuple #[]) ∧
       ∃ t18 : Option Addr, ∃ tl19 : Nat, ∃ tc20 : Nat, cell w17 p1 0 = some (.slice t18 tl19 tc20) ∧
       ∀ w21, Ext w17 w21 →
       FnP Try.prog F_pack_first #[(.slice t18 tl19 tc20), (.int .i64 size), (.slice t13 tl14 tc15)] w21 fun v22 w22 =>
        Ext w21 w22 ∧
        ∃ t23 : Option Addr, ∃ tl24 : Nat, ∃ tc25 : Nat, ∃ t26 : Int, v22 = (.tuple #[(.slice t23 tl24 tc25), (.int .i64 t26)]) ∧
        ∀ w27, Ext w22 w27 →
        Q (.tuple #[(.slice t23 tl24 tc25), (.int .i64 t26), (.int .i64 0)]) w27)

theorem ok_pack_Down (l : Option Addr) (ll : Nat) (lc : Nat) (size : Int) (w : World) (Q : Value → World → Prop) (h : wp_pack_Down l ll lc size w Q) : FnP Try.prog F_pack_Down #[(.slice l ll lc), (.int .i64 size)] w Q := by
  have e_ : wp_pack_Down l ll lc size w Q = Runs Try.prog Q ({ N := 32, wrap := [], pub := [2], muts := [24], joins := [] } : Cfg) Try.f14 (Try.f14.body.getD .skip) [.sc (.slc l ll lc), .sc (.int .i64 size)] w := by kernel_rfl
  rw [e_] at h
  exact runs_fn h Try.func14 (by kernel_rfl) (fun args w => Try.call14 args w) (by kernel_rfl) (by kernel_rfl) rfl rfl

/-- shiftbell/pack.Down$1 -/
def wp_pack_Down_1 (i : Int) (k : Int) (c0 : Option Addr) (w : World) (Q : Value → World → Prop) : Prop :=
  ∃ t0 : Option Addr, ∃ tl1 : Nat, ∃ tc2 : Nat, cell w c0 0 = some (.slice t0 tl1 tc2) ∧
  t0 ≠ none ∧
  (0 : Int) ≤ k ∧
  (k : Int) < (tl1 : Int) ∧
  ∃ t3 : Int, cell w (pIdx t0 k 1) 0 = some (.int .i64 t3) ∧
  ∃ t4 : Option Addr, ∃ tl5 : Nat, ∃ tc6 : Nat, cell w c0 0 = some (.slice t4 tl5 tc6) ∧
  t4 ≠ none ∧
  (0 : Int) ≤ i ∧
  (i : Int) < (tl5 : Int) ∧
  ∃ t7 : Int, cell w (pIdx t4 i 1) 0 = some (.int .i64 t7) ∧
  ∀ w8, Ext w w8 →
  FnP Try.prog F_cmp_Compare_int64 #[(.int .i64 t3), (.int .i64 t7)] w8 fun v9 w9 =>
   Ext w8 w9 ∧
   ∃ t10 : Int, v9 = (.int .i64 t10) ∧
   ∀ w11, Ext w w11 →
   Q (.int .i64 t10) w11

theorem ok_pack_Down_1 (i : Int) (k : Int) (c0 : Option Addr) (w : World) (Q : Value → World → Prop) (h : wp_pack_Down_1 i k c0 w Q) : FnP Try.prog F_pack_Down_1 #[(.int .i64 i), (.int .i64 k), (.pointer c0)] w Q := by
  have e_ : wp_pack_Down_1 i k c0 w Q = Runs Try.prog Q ({ N := 15, wrap := [], pub := [], muts := [], joins := [] } : Cfg) Try.f25 (Try.f25.body.getD .skip) [.sc (.int .i64 i), .sc (.int .i64 k), .sc (.ptr c0)] w := by kernel_rfl
  rw [e_] at h
  exact runs_fn h Try.func25 (by kernel_rfl) (fun args w => Try.call25 args w) (by kernel_rfl) (by kernel_rfl) rfl rfl

/-- shiftbell/side.Spans$1 -/
def wp_side_Spans_1 (x_0 : Int) (x_1 : Option Addr) (x_1l : Nat) (x_1c : Nat) (x_2 : Option Addr) (x_2l : Nat) (x_2c : Nat) (w : World) (Q : Value → World → Prop) : Prop :=
  ∀ b0 : Nat, w.heap.size ≤ b0 → ∀ w1, ExtB [] [b0] w w1 →
  FnP Try.prog F_path_Times #[(.int .i64 x_0), (.slice x_1 x_1l x_1c), (.slice x_2 x_2l x_2c)] w1 fun v2 w2 =>
   Ext w1 w2 ∧
   ∃ t_03 : Option Addr, ∃ t_0l4 : Nat, ∃ t_0c5 : Nat, ∃ t_16 : Option Addr, ∃ t_1l7 : Nat, ∃ t_1c8 : Nat, ∃ t_29 : Int, ∃ t10 : Int, v2 = (.tuple #[(.agg #[(.slice t_03 t_0l4 t_0c5), (.slice t_16 t_1l7 t_1c8), (.int .i64 t_29)]), (.int .i64 t10)]) ∧
   ∀ b11 : Nat, w2.heap.size ≤ b11 → (((t10 ≠ 0) →
    InR .i64 (0 - t10) ∧
    ∀ w12, Ext w2 w12 →
    Q (.int .i64 (0 - t10)) w12)) ∧
   ((t10 = 0) →
    ∀ w12, Ext w2 w12 →
    Q (.int .i64 t_29) w12)

theorem ok_side_Spans_1 (x_0 : Int) (x_1 : Option Addr) (x_1l : Nat) (x_1c : Nat) (x_2 : Option Addr) (x_2l : Nat) (x_2c : Nat) (w : World) (Q : Value → World → Prop) (h : wp_side_Spans_1 x_0 x_1 x_1l x_1c x_2 x_2l x_2c w Q) : FnP Try.prog F_side_Spans_1 #[(.agg #[(.int .i64 x_0), (.slice x_1 x_1l x_1c), (.slice x_2 x_2l x_2c)])] w Q := by
  have e_ : wp_side_Spans_1 x_0 x_1 x_1l x_1c x_2 x_2l x_2c w Q = Runs Try.prog Q ({ N := 21, wrap := [], pub := [], muts := [], joins := [] } : Cfg) Try.f10 (Try.f10.body.getD .skip) [.agg [.int .i64 x_0, .slc x_1 x_1l x_1c, .slc x_2 x_2l x_2c]] w := by kernel_rfl
  rw [e_] at h
  exact runs_fn h Try.func10 (by kernel_rfl) (fun args w => Try.call10 args w) (by kernel_rfl) (by kernel_rfl) rfl rfl

/-- shiftbell/side.Bins$1 -/
def wp_side_Bins_1 (x : Option Addr) (xl : Nat) (xc : Nat) (c0 : Option Addr) (w : World) (Q : Value → World → Prop) : Prop :=
  ∃ t0 : Int, cell w c0 0 = some (.int .i64 t0) ∧
  ∀ w1, Ext w w1 →
  FnP Try.prog F_pack_Down #[(.slice x xl xc), (.int .i64 t0)] w1 fun v2 w2 =>
   Ext w1 w2 ∧
   ∃ t3 : Option Addr, ∃ tl4 : Nat, ∃ tc5 : Nat, ∃ t6 : Int, ∃ t7 : Int, v2 = (.tuple #[(.slice t3 tl4 tc5), (.int .i64 t6), (.int .i64 t7)]) ∧
   (((t7 ≠ 0) →
    InR .i64 (0 - t7) ∧
    ∀ w8, Ext w2 w8 →
    Q (.int .i64 (0 - t7)) w8)) ∧
   ((t7 = 0) →
    ∀ w8, Ext w2 w8 →
    Q (.int .i64 t6) w8)

theorem ok_side_Bins_1 (x : Option Addr) (xl : Nat) (xc : Nat) (c0 : Option Addr) (w : World) (Q : Value → World → Prop) (h : wp_side_Bins_1 x xl xc c0 w Q) : FnP Try.prog F_side_Bins_1 #[(.slice x xl xc), (.pointer c0)] w Q := by
  have e_ : wp_side_Bins_1 x xl xc c0 w Q = Runs Try.prog Q ({ N := 19, wrap := [], pub := [1], muts := [], joins := [] } : Cfg) Try.f13 (Try.f13.body.getD .skip) [.sc (.slc x xl xc), .sc (.ptr c0)] w := by kernel_rfl
  rw [e_] at h
  exact runs_fn h Try.func13 (by kernel_rfl) (fun args w => Try.call13 args w) (by kernel_rfl) (by kernel_rfl) rfl rfl

/-- slices.Equal[[]int64,int64] -/
def wp_slices_Equal_int64_int64 (s1 : Option Addr) (s1l : Nat) (s1c : Nat) (s2 : Option Addr) (s2l : Nat) (s2c : Nat) (w : World) (Q : Value → World → Prop) : Prop :=
  (((s1l : Int) ≠ (s2l : Int)) →
   ∀ w0, Ext w w0 →
   Q (.bool false) w0) ∧
  (((s1l : Int) = (s2l : Int)) →
   ∃ (I0 : Int → World → Prop) (M0 : Int → World → Nat), I0 0 w ∧
   ∀ (k1 : Int) (w2 : World), I0 k1 w2 →
    (((k1 < (s1l : Int)) →
     s1 ≠ none ∧
     (0 : Int) ≤ k1 ∧
     (k1 : Int) < (s1l : Int) ∧
     ∃ t3 : Int, cell w2 (pIdx s1 k1 1) 0 = some (.int .i64 t3) ∧
     s2 ≠ none ∧
     (0 : Int) ≤ k1 ∧
     (k1 : Int) < (s2l : Int) ∧
     ∃ t4 : Int, cell w2 (pIdx s2 k1 1) 0 = some (.int .i64 t4) ∧
     ((t3 ≠ t4) →
      ∀ w5, Ext w2 w5 →
      Q (.bool false) w5) ∧
     ((t3 = t4) →
      InR .i64 (k1 + 1) ∧
      (I0 (k1 + 1) w2 ∧ M0 (k1 + 1) w2 < M0 k1 w2)))) ∧
    (((s1l : Int) ≤ k1) →
     ∀ w3, Ext w2 w3 →
     Q (.bool true) w3))

theorem ok_slices_Equal_int64_int64 (s1 : Option Addr) (s1l : Nat) (s1c : Nat) (s2 : Option Addr) (s2l : Nat) (s2c : Nat) (w : World) (Q : Value → World → Prop) (h : wp_slices_Equal_int64_int64 s1 s1l s1c s2 s2l s2c w Q) : FnP Try.prog F_slices_Equal_int64_int64 #[(.slice s1 s1l s1c), (.slice s2 s2l s2c)] w Q := by
  have e_ : wp_slices_Equal_int64_int64 s1 s1l s1c s2 s2l s2c w Q = Runs Try.prog Q ({ N := 26, wrap := [], pub := [], muts := [], joins := [] } : Cfg) Try.f7 (Try.f7.body.getD .skip) [.sc (.slc s1 s1l s1c), .sc (.slc s2 s2l s2c)] w := by kernel_rfl
  rw [e_] at h
  exact runs_fn h Try.func7 (by kernel_rfl) (fun args w => Try.call7 args w) (by kernel_rfl) (by kernel_rfl) rfl rfl

/-- slices.Equal[[]int,int] -/
def wp_slices_Equal_int_int (s1 : Option Addr) (s1l : Nat) (s1c : Nat) (s2 : Option Addr) (s2l : Nat) (s2c : Nat) (w : World) (Q : Value → World → Prop) : Prop :=
  (((s1l : Int) ≠ (s2l : Int)) →
   ∀ w0, Ext w w0 →
   Q (.bool false) w0) ∧
  (((s1l : Int) = (s2l : Int)) →
   ∃ (I0 : Int → World → Prop) (M0 : Int → World → Nat), I0 0 w ∧
   ∀ (k1 : Int) (w2 : World), I0 k1 w2 →
    (((k1 < (s1l : Int)) →
     s1 ≠ none ∧
     (0 : Int) ≤ k1 ∧
     (k1 : Int) < (s1l : Int) ∧
     ∃ t3 : Int, cell w2 (pIdx s1 k1 1) 0 = some (.int .i64 t3) ∧
     s2 ≠ none ∧
     (0 : Int) ≤ k1 ∧
     (k1 : Int) < (s2l : Int) ∧
     ∃ t4 : Int, cell w2 (pIdx s2 k1 1) 0 = some (.int .i64 t4) ∧
     ((t3 ≠ t4) →
      ∀ w5, Ext w2 w5 →
      Q (.bool false) w5) ∧
     ((t3 = t4) →
      InR .i64 (k1 + 1) ∧
      (I0 (k1 + 1) w2 ∧ M0 (k1 + 1) w2 < M0 k1 w2)))) ∧
    (((s1l : Int) ≤ k1) →
     ∀ w3, Ext w2 w3 →
     Q (.bool true) w3))

theorem ok_slices_Equal_int_int (s1 : Option Addr) (s1l : Nat) (s1c : Nat) (s2 : Option Addr) (s2l : Nat) (s2c : Nat) (w : World) (Q : Value → World → Prop) (h : wp_slices_Equal_int_int s1 s1l s1c s2 s2l s2c w Q) : FnP Try.prog F_slices_Equal_int_int #[(.slice s1 s1l s1c), (.slice s2 s2l s2c)] w Q := by
  have e_ : wp_slices_Equal_int_int s1 s1l s1c s2 s2l s2c w Q = Runs Try.prog Q ({ N := 26, wrap := [], pub := [], muts := [], joins := [] } : Cfg) Try.f8 (Try.f8.body.getD .skip) [.sc (.slc s1 s1l s1c), .sc (.slc s2 s2l s2c)] w := by kernel_rfl
  rw [e_] at h
  exact runs_fn h Try.func8 (by kernel_rfl) (fun args w => Try.call8 args w) (by kernel_rfl) (by kernel_rfl) rfl rfl

end Go.Proofs.Ytblgmhmjafgdgaa
