/- The texts of this seat's functions: what each computes, as its symbolic run says it. -/
import Derived.Test.YtkjekinnemgkkaaRows
import Derived.Test.YtkjekinnemgkkaaSxD
import Derived.Test.YtkjekinnemgkkaaSxN
set_option linter.unusedVariables false
set_option linter.unusedSimpArgs false
set_option maxRecDepth 100000
namespace Go.Proofs.Ytkjekinnemgkkaa
open Go.Sx Go.RowKit

abbrev F_shiftbellkeep_QueueSorted : FuncId := 3
abbrev F_shiftbellkeep_QueueAgain : FuncId := 4
abbrev F_shiftbellkeep_queues : FuncId := 10
abbrev F_queue_Sort : FuncId := 11
abbrev F_slices_Index_api_Item_api_Item : FuncId := 12
abbrev F_slices_Equal_api_Item_api_Item : FuncId := 13
abbrev F_queue_New : FuncId := 14
abbrev F_queue_Queue_Put : FuncId := 15
abbrev F_queue_Queue_Drop : FuncId := 16
abbrev F_queue_Queue_Raise : FuncId := 17
abbrev F_queue_Queue_List : FuncId := 18
abbrev F_queue_Queue_Take : FuncId := 19
abbrev F_container_heap_Push : FuncId := 34
abbrev F_container_heap_Remove : FuncId := 35
abbrev F_container_heap_Fix : FuncId := 36
abbrev F_container_heap_Pop : FuncId := 37
abbrev F_container_heap_up : FuncId := 48
abbrev F_container_heap_down : FuncId := 49
abbrev F_queue_row_Len : FuncId := 88
abbrev F_queue_row_Less : FuncId := 89
abbrev F_queue_row_Swap : FuncId := 90
abbrev F_queue_thing_ahead : FuncId := 91
abbrev F_queue_row_Pop : FuncId := 92
abbrev F_queue_row_Push : FuncId := 93
abbrev T__0 : TypeId := 0
abbrev T_int64 : TypeId := 2
abbrev T_int : TypeId := 3
abbrev T_bool : TypeId := 4
abbrev T_uint8 : TypeId := 5
abbrev T_string : TypeId := 9
abbrev T_uintptr : TypeId := 12
abbrev T_int32 : TypeId := 21
abbrev T_sl_Item : TypeId := 22
abbrev T_Errno : TypeId := 24
abbrev T_sl_Item_Errno : TypeId := 25
abbrev T_Item : TypeId := 28
abbrev T_sl_shiftbellkeep_Act : TypeId := 32
abbrev T_ptr_queue_Queue : TypeId := 33
abbrev T_map_int_bool : TypeId := 35
abbrev T_shiftbellkeep_Act : TypeId := 37
abbrev T_Item_bool : TypeId := 41
abbrev T_ptr_wheel_Wheel : TypeId := 48
abbrev T_map_int_int64 : TypeId := 50
abbrev T_sl_Fire : TypeId := 51
abbrev T_Fire : TypeId := 53
abbrev T_int64_bool : TypeId := 54
abbrev T_sl_Fire_Errno : TypeId := 57
abbrev T_map_int_ptr_queue_thing : TypeId := 64
abbrev T_sl_ptr_queue_thing : TypeId := 65
abbrev T_queue_row : TypeId := 66
abbrev T_queue_Queue : TypeId := 68
abbrev T_ptr_queue_thing : TypeId := 69
abbrev T_queue_thing : TypeId := 71
abbrev T_ptr_queue_row : TypeId := 73
abbrev T_sl_wheel_timer : TypeId := 77
abbrev T_wheel_Wheel : TypeId := 81
abbrev T_wheel_timer : TypeId := 84
abbrev T_ptr_sl_wheel_timer : TypeId := 85
abbrev T_sl_Errno : TypeId := 93
abbrev T_heap_Interface : TypeId := 97
abbrev T_uint : TypeId := 106
abbrev T_slices_sortedHint : TypeId := 111
abbrev T_int_slices_sortedHint : TypeId := 112
abbrev T_int_bool : TypeId := 116
abbrev T_uint32 : TypeId := 119
abbrev T_uint64 : TypeId := 121
abbrev T_slices_xorshift : TypeId := 122
abbrev T_ptr_int : TypeId := 126
abbrev T_ptr_slices_xorshift : TypeId := 128
abbrev T_int_int : TypeId := 129
abbrev T_ptr_uint8 : TypeId := 140
abbrev T_unsafe_Pointer : TypeId := 146
theorem elem_sl_Item : slEl Try.prog 22 = some (28, 2, 16, (.agg #[(.int .i64 0), (.int .i64 0)])) := by kernel_rfl
theorem elem_sl_shiftbellkeep_Act : slEl Try.prog 32 = some (37, 4, 32, (.agg #[(.int .i64 0), (.int .i64 0), (.int .i64 0), (.int .i64 0)])) := by kernel_rfl
theorem elem_sl_Fire : slEl Try.prog 51 = some (53, 2, 16, (.agg #[(.int .i64 0), (.int .i64 0)])) := by kernel_rfl
theorem elem_sl_ptr_queue_thing : slEl Try.prog 65 = some (69, 1, 8, (.pointer none)) := by kernel_rfl
theorem elem_sl_wheel_timer : slEl Try.prog 77 = some (84, 3, 24, (.agg #[(.int .i64 0), (.int .i64 0), (.int .i64 0)])) := by kernel_rfl
theorem elem_sl_Errno : slEl Try.prog 93 = some (24, 1, 8, (.int .i64 0)) := by kernel_rfl

/-- (shiftbell/queue.row).Len -/
def wp_queue_row_Len (r : Option Addr) (rl : Nat) (rc : Nat) (w : World) (Q : Value → World → Prop) : Prop :=
  ∀ w0, Ext w w0 →
  Q (.int .i64 (rl : Int)) w0

theorem ok_queue_row_Len (r : Option Addr) (rl : Nat) (rc : Nat) (w : World) (Q : Value → World → Prop) (h : wp_queue_row_Len r rl rc w Q) : FnP Try.prog F_queue_row_Len #[(.slice r rl rc)] w Q := by
  have e_ : wp_queue_row_Len r rl rc w Q = Runs Try.prog Q ({ N := 5, wrap := [], pub := [], muts := [], joins := [] } : Cfg) Try.f88 (Try.f88.body.getD .skip) [.sc (.slc r rl rc)] w := by kernel_rfl
  rw [e_] at h
  exact runs_fn h Try.func88 (by kernel_rfl) (fun args w => Try.call88 args w) (by kernel_rfl) (by kernel_rfl) rfl rfl

/-- (shiftbell/queue.row).Less -/
def wp_queue_row_Less (r : Option Addr) (rl : Nat) (rc : Nat) (i : Int) (k : Int) (w : World) (Q : Value → World → Prop) : Prop :=
  r ≠ none ∧
  (0 : Int) ≤ i ∧
  (i : Int) < (rl : Int) ∧
  ∃ t0 : Option Addr, cell w (pIdx r i 1) 0 = some (.pointer t0) ∧
  r ≠ none ∧
  (0 : Int) ≤ k ∧
  (k : Int) < (rl : Int) ∧
  ∃ t1 : Option Addr, cell w (pIdx r k 1) 0 = some (.pointer t1) ∧
  ∀ w2, Ext w w2 →
  FnP Try.prog F_queue_thing_ahead #[(.pointer t0), (.pointer t1)] w2 fun v3 w3 =>
   Ext w2 w3 ∧
   ∃ t4 : Bool, v3 = (.bool t4) ∧
   ∀ w5, Ext w w5 →
   Q (.bool t4) w5

theorem ok_queue_row_Less (r : Option Addr) (rl : Nat) (rc : Nat) (i : Int) (k : Int) (w : World) (Q : Value → World → Prop) (h : wp_queue_row_Less r rl rc i k w Q) : FnP Try.prog F_queue_row_Less #[(.slice r rl rc), (.int .i64 i), (.int .i64 k)] w Q := by
  have e_ : wp_queue_row_Less r rl rc i k w Q = Runs Try.prog Q ({ N := 16, wrap := [], pub := [], muts := [], joins := [] } : Cfg) Try.f89 (Try.f89.body.getD .skip) [.sc (.slc r rl rc), .sc (.int .i64 i), .sc (.int .i64 k)] w := by kernel_rfl
  rw [e_] at h
  exact runs_fn h Try.func89 (by kernel_rfl) (fun args w => Try.call89 args w) (by kernel_rfl) (by kernel_rfl) rfl rfl

/-- (shiftbell/queue.row).Swap -/
def wp_queue_row_Swap (r : Option Addr) (rl : Nat) (rc : Nat) (i : Int) (k : Int) (w : World) (Q : Value → World → Prop) : Prop :=
  r ≠ none ∧
  (0 : Int) ≤ k ∧
  (k : Int) < (rl : Int) ∧
  ∃ t0 : Option Addr, cell w (pIdx r k 1) 0 = some (.pointer t0) ∧
  r ≠ none ∧
  (0 : Int) ≤ i ∧
  (i : Int) < (rl : Int) ∧
  ∃ t1 : Option Addr, cell w (pIdx r i 1) 0 = some (.pointer t1) ∧
  r ≠ none ∧
  (0 : Int) ≤ i ∧
  (i : Int) < (rl : Int) ∧
  Store w (pIdx r i 1) [(.pointer t0)] [] fun w2 =>
   r ≠ none ∧
   (0 : Int) ≤ k ∧
   (k : Int) < (rl : Int) ∧
   Store w2 (pIdx r k 1) [(.pointer t1)] [] fun w3 =>
    r ≠ none ∧
    (0 : Int) ≤ i ∧
    (i : Int) < (rl : Int) ∧
    ∃ t4 : Option Addr, cell w3 (pIdx r i 1) 0 = some (.pointer t4) ∧
    r ≠ none ∧
    (0 : Int) ≤ k ∧
    (k : Int) < (rl : Int) ∧
    ∃ t5 : Option Addr, cell w3 (pIdx r k 1) 0 = some (.pointer t5) ∧
    t4 ≠ none ∧
    t4 ≠ none ∧
    Store w3 (pAdd t4 3) [(.int .i64 i)] [] fun w6 =>
     t5 ≠ none ∧
     t5 ≠ none ∧
     Store w6 (pAdd t5 3) [(.int .i64 k)] [] fun w7 =>
      ∀ w8, Ext w7 w8 →
      Q (.tuple #[]) w8

theorem ok_queue_row_Swap (r : Option Addr) (rl : Nat) (rc : Nat) (i : Int) (k : Int) (w : World) (Q : Value → World → Prop) (h : wp_queue_row_Swap r rl rc i k w Q) : FnP Try.prog F_queue_row_Swap #[(.slice r rl rc), (.int .i64 i), (.int .i64 k)] w Q := by
  have e_ : wp_queue_row_Swap r rl rc i k w Q = Runs Try.prog Q ({ N := 34, wrap := [], pub := [], muts := [], joins := [] } : Cfg) Try.f90 (Try.f90.body.getD .skip) [.sc (.slc r rl rc), .sc (.int .i64 i), .sc (.int .i64 k)] w := by kernel_rfl
  rw [e_] at h
  exact runs_fn h Try.func90 (by kernel_rfl) (fun args w => Try.call90 args w) (by kernel_rfl) (by kernel_rfl) rfl rfl

/-- (*shiftbell/queue.thing).ahead -/
def wp_queue_thing_ahead (t : Option Addr) (u : Option Addr) (w : World) (Q : Value → World → Prop) : Prop :=
  t ≠ none ∧
  t ≠ none ∧
  (pAdd t 0) ≠ none ∧
  ∃ t0 : Int, cell w (pAdd (pAdd t 0) 0) 0 = some (.int .i64 t0) ∧
  u ≠ none ∧
  u ≠ none ∧
  (pAdd u 0) ≠ none ∧
  ∃ t1 : Int, cell w (pAdd (pAdd u 0) 0) 0 = some (.int .i64 t1) ∧
  ((t0 ≤ t1) →
   t ≠ none) ∧
  ((t0 ≤ t1) →
   t ≠ none) ∧
  ((t0 ≤ t1) →
   (pAdd t 0) ≠ none) ∧
  ((t1 < t0) →
   ∀ w2, Ext w w2 →
   Q (.bool true) w2) ∧
  ((t0 ≤ t1) →
   ∃ t2 : Int, cell w (pAdd (pAdd t 0) 0) 0 = some (.int .i64 t2) ∧
   u ≠ none ∧
   u ≠ none ∧
   (pAdd u 0) ≠ none ∧
   ∃ t3 : Int, cell w (pAdd (pAdd u 0) 0) 0 = some (.int .i64 t3) ∧
   ((t2 = t3) →
    t ≠ none) ∧
   ((t2 = t3) →
    t ≠ none) ∧
   (((t2 = t3) →
    ∃ t4 : Int, cell w (pAdd t 2) 0 = some (.int .i64 t4) ∧
    u ≠ none ∧
    u ≠ none ∧
    ∃ t5 : Int, cell w (pAdd u 2) 0 = some (.int .i64 t5) ∧
    ∀ w6, Ext w w6 →
    Q (.bool (decide (t4 < t5))) w6)) ∧
   ((t2 ≠ t3) →
    ∀ w4, Ext w w4 →
    Q (.bool false) w4))

theorem ok_queue_thing_ahead (t : Option Addr) (u : Option Addr) (w : World) (Q : Value → World → Prop) (h : wp_queue_thing_ahead t u w Q) : FnP Try.prog F_queue_thing_ahead #[(.pointer t), (.pointer u)] w Q := by
  have e_ : wp_queue_thing_ahead t u w Q = Runs Try.prog Q ({ N := 40, wrap := [], pub := [], muts := [], joins := [] } : Cfg) Try.f91 (Try.f91.body.getD .skip) [.sc (.ptr t), .sc (.ptr u)] w := by kernel_rfl
  rw [e_] at h
  exact runs_fn h Try.func91 (by kernel_rfl) (fun args w => Try.call91 args w) (by kernel_rfl) (by kernel_rfl) rfl rfl

/-- (*shiftbell/queue.row).Pop -/
def wp_queue_row_Pop (r : Option Addr) (w : World) (Q : Value → World → Prop) : Prop :=
  r ≠ none ∧
  ∃ t0 : Option Addr, ∃ tl1 : Nat, ∃ tc2 : Nat, cell w r 0 = some (.slice t0 tl1 tc2) ∧
  InR .i64 ((tl1 : Int) - 1) ∧
  r ≠ none ∧
  ∃ t3 : Option Addr, ∃ tl4 : Nat, ∃ tc5 : Nat, cell w r 0 = some (.slice t3 tl4 tc5) ∧
  t3 ≠ none ∧
  (0 : Int) ≤ ((tl1 : Int) - 1) ∧
  (((tl1 : Int) - 1) : Int) < (tl4 : Int) ∧
  ∃ t6 : Option Addr, cell w (pIdx t3 ((tl1 : Int) - 1) 1) 0 = some (.pointer t6) ∧
  r ≠ none ∧
  ∃ t7 : Option Addr, ∃ tl8 : Nat, ∃ tc9 : Nat, cell w r 0 = some (.slice t7 tl8 tc9) ∧
  (0 : Int) ≤ 0 ∧
  (0 : Int) ≤ ((tl1 : Int) - 1) ∧
  (((tl1 : Int) - 1) : Int) ≤ (tc9 : Int) ∧
  r ≠ none ∧
  Store w r [(.slice (pCut t7 tc9 0 1) (((tl1 : Int) - 1) - 0).toNat (tc9 - (0 : Int).toNat))] [] fun w10 =>
   ∀ w11, Ext w10 w11 →
   Run Try.prog (.makeInterface 69 (.pointer t6)) w11 fun v12 w12 =>
    Ext w11 w12 ∧
    ∃ t13 : Value, v12 = t13 ∧
    ∀ w14, Ext w12 w14 →
    Q t13 w14

theorem ok_queue_row_Pop (r : Option Addr) (w : World) (Q : Value → World → Prop) (h : wp_queue_row_Pop r w Q) : FnP Try.prog F_queue_row_Pop #[(.pointer r)] w Q := by
  have e_ : wp_queue_row_Pop r w Q = Runs Try.prog Q ({ N := 25, wrap := [], pub := [], muts := [], joins := [] } : Cfg) Try.f92 (Try.f92.body.getD .skip) [.sc (.ptr r)] w := by kernel_rfl
  rw [e_] at h
  exact runs_fn h Try.func92 (by kernel_rfl) (fun args w => Try.call92 args w) (by kernel_rfl) (by kernel_rfl) rfl rfl

/-- (*shiftbell/queue.row).Push -/
def wp_queue_row_Push (r : Option Addr) (x : Value) (w : World) (Q : Value → World → Prop) : Prop :=
  ∀ w0, Ext w w0 →
  Run Try.prog (.typeAssert x 20 69 false) w0 fun v1 w1 =>
   Ext w0 w1 ∧
   ∃ t2 : Option Addr, v1 = (.pointer t2) ∧
   r ≠ none ∧
   ∃ t3 : Option Addr, ∃ tl4 : Nat, ∃ tc5 : Nat, cell w1 r 0 = some (.slice t3 tl4 tc5) ∧
   t2 ≠ none ∧
   t2 ≠ none ∧
   Store w1 (pAdd t2 3) [(.int .i64 (tl4 : Int))] [] fun w6 =>
    r ≠ none ∧
    ∃ t7 : Option Addr, ∃ tl8 : Nat, ∃ tc9 : Nat, cell w6 r 0 = some (.slice t7 tl8 tc9) ∧
    ∀ w10, Ext w6 w10 →
    Run Try.prog (.buildSlice 66 1 [(0, (.pointer t2))]) w10 fun v11 w11 =>
     Ext w10 w11 ∧
     ∃ t12 : Option Addr, ∃ tl13 : Nat, ∃ tc14 : Nat, v11 = (.slice t12 tl13 tc14) ∧
     ∀ w15, Ext w11 w15 →
     Run Try.prog (.append #[66, 66] 66 [(.slice t7 tl8 tc9), (.slice t12 tl13 tc14)]) w15 fun v16 w16 =>
      ∃ t17 : Option Addr, ∃ tl18 : Nat, ∃ tc19 : Nat, v16 = (.slice t17 tl18 tc19) ∧
      r ≠ none ∧
      Store w16 r [(.slice t17 tl18 tc19)] [] fun w20 =>
       ∀ w21, Ext w20 w21 →
       Q (.tuple #[]) w21

theorem ok_queue_row_Push (r : Option Addr) (x : Value) (w : World) (Q : Value → World → Prop) (h : wp_queue_row_Push r x w Q) : FnP Try.prog F_queue_row_Push #[(.pointer r), x] w Q := by
  have e_ : wp_queue_row_Push r x w Q = Runs Try.prog Q ({ N := 22, wrap := [], pub := [], muts := [], joins := [] } : Cfg) Try.f93 (Try.f93.body.getD .skip) [.sc (.ptr r), .sc (.val x)] w := by kernel_rfl
  rw [e_] at h
  exact runs_fn h Try.func93 (by kernel_rfl) (fun args w => Try.call93 args w) (by kernel_rfl) (by kernel_rfl) rfl rfl

/-- container/heap.up -/
def wp_container_heap_up (h_v : Value) (j : Int) (w : World) (Q : Value → World → Prop) : Prop :=
  ∃ (I0 : Int → World → Prop) (M0 : Int → World → Nat), I0 j w ∧
  ∀ (j1 : Int) (w2 : World), I0 j1 w2 →
   InR .i64 (j1 - 1) ∧
   InR .i64 ((j1 - 1).tdiv 2) ∧
   ((((j1 - 1).tdiv 2) = j1) →
    ∀ w3, Ext w2 w3 →
    Q (.tuple #[]) w3) ∧
   ((((j1 - 1).tdiv 2) ≠ j1) →
    ∀ w3, Ext w2 w3 →
    InvP Try.prog "Less" h_v [(.int .i64 j1), (.int .i64 ((j1 - 1).tdiv 2))] w3 fun v4 w4 =>
     ∃ t5 : Bool, v4 = (.bool t5) ∧
     ((t5 = false) →
      ∀ w6, Ext w4 w6 →
      Q (.tuple #[]) w6) ∧
     ((t5 = true) →
      ∀ w6, Ext w4 w6 →
      InvP Try.prog "Swap" h_v [(.int .i64 ((j1 - 1).tdiv 2)), (.int .i64 j1)] w6 fun v7 w7 =>
       v7 = (.tuple #[]) ∧
       (I0 ((j1 - 1).tdiv 2) w7 ∧ M0 ((j1 - 1).tdiv 2) w7 < M0 j1 w2)))

theorem ok_container_heap_up (h_v : Value) (j : Int) (w : World) (Q : Value → World → Prop) (h : wp_container_heap_up h_v j w Q) : FnP Try.prog F_container_heap_up #[h_v, (.int .i64 j)] w Q := by
  have e_ : wp_container_heap_up h_v j w Q = Runs Try.prog Q ({ N := 23, wrap := [], pub := [], muts := [], joins := [] } : Cfg) Try.f48 (Try.f48.body.getD .skip) [.sc (.val h_v), .sc (.int .i64 j)] w := by kernel_rfl
  rw [e_] at h
  exact runs_fn h Try.func48 (by kernel_rfl) (fun args w => Try.call48 args w) (by kernel_rfl) (by kernel_rfl) rfl rfl

/-- container/heap.down -/
def wp_container_heap_down (h_v : Value) (i0 : Int) (n : Int) (w : World) (Q : Value → World → Prop) : Prop :=
  ∃ (I0 : Int → World → Prop) (M0 : Int → World → Nat), I0 i0 w ∧
  ∀ (i1 : Int) (w2 : World), I0 i1 w2 →
   InR .i64 (2 * i1) ∧
   InR .i64 ((2 * i1) + 1) ∧
   (((n ≤ ((2 * i1) + 1)) ∨ (((2 * i1) + 1) < 0)) →
    ∀ w3, Ext w2 w3 →
    Q (.bool (decide (i0 < i1))) w3) ∧
   (((((2 * i1) + 1) < n) ∧ (0 ≤ ((2 * i1) + 1))) →
    InR .i64 (((2 * i1) + 1) + 1) ∧
    ((((((2 * i1) + 1) + 1) < n) →
     ∀ w3, Ext w2 w3 →
     InvP Try.prog "Less" h_v [(.int .i64 (((2 * i1) + 1) + 1)), (.int .i64 ((2 * i1) + 1))] w3 fun v4 w4 =>
      ∃ t5 : Bool, v4 = (.bool t5) ∧
      (((t5 = true) →
       ∀ w6, Ext w4 w6 →
       InvP Try.prog "Less" h_v [(.int .i64 (((2 * i1) + 1) + 1)), (.int .i64 i1)] w6 fun v7 w7 =>
        ∃ t8 : Bool, v7 = (.bool t8) ∧
        ((t8 = false) →
         ∀ w9, Ext w7 w9 →
         Q (.bool (decide (i0 < i1))) w9) ∧
        ((t8 = true) →
         ∀ w9, Ext w7 w9 →
         InvP Try.prog "Swap" h_v [(.int .i64 i1), (.int .i64 (((2 * i1) + 1) + 1))] w9 fun v10 w10 =>
          v10 = (.tuple #[]) ∧
          (I0 (((2 * i1) + 1) + 1) w10 ∧ M0 (((2 * i1) + 1) + 1) w10 < M0 i1 w2)))) ∧
      ((t5 = false) →
       ∀ w6, Ext w4 w6 →
       InvP Try.prog "Less" h_v [(.int .i64 ((2 * i1) + 1)), (.int .i64 i1)] w6 fun v7 w7 =>
        ∃ t8 : Bool, v7 = (.bool t8) ∧
        ((t8 = false) →
         ∀ w9, Ext w7 w9 →
         Q (.bool (decide (i0 < i1))) w9) ∧
        ((t8 = true) →
         ∀ w9, Ext w7 w9 →
         InvP Try.prog "Swap" h_v [(.int .i64 i1), (.int .i64 ((2 * i1) + 1))] w9 fun v10 w10 =>
          v10 = (.tuple #[]) ∧
          (I0 ((2 * i1) + 1) w10 ∧ M0 ((2 * i1) + 1) w10 < M0 i1 w2))))) ∧
    ((n ≤ (((2 * i1) + 1) + 1)) →
     ∀ w3, Ext w2 w3 →
     InvP Try.prog "Less" h_v [(.int .i64 ((2 * i1) + 1)), (.int .i64 i1)] w3 fun v4 w4 =>
      ∃ t5 : Bool, v4 = (.bool t5) ∧
      ((t5 = false) →
       ∀ w6, Ext w4 w6 →
       Q (.bool (decide (i0 < i1))) w6) ∧
      ((t5 = true) →
       ∀ w6, Ext w4 w6 →
       InvP Try.prog "Swap" h_v [(.int .i64 i1), (.int .i64 ((2 * i1) + 1))] w6 fun v7 w7 =>
        v7 = (.tuple #[]) ∧
        (I0 ((2 * i1) + 1) w7 ∧ M0 ((2 * i1) + 1) w7 < M0 i1 w2))))

theorem ok_container_heap_down (h_v : Value) (i0 : Int) (n : Int) (w : World) (Q : Value → World → Prop) (h : wp_container_heap_down h_v i0 n w Q) : FnP Try.prog F_container_heap_down #[h_v, (.int .i64 i0), (.int .i64 n)] w Q := by
  have e_ : wp_container_heap_down h_v i0 n w Q = Runs Try.prog Q ({ N := 48, wrap := [], pub := [], muts := [], joins := [] } : Cfg) Try.f49 (Try.f49.body.getD .skip) [.sc (.val h_v), .sc (.int .i64 i0), .sc (.int .i64 n)] w := by kernel_rfl
  rw [e_] at h
  exact runs_fn h Try.func49 (by kernel_rfl) (fun args w => Try.call49 args w) (by kernel_rfl) (by kernel_rfl) rfl rfl

/-- container/heap.Push -/
def wp_container_heap_Push (h_v : Value) (x : Value) (w : World) (Q : Value → World → Prop) : Prop :=
  ∀ w0, Ext w w0 →
  InvP Try.prog "Push" h_v [x] w0 fun v1 w1 =>
   v1 = (.tuple #[]) ∧
   ∀ w2, Ext w1 w2 →
   InvP Try.prog "Len" h_v [] w2 fun v3 w3 =>
    ∃ t4 : Int, v3 = (.int .i64 t4) ∧
    InR .i64 (t4 - 1) ∧
    ∀ w5, Ext w3 w5 →
    FnP Try.prog F_container_heap_up #[h_v, (.int .i64 (t4 - 1))] w5 fun v6 w6 =>
     v6 = (.tuple #[]) ∧
     ∀ w7, Ext w6 w7 →
     Q (.tuple #[]) w7

theorem ok_container_heap_Push (h_v : Value) (x : Value) (w : World) (Q : Value → World → Prop) (h : wp_container_heap_Push h_v x w Q) : FnP Try.prog F_container_heap_Push #[h_v, x] w Q := by
  have e_ : wp_container_heap_Push h_v x w Q = Runs Try.prog Q ({ N := 12, wrap := [], pub := [], muts := [48], joins := [] } : Cfg) Try.f34 (Try.f34.body.getD .skip) [.sc (.val h_v), .sc (.val x)] w := by kernel_rfl
  rw [e_] at h
  exact runs_fn h Try.func34 (by kernel_rfl) (fun args w => Try.call34 args w) (by kernel_rfl) (by kernel_rfl) rfl rfl

/-- container/heap.Pop -/
def wp_container_heap_Pop (h_v : Value) (w : World) (Q : Value → World → Prop) : Prop :=
  ∀ w0, Ext w w0 →
  InvP Try.prog "Len" h_v [] w0 fun v1 w1 =>
   ∃ t2 : Int, v1 = (.int .i64 t2) ∧
   InR .i64 (t2 - 1) ∧
   ∀ w3, Ext w1 w3 →
   InvP Try.prog "Swap" h_v [(.int .i64 0), (.int .i64 (t2 - 1))] w3 fun v4 w4 =>
    v4 = (.tuple #[]) ∧
    ∀ w5, Ext w4 w5 →
    FnP Try.prog F_container_heap_down #[h_v, (.int .i64 0), (.int .i64 (t2 - 1))] w5 fun v6 w6 =>
     ∃ t7 : Bool, v6 = (.bool t7) ∧
     ∀ w8, Ext w6 w8 →
     InvP Try.prog "Pop" h_v [] w8 fun v9 w9 =>
      ∃ t10 : Value, v9 = t10 ∧
      ∀ w11, Ext w9 w11 →
      Q t10 w11

theorem ok_container_heap_Pop (h_v : Value) (w : World) (Q : Value → World → Prop) (h : wp_container_heap_Pop h_v w Q) : FnP Try.prog F_container_heap_Pop #[h_v] w Q := by
  have e_ : wp_container_heap_Pop h_v w Q = Runs Try.prog Q ({ N := 15, wrap := [], pub := [], muts := [49], joins := [] } : Cfg) Try.f37 (Try.f37.body.getD .skip) [.sc (.val h_v)] w := by kernel_rfl
  rw [e_] at h
  exact runs_fn h Try.func37 (by kernel_rfl) (fun args w => Try.call37 args w) (by kernel_rfl) (by kernel_rfl) rfl rfl

/-- container/heap.Remove -/
def wp_container_heap_Remove (h_v : Value) (i : Int) (w : World) (Q : Value → World → Prop) : Prop :=
  ∀ w0, Ext w w0 →
  InvP Try.prog "Len" h_v [] w0 fun v1 w1 =>
   ∃ t2 : Int, v1 = (.int .i64 t2) ∧
   InR .i64 (t2 - 1) ∧
   ((((t2 - 1) ≠ i) →
    ∀ w3, Ext w1 w3 →
    InvP Try.prog "Swap" h_v [(.int .i64 i), (.int .i64 (t2 - 1))] w3 fun v4 w4 =>
     v4 = (.tuple #[]) ∧
     ∀ w5, Ext w4 w5 →
     FnP Try.prog F_container_heap_down #[h_v, (.int .i64 i), (.int .i64 (t2 - 1))] w5 fun v6 w6 =>
      ∃ t7 : Bool, v6 = (.bool t7) ∧
      (((t7 = false) →
       ∀ w8, Ext w6 w8 →
       FnP Try.prog F_container_heap_up #[h_v, (.int .i64 i)] w8 fun v9 w9 =>
        v9 = (.tuple #[]) ∧
        ∀ w10, Ext w9 w10 →
        InvP Try.prog "Pop" h_v [] w10 fun v11 w11 =>
         ∃ t12 : Value, v11 = t12 ∧
         ∀ w13, Ext w11 w13 →
         Q t12 w13)) ∧
      ((t7 = true) →
       ∀ w8, Ext w6 w8 →
       InvP Try.prog "Pop" h_v [] w8 fun v9 w9 =>
        ∃ t10 : Value, v9 = t10 ∧
        ∀ w11, Ext w9 w11 →
        Q t10 w11))) ∧
   (((t2 - 1) = i) →
    ∀ w3, Ext w1 w3 →
    InvP Try.prog "Pop" h_v [] w3 fun v4 w4 =>
     ∃ t5 : Value, v4 = t5 ∧
     ∀ w6, Ext w4 w6 →
     Q t5 w6)

theorem ok_container_heap_Remove (h_v : Value) (i : Int) (w : World) (Q : Value → World → Prop) (h : wp_container_heap_Remove h_v i w Q) : FnP Try.prog F_container_heap_Remove #[h_v, (.int .i64 i)] w Q := by
  have e_ : wp_container_heap_Remove h_v i w Q = Runs Try.prog Q ({ N := 26, wrap := [], pub := [], muts := [48, 49], joins := [] } : Cfg) Try.f35 (Try.f35.body.getD .skip) [.sc (.val h_v), .sc (.int .i64 i)] w := by kernel_rfl
  rw [e_] at h
  exact runs_fn h Try.func35 (by kernel_rfl) (fun args w => Try.call35 args w) (by kernel_rfl) (by kernel_rfl) rfl rfl

/-- container/heap.Fix -/
def wp_container_heap_Fix (h_v : Value) (i : Int) (w : World) (Q : Value → World → Prop) : Prop :=
  ∀ w0, Ext w w0 →
  InvP Try.prog "Len" h_v [] w0 fun v1 w1 =>
   ∃ t2 : Int, v1 = (.int .i64 t2) ∧
   ∀ w3, Ext w1 w3 →
   FnP Try.prog F_container_heap_down #[h_v, (.int .i64 i), (.int .i64 t2)] w3 fun v4 w4 =>
    ∃ t5 : Bool, v4 = (.bool t5) ∧
    (((t5 = false) →
     ∀ w6, Ext w4 w6 →
     FnP Try.prog F_container_heap_up #[h_v, (.int .i64 i)] w6 fun v7 w7 =>
      v7 = (.tuple #[]) ∧
      ∀ w8, Ext w7 w8 →
      Q (.tuple #[]) w8)) ∧
    ((t5 = true) →
     ∀ w6, Ext w4 w6 →
     Q (.tuple #[]) w6)

theorem ok_container_heap_Fix (h_v : Value) (i : Int) (w : World) (Q : Value → World → Prop) (h : wp_container_heap_Fix h_v i w Q) : FnP Try.prog F_container_heap_Fix #[h_v, (.int .i64 i)] w Q := by
  have e_ : wp_container_heap_Fix h_v i w Q = Runs Try.prog Q ({ N := 13, wrap := [], pub := [], muts := [48, 49], joins := [] } : Cfg) Try.f36 (Try.f36.body.getD .skip) [.sc (.val h_v), .sc (.int .i64 i)] w := by kernel_rfl
  rw [e_] at h
  exact runs_fn h Try.func36 (by kernel_rfl) (fun args w => Try.call36 args w) (by kernel_rfl) (by kernel_rfl) rfl rfl

/-- shiftbell/queue.New -/
def wp_queue_New  (w : World) (Q : Value → World → Prop) : Prop :=
  ∀ w0, Ext w w0 →
  Run Try.prog (.makeMap 64) w0 fun v1 w1 =>
   Ext w0 w1 ∧
   ∃ t2 : Value, v1 = t2 ∧
   Value.oneCell' t2 = true ∧
   ∀ w3, Ext w1 w3 →
   New w3 68 [(.slice none 0 0), t2, (.int .i64 0)] fun p4 w4 =>
    ∀ w5, Ext w4 w5 →
    Q (.pointer p4) w5

theorem ok_queue_New  (w : World) (Q : Value → World → Prop) (h : wp_queue_New  w Q) : FnP Try.prog F_queue_New #[] w Q := by
  have e_ : wp_queue_New  w Q = Runs Try.prog Q ({ N := 4, wrap := [], pub := [3], muts := [], joins := [] } : Cfg) Try.f14 (Try.f14.body.getD .skip) [] w := by kernel_rfl
  rw [e_] at h
  exact runs_fn h Try.func14 (by kernel_rfl) (fun args w => Try.call14 args w) (by kernel_rfl) (by kernel_rfl) rfl rfl

/-- (*shiftbell/queue.Queue).Put -/
def wp_queue_Queue_Put (q : Option Addr) (prio : Int) (id : Int) (w : World) (Q : Value → World → Prop) : Prop :=
  q ≠ none ∧
  q ≠ none ∧
  ∃ t0 : Value, cell w (pAdd q 1) 0 = some t0 ∧
  ∀ w1, Ext w w1 →
  Run Try.prog (.lookup 64 t0 (.int .i64 id) false) w1 fun v2 w2 =>
   Ext w1 w2 ∧
   ∃ t3 : Option Addr, v2 = (.pointer t3) ∧
   ((t3 ≠ none) →
    ∀ w4, Ext w2 w4 →
    Q (.int .i64 6) w4) ∧
   ((t3 = none) →
    q ≠ none ∧
    q ≠ none ∧
    ∃ t4 : Option Addr, ∃ tl5 : Nat, ∃ tc6 : Nat, cell w2 (pAdd q 0) 0 = some (.slice t4 tl5 tc6) ∧
    (((tl5 : Int) = 200) →
     ∀ w7, Ext w2 w7 →
     Q (.int .i64 7) w7) ∧
    (((tl5 : Int) ≠ 200) →
     q ≠ none ∧
     q ≠ none ∧
     ∃ t7 : Int, cell w2 (pAdd q 2) 0 = some (.int .i64 t7) ∧
     InR .i64 (t7 + 1) ∧
     q ≠ none ∧
     q ≠ none ∧
     Store w2 (pAdd q 2) [(.int .i64 (t7 + 1))] [] fun w8 =>
      q ≠ none ∧
      q ≠ none ∧
      ∃ t9 : Int, cell w8 (pAdd q 2) 0 = some (.int .i64 t9) ∧
      ∀ w10, Ext w8 w10 →
      New w10 71 [(.int .i64 prio), (.int .i64 id), (.int .i64 t9), (.int .i64 0)] fun p11 w11 =>
       q ≠ none ∧
       q ≠ none ∧
       ∃ t12 : Value, cell w11 (pAdd q 1) 0 = some t12 ∧
       ∀ w13, Ext w11 w13 →
       Run Try.prog (.mapUpdate 64 t12 (.int .i64 id) (.pointer p11)) w13 fun v14 w14 =>
        q ≠ none ∧
        q ≠ none ∧
        ∀ w15, Ext w14 w15 →
        Run Try.prog (.makeInterface 73 (.pointer (pAdd q 0))) w15 fun v16 w16 =>
         Ext w15 w16 ∧
         ∃ t17 : Value, v16 = t17 ∧
         ∀ w18, Ext w16 w18 →
         Run Try.prog (.makeInterface 69 (.pointer p11)) w18 fun v19 w19 =>
          Ext w18 w19 ∧
          ∃ t20 : Value, v19 = t20 ∧
          ∀ w21, Ext w19 w21 →
          FnP Try.prog F_container_heap_Push #[t17, t20] w21 fun v22 w22 =>
           v22 = (.tuple #[]) ∧
           ∀ w23, Ext w22 w23 →
           Q (.int .i64 0) w23))

theorem ok_queue_Queue_Put (q : Option Addr) (prio : Int) (id : Int) (w : World) (Q : Value → World → Prop) (h : wp_queue_Queue_Put q prio id w Q) : FnP Try.prog F_queue_Queue_Put #[(.pointer q), (.int .i64 prio), (.int .i64 id)] w Q := by
  have e_ : wp_queue_Queue_Put q prio id w Q = Runs Try.prog Q ({ N := 52, wrap := [], pub := [38], muts := [34], joins := [] } : Cfg) Try.f15 (Try.f15.body.getD .skip) [.sc (.ptr q), .sc (.int .i64 prio), .sc (.int .i64 id)] w := by kernel_rfl
  rw [e_] at h
  exact runs_fn h Try.func15 (by kernel_rfl) (fun args w => Try.call15 args w) (by kernel_rfl) (by kernel_rfl) rfl rfl

/-- (*shiftbell/queue.Queue).Drop -/
def wp_queue_Queue_Drop (q : Option Addr) (id : Int) (w : World) (Q : Value → World → Prop) : Prop :=
  q ≠ none ∧
  q ≠ none ∧
  ∃ t0 : Value, cell w (pAdd q 1) 0 = some t0 ∧
  ∀ w1, Ext w w1 →
  Run Try.prog (.lookup 64 t0 (.int .i64 id) false) w1 fun v2 w2 =>
   Ext w1 w2 ∧
   ∃ t3 : Option Addr, v2 = (.pointer t3) ∧
   ((t3 = none) →
    ∀ w4, Ext w2 w4 →
    Q (.int .i64 5) w4) ∧
   ((t3 ≠ none) →
    q ≠ none ∧
    q ≠ none ∧
    t3 ≠ none ∧
    t3 ≠ none ∧
    ∃ t4 : Int, cell w2 (pAdd t3 3) 0 = some (.int .i64 t4) ∧
    ∀ w5, Ext w2 w5 →
    Run Try.prog (.makeInterface 73 (.pointer (pAdd q 0))) w5 fun v6 w6 =>
     Ext w5 w6 ∧
     ∃ t7 : Value, v6 = t7 ∧
     ∀ w8, Ext w6 w8 →
     FnP Try.prog F_container_heap_Remove #[t7, (.int .i64 t4)] w8 fun v9 w9 =>
      ∃ t10 : Value, v9 = t10 ∧
      q ≠ none ∧
      q ≠ none ∧
      ∃ t11 : Value, cell w9 (pAdd q 1) 0 = some t11 ∧
      ∀ w12, Ext w9 w12 →
      Run Try.prog (.delete #[64, 3] 0 [t11, (.int .i64 id)]) w12 fun v13 w13 =>
       v13 = (.tuple #[]) ∧
       ∀ w14, Ext w13 w14 →
       Q (.int .i64 0) w14)

theorem ok_queue_Queue_Drop (q : Option Addr) (id : Int) (w : World) (Q : Value → World → Prop) (h : wp_queue_Queue_Drop q id w Q) : FnP Try.prog F_queue_Queue_Drop #[(.pointer q), (.int .i64 id)] w Q := by
  have e_ : wp_queue_Queue_Drop q id w Q = Runs Try.prog Q ({ N := 28, wrap := [], pub := [], muts := [35], joins := [] } : Cfg) Try.f16 (Try.f16.body.getD .skip) [.sc (.ptr q), .sc (.int .i64 id)] w := by kernel_rfl
  rw [e_] at h
  exact runs_fn h Try.func16 (by kernel_rfl) (fun args w => Try.call16 args w) (by kernel_rfl) (by kernel_rfl) rfl rfl

/-- (*shiftbell/queue.Queue).Raise -/
def wp_queue_Queue_Raise (q : Option Addr) (id : Int) (prio : Int) (w : World) (Q : Value → World → Prop) : Prop :=
  q ≠ none ∧
  q ≠ none ∧
  ∃ t0 : Value, cell w (pAdd q 1) 0 = some t0 ∧
  ∀ w1, Ext w w1 →
  Run Try.prog (.lookup 64 t0 (.int .i64 id) false) w1 fun v2 w2 =>
   Ext w1 w2 ∧
   ∃ t3 : Option Addr, v2 = (.pointer t3) ∧
   ((t3 = none) →
    ∀ w4, Ext w2 w4 →
    Q (.int .i64 5) w4) ∧
   ((t3 ≠ none) →
    t3 ≠ none ∧
    t3 ≠ none ∧
    (pAdd t3 0) ≠ none ∧
    ∃ t4 : Int, cell w2 (pAdd (pAdd t3 0) 0) 0 = some (.int .i64 t4) ∧
    ((prio < t4) →
     ∀ w5, Ext w2 w5 →
     Q (.int .i64 1) w5) ∧
    ((t4 ≤ prio) →
     t3 ≠ none ∧
     t3 ≠ none ∧
     (pAdd t3 0) ≠ none ∧
     Store w2 (pAdd (pAdd t3 0) 0) [(.int .i64 prio)] [] fun w5 =>
      q ≠ none ∧
      q ≠ none ∧
      t3 ≠ none ∧
      t3 ≠ none ∧
      ∃ t6 : Int, cell w5 (pAdd t3 3) 0 = some (.int .i64 t6) ∧
      ∀ w7, Ext w5 w7 →
      Run Try.prog (.makeInterface 73 (.pointer (pAdd q 0))) w7 fun v8 w8 =>
       Ext w7 w8 ∧
       ∃ t9 : Value, v8 = t9 ∧
       ∀ w10, Ext w8 w10 →
       FnP Try.prog F_container_heap_Fix #[t9, (.int .i64 t6)] w10 fun v11 w11 =>
        v11 = (.tuple #[]) ∧
        ∀ w12, Ext w11 w12 →
        Q (.int .i64 0) w12))

theorem ok_queue_Queue_Raise (q : Option Addr) (id : Int) (prio : Int) (w : World) (Q : Value → World → Prop) (h : wp_queue_Queue_Raise q id prio w Q) : FnP Try.prog F_queue_Queue_Raise #[(.pointer q), (.int .i64 id), (.int .i64 prio)] w Q := by
  have e_ : wp_queue_Queue_Raise q id prio w Q = Runs Try.prog Q ({ N := 39, wrap := [], pub := [], muts := [36], joins := [] } : Cfg) Try.f17 (Try.f17.body.getD .skip) [.sc (.ptr q), .sc (.int .i64 id), .sc (.int .i64 prio)] w := by kernel_rfl
  rw [e_] at h
  exact runs_fn h Try.func17 (by kernel_rfl) (fun args w => Try.call17 args w) (by kernel_rfl) (by kernel_rfl) rfl rfl

/-- (*shiftbell/queue.Queue).List -/
def wp_queue_Queue_List (q : Option Addr) (w : World) (Q : Value → World → Prop) : Prop :=
  ∀ w0, Ext w w0 →
  Run Try.prog (.makeMap 64) w0 fun v1 w1 =>
   Ext w0 w1 ∧
   ∃ t2 : Value, v1 = t2 ∧
   Value.oneCell' t2 = true ∧
   ∀ w3, Ext w1 w3 →
   New w3 68 [(.slice none 0 0), t2, (.int .i64 0)] fun p4 w4 =>
    q ≠ none ∧
    q ≠ none ∧
    ∃ t5 : Option Addr, ∃ tl6 : Nat, ∃ tc7 : Nat, cell w4 (pAdd q 0) 0 = some (.slice t5 tl6 tc7) ∧
    ∃ (I8 : Int → World → Prop) (M8 : Int → World → Nat), I8 0 w4 ∧
    ∀ (k9 : Int) (w10 : World), I8 k9 w10 →
     (((k9 < (tl6 : Int)) →
      t5 ≠ none ∧
      (0 : Int) ≤ k9 ∧
      (k9 : Int) < (tl6 : Int) ∧
      ∃ t11 : Option Addr, cell w10 (pIdx t5 k9 1) 0 = some (.pointer t11) ∧
      t11 ≠ none ∧
      t11 ≠ none ∧
      ∃ t12 : Int, cell w10 t11 0 = some (.int .i64 t12) ∧
      ∃ t13 : Int, cell w10 t11 1 = some (.int .i64 t13) ∧
      ∃ t14 : Int, cell w10 t11 2 = some (.int .i64 t14) ∧
      ∃ t15 : Int, cell w10 t11 3 = some (.int .i64 t15) ∧
      ∀ w16, Ext w10 w16 →
      New w16 71 [(.int .i64 0), (.int .i64 0), (.int .i64 0), (.int .i64 0)] fun p17 w17 =>
       Store w17 p17 [(.int .i64 t12), (.int .i64 t13), (.int .i64 t14), (.int .i64 t15)] [] fun w18 =>
        p4 ≠ none ∧
        p4 ≠ none ∧
        ∃ t19 : Value, cell w18 (pAdd p4 1) 0 = some t19 ∧
        t11 ≠ none ∧
        t11 ≠ none ∧
        (pAdd t11 0) ≠ none ∧
        ∃ t20 : Int, cell w18 (pAdd (pAdd t11 0) 1) 0 = some (.int .i64 t20) ∧
        ∀ w21, Ext w18 w21 →
        Run Try.prog (.mapUpdate 64 t19 (.int .i64 t20) (.pointer p17)) w21 fun v22 w22 =>
         p4 ≠ none ∧
         p4 ≠ none ∧
         ∀ w23, Ext w22 w23 →
         Run Try.prog (.makeInterface 73 (.pointer (pAdd p4 0))) w23 fun v24 w24 =>
          Ext w23 w24 ∧
          ∃ t25 : Value, v24 = t25 ∧
          ∀ w26, Ext w24 w26 →
          Run Try.prog (.makeInterface 69 (.pointer p17)) w26 fun v27 w27 =>
           Ext w26 w27 ∧
           ∃ t28 : Value, v27 = t28 ∧
           ∀ w29, Ext w27 w29 →
           FnP Try.prog F_container_heap_Push #[t25, t28] w29 fun v30 w30 =>
            v30 = (.tuple #[]) ∧
            InR .i64 (k9 + 1) ∧
            (I8 (k9 + 1) w30 ∧ M8 (k9 + 1) w30 < M8 k9 w10))) ∧
     (((tl6 : Int) ≤ k9) →
      ∃ (I11 : Option Addr → Nat → Nat → World → Prop) (M11 : Option Addr → Nat → Nat → World → Nat), I11 none 0 0 w10 ∧
      ∀ (out12 : Option Addr) (outl12 : Nat) (outc12 : Nat) (w13 : World), I11 out12 outl12 outc12 w13 →
       ∀ w14, Ext w13 w14 →
       FnP Try.prog F_queue_Queue_Take #[(.pointer p4)] w14 fun v15 w15 =>
        ∃ t_016 : Int, ∃ t_117 : Int, ∃ t18 : Bool, v15 = (.tuple #[(.agg #[(.int .i64 t_016), (.int .i64 t_117)]), (.bool t18)]) ∧
        ∀ b19 : Nat, w15.heap.size ≤ b19 → ((t18 = false) →
         ∀ w20, Ext w15 w20 →
         Q (.slice out12 outl12 outc12) w20) ∧
        ((t18 = true) →
         ∀ w20, ExtB [] [b19] w15 w20 →
         Run Try.prog (.buildSlice 22 1 [(0, (.agg #[(.int .i64 t_016), (.int .i64 t_117)]))]) w20 fun v21 w21 =>
          Ext w20 w21 ∧
          ∃ t22 : Option Addr, ∃ tl23 : Nat, ∃ tc24 : Nat, v21 = (.slice t22 tl23 tc24) ∧
          ∀ w25, ExtB [] [b19] w21 w25 →
          Run Try.prog (.append #[22, 22] 22 [(.slice out12 outl12 outc12), (.slice t22 tl23 tc24)]) w25 fun v26 w26 =>
           Kept [b19] w25 w26 ∧
           ∃ t27 : Option Addr, ∃ tl28 : Nat, ∃ tc29 : Nat, v26 = (.slice t27 tl28 tc29) ∧
           (I11 t27 tl28 tc29 w26 ∧ M11 t27 tl28 tc29 w26 < M11 out12 outl12 outc12 w13)))

theorem ok_queue_Queue_List (q : Option Addr) (w : World) (Q : Value → World → Prop) (h : wp_queue_Queue_List q w Q) : FnP Try.prog F_queue_Queue_List #[(.pointer q)] w Q := by
  have e_ : wp_queue_Queue_List q w Q = Runs Try.prog Q ({ N := 53, wrap := [], pub := [12, 6], muts := [34, 19], joins := [] } : Cfg) Try.f18 (Try.f18.body.getD .skip) [.sc (.ptr q)] w := by kernel_rfl
  rw [e_] at h
  exact runs_fn h Try.func18 (by kernel_rfl) (fun args w => Try.call18 args w) (by kernel_rfl) (by kernel_rfl) rfl rfl

/-- (*shiftbell/queue.Queue).Take -/
def wp_queue_Queue_Take (q : Option Addr) (w : World) (Q : Value → World → Prop) : Prop :=
  ∀ b0 : Nat, w.heap.size ≤ b0 → q ≠ none ∧
  q ≠ none ∧
  ∃ t1 : Option Addr, ∃ tl2 : Nat, ∃ tc3 : Nat, cell w (pAdd q 0) 0 = some (.slice t1 tl2 tc3) ∧
  (((tl2 : Int) = 0) →
   ∀ w4, Ext w w4 →
   Q (.tuple #[(.agg #[(.int .i64 0), (.int .i64 0)]), (.bool false)]) w4) ∧
  (((tl2 : Int) ≠ 0) →
   q ≠ none ∧
   q ≠ none ∧
   ∀ w4, ExtB [] [b0] w w4 →
   Run Try.prog (.makeInterface 73 (.pointer (pAdd q 0))) w4 fun v5 w5 =>
    Ext w4 w5 ∧
    ∃ t6 : Value, v5 = t6 ∧
    ∀ w7, ExtB [] [b0] w5 w7 →
    FnP Try.prog F_container_heap_Pop #[t6] w7 fun v8 w8 =>
     Kept [b0] w7 w8 ∧
     ∃ t9 : Value, v8 = t9 ∧
     ∀ w10, ExtB [] [b0] w8 w10 →
     Run Try.prog (.typeAssert t9 20 69 false) w10 fun v11 w11 =>
      Ext w10 w11 ∧
      ∃ t12 : Option Addr, v11 = (.pointer t12) ∧
      q ≠ none ∧
      q ≠ none ∧
      ∃ t13 : Value, cell w11 (pAdd q 1) 0 = some t13 ∧
      t12 ≠ none ∧
      t12 ≠ none ∧
      (pAdd t12 0) ≠ none ∧
      ∃ t14 : Int, cell w11 (pAdd (pAdd t12 0) 1) 0 = some (.int .i64 t14) ∧
      ∀ w15, ExtB [] [b0] w11 w15 →
      Run Try.prog (.delete #[64, 3] 0 [t13, (.int .i64 t14)]) w15 fun v16 w16 =>
       Kept [b0] w15 w16 ∧
       v16 = (.tuple #[]) ∧
       t12 ≠ none ∧
       t12 ≠ none ∧
       (pAdd t12 0) ≠ none ∧
       ∃ t17 : Int, cell w16 (pAdd t12 0) 0 = some (.int .i64 t17) ∧
       ∃ t18 : Int, cell w16 (pAdd t12 0) 1 = some (.int .i64 t18) ∧
       ∀ w19, ExtB [b0] [] w16 w19 →
       Q (.tuple #[(.agg #[(.int .i64 t17), (.int .i64 t18)]), (.bool true)]) w19)

theorem ok_queue_Queue_Take (q : Option Addr) (w : World) (Q : Value → World → Prop) (h : wp_queue_Queue_Take q w Q) : FnP Try.prog F_queue_Queue_Take #[(.pointer q)] w Q := by
  have e_ : wp_queue_Queue_Take q w Q = Runs Try.prog Q ({ N := 31, wrap := [], pub := [], muts := [37], joins := [] } : Cfg) Try.f19 (Try.f19.body.getD .skip) [.sc (.ptr q)] w := by kernel_rfl
  rw [e_] at h
  exact runs_fn h Try.func19 (by kernel_rfl) (fun args w => Try.call19 args w) (by kernel_rfl) (by kernel_rfl) rfl rfl

/-- shiftbell/queue.Sort -/
def wp_queue_Sort (l : Option Addr) (ll : Nat) (lc : Nat) (w : World) (Q : Value → World → Prop) : Prop :=
  ((200 < (ll : Int)) →
   ∀ w0, Ext w w0 →
   Q (.tuple #[(.slice none 0 0), (.int .i64 2)]) w0) ∧
  (((ll : Int) ≤ 200) →
   ∀ w0, Ext w w0 →
   FnP Try.prog F_queue_New #[] w0 fun v1 w1 =>
    Ext w0 w1 ∧
    ∃ t2 : Option Addr, v1 = (.pointer t2) ∧
    ∃ (I3 : Int → World → Prop) (M3 : Int → World → Nat), I3 0 w1 ∧
    ∀ (k4 : Int) (w5 : World), I3 k4 w5 →
     (((k4 < (ll : Int)) →
      l ≠ none ∧
      (0 : Int) ≤ k4 ∧
      (k4 : Int) < (ll : Int) ∧
      (pIdx l k4 2) ≠ none ∧
      ∃ t6 : Int, cell w5 (pIdx l k4 2) 0 = some (.int .i64 t6) ∧
      ∃ t7 : Int, cell w5 (pIdx l k4 2) 1 = some (.int .i64 t7) ∧
      ∀ b8 : Nat, w5.heap.size ≤ b8 → ∀ w9, ExtB [] [b8] w5 w9 →
      FnP Try.prog F_queue_Queue_Put #[(.pointer t2), (.int .i64 t6), (.int .i64 t7)] w9 fun v10 w10 =>
       Kept [b8] w9 w10 ∧
       ∃ t11 : Int, v10 = (.int .i64 t11) ∧
       ((t11 ≠ 0) →
        ∀ w12, Ext w10 w12 →
        Q (.tuple #[(.slice none 0 0), (.int .i64 t11)]) w12) ∧
       ((t11 = 0) →
        InR .i64 (k4 + 1) ∧
        (I3 (k4 + 1) w10 ∧ M3 (k4 + 1) w10 < M3 k4 w5)))) ∧
     (((ll : Int) ≤ k4) →
      ∀ w6, Ext w5 w6 →
      FnP Try.prog F_queue_Queue_List #[(.pointer t2)] w6 fun v7 w7 =>
       Ext w6 w7 ∧
       ∃ t8 : Option Addr, ∃ tl9 : Nat, ∃ tc10 : Nat, v7 = (.slice t8 tl9 tc10) ∧
       ∀ w11, Ext w7 w11 →
       Q (.tuple #[(.slice t8 tl9 tc10), (.int .i64 0)]) w11))

theorem ok_queue_Sort (l : Option Addr) (ll : Nat) (lc : Nat) (w : World) (Q : Value → World → Prop) (h : wp_queue_Sort l ll lc w Q) : FnP Try.prog F_queue_Sort #[(.slice l ll lc)] w Q := by
  have e_ : wp_queue_Sort l ll lc w Q = Runs Try.prog Q ({ N := 30, wrap := [], pub := [], muts := [15], joins := [] } : Cfg) Try.f11 (Try.f11.body.getD .skip) [.sc (.slc l ll lc)] w := by kernel_rfl
  rw [e_] at h
  exact runs_fn h Try.func11 (by kernel_rfl) (fun args w => Try.call11 args w) (by kernel_rfl) (by kernel_rfl) rfl rfl

/-- shiftbell/shiftbellkeep.queues -/
def wp_shiftbellkeep_queues  (w : World) (Q : Value → World → Prop) : Prop :=
  ∀ w0, Ext w w0 →
  Run Try.prog (.buildSlice 22 2 [(0, (.agg #[(.int .i64 1), (.int .i64 1)])), (1, (.agg #[(.int .i64 2), (.int .i64 2)]))]) w0 fun v1 w1 =>
   Ext w0 w1 ∧
   ∃ t2 : Option Addr, ∃ tl3 : Nat, ∃ tc4 : Nat, v1 = (.slice t2 tl3 tc4) ∧
   ∀ w5, Ext w1 w5 →
   FnP Try.prog F_queue_Sort #[(.slice t2 tl3 tc4)] w5 fun v6 w6 =>
    Ext w5 w6 ∧
    ∃ t7 : Option Addr, ∃ tl8 : Nat, ∃ tc9 : Nat, ∃ t10 : Int, v6 = (.tuple #[(.slice t7 tl8 tc9), (.int .i64 t10)]) ∧
    ((((t10 = 0) ∧ ((tl8 : Int) = 2)) →
     t7 ≠ none)) ∧
    ((((t10 = 0) ∧ ((tl8 : Int) = 2)) →
     (0 : Int) ≤ 0)) ∧
    ((((t10 = 0) ∧ ((tl8 : Int) = 2)) →
     (0 : Int) < (tl8 : Int))) ∧
    ((((t10 = 0) ∧ ((tl8 : Int) = 2)) →
     (pIdx t7 0 2) ≠ none)) ∧
    ((((t10 = 0) ∧ ((tl8 : Int) = 2)) →
     ∃ t11 : Int, cell w6 (pAdd (pIdx t7 0 2) 1) 0 = some (.int .i64 t11) ∧
     ∀ w12, Ext w6 w12 →
     Q (.bool (decide (t11 = 2))) w12)) ∧
    (((t10 ≠ 0) ∨ ((tl8 : Int) ≠ 2)) →
     ∀ w11, Ext w6 w11 →
     Q (.bool false) w11)

theorem ok_shiftbellkeep_queues  (w : World) (Q : Value → World → Prop) (h : wp_shiftbellkeep_queues  w Q) : FnP Try.prog F_shiftbellkeep_queues #[] w Q := by
  have e_ : wp_shiftbellkeep_queues  w Q = Runs Try.prog Q ({ N := 24, wrap := [], pub := [], muts := [], joins := [] } : Cfg) Try.f10 (Try.f10.body.getD .skip) [] w := by kernel_rfl
  rw [e_] at h
  exact runs_fn h Try.func10 (by kernel_rfl) (fun args w => Try.call10 args w) (by kernel_rfl) (by kernel_rfl) rfl rfl

/-- slices.Index[[]shiftbell/api.Item,shiftbell/api.Item] -/
def wp_slices_Index_api_Item_api_Item (s : Option Addr) (sl : Nat) (sc : Nat) (v_0 : Int) (v_1 : Int) (w : World) (Q : Value → World → Prop) : Prop :=
  ∀ b0 : Nat, w.heap.size ≤ b0 → ∃ (I1 : Int → World → Prop) (M1 : Int → World → Nat), I1 0 w ∧
  ∀ (k2 : Int) (w3 : World), I1 k2 w3 →
   (((k2 < (sl : Int)) →
    s ≠ none ∧
    (0 : Int) ≤ k2 ∧
    (k2 : Int) < (sl : Int) ∧
    (pIdx s k2 2) ≠ none ∧
    ∃ t4 : Int, cell w3 (pIdx s k2 2) 0 = some (.int .i64 t4) ∧
    ∃ t5 : Int, cell w3 (pIdx s k2 2) 1 = some (.int .i64 t5) ∧
    ∀ w6, Ext w3 w6 →
    Run Try.prog (.eq .eql 28 false false (.agg #[(.int .i64 v_0), (.int .i64 v_1)]) (.agg #[(.int .i64 t4), (.int .i64 t5)])) w6 fun v7 w7 =>
     Ext w6 w7 ∧
     ∃ t8 : Bool, v7 = (.bool t8) ∧
     ((t8 = true) →
      ∀ w9, Ext w3 w9 →
      Q (.int .i64 k2) w9) ∧
     ((t8 = false) →
      InR .i64 (k2 + 1) ∧
      (I1 (k2 + 1) w3 ∧ M1 (k2 + 1) w3 < M1 k2 w3)))) ∧
   (((sl : Int) ≤ k2) →
    ∀ w4, Ext w3 w4 →
    Q (.int .i64 (-1)) w4)

theorem ok_slices_Index_api_Item_api_Item (s : Option Addr) (sl : Nat) (sc : Nat) (v_0 : Int) (v_1 : Int) (w : World) (Q : Value → World → Prop) (h : wp_slices_Index_api_Item_api_Item s sl sc v_0 v_1 w Q) : FnP Try.prog F_slices_Index_api_Item_api_Item #[(.slice s sl sc), (.agg #[(.int .i64 v_0), (.int .i64 v_1)])] w Q := by
  have e_ : wp_slices_Index_api_Item_api_Item s sl sc v_0 v_1 w Q = Runs Try.prog Q ({ N := 19, wrap := [], pub := [], muts := [], joins := [] } : Cfg) Try.f12 (Try.f12.body.getD .skip) [.sc (.slc s sl sc), .agg [.int .i64 v_0, .int .i64 v_1]] w := by kernel_rfl
  rw [e_] at h
  exact runs_fn h Try.func12 (by kernel_rfl) (fun args w => Try.call12 args w) (by kernel_rfl) (by kernel_rfl) rfl rfl

/-- slices.Equal[[]shiftbell/api.Item,shiftbell/api.Item] -/
def wp_slices_Equal_api_Item_api_Item (s1 : Option Addr) (s1l : Nat) (s1c : Nat) (s2 : Option Addr) (s2l : Nat) (s2c : Nat) (w : World) (Q : Value → World → Prop) : Prop :=
  (((s1l : Int) ≠ (s2l : Int)) →
   ∀ w0, Ext w w0 →
   Q (.bool false) w0) ∧
  (((s1l : Int) = (s2l : Int)) →
   ∃ (I0 : Int → World → Prop) (M0 : Int → World → Nat), I0 0 w ∧
   ∀ (k1 : Int) (w2 : World), I0 k1 w2 →
    (((k1 < (s1l : Int)) →
     s1 ≠ none ∧
     (0 : Int) ≤ k1 ∧
     (k1 : Int) < (s1l : Int) ∧
     (pIdx s1 k1 2) ≠ none ∧
     ∃ t3 : Int, cell w2 (pIdx s1 k1 2) 0 = some (.int .i64 t3) ∧
     ∃ t4 : Int, cell w2 (pIdx s1 k1 2) 1 = some (.int .i64 t4) ∧
     s2 ≠ none ∧
     (0 : Int) ≤ k1 ∧
     (k1 : Int) < (s2l : Int) ∧
     (pIdx s2 k1 2) ≠ none ∧
     ∃ t5 : Int, cell w2 (pIdx s2 k1 2) 0 = some (.int .i64 t5) ∧
     ∃ t6 : Int, cell w2 (pIdx s2 k1 2) 1 = some (.int .i64 t6) ∧
     ∀ w7, Ext w2 w7 →
     Run Try.prog (.eq .neq 28 false false (.agg #[(.int .i64 t3), (.int .i64 t4)]) (.agg #[(.int .i64 t5), (.int .i64 t6)])) w7 fun v8 w8 =>
      Ext w7 w8 ∧
      ∃ t9 : Bool, v8 = (.bool t9) ∧
      ((t9 = true) →
       ∀ w10, Ext w2 w10 →
       Q (.bool false) w10) ∧
      ((t9 = false) →
       InR .i64 (k1 + 1) ∧
       (I0 (k1 + 1) w2 ∧ M0 (k1 + 1) w2 < M0 k1 w2)))) ∧
    (((s1l : Int) ≤ k1) →
     ∀ w3, Ext w2 w3 →
     Q (.bool true) w3))

theorem ok_slices_Equal_api_Item_api_Item (s1 : Option Addr) (s1l : Nat) (s1c : Nat) (s2 : Option Addr) (s2l : Nat) (s2c : Nat) (w : World) (Q : Value → World → Prop) (h : wp_slices_Equal_api_Item_api_Item s1 s1l s1c s2 s2l s2c w Q) : FnP Try.prog F_slices_Equal_api_Item_api_Item #[(.slice s1 s1l s1c), (.slice s2 s2l s2c)] w Q := by
  have e_ : wp_slices_Equal_api_Item_api_Item s1 s1l s1c s2 s2l s2c w Q = Runs Try.prog Q ({ N := 26, wrap := [], pub := [], muts := [], joins := [] } : Cfg) Try.f13 (Try.f13.body.getD .skip) [.sc (.slc s1 s1l s1c), .sc (.slc s2 s2l s2c)] w := by kernel_rfl
  rw [e_] at h
  exact runs_fn h Try.func13 (by kernel_rfl) (fun args w => Try.call13 args w) (by kernel_rfl) (by kernel_rfl) rfl rfl

/-- shiftbell/shiftbellkeep.QueueSorted -/
def wp_shiftbellkeep_QueueSorted (l : Option Addr) (ll : Nat) (lc : Nat) (w : World) (Q : Value → World → Prop) : Prop :=
  ∀ w0, Ext w w0 →
  FnP Try.prog F_shiftbellkeep_queues #[] w0 fun v1 w1 =>
   Ext w0 w1 ∧
   ∃ t2 : Bool, v1 = (.bool t2) ∧
   ((t2 = false) →
    ∀ w3, Ext w w3 →
    Q (.bool false) w3) ∧
   ((t2 = true) →
    ∀ w3, Ext w w3 →
    FnP Try.prog F_queue_Sort #[(.slice l ll lc)] w3 fun v4 w4 =>
     Ext w3 w4 ∧
     ∃ t5 : Option Addr, ∃ tl6 : Nat, ∃ tc7 : Nat, ∃ t8 : Int, v4 = (.tuple #[(.slice t5 tl6 tc7), (.int .i64 t8)]) ∧
     ((t8 ≠ 0) →
      ∀ w9, Ext w4 w9 →
      Q (.bool (decide ((tl6 : Int) = 0))) w9) ∧
     ((t8 = 0) →
      (((tl6 : Int) ≠ (ll : Int)) →
       ∀ w9, Ext w4 w9 →
       Q (.bool false) w9) ∧
      (((tl6 : Int) = (ll : Int)) →
       ∃ (I9 : Int → World → Prop) (M9 : Int → World → Nat), I9 0 w4 ∧
       ∀ (k10 : Int) (w11 : World), I9 k10 w11 →
        (((k10 < (tl6 : Int)) →
         t5 ≠ none ∧
         (0 : Int) ≤ k10 ∧
         (k10 : Int) < (tl6 : Int) ∧
         (pIdx t5 k10 2) ≠ none ∧
         ∃ t12 : Int, cell w11 (pIdx t5 k10 2) 0 = some (.int .i64 t12) ∧
         ∃ t13 : Int, cell w11 (pIdx t5 k10 2) 1 = some (.int .i64 t13) ∧
         ∀ b14 : Nat, w11.heap.size ≤ b14 → ∀ w15, Ext w11 w15 →
         FnP Try.prog F_slices_Index_api_Item_api_Item #[(.slice l ll lc), (.agg #[(.int .i64 t12), (.int .i64 t13)])] w15 fun v16 w16 =>
          Ext w15 w16 ∧
          ∃ t17 : Int, v16 = (.int .i64 t17) ∧
          ((0 ≤ t17) →
           ((0 < k10) →
            InR .i64 (k10 - 1))) ∧
          ((0 ≤ t17) →
           ((0 < k10) →
            t5 ≠ none)) ∧
          ((0 ≤ t17) →
           ((0 < k10) →
            (0 : Int) ≤ (k10 - 1))) ∧
          ((0 ≤ t17) →
           ((0 < k10) →
            ((k10 - 1) : Int) < (tl6 : Int))) ∧
          ((0 ≤ t17) →
           ((0 < k10) →
            (pIdx t5 (k10 - 1) 2) ≠ none)) ∧
          ((t17 < 0) →
           ∀ w18, Ext w11 w18 →
           Q (.bool false) w18) ∧
          ((0 ≤ t17) →
           (((0 < k10) →
            ∃ t18 : Int, cell w11 (pAdd (pIdx t5 (k10 - 1) 2) 0) 0 = some (.int .i64 t18) ∧
            ((t12 ≤ t18) →
             InR .i64 (k10 - 1)) ∧
            ((t12 ≤ t18) →
             t5 ≠ none) ∧
            ((t12 ≤ t18) →
             (0 : Int) ≤ (k10 - 1)) ∧
            ((t12 ≤ t18) →
             ((k10 - 1) : Int) < (tl6 : Int)) ∧
            ((t12 ≤ t18) →
             (pIdx t5 (k10 - 1) 2) ≠ none) ∧
            ((t18 < t12) →
             ∀ w19, Ext w11 w19 →
             Q (.bool false) w19) ∧
            ((t12 ≤ t18) →
             ∃ t19 : Int, cell w11 (pAdd (pIdx t5 (k10 - 1) 2) 0) 0 = some (.int .i64 t19) ∧
             ((t19 = t12) →
              InR .i64 (k10 - 1)) ∧
             ((t19 = t12) →
              t5 ≠ none) ∧
             ((t19 = t12) →
              (0 : Int) ≤ (k10 - 1)) ∧
             ((t19 = t12) →
              ((k10 - 1) : Int) < (tl6 : Int)) ∧
             (((t19 = t12) →
              (pIdx t5 (k10 - 1) 2) ≠ none ∧
              ∃ t20 : Int, cell w11 (pIdx t5 (k10 - 1) 2) 0 = some (.int .i64 t20) ∧
              ∃ t21 : Int, cell w11 (pIdx t5 (k10 - 1) 2) 1 = some (.int .i64 t21) ∧
              ∀ w22, Ext w11 w22 →
              FnP Try.prog F_slices_Index_api_Item_api_Item #[(.slice l ll lc), (.agg #[(.int .i64 t20), (.int .i64 t21)])] w22 fun v23 w23 =>
               Ext w22 w23 ∧
               ∃ t24 : Int, v23 = (.int .i64 t24) ∧
               ((t17 ≤ t24) →
                ∀ w25, Ext w11 w25 →
                Q (.bool false) w25) ∧
               ((t24 < t17) →
                InR .i64 (k10 + 1) ∧
                (I9 (k10 + 1) w11 ∧ M9 (k10 + 1) w11 < M9 k10 w11)))) ∧
             ((t19 ≠ t12) →
              InR .i64 (k10 + 1) ∧
              (I9 (k10 + 1) w11 ∧ M9 (k10 + 1) w11 < M9 k10 w11))))) ∧
           ((k10 ≤ 0) →
            InR .i64 (k10 + 1) ∧
            (I9 (k10 + 1) w11 ∧ M9 (k10 + 1) w11 < M9 k10 w11))))) ∧
        (((tl6 : Int) ≤ k10) →
         ∀ w12, Ext w11 w12 →
         Q (.bool true) w12))))

theorem ok_shiftbellkeep_QueueSorted (l : Option Addr) (ll : Nat) (lc : Nat) (w : World) (Q : Value → World → Prop) (h : wp_shiftbellkeep_QueueSorted l ll lc w Q) : FnP Try.prog F_shiftbellkeep_QueueSorted #[(.slice l ll lc)] w Q := by
  have e_ : wp_shiftbellkeep_QueueSorted l ll lc w Q = Runs Try.prog Q ({ N := 75, wrap := [], pub := [], muts := [], joins := [] } : Cfg) Try.f3 (Try.f3.body.getD .skip) [.sc (.slc l ll lc)] w := by kernel_rfl
  rw [e_] at h
  exact runs_fn h Try.func3 (by kernel_rfl) (fun args w => Try.call3 args w) (by kernel_rfl) (by kernel_rfl) rfl rfl

theorem open_shiftbellkeep_QueueSorted (W : World) (R : Array Value → Prop) (h : ∀ l : Option Addr, ∀ ll : Nat, ∀ lc : Nat, SlcArg Try.prog W 28 l ll lc → R #[(.slice l ll lc)]) (args : Array Value) (hg : GoodAll Try.prog W Try.f3.params.toList args.toList) : R args := by
  have e_ : (ArgsAll Try.prog W Try.f3.params.toList fun l => R l.toArray) = (∀ l : Option Addr, ∀ ll : Nat, ∀ lc : Nat, SlcArg Try.prog W 28 l ll lc → R #[(.slice l ll lc)]) := by kernel_rfl
  exact args_open (by rw [e_]; exact h) args hg
-- wit 3 #[(.slice none 0 0)]

/-- shiftbell/shiftbellkeep.QueueAgain -/
def wp_shiftbellkeep_QueueAgain (l : Option Addr) (ll : Nat) (lc : Nat) (w : World) (Q : Value → World → Prop) : Prop :=
  ∀ w0, Ext w w0 →
  FnP Try.prog F_shiftbellkeep_queues #[] w0 fun v1 w1 =>
   Ext w0 w1 ∧
   ∃ t2 : Bool, v1 = (.bool t2) ∧
   ((t2 = false) →
    ∀ w3, Ext w w3 →
    Q (.bool false) w3) ∧
   ((t2 = true) →
    ∀ w3, Ext w w3 →
    FnP Try.prog F_queue_Sort #[(.slice l ll lc)] w3 fun v4 w4 =>
     Ext w3 w4 ∧
     ∃ t5 : Option Addr, ∃ tl6 : Nat, ∃ tc7 : Nat, ∃ t8 : Int, v4 = (.tuple #[(.slice t5 tl6 tc7), (.int .i64 t8)]) ∧
     ((t8 ≠ 0) →
      ∀ w9, Ext w4 w9 →
      Q (.bool (decide ((tl6 : Int) = 0))) w9) ∧
     ((t8 = 0) →
      ∀ w9, Ext w4 w9 →
      FnP Try.prog F_queue_Sort #[(.slice t5 tl6 tc7)] w9 fun v10 w10 =>
       Ext w9 w10 ∧
       ∃ t11 : Option Addr, ∃ tl12 : Nat, ∃ tc13 : Nat, ∃ t14 : Int, v10 = (.tuple #[(.slice t11 tl12 tc13), (.int .i64 t14)]) ∧
       (((t14 = 0) →
        ∀ w15, Ext w10 w15 →
        FnP Try.prog F_slices_Equal_api_Item_api_Item #[(.slice t5 tl6 tc7), (.slice t11 tl12 tc13)] w15 fun v16 w16 =>
         Ext w15 w16 ∧
         ∃ t17 : Bool, v16 = (.bool t17) ∧
         ∀ w18, Ext w10 w18 →
         Q (.bool t17) w18)) ∧
       ((t14 ≠ 0) →
        ∀ w15, Ext w10 w15 →
        Q (.bool false) w15)))

theorem ok_shiftbellkeep_QueueAgain (l : Option Addr) (ll : Nat) (lc : Nat) (w : World) (Q : Value → World → Prop) (h : wp_shiftbellkeep_QueueAgain l ll lc w Q) : FnP Try.prog F_shiftbellkeep_QueueAgain #[(.slice l ll lc)] w Q := by
  have e_ : wp_shiftbellkeep_QueueAgain l ll lc w Q = Runs Try.prog Q ({ N := 31, wrap := [], pub := [], muts := [], joins := [] } : Cfg) Try.f4 (Try.f4.body.getD .skip) [.sc (.slc l ll lc)] w := by kernel_rfl
  rw [e_] at h
  exact runs_fn h Try.func4 (by kernel_rfl) (fun args w => Try.call4 args w) (by kernel_rfl) (by kernel_rfl) rfl rfl

theorem open_shiftbellkeep_QueueAgain (W : World) (R : Array Value → Prop) (h : ∀ l : Option Addr, ∀ ll : Nat, ∀ lc : Nat, SlcArg Try.prog W 28 l ll lc → R #[(.slice l ll lc)]) (args : Array Value) (hg : GoodAll Try.prog W Try.f4.params.toList args.toList) : R args := by
  have e_ : (ArgsAll Try.prog W Try.f4.params.toList fun l => R l.toArray) = (∀ l : Option Addr, ∀ ll : Nat, ∀ lc : Nat, SlcArg Try.prog W 28 l ll lc → R #[(.slice l ll lc)]) := by kernel_rfl
  exact args_open (by rw [e_]; exact h) args hg
-- wit 4 #[(.slice none 0 0)]

end Go.Proofs.Ytkjekinnemgkkaa
