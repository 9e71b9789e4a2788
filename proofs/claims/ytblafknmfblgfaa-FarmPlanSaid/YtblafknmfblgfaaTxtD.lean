/- The texts of this seat's functions: what each computes, as its symbolic run says it. -/
import Derived.Test.YtblafknmfblgfaaRows
import Derived.Test.YtblafknmfblgfaaSxD
import Derived.Test.YtblafknmfblgfaaSxN
import Derived.Test.YtblafknmfblgfaaTxt
set_option linter.unusedVariables false
set_option linter.unusedSimpArgs false
set_option maxRecDepth 100000
namespace Go.Proofs.Ytblafknmfblgfaa
open Go.Sx Go.RowKit

abbrev F_queue_New : FuncId := 39
abbrev F_queue_Queue_Put : FuncId := 41
abbrev F_queue_Queue_Take : FuncId := 42
abbrev F_container_heap_Push : FuncId := 77
abbrev F_container_heap_Pop : FuncId := 78
abbrev F_container_heap_up : FuncId := 90
abbrev F_container_heap_down : FuncId := 91
abbrev F_queue_row_Len : FuncId := 122
abbrev F_queue_row_Less : FuncId := 123
abbrev F_queue_row_Swap : FuncId := 124
abbrev F_queue_thing_ahead : FuncId := 125
abbrev F_queue_row_Pop : FuncId := 126
abbrev F_queue_row_Push : FuncId := 127

/-- (shiftbell/queue.row).Len -/
def wp_queue_row_Len (r : Option Addr) (rl : Nat) (rc : Nat) (w : World) (Q : Value → World → Prop) : Prop :=
  ∀ w0, Ext w w0 →
  Q (.int .i64 (rl : Int)) w0

theorem ok_queue_row_Len (r : Option Addr) (rl : Nat) (rc : Nat) (w : World) (Q : Value → World → Prop) (h : wp_queue_row_Len r rl rc w Q) : FnP Try.prog F_queue_row_Len #[(.slice r rl rc)] w Q := by
  have e_ : wp_queue_row_Len r rl rc w Q = Runs Try.prog Q ({ N := 5, wrap := [], pub := [], muts := [], joins := [] } : Cfg) Try.f122 (Try.f122.body.getD .skip) [.sc (.slc r rl rc)] w := by kernel_rfl
  rw [e_] at h
  exact runs_fn h Try.func122 (by kernel_rfl) (fun args w => Try.call122 args w) (by kernel_rfl) (by kernel_rfl) rfl rfl

/-- (shiftbell/queue.row).Less -/
def wp_queue_row_Less (r : Option Addr) (rl : Nat) (rc : Nat) (i : Int) (k : Int) (w : World) (Q : Value → World → Prop) : Prop :=
  r ≠ none ∧
  (0 : Int) ≤ i ∧
  (i : Int) < (rl : Int) ∧
  ∃ t0 : Option Addr, cell w (pIdx r i 1) 0 = some (.pointer t0) ∧
  r ≠ none ∧
  (0 : Int) ≤ k ∧
  (k : Int) < (rl : Int) ∧
  ∃ t1 : Option Addr, cell w (pIdx r k 1) 0 = some (.pointer t1) ∧
  ∀ w2, Ext w w2 →
  FnP Try.prog F_queue_thing_ahead #[(.pointer t0), (.pointer t1)] w2 fun v3 w3 =>
   Ext w2 w3 ∧
   ∃ t4 : Bool, v3 = (.bool t4) ∧
   ∀ w5, Ext w w5 →
   Q (.bool t4) w5

theorem ok_queue_row_Less (r : Option Addr) (rl : Nat) (rc : Nat) (i : Int) (k : Int) (w : World) (Q : Value → World → Prop) (h : wp_queue_row_Less r rl rc i k w Q) : FnP Try.prog F_queue_row_Less #[(.slice r rl rc), (.int .i64 i), (.int .i64 k)] w Q := by
  have e_ : wp_queue_row_Less r rl rc i k w Q = Runs Try.prog Q ({ N := 16, wrap := [], pub := [], muts := [], joins := [] } : Cfg) Try.f123 (Try.f123.body.getD .skip) [.sc (.slc r rl rc), .sc (.int .i64 i), .sc (.int .i64 k)] w := by kernel_rfl
  rw [e_] at h
  exact runs_fn h Try.func123 (by kernel_rfl) (fun args w => Try.call123 args w) (by kernel_rfl) (by kernel_rfl) rfl rfl

/-- (shiftbell/queue.row).Swap -/
def wp_queue_row_Swap (r : Option Addr) (rl : Nat) (rc : Nat) (i : Int) (k : Int) (w : World) (Q : Value → World → Prop) : Prop :=
  r ≠ none ∧
  (0 : Int) ≤ k ∧
  (k : Int) < (rl : Int) ∧
  ∃ t0 : Option Addr, cell w (pIdx r k 1) 0 = some (.pointer t0) ∧
  r ≠ none ∧
  (0 : Int) ≤ i ∧
  (i : Int) < (rl : Int) ∧
  ∃ t1 : Option Addr, cell w (pIdx r i 1) 0 = some (.pointer t1) ∧
  r ≠ none ∧
  (0 : Int) ≤ i ∧
  (i : Int) < (rl : Int) ∧
  Store w (pIdx r i 1) [(.pointer t0)] [] fun w2 =>
   r ≠ none ∧
   (0 : Int) ≤ k ∧
   (k : Int) < (rl : Int) ∧
   Store w2 (pIdx r k 1) [(.pointer t1)] [] fun w3 =>
    r ≠ none ∧
    (0 : Int) ≤ i ∧
    (i : Int) < (rl : Int) ∧
    ∃ t4 : Option Addr, cell w3 (pIdx r i 1) 0 = some (.pointer t4) ∧
    r ≠ none ∧
    (0 : Int) ≤ k ∧
    (k : Int) < (rl : Int) ∧
    ∃ t5 : Option Addr, cell w3 (pIdx r k 1) 0 = some (.pointer t5) ∧
    t4 ≠ none ∧
    t4 ≠ none ∧
    Store w3 (pAdd t4 3) [(.int .i64 i)] [] fun w6 =>
     t5 ≠ none ∧
     t5 ≠ none ∧
     Store w6 (pAdd t5 3) [(.int .i64 k)] [] fun w7 =>
      ∀ w8, Ext w7 w8 →
      Q (.tuple #[]) w8

theorem ok_queue_row_Swap (r : Option Addr) (rl : Nat) (rc : Nat) (i : Int) (k : Int) (w : World) (Q : Value → World → Prop) (h : wp_queue_row_Swap r rl rc i k w Q) : FnP Try.prog F_queue_row_Swap #[(.slice r rl rc), (.int .i64 i), (.int .i64 k)] w Q := by
  have e_ : wp_queue_row_Swap r rl rc i k w Q = Runs Try.prog Q ({ N := 34, wrap := [], pub := [], muts := [], joins := [] } : Cfg) Try.f124 (Try.f124.body.getD .skip) [.sc (.slc r rl rc), .sc (.int .i64 i), .sc (.int .i64 k)] w := by kernel_rfl
  rw [e_] at h
  exact runs_fn h Try.func124 (by kernel_rfl) (fun args w => Try.call124 args w) (by kernel_rfl) (by kernel_rfl) rfl rfl

/-- (*shiftbell/queue.thing).ahead -/
def wp_queue_thing_ahead (t : Option Addr) (u : Option Addr) (w : World) (Q : Value → World → Prop) : Prop :=
  t ≠ none ∧
  t ≠ none ∧
  (pAdd t 0) ≠ none ∧
  ∃ t0 : Int, cell w (pAdd (pAdd t 0) 0) 0 = some (.int .i64 t0) ∧
  u ≠ none ∧
  u ≠ none ∧
  (pAdd u 0) ≠ none ∧
  ∃ t1 : Int, cell w (pAdd (pAdd u 0) 0) 0 = some (.int .i64 t1) ∧
  ((t0 ≤ t1) →
   t ≠ none) ∧
  ((t0 ≤ t1) →
   t ≠ none) ∧
  ((t0 ≤ t1) →
   (pAdd t 0) ≠ none) ∧
  ((t1 < t0) →
   ∀ w2, Ext w w2 →
   Q (.bool true) w2) ∧
  ((t0 ≤ t1) →
   ∃ t2 : Int, cell w (pAdd (pAdd t 0) 0) 0 = some (.int .i64 t2) ∧
   u ≠ none ∧
   u ≠ none ∧
   (pAdd u 0) ≠ none ∧
   ∃ t3 : Int, cell w (pAdd (pAdd u 0) 0) 0 = some (.int .i64 t3) ∧
   ((t2 = t3) →
    t ≠ none) ∧
   ((t2 = t3) →
    t ≠ none) ∧
   (((t2 = t3) →
    ∃ t4 : Int, cell w (pAdd t 2) 0 = some (.int .i64 t4) ∧
    u ≠ none ∧
    u ≠ none ∧
    ∃ t5 : Int, cell w (pAdd u 2) 0 = some (.int .i64 t5) ∧
    ∀ w6, Ext w w6 →
    Q (.bool (decide (t4 < t5))) w6)) ∧
   ((t2 ≠ t3) →
    ∀ w4, Ext w w4 →
    Q (.bool false) w4))

theorem ok_queue_thing_ahead (t : Option Addr) (u : Option Addr) (w : World) (Q : Value → World → Prop) (h : wp_queue_thing_ahead t u w Q) : FnP Try.prog F_queue_thing_ahead #[(.pointer t), (.pointer u)] w Q := by
  have e_ : wp_queue_thing_ahead t u w Q = Runs Try.prog Q ({ N := 40, wrap := [], pub := [], muts := [], joins := [] } : Cfg) Try.f125 (Try.f125.body.getD .skip) [.sc (.ptr t), .sc (.ptr u)] w := by kernel_rfl
  rw [e_] at h
  exact runs_fn h Try.func125 (by kernel_rfl) (fun args w => Try.call125 args w) (by kernel_rfl) (by kernel_rfl) rfl rfl

/-- (*shiftbell/queue.row).Pop -/
def wp_queue_row_Pop (r : Option Addr) (w : World) (Q : Value → World → Prop) : Prop :=
  r ≠ none ∧
  ∃ t0 : Option Addr, ∃ tl1 : Nat, ∃ tc2 : Nat, cell w r 0 = some (.slice t0 tl1 tc2) ∧
  InR .i64 ((tl1 : Int) - 1) ∧
  r ≠ none ∧
  ∃ t3 : Option Addr, ∃ tl4 : Nat, ∃ tc5 : Nat, cell w r 0 = some (.slice t3 tl4 tc5) ∧
  t3 ≠ none ∧
  (0 : Int) ≤ ((tl1 : Int) - 1) ∧
  (((tl1 : Int) - 1) : Int) < (tl4 : Int) ∧
  ∃ t6 : Option Addr, cell w (pIdx t3 ((tl1 : Int) - 1) 1) 0 = some (.pointer t6) ∧
  r ≠ none ∧
  ∃ t7 : Option Addr, ∃ tl8 : Nat, ∃ tc9 : Nat, cell w r 0 = some (.slice t7 tl8 tc9) ∧
  (0 : Int) ≤ 0 ∧
  (0 : Int) ≤ ((tl1 : Int) - 1) ∧
  (((tl1 : Int) - 1) : Int) ≤ (tc9 : Int) ∧
  r ≠ none ∧
  Store w r [(.slice (pCut t7 tc9 0 1) (((tl1 : Int) - 1) - 0).toNat (tc9 - (0 : Int).toNat))] [] fun w10 =>
   ∀ w11, Ext w10 w11 →
   Run Try.prog (.makeInterface 148 (.pointer t6)) w11 fun v12 w12 =>
    Ext w11 w12 ∧
    ∃ t13 : Value, v12 = t13 ∧
    ∀ w14, Ext w12 w14 →
    Q t13 w14

theorem ok_queue_row_Pop (r : Option Addr) (w : World) (Q : Value → World → Prop) (h : wp_queue_row_Pop r w Q) : FnP Try.prog F_queue_row_Pop #[(.pointer r)] w Q := by
  have e_ : wp_queue_row_Pop r w Q = Runs Try.prog Q ({ N := 25, wrap := [], pub := [], muts := [], joins := [] } : Cfg) Try.f126 (Try.f126.body.getD .skip) [.sc (.ptr r)] w := by kernel_rfl
  rw [e_] at h
  exact runs_fn h Try.func126 (by kernel_rfl) (fun args w => Try.call126 args w) (by kernel_rfl) (by kernel_rfl) rfl rfl

/-- (*shiftbell/queue.row).Push -/
def wp_queue_row_Push (r : Option Addr) (x : Value) (w : World) (Q : Value → World → Prop) : Prop :=
  ∀ w0, Ext w w0 →
  Run Try.prog (.typeAssert x 20 148 false) w0 fun v1 w1 =>
   Ext w0 w1 ∧
   ∃ t2 : Option Addr, v1 = (.pointer t2) ∧
   r ≠ none ∧
   ∃ t3 : Option Addr, ∃ tl4 : Nat, ∃ tc5 : Nat, cell w1 r 0 = some (.slice t3 tl4 tc5) ∧
   t2 ≠ none ∧
   t2 ≠ none ∧
   Store w1 (pAdd t2 3) [(.int .i64 (tl4 : Int))] [] fun w6 =>
    r ≠ none ∧
    ∃ t7 : Option Addr, ∃ tl8 : Nat, ∃ tc9 : Nat, cell w6 r 0 = some (.slice t7 tl8 tc9) ∧
    ∀ w10, Ext w6 w10 →
    Run Try.prog (.buildSlice 143 1 [(0, (.pointer t2))]) w10 fun v11 w11 =>
     Ext w10 w11 ∧
     ∃ t12 : Option Addr, ∃ tl13 : Nat, ∃ tc14 : Nat, v11 = (.slice t12 tl13 tc14) ∧
     ∀ w15, Ext w11 w15 →
     Run Try.prog (.append #[143, 143] 143 [(.slice t7 tl8 tc9), (.slice t12 tl13 tc14)]) w15 fun v16 w16 =>
      ∃ t17 : Option Addr, ∃ tl18 : Nat, ∃ tc19 : Nat, v16 = (.slice t17 tl18 tc19) ∧
      r ≠ none ∧
      Store w16 r [(.slice t17 tl18 tc19)] [] fun w20 =>
       ∀ w21, Ext w20 w21 →
       Q (.tuple #[]) w21

theorem ok_queue_row_Push (r : Option Addr) (x : Value) (w : World) (Q : Value → World → Prop) (h : wp_queue_row_Push r x w Q) : FnP Try.prog F_queue_row_Push #[(.pointer r), x] w Q := by
  have e_ : wp_queue_row_Push r x w Q = Runs Try.prog Q ({ N := 22, wrap := [], pub := [], muts := [], joins := [] } : Cfg) Try.f127 (Try.f127.body.getD .skip) [.sc (.ptr r), .sc (.val x)] w := by kernel_rfl
  rw [e_] at h
  exact runs_fn h Try.func127 (by kernel_rfl) (fun args w => Try.call127 args w) (by kernel_rfl) (by kernel_rfl) rfl rfl

/-- container/heap.up -/
def wp_container_heap_up (h_v : Value) (j : Int) (w : World) (Q : Value → World → Prop) : Prop :=
  ∃ (I0 : Int → World → Prop) (M0 : Int → World → Nat), I0 j w ∧
  ∀ (j1 : Int) (w2 : World), I0 j1 w2 →
   InR .i64 (j1 - 1) ∧
   InR .i64 ((j1 - 1).tdiv 2) ∧
   ((((j1 - 1).tdiv 2) = j1) →
    ∀ w3, Ext w2 w3 →
    Q (.tuple #[]) w3) ∧
   ((((j1 - 1).tdiv 2) ≠ j1) →
    ∀ w3, Ext w2 w3 →
    InvP Try.prog "Less" h_v [(.int .i64 j1), (.int .i64 ((j1 - 1).tdiv 2))] w3 fun v4 w4 =>
     ∃ t5 : Bool, v4 = (.bool t5) ∧
     ((t5 = false) →
      ∀ w6, Ext w4 w6 →
      Q (.tuple #[]) w6) ∧
     ((t5 = true) →
      ∀ w6, Ext w4 w6 →
      InvP Try.prog "Swap" h_v [(.int .i64 ((j1 - 1).tdiv 2)), (.int .i64 j1)] w6 fun v7 w7 =>
       v7 = (.tuple #[]) ∧
       (I0 ((j1 - 1).tdiv 2) w7 ∧ M0 ((j1 - 1).tdiv 2) w7 < M0 j1 w2)))

theorem ok_container_heap_up (h_v : Value) (j : Int) (w : World) (Q : Value → World → Prop) (h : wp_container_heap_up h_v j w Q) : FnP Try.prog F_container_heap_up #[h_v, (.int .i64 j)] w Q := by
  have e_ : wp_container_heap_up h_v j w Q = Runs Try.prog Q ({ N := 23, wrap := [], pub := [], muts := [], joins := [] } : Cfg) Try.f90 (Try.f90.body.getD .skip) [.sc (.val h_v), .sc (.int .i64 j)] w := by kernel_rfl
  rw [e_] at h
  exact runs_fn h Try.func90 (by kernel_rfl) (fun args w => Try.call90 args w) (by kernel_rfl) (by kernel_rfl) rfl rfl

/-- container/heap.down -/
def wp_container_heap_down (h_v : Value) (i0 : Int) (n : Int) (w : World) (Q : Value → World → Prop) : Prop :=
  ∃ (I0 : Int → World → Prop) (M0 : Int → World → Nat), I0 i0 w ∧
  ∀ (i1 : Int) (w2 : World), I0 i1 w2 →
   InR .i64 (2 * i1) ∧
   InR .i64 ((2 * i1) + 1) ∧
   (((n ≤ ((2 * i1) + 1)) ∨ (((2 * i1) + 1) < 0)) →
    ∀ w3, Ext w2 w3 →
    Q (.bool (decide (i0 < i1))) w3) ∧
   (((((2 * i1) + 1) < n) ∧ (0 ≤ ((2 * i1) + 1))) →
    InR .i64 (((2 * i1) + 1) + 1) ∧
    ((((((2 * i1) + 1) + 1) < n) →
     ∀ w3, Ext w2 w3 →
     InvP Try.prog "Less" h_v [(.int .i64 (((2 * i1) + 1) + 1)), (.int .i64 ((2 * i1) + 1))] w3 fun v4 w4 =>
      ∃ t5 : Bool, v4 = (.bool t5) ∧
      (((t5 = true) →
       ∀ w6, Ext w4 w6 →
       InvP Try.prog "Less" h_v [(.int .i64 (((2 * i1) + 1) + 1)), (.int .i64 i1)] w6 fun v7 w7 =>
        ∃ t8 : Bool, v7 = (.bool t8) ∧
        ((t8 = false) →
         ∀ w9, Ext w7 w9 →
         Q (.bool (decide (i0 < i1))) w9) ∧
        ((t8 = true) →
         ∀ w9, Ext w7 w9 →
         InvP Try.prog "Swap" h_v [(.int .i64 i1), (.int .i64 (((2 * i1) + 1) + 1))] w9 fun v10 w10 =>
          v10 = (.tuple #[]) ∧
          (I0 (((2 * i1) + 1) + 1) w10 ∧ M0 (((2 * i1) + 1) + 1) w10 < M0 i1 w2)))) ∧
      ((t5 = false) →
       ∀ w6, Ext w4 w6 →
       InvP Try.prog "Less" h_v [(.int .i64 ((2 * i1) + 1)), (.int .i64 i1)] w6 fun v7 w7 =>
        ∃ t8 : Bool, v7 = (.bool t8) ∧
        ((t8 = false) →
         ∀ w9, Ext w7 w9 →
         Q (.bool (decide (i0 < i1))) w9) ∧
        ((t8 = true) →
         ∀ w9, Ext w7 w9 →
         InvP Try.prog "Swap" h_v [(.int .i64 i1), (.int .i64 ((2 * i1) + 1))] w9 fun v10 w10 =>
          v10 = (.tuple #[]) ∧
          (I0 ((2 * i1) + 1) w10 ∧ M0 ((2 * i1) + 1) w10 < M0 i1 w2))))) ∧
    ((n ≤ (((2 * i1) + 1) + 1)) →
     ∀ w3, Ext w2 w3 →
     InvP Try.prog "Less" h_v [(.int .i64 ((2 * i1) + 1)), (.int .i64 i1)] w3 fun v4 w4 =>
      ∃ t5 : Bool, v4 = (.bool t5) ∧
      ((t5 = false) →
       ∀ w6, Ext w4 w6 →
       Q (.bool (decide (i0 < i1))) w6) ∧
      ((t5 = true) →
       ∀ w6, Ext w4 w6 →
       InvP Try.prog "Swap" h_v [(.int .i64 i1), (.int .i64 ((2 * i1) + 1))] w6 fun v7 w7 =>
        v7 = (.tuple #[]) ∧
        (I0 ((2 * i1) + 1) w7 ∧ M0 ((2 * i1) + 1) w7 < M0 i1 w2))))

theorem ok_container_heap_down (h_v : Value) (i0 : Int) (n : Int) (w : World) (Q : Value → World → Prop) (h : wp_container_heap_down h_v i0 n w Q) : FnP Try.prog F_container_heap_down #[h_v, (.int .i64 i0), (.int .i64 n)] w Q := by
  have e_ : wp_container_heap_down h_v i0 n w Q = Runs Try.prog Q ({ N := 48, wrap := [], pub := [], muts := [], joins := [] } : Cfg) Try.f91 (Try.f91.body.getD .skip) [.sc (.val h_v), .sc (.int .i64 i0), .sc (.int .i64 n)] w := by kernel_rfl
  rw [e_] at h
  exact runs_fn h Try.func91 (by kernel_rfl) (fun args w => Try.call91 args w) (by kernel_rfl) (by kernel_rfl) rfl rfl

/-- container/heap.Push -/
def wp_container_heap_Push (h_v : Value) (x : Value) (w : World) (Q : Value → World → Prop) : Prop :=
  ∀ w0, Ext w w0 →
  InvP Try.prog "Push" h_v [x] w0 fun v1 w1 =>
   v1 = (.tuple #[]) ∧
   ∀ w2, Ext w1 w2 →
   InvP Try.prog "Len" h_v [] w2 fun v3 w3 =>
    ∃ t4 : Int, v3 = (.int .i64 t4) ∧
    InR .i64 (t4 - 1) ∧
    ∀ w5, Ext w3 w5 →
    FnP Try.prog F_container_heap_up #[h_v, (.int .i64 (t4 - 1))] w5 fun v6 w6 =>
     v6 = (.tuple #[]) ∧
     ∀ w7, Ext w6 w7 →
     Q (.tuple #[]) w7

theorem ok_container_heap_Push (h_v : Value) (x : Value) (w : World) (Q : Value → World → Prop) (h : wp_container_heap_Push h_v x w Q) : FnP Try.prog F_container_heap_Push #[h_v, x] w Q := by
  have e_ : wp_container_heap_Push h_v x w Q = Runs Try.prog Q ({ N := 12, wrap := [], pub := [], muts := [90], joins := [] } : Cfg) Try.f77 (Try.f77.body.getD .skip) [.sc (.val h_v), .sc (.val x)] w := by kernel_rfl
  rw [e_] at h
  exact runs_fn h Try.func77 (by kernel_rfl) (fun args w => Try.call77 args w) (by kernel_rfl) (by kernel_rfl) rfl rfl

/-- container/heap.Pop -/
def wp_container_heap_Pop (h_v : Value) (w : World) (Q : Value → World → Prop) : Prop :=
  ∀ w0, Ext w w0 →
  InvP Try.prog "Len" h_v [] w0 fun v1 w1 =>
   ∃ t2 : Int, v1 = (.int .i64 t2) ∧
   InR .i64 (t2 - 1) ∧
   ∀ w3, Ext w1 w3 →
   InvP Try.prog "Swap" h_v [(.int .i64 0), (.int .i64 (t2 - 1))] w3 fun v4 w4 =>
    v4 = (.tuple #[]) ∧
    ∀ w5, Ext w4 w5 →
    FnP Try.prog F_container_heap_down #[h_v, (.int .i64 0), (.int .i64 (t2 - 1))] w5 fun v6 w6 =>
     ∃ t7 : Bool, v6 = (.bool t7) ∧
     ∀ w8, Ext w6 w8 →
     InvP Try.prog "Pop" h_v [] w8 fun v9 w9 =>
      ∃ t10 : Value, v9 = t10 ∧
      ∀ w11, Ext w9 w11 →
      Q t10 w11

theorem ok_container_heap_Pop (h_v : Value) (w : World) (Q : Value → World → Prop) (h : wp_container_heap_Pop h_v w Q) : FnP Try.prog F_container_heap_Pop #[h_v] w Q := by
  have e_ : wp_container_heap_Pop h_v w Q = Runs Try.prog Q ({ N := 15, wrap := [], pub := [], muts := [91], joins := [] } : Cfg) Try.f78 (Try.f78.body.getD .skip) [.sc (.val h_v)] w := by kernel_rfl
  rw [e_] at h
  exact runs_fn h Try.func78 (by kernel_rfl) (fun args w => Try.call78 args w) (by kernel_rfl) (by kernel_rfl) rfl rfl

/-- shiftbell/queue.New -/
def wp_queue_New  (w : World) (Q : Value → World → Prop) : Prop :=
  ∀ w0, Ext w w0 →
  Run Try.prog (.makeMap 141) w0 fun v1 w1 =>
   Ext w0 w1 ∧
   ∃ t2 : Value, v1 = t2 ∧
   Value.oneCell' t2 = true ∧
   ∀ w3, Ext w1 w3 →
   New w3 145 [(.slice none 0 0), t2, (.int .i64 0)] fun p4 w4 =>
    ∀ w5, Ext w4 w5 →
    Q (.pointer p4) w5

theorem ok_queue_New  (w : World) (Q : Value → World → Prop) (h : wp_queue_New  w Q) : FnP Try.prog F_queue_New #[] w Q := by
  have e_ : wp_queue_New  w Q = Runs Try.prog Q ({ N := 4, wrap := [], pub := [3], muts := [], joins := [] } : Cfg) Try.f39 (Try.f39.body.getD .skip) [] w := by kernel_rfl
  rw [e_] at h
  exact runs_fn h Try.func39 (by kernel_rfl) (fun args w => Try.call39 args w) (by kernel_rfl) (by kernel_rfl) rfl rfl

/-- (*shiftbell/queue.Queue).Put -/
def wp_queue_Queue_Put (q : Option Addr) (prio : Int) (id : Int) (w : World) (Q : Value → World → Prop) : Prop :=
  q ≠ none ∧
  q ≠ none ∧
  ∃ t0 : Value, cell w (pAdd q 1) 0 = some t0 ∧
  ∀ w1, Ext w w1 →
  Run Try.prog (.lookup 141 t0 (.int .i64 id) false) w1 fun v2 w2 =>
   Ext w1 w2 ∧
   ∃ t3 : Option Addr, v2 = (.pointer t3) ∧
   ((t3 ≠ none) →
    ∀ w4, Ext w2 w4 →
    Q (.int .i64 6) w4) ∧
   ((t3 = none) →
    q ≠ none ∧
    q ≠ none ∧
    ∃ t4 : Option Addr, ∃ tl5 : Nat, ∃ tc6 : Nat, cell w2 (pAdd q 0) 0 = some (.slice t4 tl5 tc6) ∧
    (((tl5 : Int) = 200) →
     ∀ w7, Ext w2 w7 →
     Q (.int .i64 7) w7) ∧
    (((tl5 : Int) ≠ 200) →
     q ≠ none ∧
     q ≠ none ∧
     ∃ t7 : Int, cell w2 (pAdd q 2) 0 = some (.int .i64 t7) ∧
     InR .i64 (t7 + 1) ∧
     q ≠ none ∧
     q ≠ none ∧
     Store w2 (pAdd q 2) [(.int .i64 (t7 + 1))] [] fun w8 =>
      q ≠ none ∧
      q ≠ none ∧
      ∃ t9 : Int, cell w8 (pAdd q 2) 0 = some (.int .i64 t9) ∧
      ∀ w10, Ext w8 w10 →
      New w10 150 [(.int .i64 prio), (.int .i64 id), (.int .i64 t9), (.int .i64 0)] fun p11 w11 =>
       q ≠ none ∧
       q ≠ none ∧
       ∃ t12 : Value, cell w11 (pAdd q 1) 0 = some t12 ∧
       ∀ w13, Ext w11 w13 →
       Run Try.prog (.mapUpdate 141 t12 (.int .i64 id) (.pointer p11)) w13 fun v14 w14 =>
        q ≠ none ∧
        q ≠ none ∧
        ∀ w15, Ext w14 w15 →
        Run Try.prog (.makeInterface 152 (.pointer (pAdd q 0))) w15 fun v16 w16 =>
         Ext w15 w16 ∧
         ∃ t17 : Value, v16 = t17 ∧
         ∀ w18, Ext w16 w18 →
         Run Try.prog (.makeInterface 148 (.pointer p11)) w18 fun v19 w19 =>
          Ext w18 w19 ∧
          ∃ t20 : Value, v19 = t20 ∧
          ∀ w21, Ext w19 w21 →
          FnP Try.prog F_container_heap_Push #[t17, t20] w21 fun v22 w22 =>
           v22 = (.tuple #[]) ∧
           ∀ w23, Ext w22 w23 →
           Q (.int .i64 0) w23))

theorem ok_queue_Queue_Put (q : Option Addr) (prio : Int) (id : Int) (w : World) (Q : Value → World → Prop) (h : wp_queue_Queue_Put q prio id w Q) : FnP Try.prog F_queue_Queue_Put #[(.pointer q), (.int .i64 prio), (.int .i64 id)] w Q := by
  have e_ : wp_queue_Queue_Put q prio id w Q = Runs Try.prog Q ({ N := 52, wrap := [], pub := [38], muts := [77], joins := [] } : Cfg) Try.f41 (Try.f41.body.getD .skip) [.sc (.ptr q), .sc (.int .i64 prio), .sc (.int .i64 id)] w := by kernel_rfl
  rw [e_] at h
  exact runs_fn h Try.func41 (by kernel_rfl) (fun args w => Try.call41 args w) (by kernel_rfl) (by kernel_rfl) rfl rfl

/-- (*shiftbell/queue.Queue).Take -/
def wp_queue_Queue_Take (q : Option Addr) (w : World) (Q : Value → World → Prop) : Prop :=
  ∀ b0 : Nat, w.heap.size ≤ b0 → q ≠ none ∧
  q ≠ none ∧
  ∃ t1 : Option Addr, ∃ tl2 : Nat, ∃ tc3 : Nat, cell w (pAdd q 0) 0 = some (.slice t1 tl2 tc3) ∧
  (((tl2 : Int) = 0) →
   ∀ w4, Ext w w4 →
   Q (.tuple #[(.agg #[(.int .i64 0), (.int .i64 0)]), (.bool false)]) w4) ∧
  (((tl2 : Int) ≠ 0) →
   q ≠ none ∧
   q ≠ none ∧
   ∀ w4, ExtB [] [b0] w w4 →
   Run Try.prog (.makeInterface 152 (.pointer (pAdd q 0))) w4 fun v5 w5 =>
    Ext w4 w5 ∧
    ∃ t6 : Value, v5 = t6 ∧
    ∀ w7, ExtB [] [b0] w5 w7 →
    FnP Try.prog F_container_heap_Pop #[t6] w7 fun v8 w8 =>
     Kept [b0] w7 w8 ∧
     ∃ t9 : Value, v8 = t9 ∧
     ∀ w10, ExtB [] [b0] w8 w10 →
     Run Try.prog (.typeAssert t9 20 148 false) w10 fun v11 w11 =>
      Ext w10 w11 ∧
      ∃ t12 : Option Addr, v11 = (.pointer t12) ∧
      q ≠ none ∧
      q ≠ none ∧
      ∃ t13 : Value, cell w11 (pAdd q 1) 0 = some t13 ∧
      t12 ≠ none ∧
      t12 ≠ none ∧
      (pAdd t12 0) ≠ none ∧
      ∃ t14 : Int, cell w11 (pAdd (pAdd t12 0) 1) 0 = some (.int .i64 t14) ∧
      ∀ w15, ExtB [] [b0] w11 w15 →
      Run Try.prog (.delete #[141, 3] 0 [t13, (.int .i64 t14)]) w15 fun v16 w16 =>
       Kept [b0] w15 w16 ∧
       v16 = (.tuple #[]) ∧
       t12 ≠ none ∧
       t12 ≠ none ∧
       (pAdd t12 0) ≠ none ∧
       ∃ t17 : Int, cell w16 (pAdd t12 0) 0 = some (.int .i64 t17) ∧
       ∃ t18 : Int, cell w16 (pAdd t12 0) 1 = some (.int .i64 t18) ∧
       ∀ w19, ExtB [b0] [] w16 w19 →
       Q (.tuple #[(.agg #[(.int .i64 t17), (.int .i64 t18)]), (.bool true)]) w19)

theorem ok_queue_Queue_Take (q : Option Addr) (w : World) (Q : Value → World → Prop) (h : wp_queue_Queue_Take q w Q) : FnP Try.prog F_queue_Queue_Take #[(.pointer q)] w Q := by
  have e_ : wp_queue_Queue_Take q w Q = Runs Try.prog Q ({ N := 31, wrap := [], pub := [], muts := [78], joins := [] } : Cfg) Try.f42 (Try.f42.body.getD .skip) [.sc (.ptr q)] w := by kernel_rfl
  rw [e_] at h
  exact runs_fn h Try.func42 (by kernel_rfl) (fun args w => Try.call42 args w) (by kernel_rfl) (by kernel_rfl) rfl rfl

end Go.Proofs.Ytblafknmfblgfaa
