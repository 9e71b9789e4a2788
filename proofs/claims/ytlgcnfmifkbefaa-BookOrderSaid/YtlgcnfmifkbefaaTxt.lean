/- The texts of this seat's functions: what each computes, as its symbolic run says it. -/
import Derived.Test.YtlgcnfmifkbefaaRows
import Derived.Test.YtlgcnfmifkbefaaSxD
import Derived.Test.YtlgcnfmifkbefaaSxN
set_option linter.unusedVariables false
set_option linter.unusedSimpArgs false
set_option maxRecDepth 100000
namespace Go.Proofs.Ytlgcnfmifkbefaa
open Go.Sx Go.RowKit

abbrev F_shiftbellkeep_BookGaps : FuncId := 3
abbrev F_shiftbellkeep_BookPut : FuncId := 5
abbrev F_shiftbellkeep_BookFind : FuncId := 6
abbrev F_shiftbellkeep_books : FuncId := 8
abbrev F_book_Gaps : FuncId := 9
abbrev F_book_Most : FuncId := 10
abbrev F_book_Find : FuncId := 11
abbrev F_slices_Delete_api_Slot_api_Slot : FuncId := 12
abbrev F_slices_Clone_api_Slot_api_Slot : FuncId := 13
abbrev F_book_Put : FuncId := 14
abbrev F_book_Check : FuncId := 15
abbrev F_slices_Reverse_api_Slot_api_Slot : FuncId := 16
abbrev F_slices_Equal_api_Slot_api_Slot : FuncId := 17
abbrev F_book_gaps : FuncId := 18
abbrev F_book_steps : FuncId := 19
abbrev F_book_over : FuncId := 20
abbrev F_slices_Sort_int_int : FuncId := 21
abbrev F_slices_Compact_int_int : FuncId := 22
abbrev F_slices_ContainsFunc_book_step_book_step : FuncId := 23
abbrev F_book_over_1 : FuncId := 24
abbrev F_slices_IndexFunc_book_step_book_step : FuncId := 27
abbrev T__0 : TypeId := 0
abbrev T_int64 : TypeId := 2
abbrev T_int : TypeId := 3
abbrev T_bool : TypeId := 4
abbrev T_uint8 : TypeId := 5
abbrev T_string : TypeId := 9
abbrev T_uintptr : TypeId := 12
abbrev T_int32 : TypeId := 21
abbrev T_sl_Slot : TypeId := 22
abbrev T_Errno : TypeId := 24
abbrev T_sl_Slot_Errno : TypeId := 25
abbrev T_Slot : TypeId := 28
abbrev T_int64_Errno : TypeId := 29
abbrev T_int_Errno : TypeId := 32
abbrev T_sl_book_step : TypeId := 45
abbrev T_book_step : TypeId := 48
abbrev T_sl_int : TypeId := 50
abbrev T_uint : TypeId := 57
abbrev T_slices_sortedHint : TypeId := 60
abbrev T_int_slices_sortedHint : TypeId := 61
abbrev T_int_bool : TypeId := 66
abbrev T_uint32 : TypeId := 69
abbrev T_uint64 : TypeId := 71
abbrev T_slices_xorshift : TypeId := 72
abbrev T_ptr_int : TypeId := 76
abbrev T_ptr_slices_xorshift : TypeId := 79
abbrev T_int_int : TypeId := 80
abbrev T_ptr_uint8 : TypeId := 92
abbrev T_unsafe_Pointer : TypeId := 97
theorem elem_sl_Slot : slEl Try.prog 22 = some (28, 3, 24, (.agg #[(.int .i64 0), (.int .i64 0), (.int .i64 0)])) := by kernel_rfl
theorem elem_sl_book_step : slEl Try.prog 45 = some (48, 2, 16, (.agg #[(.int .i64 0), (.int .i64 0)])) := by kernel_rfl
theorem elem_sl_int : slEl Try.prog 50 = some (3, 1, 8, (.int .i64 0)) := by kernel_rfl

/-- shiftbell/shiftbellkeep.books -/
def wp_shiftbellkeep_books  (w : World) (Q : Value → World → Prop) : Prop :=
  ∀ w0, Ext w w0 →
  FnP Try.prog F_book_Gaps #[(.int .i64 5), (.slice none 0 0), (.int .i64 1)] w0 fun v1 w1 =>
   Ext w0 w1 ∧
   ∃ t2 : Option Addr, ∃ tl3 : Nat, ∃ tc4 : Nat, ∃ t5 : Int, v1 = (.tuple #[(.slice t2 tl3 tc4), (.int .i64 t5)]) ∧
   ((((t5 = 0) ∧ ((tl3 : Int) = 1)) →
    t2 ≠ none)) ∧
   ((((t5 = 0) ∧ ((tl3 : Int) = 1)) →
    (0 : Int) ≤ 0)) ∧
   ((((t5 = 0) ∧ ((tl3 : Int) = 1)) →
    (0 : Int) < (tl3 : Int))) ∧
   ((((t5 = 0) ∧ ((tl3 : Int) = 1)) →
    (pIdx t2 0 3) ≠ none)) ∧
   ((((t5 = 0) ∧ ((tl3 : Int) = 1)) →
    ∃ t6 : Int, cell w1 (pAdd (pIdx t2 0 3) 1) 0 = some (.int .i64 t6) ∧
    ∀ w7, Ext w1 w7 →
    Q (.bool (decide (t6 = 1000000))) w7)) ∧
   (((t5 ≠ 0) ∨ ((tl3 : Int) ≠ 1)) →
    ∀ w6, Ext w1 w6 →
    Q (.bool false) w6)

theorem ok_shiftbellkeep_books  (w : World) (Q : Value → World → Prop) (h : wp_shiftbellkeep_books  w Q) : FnP Try.prog F_shiftbellkeep_books #[] w Q := by
  have e_ : wp_shiftbellkeep_books  w Q = Runs Try.prog Q ({ N := 21, wrap := [], pub := [], muts := [], joins := [] } : Cfg) Try.f8 (Try.f8.body.getD .skip) [] w := by kernel_rfl
  rw [e_] at h
  exact runs_fn h Try.func8 (by kernel_rfl) (fun args w => Try.call8 args w) (by kernel_rfl) (by kernel_rfl) rfl rfl

/-- shiftbell/book.Gaps -/
def wp_book_Gaps (size : Int) (l : Option Addr) (ll : Nat) (lc : Nat) (n : Int) (w : World) (Q : Value → World → Prop) : Prop :=
  ∀ w0, Ext w w0 →
  FnP Try.prog F_book_Check #[(.int .i64 size), (.slice l ll lc)] w0 fun v1 w1 =>
   Ext w0 w1 ∧
   ∃ t2 : Int, v1 = (.int .i64 t2) ∧
   ((t2 ≠ 0) →
    ∀ w3, Ext w w3 →
    Q (.tuple #[(.slice none 0 0), (.int .i64 t2)]) w3) ∧
   ((t2 = 0) →
    (((n < 1) ∨ (size < n)) →
     ∀ w3, Ext w w3 →
     Q (.tuple #[(.slice none 0 0), (.int .i64 4)]) w3) ∧
    (((1 ≤ n) ∧ (n ≤ size)) →
     ∀ w3, Ext w w3 →
     FnP Try.prog F_book_gaps #[(.int .i64 size), (.slice l ll lc), (.int .i64 n)] w3 fun v4 w4 =>
      Ext w3 w4 ∧
      ∃ t5 : Option Addr, ∃ tl6 : Nat, ∃ tc7 : Nat, v4 = (.slice t5 tl6 tc7) ∧
      ∀ w8, Ext w4 w8 →
      Q (.tuple #[(.slice t5 tl6 tc7), (.int .i64 0)]) w8))

theorem ok_book_Gaps (size : Int) (l : Option Addr) (ll : Nat) (lc : Nat) (n : Int) (w : World) (Q : Value → World → Prop) (h : wp_book_Gaps size l ll lc n w Q) : FnP Try.prog F_book_Gaps #[(.int .i64 size), (.slice l ll lc), (.int .i64 n)] w Q := by
  have e_ : wp_book_Gaps size l ll lc n w Q = Runs Try.prog Q ({ N := 26, wrap := [], pub := [], muts := [], joins := [] } : Cfg) Try.f9 (Try.f9.body.getD .skip) [.sc (.int .i64 size), .sc (.slc l ll lc), .sc (.int .i64 n)] w := by kernel_rfl
  rw [e_] at h
  exact runs_fn h Try.func9 (by kernel_rfl) (fun args w => Try.call9 args w) (by kernel_rfl) (by kernel_rfl) rfl rfl

/-- shiftbell/book.Most -/
def wp_book_Most (size : Int) (l : Option Addr) (ll : Nat) (lc : Nat) (from_v : Int) (to : Int) (w : World) (Q : Value → World → Prop) : Prop :=
  ∀ w0, Ext w w0 →
  FnP Try.prog F_book_Check #[(.int .i64 size), (.slice l ll lc)] w0 fun v1 w1 =>
   Ext w0 w1 ∧
   ∃ t2 : Int, v1 = (.int .i64 t2) ∧
   ((t2 ≠ 0) →
    ∀ w3, Ext w w3 →
    Q (.tuple #[(.int .i64 0), (.int .i64 t2)]) w3) ∧
   ((t2 = 0) →
    ((((from_v < 0) ∨ (to ≤ from_v)) ∨ (1000000 < to)) →
     ∀ w3, Ext w w3 →
     Q (.tuple #[(.int .i64 0), (.int .i64 4)]) w3) ∧
    ((((0 ≤ from_v) ∧ (from_v < to)) ∧ (to ≤ 1000000)) →
     ∀ w3, Ext w w3 →
     FnP Try.prog F_book_steps #[(.slice l ll lc)] w3 fun v4 w4 =>
      Ext w3 w4 ∧
      ∃ t5 : Option Addr, ∃ tl6 : Nat, ∃ tc7 : Nat, v4 = (.slice t5 tl6 tc7) ∧
      InR .i64 ((tl6 : Int) - 1) ∧
      (0 : Int) ≤ 0 ∧
      (0 : Int) ≤ ((tl6 : Int) - 1) ∧
      (((tl6 : Int) - 1) : Int) ≤ (tc7 : Int) ∧
      ∃ (I8 : Int → Int → World → Prop) (M8 : Int → Int → World → Nat), I8 0 0 w4 ∧
      ∀ (most9 : Int) (k10 : Int) (w11 : World), I8 most9 k10 w11 →
       (((k10 < ((((tl6 : Int) - 1) - 0).toNat : Int)) →
        (pCut t5 tc7 0 2) ≠ none ∧
        (0 : Int) ≤ k10 ∧
        (k10 : Int) < ((((tl6 : Int) - 1) - 0).toNat : Int) ∧
        (pIdx (pCut t5 tc7 0 2) k10 2) ≠ none ∧
        ∃ t12 : Int, cell w11 (pIdx (pCut t5 tc7 0 2) k10 2) 0 = some (.int .i64 t12) ∧
        ∃ t13 : Int, cell w11 (pIdx (pCut t5 tc7 0 2) k10 2) 1 = some (.int .i64 t13) ∧
        ∀ b14 : Nat, w11.heap.size ≤ b14 → ((t12 < to) →
         InR .i64 (k10 + 1)) ∧
        ((t12 < to) →
         t5 ≠ none) ∧
        ((t12 < to) →
         (0 : Int) ≤ (k10 + 1)) ∧
        ((t12 < to) →
         ((k10 + 1) : Int) < (tl6 : Int)) ∧
        ((t12 < to) →
         (pIdx t5 (k10 + 1) 2) ≠ none) ∧
        (((t12 < to) →
         ∃ t15 : Int, cell w11 (pAdd (pIdx t5 (k10 + 1) 2) 0) 0 = some (.int .i64 t15) ∧
         (((from_v < t15) →
          InR .i64 (k10 + 1) ∧
          (I8 (max most9 t13) (k10 + 1) w11 ∧ M8 (max most9 t13) (k10 + 1) w11 < M8 most9 k10 w11))) ∧
         ((t15 ≤ from_v) →
          InR .i64 (k10 + 1) ∧
          (I8 most9 (k10 + 1) w11 ∧ M8 most9 (k10 + 1) w11 < M8 most9 k10 w11)))) ∧
        ((to ≤ t12) →
         InR .i64 (k10 + 1) ∧
         (I8 most9 (k10 + 1) w11 ∧ M8 most9 (k10 + 1) w11 < M8 most9 k10 w11)))) ∧
       ((((((tl6 : Int) - 1) - 0).toNat : Int) ≤ k10) →
        ∀ w12, Ext w11 w12 →
        Q (.tuple #[(.int .i64 most9), (.int .i64 0)]) w12)))

theorem ok_book_Most (size : Int) (l : Option Addr) (ll : Nat) (lc : Nat) (from_v : Int) (to : Int) (w : World) (Q : Value → World → Prop) (h : wp_book_Most size l ll lc from_v to w Q) : FnP Try.prog F_book_Most #[(.int .i64 size), (.slice l ll lc), (.int .i64 from_v), (.int .i64 to)] w Q := by
  have e_ : wp_book_Most size l ll lc from_v to w Q = Runs Try.prog Q ({ N := 65, wrap := [], pub := [], muts := [], joins := [] } : Cfg) Try.f10 (Try.f10.body.getD .skip) [.sc (.int .i64 size), .sc (.slc l ll lc), .sc (.int .i64 from_v), .sc (.int .i64 to)] w := by kernel_rfl
  rw [e_] at h
  exact runs_fn h Try.func10 (by kernel_rfl) (fun args w => Try.call10 args w) (by kernel_rfl) (by kernel_rfl) rfl rfl

/-- shiftbell/book.Find -/
def wp_book_Find (size : Int) (l : Option Addr) (ll : Nat) (lc : Nat) (n : Int) (long : Int) (after : Int) (w : World) (Q : Value → World → Prop) : Prop :=
  ∀ w0, Ext w w0 →
  FnP Try.prog F_book_Check #[(.int .i64 size), (.slice l ll lc)] w0 fun v1 w1 =>
   Ext w0 w1 ∧
   ∃ t2 : Int, v1 = (.int .i64 t2) ∧
   ((t2 ≠ 0) →
    ∀ w3, Ext w w3 →
    Q (.tuple #[(.int .i64 0), (.int .i64 t2)]) w3) ∧
   ((t2 = 0) →
    (((((((n < 1) ∨ (size < n)) ∨ (long < 1)) ∨ (1000000 < long)) ∨ (after < 0)) ∨ (1000000 < after)) →
     ∀ w3, Ext w w3 →
     Q (.tuple #[(.int .i64 0), (.int .i64 4)]) w3) ∧
    (((((((1 ≤ n) ∧ (n ≤ size)) ∧ (1 ≤ long)) ∧ (long ≤ 1000000)) ∧ (0 ≤ after)) ∧ (after ≤ 1000000)) →
     ∀ w3, Ext w w3 →
     FnP Try.prog F_book_gaps #[(.int .i64 size), (.slice l ll lc), (.int .i64 n)] w3 fun v4 w4 =>
      Ext w3 w4 ∧
      ∃ t5 : Option Addr, ∃ tl6 : Nat, ∃ tc7 : Nat, v4 = (.slice t5 tl6 tc7) ∧
      ∃ (I8 : Int → World → Prop) (M8 : Int → World → Nat), I8 0 w4 ∧
      ∀ (k9 : Int) (w10 : World), I8 k9 w10 →
       (((k9 < (tl6 : Int)) →
        t5 ≠ none ∧
        (0 : Int) ≤ k9 ∧
        (k9 : Int) < (tl6 : Int) ∧
        (pIdx t5 k9 3) ≠ none ∧
        ∃ t11 : Int, cell w10 (pIdx t5 k9 3) 0 = some (.int .i64 t11) ∧
        ∃ t12 : Int, cell w10 (pIdx t5 k9 3) 1 = some (.int .i64 t12) ∧
        ∃ t13 : Int, cell w10 (pIdx t5 k9 3) 2 = some (.int .i64 t13) ∧
        ∀ b14 : Nat, w10.heap.size ≤ b14 → InR .i64 ((max t11 after) + long) ∧
        ((((max t11 after) + long) ≤ t12) →
         ∀ w15, Ext w10 w15 →
         Q (.tuple #[(.int .i64 (max t11 after)), (.int .i64 0)]) w15) ∧
        ((t12 < ((max t11 after) + long)) →
         InR .i64 (k9 + 1) ∧
         (I8 (k9 + 1) w10 ∧ M8 (k9 + 1) w10 < M8 k9 w10)))) ∧
       (((tl6 : Int) ≤ k9) →
        ∀ w11, Ext w10 w11 →
        Q (.tuple #[(.int .i64 0), (.int .i64 5)]) w11)))

theorem ok_book_Find (size : Int) (l : Option Addr) (ll : Nat) (lc : Nat) (n : Int) (long : Int) (after : Int) (w : World) (Q : Value → World → Prop) (h : wp_book_Find size l ll lc n long after w Q) : FnP Try.prog F_book_Find #[(.int .i64 size), (.slice l ll lc), (.int .i64 n), (.int .i64 long), (.int .i64 after)] w Q := by
  have e_ : wp_book_Find size l ll lc n long after w Q = Runs Try.prog Q ({ N := 66, wrap := [], pub := [], muts := [], joins := [] } : Cfg) Try.f11 (Try.f11.body.getD .skip) [.sc (.int .i64 size), .sc (.slc l ll lc), .sc (.int .i64 n), .sc (.int .i64 long), .sc (.int .i64 after)] w := by kernel_rfl
  rw [e_] at h
  exact runs_fn h Try.func11 (by kernel_rfl) (fun args w => Try.call11 args w) (by kernel_rfl) (by kernel_rfl) rfl rfl

/-- shiftbell/book.Put -/
def wp_book_Put (size : Int) (l : Option Addr) (ll : Nat) (lc : Nat) (x_0 : Int) (x_1 : Int) (x_2 : Int) (w : World) (Q : Value → World → Prop) : Prop :=
  ∀ b0 : Nat, w.heap.size ≤ b0 → ∀ w1, Ext w w1 →
  FnP Try.prog F_book_Check #[(.int .i64 size), (.slice l ll lc)] w1 fun v2 w2 =>
   Ext w1 w2 ∧
   ∃ t3 : Int, v2 = (.int .i64 t3) ∧
   ((t3 ≠ 0) →
    ∀ w4, Ext w w4 →
    Q (.tuple #[(.slice none 0 0), (.int .i64 t3)]) w4) ∧
   ((t3 = 0) →
    ∀ w4, ExtB [] [b0] w w4 →
    Run Try.prog (.buildSlice 22 1 [(0, (.agg #[(.int .i64 x_0), (.int .i64 x_1), (.int .i64 x_2)]))]) w4 fun v5 w5 =>
     Ext w4 w5 ∧
     ∃ t6 : Option Addr, ∃ tl7 : Nat, ∃ tc8 : Nat, v5 = (.slice t6 tl7 tc8) ∧
     ∀ w9, Ext w5 w9 →
     FnP Try.prog F_book_Check #[(.int .i64 size), (.slice t6 tl7 tc8)] w9 fun v10 w10 =>
      Ext w9 w10 ∧
      ∃ t11 : Int, v10 = (.int .i64 t11) ∧
      ((t11 ≠ 0) →
       ∀ w12, Ext w5 w12 →
       Q (.tuple #[(.slice none 0 0), (.int .i64 t11)]) w12) ∧
      ((t11 = 0) →
       (((ll : Int) = 100) →
        ∀ w12, Ext w5 w12 →
        Q (.tuple #[(.slice none 0 0), (.int .i64 7)]) w12) ∧
       (((ll : Int) ≠ 100) →
        ∃ (J12 : Option Addr → Nat → Nat → World → Prop), ((∀ w15, ExtB [] [b0] w5 w15 →
         FnP Try.prog F_slices_Clone_api_Slot_api_Slot #[(.slice l ll lc)] w15 fun v16 w16 =>
          Ext w15 w16 ∧
          ∃ t17 : Option Addr, ∃ tl18 : Nat, ∃ tc19 : Nat, v16 = (.slice t17 tl18 tc19) ∧
          ∀ w20, ExtB [] [b0] w16 w20 →
          Run Try.prog (.buildSlice 22 1 [(0, (.agg #[(.int .i64 x_0), (.int .i64 x_1), (.int .i64 x_2)]))]) w20 fun v21 w21 =>
           Ext w20 w21 ∧
           ∃ t22 : Option Addr, ∃ tl23 : Nat, ∃ tc24 : Nat, v21 = (.slice t22 tl23 tc24) ∧
           ∀ w25, ExtB [] [b0] w21 w25 →
           Run Try.prog (.append #[22, 22] 22 [(.slice t17 tl18 tc19), (.slice t22 tl23 tc24)]) w25 fun v26 w26 =>
            Kept [b0] w25 w26 ∧
            ∃ t27 : Option Addr, ∃ tl28 : Nat, ∃ tc29 : Nat, v26 = (.slice t27 tl28 tc29) ∧
            J12 t27 tl28 tc29 w26) ∧
         ∀ w15, ExtB [] [b0] w5 w15 →
         Run Try.prog (.buildSlice 22 1 [(0, (.agg #[(.int .i64 x_0), (.int .i64 x_1), (.int .i64 x_2)]))]) w15 fun v16 w16 =>
          Ext w15 w16 ∧
          ∃ t17 : Option Addr, ∃ tl18 : Nat, ∃ tc19 : Nat, v16 = (.slice t17 tl18 tc19) ∧
          ∀ w20, ExtB [] [b0] w16 w20 →
          FnP Try.prog F_slices_Clone_api_Slot_api_Slot #[(.slice l ll lc)] w20 fun v21 w21 =>
           Ext w20 w21 ∧
           ∃ t22 : Option Addr, ∃ tl23 : Nat, ∃ tc24 : Nat, v21 = (.slice t22 tl23 tc24) ∧
           ∀ w25, ExtB [] [b0] w21 w25 →
           Run Try.prog (.append #[22, 22] 22 [(.slice t22 tl23 tc24), (.slice t17 tl18 tc19)]) w25 fun v26 w26 =>
            Kept [b0] w25 w26 ∧
            ∃ t27 : Option Addr, ∃ tl28 : Nat, ∃ tc29 : Nat, v26 = (.slice t27 tl28 tc29) ∧
            J12 t27 tl28 tc29 w26) ∧
        ∀ (out13 : Option Addr) (outl13 : Nat) (outc13 : Nat) (w14 : World), J12 out13 outl13 outc13 w14 →
         ∀ w15, Ext w14 w15 →
         FnP Try.prog F_book_over #[(.int .i64 size), (.slice out13 outl13 outc13)] w15 fun v16 w16 =>
          Ext w15 w16 ∧
          ∃ t17 : Bool, v16 = (.bool t17) ∧
          ((t17 = true) →
           ∀ w18, Ext w14 w18 →
           Q (.tuple #[(.slice none 0 0), (.int .i64 10)]) w18) ∧
          ((t17 = false) →
           ∀ w18, Ext w14 w18 →
           Q (.tuple #[(.slice out13 outl13 outc13), (.int .i64 0)]) w18))))

theorem ok_book_Put (size : Int) (l : Option Addr) (ll : Nat) (lc : Nat) (x_0 : Int) (x_1 : Int) (x_2 : Int) (w : World) (Q : Value → World → Prop) (h : wp_book_Put size l ll lc x_0 x_1 x_2 w Q) : FnP Try.prog F_book_Put #[(.int .i64 size), (.slice l ll lc), (.agg #[(.int .i64 x_0), (.int .i64 x_1), (.int .i64 x_2)])] w Q := by
  have e_ : wp_book_Put size l ll lc x_0 x_1 x_2 w Q = Runs Try.prog Q ({ N := 36, wrap := [], pub := [], muts := [], joins := [] } : Cfg) Try.f14 (Try.f14.body.getD .skip) [.sc (.int .i64 size), .sc (.slc l ll lc), .agg [.int .i64 x_0, .int .i64 x_1, .int .i64 x_2]] w := by kernel_rfl
  rw [e_] at h
  exact runs_fn h Try.func14 (by kernel_rfl) (fun args w => Try.call14 args w) (by kernel_rfl) (by kernel_rfl) rfl rfl

/-- shiftbell/book.Check -/
def wp_book_Check (size : Int) (l : Option Addr) (ll : Nat) (lc : Nat) (w : World) (Q : Value → World → Prop) : Prop :=
  (((size < 1) ∨ (1099511627776 < size)) →
   ∀ w0, Ext w w0 →
   Q (.int .i64 1) w0) ∧
  (((1 ≤ size) ∧ (size ≤ 1099511627776)) →
   ((100 < (ll : Int)) →
    ∀ w0, Ext w w0 →
    Q (.int .i64 2) w0) ∧
   (((ll : Int) ≤ 100) →
    ∃ (I0 : Int → World → Prop) (M0 : Int → World → Nat), I0 0 w ∧
    ∀ (k1 : Int) (w2 : World), I0 k1 w2 →
     (((k1 < (ll : Int)) →
      l ≠ none ∧
      (0 : Int) ≤ k1 ∧
      (k1 : Int) < (ll : Int) ∧
      (pIdx l k1 3) ≠ none ∧
      ∃ t3 : Int, cell w2 (pIdx l k1 3) 0 = some (.int .i64 t3) ∧
      ∃ t4 : Int, cell w2 (pIdx l k1 3) 1 = some (.int .i64 t4) ∧
      ∃ t5 : Int, cell w2 (pIdx l k1 3) 2 = some (.int .i64 t5) ∧
      ∀ b6 : Nat, w2.heap.size ≤ b6 → ((((((t3 < 0) ∨ (t4 ≤ t3)) ∨ (1000000 < t4)) ∨ (t5 < 1)) ∨ (size < t5)) →
       ∀ w7, Ext w2 w7 →
       Q (.int .i64 4) w7) ∧
      ((((((0 ≤ t3) ∧ (t3 < t4)) ∧ (t4 ≤ 1000000)) ∧ (1 ≤ t5)) ∧ (t5 ≤ size)) →
       InR .i64 (k1 + 1) ∧
       (I0 (k1 + 1) w2 ∧ M0 (k1 + 1) w2 < M0 k1 w2)))) ∧
     (((ll : Int) ≤ k1) →
      ∀ w3, Ext w2 w3 →
      FnP Try.prog F_book_over #[(.int .i64 size), (.slice l ll lc)] w3 fun v4 w4 =>
       Ext w3 w4 ∧
       ∃ t5 : Bool, v4 = (.bool t5) ∧
       ((t5 = true) →
        ∀ w6, Ext w2 w6 →
        Q (.int .i64 10) w6) ∧
       ((t5 = false) →
        ∀ w6, Ext w2 w6 →
        Q (.int .i64 0) w6))))

theorem ok_book_Check (size : Int) (l : Option Addr) (ll : Nat) (lc : Nat) (w : World) (Q : Value → World → Prop) (h : wp_book_Check size l ll lc w Q) : FnP Try.prog F_book_Check #[(.int .i64 size), (.slice l ll lc)] w Q := by
  have e_ : wp_book_Check size l ll lc w Q = Runs Try.prog Q ({ N := 54, wrap := [], pub := [], muts := [], joins := [] } : Cfg) Try.f15 (Try.f15.body.getD .skip) [.sc (.int .i64 size), .sc (.slc l ll lc)] w := by kernel_rfl
  rw [e_] at h
  exact runs_fn h Try.func15 (by kernel_rfl) (fun args w => Try.call15 args w) (by kernel_rfl) (by kernel_rfl) rfl rfl

/-- shiftbell/book.gaps -/
def wp_book_gaps (size : Int) (l : Option Addr) (ll : Nat) (lc : Nat) (n : Int) (w : World) (Q : Value → World → Prop) : Prop :=
  ∀ w0, Ext w w0 →
  FnP Try.prog F_book_steps #[(.slice l ll lc)] w0 fun v1 w1 =>
   Ext w0 w1 ∧
   ∃ t2 : Option Addr, ∃ tl3 : Nat, ∃ tc4 : Nat, v1 = (.slice t2 tl3 tc4) ∧
   InR .i64 ((tl3 : Int) - 1) ∧
   (0 : Int) ≤ 0 ∧
   (0 : Int) ≤ ((tl3 : Int) - 1) ∧
   (((tl3 : Int) - 1) : Int) ≤ (tc4 : Int) ∧
   ∃ (I5 : Option Addr → Nat → Nat → Int → World → Prop) (M5 : Option Addr → Nat → Nat → Int → World → Nat), I5 none 0 0 0 w1 ∧
   ∀ (out6 : Option Addr) (outl6 : Nat) (outc6 : Nat) (k7 : Int) (w8 : World), I5 out6 outl6 outc6 k7 w8 →
    (((k7 < ((((tl3 : Int) - 1) - 0).toNat : Int)) →
     (pCut t2 tc4 0 2) ≠ none ∧
     (0 : Int) ≤ k7 ∧
     (k7 : Int) < ((((tl3 : Int) - 1) - 0).toNat : Int) ∧
     (pIdx (pCut t2 tc4 0 2) k7 2) ≠ none ∧
     ∃ t9 : Int, cell w8 (pIdx (pCut t2 tc4 0 2) k7 2) 0 = some (.int .i64 t9) ∧
     ∃ t10 : Int, cell w8 (pIdx (pCut t2 tc4 0 2) k7 2) 1 = some (.int .i64 t10) ∧
     ∀ b11 : Nat, w8.heap.size ≤ b11 → InR .i64 (size - t10) ∧
     InR .i64 (k7 + 1) ∧
     t2 ≠ none ∧
     (0 : Int) ≤ (k7 + 1) ∧
     ((k7 + 1) : Int) < (tl3 : Int) ∧
     (pIdx t2 (k7 + 1) 2) ≠ none ∧
     ∃ t12 : Int, cell w8 (pAdd (pIdx t2 (k7 + 1) 2) 0) 0 = some (.int .i64 t12) ∧
     InR .i64 ((outl6 : Int) - 1) ∧
     ((((size - t10) < n) →
      InR .i64 (k7 + 1) ∧
      (I5 out6 outl6 outc6 (k7 + 1) w8 ∧ M5 out6 outl6 outc6 (k7 + 1) w8 < M5 out6 outl6 outc6 k7 w8))) ∧
     ((n ≤ (size - t10)) →
      ((0 ≤ ((outl6 : Int) - 1)) →
       out6 ≠ none) ∧
      ((0 ≤ ((outl6 : Int) - 1)) →
       (0 : Int) ≤ ((outl6 : Int) - 1)) ∧
      ((0 ≤ ((outl6 : Int) - 1)) →
       (((outl6 : Int) - 1) : Int) < (outl6 : Int)) ∧
      ((0 ≤ ((outl6 : Int) - 1)) →
       (pIdx out6 ((outl6 : Int) - 1) 3) ≠ none) ∧
      (((0 ≤ ((outl6 : Int) - 1)) →
       ∃ t13 : Int, cell w8 (pAdd (pIdx out6 ((outl6 : Int) - 1) 3) 1) 0 = some (.int .i64 t13) ∧
       (((t13 = t9) →
        out6 ≠ none ∧
        (0 : Int) ≤ ((outl6 : Int) - 1) ∧
        (((outl6 : Int) - 1) : Int) < (outl6 : Int) ∧
        (pIdx out6 ((outl6 : Int) - 1) 3) ≠ none ∧
        ∃ t14 : Int, cell w8 (pAdd (pIdx out6 ((outl6 : Int) - 1) 3) 2) 0 = some (.int .i64 t14) ∧
        out6 ≠ none ∧
        (0 : Int) ≤ ((outl6 : Int) - 1) ∧
        (((outl6 : Int) - 1) : Int) < (outl6 : Int) ∧
        (pIdx out6 ((outl6 : Int) - 1) 3) ≠ none ∧
        Store w8 (pAdd (pIdx out6 ((outl6 : Int) - 1) 3) 1) [(.int .i64 t12)] [b11] fun w15 =>
         out6 ≠ none ∧
         (0 : Int) ≤ ((outl6 : Int) - 1) ∧
         (((outl6 : Int) - 1) : Int) < (outl6 : Int) ∧
         (pIdx out6 ((outl6 : Int) - 1) 3) ≠ none ∧
         Store w15 (pAdd (pIdx out6 ((outl6 : Int) - 1) 3) 2) [(.int .i64 (min t14 (size - t10)))] [b11] fun w16 =>
          InR .i64 (k7 + 1) ∧
          (I5 out6 outl6 outc6 (k7 + 1) w16 ∧ M5 out6 outl6 outc6 (k7 + 1) w16 < M5 out6 outl6 outc6 k7 w8))) ∧
       ((t13 ≠ t9) →
        ∀ w14, ExtB [] [b11] w8 w14 →
        Run Try.prog (.buildSlice 22 1 [(0, (.agg #[(.int .i64 t9), (.int .i64 t12), (.int .i64 (size - t10))]))]) w14 fun v15 w15 =>
         Ext w14 w15 ∧
         ∃ t16 : Option Addr, ∃ tl17 : Nat, ∃ tc18 : Nat, v15 = (.slice t16 tl17 tc18) ∧
         ∀ w19, ExtB [] [b11] w15 w19 →
         Run Try.prog (.append #[22, 22] 22 [(.slice out6 outl6 outc6), (.slice t16 tl17 tc18)]) w19 fun v20 w20 =>
          Kept [b11] w19 w20 ∧
          ∃ t21 : Option Addr, ∃ tl22 : Nat, ∃ tc23 : Nat, v20 = (.slice t21 tl22 tc23) ∧
          InR .i64 (k7 + 1) ∧
          (I5 t21 tl22 tc23 (k7 + 1) w20 ∧ M5 t21 tl22 tc23 (k7 + 1) w20 < M5 out6 outl6 outc6 k7 w8)))) ∧
      ((((outl6 : Int) - 1) < 0) →
       ∀ w13, ExtB [] [b11] w8 w13 →
       Run Try.prog (.buildSlice 22 1 [(0, (.agg #[(.int .i64 t9), (.int .i64 t12), (.int .i64 (size - t10))]))]) w13 fun v14 w14 =>
        Ext w13 w14 ∧
        ∃ t15 : Option Addr, ∃ tl16 : Nat, ∃ tc17 : Nat, v14 = (.slice t15 tl16 tc17) ∧
        ∀ w18, ExtB [] [b11] w14 w18 →
        Run Try.prog (.append #[22, 22] 22 [(.slice out6 outl6 outc6), (.slice t15 tl16 tc17)]) w18 fun v19 w19 =>
         Kept [b11] w18 w19 ∧
         ∃ t20 : Option Addr, ∃ tl21 : Nat, ∃ tc22 : Nat, v19 = (.slice t20 tl21 tc22) ∧
         InR .i64 (k7 + 1) ∧
         (I5 t20 tl21 tc22 (k7 + 1) w19 ∧ M5 t20 tl21 tc22 (k7 + 1) w19 < M5 out6 outl6 outc6 k7 w8))))) ∧
    ((((((tl3 : Int) - 1) - 0).toNat : Int) ≤ k7) →
     ∀ w9, Ext w8 w9 →
     Q (.slice out6 outl6 outc6) w9)

theorem ok_book_gaps (size : Int) (l : Option Addr) (ll : Nat) (lc : Nat) (n : Int) (w : World) (Q : Value → World → Prop) (h : wp_book_gaps size l ll lc n w Q) : FnP Try.prog F_book_gaps #[(.int .i64 size), (.slice l ll lc), (.int .i64 n)] w Q := by
  have e_ : wp_book_gaps size l ll lc n w Q = Runs Try.prog Q ({ N := 83, wrap := [], pub := [], muts := [], joins := [] } : Cfg) Try.f18 (Try.f18.body.getD .skip) [.sc (.int .i64 size), .sc (.slc l ll lc), .sc (.int .i64 n)] w := by kernel_rfl
  rw [e_] at h
  exact runs_fn h Try.func18 (by kernel_rfl) (fun args w => Try.call18 args w) (by kernel_rfl) (by kernel_rfl) rfl rfl

/-- shiftbell/book.steps -/
def wp_book_steps (l : Option Addr) (ll : Nat) (lc : Nat) (w : World) (Q : Value → World → Prop) : Prop :=
  ∀ w0, Ext w w0 →
  Run Try.prog (.buildSlice 50 2 [(0, (.int .i64 0)), (1, (.int .i64 1000000))]) w0 fun v1 w1 =>
   Ext w0 w1 ∧
   ∃ t2 : Option Addr, ∃ tl3 : Nat, ∃ tc4 : Nat, v1 = (.slice t2 tl3 tc4) ∧
   ∃ (I5 : Option Addr → Nat → Nat → Int → World → Prop) (M5 : Option Addr → Nat → Nat → Int → World → Nat), I5 t2 tl3 tc4 0 w1 ∧
   ∀ (at6 : Option Addr) (atl6 : Nat) (atc6 : Nat) (k7 : Int) (w8 : World), I5 at6 atl6 atc6 k7 w8 →
    (((k7 < (ll : Int)) →
     l ≠ none ∧
     (0 : Int) ≤ k7 ∧
     (k7 : Int) < (ll : Int) ∧
     (pIdx l k7 3) ≠ none ∧
     ∃ t9 : Int, cell w8 (pIdx l k7 3) 0 = some (.int .i64 t9) ∧
     ∃ t10 : Int, cell w8 (pIdx l k7 3) 1 = some (.int .i64 t10) ∧
     ∃ t11 : Int, cell w8 (pIdx l k7 3) 2 = some (.int .i64 t11) ∧
     ∀ b12 : Nat, w8.heap.size ≤ b12 → ∀ w13, ExtB [] [b12] w8 w13 →
     Run Try.prog (.buildSlice 50 2 [(0, (.int .i64 t9)), (1, (.int .i64 t10))]) w13 fun v14 w14 =>
      Ext w13 w14 ∧
      ∃ t15 : Option Addr, ∃ tl16 : Nat, ∃ tc17 : Nat, v14 = (.slice t15 tl16 tc17) ∧
      ∀ w18, ExtB [] [b12] w14 w18 →
      Run Try.prog (.append #[50, 50] 50 [(.slice at6 atl6 atc6), (.slice t15 tl16 tc17)]) w18 fun v19 w19 =>
       Kept [b12] w18 w19 ∧
       ∃ t20 : Option Addr, ∃ tl21 : Nat, ∃ tc22 : Nat, v19 = (.slice t20 tl21 tc22) ∧
       InR .i64 (k7 + 1) ∧
       (I5 t20 tl21 tc22 (k7 + 1) w19 ∧ M5 t20 tl21 tc22 (k7 + 1) w19 < M5 at6 atl6 atc6 k7 w8))) ∧
    (((ll : Int) ≤ k7) →
     ∀ w9, Ext w8 w9 →
     FnP Try.prog F_slices_Sort_int_int #[(.slice at6 atl6 atc6)] w9 fun v10 w10 =>
      v10 = (.tuple #[]) ∧
      ∀ w11, Ext w10 w11 →
      FnP Try.prog F_slices_Compact_int_int #[(.slice at6 atl6 atc6)] w11 fun v12 w12 =>
       ∃ t13 : Option Addr, ∃ tl14 : Nat, ∃ tc15 : Nat, v12 = (.slice t13 tl14 tc15) ∧
       ∃ (I16 : Option Addr → Nat → Nat → Int → World → Prop) (M16 : Option Addr → Nat → Nat → Int → World → Nat), I16 none 0 0 0 w12 ∧
       ∀ (out17 : Option Addr) (outl17 : Nat) (outc17 : Nat) (k18 : Int) (w19 : World), I16 out17 outl17 outc17 k18 w19 →
        (((k18 < (tl14 : Int)) →
         t13 ≠ none ∧
         (0 : Int) ≤ k18 ∧
         (k18 : Int) < (tl14 : Int) ∧
         ∃ t20 : Int, cell w19 (pIdx t13 k18 1) 0 = some (.int .i64 t20) ∧
         ∀ b21 : Nat, w19.heap.size ≤ b21 → ∃ (I22 : Int → Int → Int → World → Prop) (M22 : Int → Int → Int → World → Nat), I22 0 t20 0 w19 ∧
         ∀ (k23 : Int) (c24 : Int) (c25 : Int) (w26 : World), I22 k23 c24 c25 w26 →
          (((k23 < (ll : Int)) →
           l ≠ none ∧
           (0 : Int) ≤ k23 ∧
           (k23 : Int) < (ll : Int) ∧
           (pIdx l k23 3) ≠ none ∧
           ∃ t27 : Int, ((cell w26 (pIdx l k23 3) 0 = some (.int .i64 t27) ∧ Free [b21] (pIdx l k23 3))) ∧
           ∃ t28 : Int, ((cell w26 (pIdx l k23 3) 1 = some (.int .i64 t28) ∧ Free [b21] (pIdx l k23 3))) ∧
           ∃ t29 : Int, ((cell w26 (pIdx l k23 3) 2 = some (.int .i64 t29) ∧ Free [b21] (pIdx l k23 3))) ∧
           ∀ b30 : Nat, w26.heap.size ≤ b30 → ((((t27 ≤ t20) ∧ (t20 < t28)) →
            InR .i64 (c25 + t29) ∧
            InR .i64 (k23 + 1) ∧
            (I22 (k23 + 1) c24 (c25 + t29) w26 ∧ M22 (k23 + 1) c24 (c25 + t29) w26 < M22 k23 c24 c25 w26))) ∧
           (((t20 < t27) ∨ (t28 ≤ t20)) →
            InR .i64 (k23 + 1) ∧
            (I22 (k23 + 1) c24 c25 w26 ∧ M22 (k23 + 1) c24 c25 w26 < M22 k23 c24 c25 w26)))) ∧
          (((ll : Int) ≤ k23) →
           ∀ w27, ExtB [b21] [b21] w26 w27 →
           Run Try.prog (.buildSlice 45 1 [(0, (.agg #[(.int .i64 c24), (.int .i64 c25)]))]) w27 fun v28 w28 =>
            Ext w27 w28 ∧
            ∃ t29 : Option Addr, ∃ tl30 : Nat, ∃ tc31 : Nat, v28 = (.slice t29 tl30 tc31) ∧
            ∀ w32, ExtB [] [b21] w28 w32 →
            Run Try.prog (.append #[45, 45] 45 [(.slice out17 outl17 outc17), (.slice t29 tl30 tc31)]) w32 fun v33 w33 =>
             Kept [b21] w32 w33 ∧
             ∃ t34 : Option Addr, ∃ tl35 : Nat, ∃ tc36 : Nat, v33 = (.slice t34 tl35 tc36) ∧
             InR .i64 (k18 + 1) ∧
             (I16 t34 tl35 tc36 (k18 + 1) w33 ∧ M16 t34 tl35 tc36 (k18 + 1) w33 < M16 out17 outl17 outc17 k18 w19)))) ∧
        (((tl14 : Int) ≤ k18) →
         ∀ w20, Ext w19 w20 →
         Q (.slice out17 outl17 outc17) w20))

theorem ok_book_steps (l : Option Addr) (ll : Nat) (lc : Nat) (w : World) (Q : Value → World → Prop) (h : wp_book_steps l ll lc w Q) : FnP Try.prog F_book_steps #[(.slice l ll lc)] w Q := by
  have e_ : wp_book_steps l ll lc w Q = Runs Try.prog Q ({ N := 67, wrap := [], pub := [], muts := [21, 22], joins := [] } : Cfg) Try.f19 (Try.f19.body.getD .skip) [.sc (.slc l ll lc)] w := by kernel_rfl
  rw [e_] at h
  exact runs_fn h Try.func19 (by kernel_rfl) (fun args w => Try.call19 args w) (by kernel_rfl) (by kernel_rfl) rfl rfl

/-- shiftbell/book.over -/
def wp_book_over (size : Int) (l : Option Addr) (ll : Nat) (lc : Nat) (w : World) (Q : Value → World → Prop) : Prop :=
  ∀ w0, Ext w w0 →
  New w0 2 [(.int .i64 size)] fun p1 w1 =>
   ∀ w2, Ext w1 w2 →
   FnP Try.prog F_book_steps #[(.slice l ll lc)] w2 fun v3 w3 =>
    Ext w2 w3 ∧
    ∃ t4 : Option Addr, ∃ tl5 : Nat, ∃ tc6 : Nat, v3 = (.slice t4 tl5 tc6) ∧
    ∀ w7, Ext w3 w7 →
    FnP Try.prog F_slices_ContainsFunc_book_step_book_step #[(.slice t4 tl5 tc6), (.func (.func 24) #[] #[(.pointer p1)])] w7 fun v8 w8 =>
     Ext w7 w8 ∧
     ∃ t9 : Bool, v8 = (.bool t9) ∧
     ∀ w10, Ext w3 w10 →
     Q (.bool t9) w10

theorem ok_book_over (size : Int) (l : Option Addr) (ll : Nat) (lc : Nat) (w : World) (Q : Value → World → Prop) (h : wp_book_over size l ll lc w Q) : FnP Try.prog F_book_over #[(.int .i64 size), (.slice l ll lc)] w Q := by
  have e_ : wp_book_over size l ll lc w Q = Runs Try.prog Q ({ N := 9, wrap := [], pub := [2], muts := [], joins := [] } : Cfg) Try.f20 (Try.f20.body.getD .skip) [.sc (.int .i64 size), .sc (.slc l ll lc)] w := by kernel_rfl
  rw [e_] at h
  exact runs_fn h Try.func20 (by kernel_rfl) (fun args w => Try.call20 args w) (by kernel_rfl) (by kernel_rfl) rfl rfl

/-- shiftbell/book.over$1 -/
def wp_book_over_1 (x_0 : Int) (x_1 : Int) (c0 : Option Addr) (w : World) (Q : Value → World → Prop) : Prop :=
  ∀ b0 : Nat, w.heap.size ≤ b0 → ∃ t1 : Int, cell w c0 0 = some (.int .i64 t1) ∧
  ∀ w2, Ext w w2 →
  Q (.bool (decide (t1 < x_1))) w2

theorem ok_book_over_1 (x_0 : Int) (x_1 : Int) (c0 : Option Addr) (w : World) (Q : Value → World → Prop) (h : wp_book_over_1 x_0 x_1 c0 w Q) : FnP Try.prog F_book_over_1 #[(.agg #[(.int .i64 x_0), (.int .i64 x_1)]), (.pointer c0)] w Q := by
  have e_ : wp_book_over_1 x_0 x_1 c0 w Q = Runs Try.prog Q ({ N := 8, wrap := [], pub := [], muts := [], joins := [] } : Cfg) Try.f24 (Try.f24.body.getD .skip) [.agg [.int .i64 x_0, .int .i64 x_1], .sc (.ptr c0)] w := by kernel_rfl
  rw [e_] at h
  exact runs_fn h Try.func24 (by kernel_rfl) (fun args w => Try.call24 args w) (by kernel_rfl) (by kernel_rfl) rfl rfl

/-- slices.ContainsFunc[[]shiftbell/book.step,shiftbell/book.step] -/
def wp_slices_ContainsFunc_book_step_book_step (s : Option Addr) (sl : Nat) (sc : Nat) (f : Value) (w : World) (Q : Value → World → Prop) : Prop :=
  ∀ w0, Ext w w0 →
  FnP Try.prog F_slices_IndexFunc_book_step_book_step #[(.slice s sl sc), f] w0 fun v1 w1 =>
   Ext w0 w1 ∧
   ∃ t2 : Int, v1 = (.int .i64 t2) ∧
   ∀ w3, Ext w w3 →
   Q (.bool (decide (0 ≤ t2))) w3

theorem ok_slices_ContainsFunc_book_step_book_step (s : Option Addr) (sl : Nat) (sc : Nat) (f : Value) (w : World) (Q : Value → World → Prop) (h : wp_slices_ContainsFunc_book_step_book_step s sl sc f w Q) : FnP Try.prog F_slices_ContainsFunc_book_step_book_step #[(.slice s sl sc), f] w Q := by
  have e_ : wp_slices_ContainsFunc_book_step_book_step s sl sc f w Q = Runs Try.prog Q ({ N := 9, wrap := [], pub := [], muts := [], joins := [] } : Cfg) Try.f23 (Try.f23.body.getD .skip) [.sc (.slc s sl sc), .sc (.val f)] w := by kernel_rfl
  rw [e_] at h
  exact runs_fn h Try.func23 (by kernel_rfl) (fun args w => Try.call23 args w) (by kernel_rfl) (by kernel_rfl) rfl rfl

/-- slices.IndexFunc[[]shiftbell/book.step,shiftbell/book.step] -/
def wp_slices_IndexFunc_book_step_book_step (s : Option Addr) (sl : Nat) (sc : Nat) (f : Value) (w : World) (Q : Value → World → Prop) : Prop :=
  ∃ (I0 : Int → World → Prop) (M0 : Int → World → Nat), I0 0 w ∧
  ∀ (k1 : Int) (w2 : World), I0 k1 w2 →
   (((k1 < (sl : Int)) →
    s ≠ none ∧
    (0 : Int) ≤ k1 ∧
    (k1 : Int) < (sl : Int) ∧
    (pIdx s k1 2) ≠ none ∧
    ∃ t3 : Int, cell w2 (pIdx s k1 2) 0 = some (.int .i64 t3) ∧
    ∃ t4 : Int, cell w2 (pIdx s k1 2) 1 = some (.int .i64 t4) ∧
    ∀ w5, Ext w2 w5 →
    FnVP Try.prog f [(.agg #[(.int .i64 t3), (.int .i64 t4)])] w5 fun v6 w6 =>
     Ext w5 w6 ∧
     ∃ t7 : Bool, v6 = (.bool t7) ∧
     ((t7 = true) →
      ∀ w8, Ext w2 w8 →
      Q (.int .i64 k1) w8) ∧
     ((t7 = false) →
      InR .i64 (k1 + 1) ∧
      (I0 (k1 + 1) w2 ∧ M0 (k1 + 1) w2 < M0 k1 w2)))) ∧
   (((sl : Int) ≤ k1) →
    ∀ w3, Ext w2 w3 →
    Q (.int .i64 (-1)) w3)

theorem ok_slices_IndexFunc_book_step_book_step (s : Option Addr) (sl : Nat) (sc : Nat) (f : Value) (w : World) (Q : Value → World → Prop) (h : wp_slices_IndexFunc_book_step_book_step s sl sc f w Q) : FnP Try.prog F_slices_IndexFunc_book_step_book_step #[(.slice s sl sc), f] w Q := by
  have e_ : wp_slices_IndexFunc_book_step_book_step s sl sc f w Q = Runs Try.prog Q ({ N := 19, wrap := [], pub := [], muts := [], joins := [] } : Cfg) Try.f27 (Try.f27.body.getD .skip) [.sc (.slc s sl sc), .sc (.val f)] w := by kernel_rfl
  rw [e_] at h
  exact runs_fn h Try.func27 (by kernel_rfl) (fun args w => Try.call27 args w) (by kernel_rfl) (by kernel_rfl) rfl rfl

/-- slices.Delete[[]shiftbell/api.Slot,shiftbell/api.Slot] -/
def wp_slices_Delete_api_Slot_api_Slot (s : Option Addr) (sl : Nat) (sc : Nat) (i : Int) (j : Int) (w : World) (Q : Value → World → Prop) : Prop :=
  (0 : Int) ≤ i ∧
  (i : Int) ≤ j ∧
  (j : Int) ≤ (sl : Int) ∧
  ((sl : Int) : Int) ≤ (sc : Int) ∧
  ((i = j) →
   ∀ w0, Ext w w0 →
   Q (.slice s sl sc) w0) ∧
  ((i ≠ j) →
   (0 : Int) ≤ 0 ∧
   (0 : Int) ≤ i ∧
   (i : Int) ≤ (sc : Int) ∧
   (0 : Int) ≤ j ∧
   (j : Int) ≤ (sl : Int) ∧
   ((sl : Int) : Int) ≤ (sc : Int) ∧
   ∀ w0, Ext w w0 →
   Run Try.prog (.append #[22, 22] 22 [(.slice (pCut s sc 0 3) (i - 0).toNat (sc - (0 : Int).toNat)), (.slice (pCut s sc j 3) ((sl : Int) - j).toNat (sc - j.toNat))]) w0 fun v1 w1 =>
    ∃ t2 : Option Addr, ∃ tl3 : Nat, ∃ tc4 : Nat, v1 = (.slice t2 tl3 tc4) ∧
    (0 : Int) ≤ (tl3 : Int) ∧
    ((tl3 : Int) : Int) ≤ (sl : Int) ∧
    ((sl : Int) : Int) ≤ (tc4 : Int) ∧
    ∀ w5, Ext w1 w5 →
    Run Try.prog (.clear #[22] 0 [(.slice (pCut t2 tc4 (tl3 : Int) 3) ((sl : Int) - (tl3 : Int)).toNat (tc4 - (tl3 : Int).toNat))]) w5 fun v6 w6 =>
     v6 = (.tuple #[]) ∧
     ∀ w7, Ext w6 w7 →
     Q (.slice t2 tl3 tc4) w7)

theorem ok_slices_Delete_api_Slot_api_Slot (s : Option Addr) (sl : Nat) (sc : Nat) (i : Int) (j : Int) (w : World) (Q : Value → World → Prop) (h : wp_slices_Delete_api_Slot_api_Slot s sl sc i j w Q) : FnP Try.prog F_slices_Delete_api_Slot_api_Slot #[(.slice s sl sc), (.int .i64 i), (.int .i64 j)] w Q := by
  have e_ : wp_slices_Delete_api_Slot_api_Slot s sl sc i j w Q = Runs Try.prog Q ({ N := 33, wrap := [], pub := [], muts := [], joins := [] } : Cfg) Try.f12 (Try.f12.body.getD .skip) [.sc (.slc s sl sc), .sc (.int .i64 i), .sc (.int .i64 j)] w := by kernel_rfl
  rw [e_] at h
  exact runs_fn h Try.func12 (by kernel_rfl) (fun args w => Try.call12 args w) (by kernel_rfl) (by kernel_rfl) rfl rfl

/-- slices.Clone[[]shiftbell/api.Slot,shiftbell/api.Slot] -/
def wp_slices_Clone_api_Slot_api_Slot (s : Option Addr) (sl : Nat) (sc : Nat) (w : World) (Q : Value → World → Prop) : Prop :=
  ((s = none) →
   ∀ w0, Ext w w0 →
   Q (.slice none 0 0) w0) ∧
  ((s ≠ none) →
   ∀ w0, Ext w w0 →
   Run Try.prog (.buildSlice 22 0 []) w0 fun v1 w1 =>
    Ext w0 w1 ∧
    ∃ t2 : Option Addr, ∃ tl3 : Nat, ∃ tc4 : Nat, v1 = (.slice t2 tl3 tc4) ∧
    ∀ w5, Ext w1 w5 →
    Run Try.prog (.append #[22, 22] 22 [(.slice t2 tl3 tc4), (.slice s sl sc)]) w5 fun v6 w6 =>
     ∃ t7 : Option Addr, ∃ tl8 : Nat, ∃ tc9 : Nat, v6 = (.slice t7 tl8 tc9) ∧
     ∀ w10, Ext w6 w10 →
     Q (.slice t7 tl8 tc9) w10)

theorem ok_slices_Clone_api_Slot_api_Slot (s : Option Addr) (sl : Nat) (sc : Nat) (w : World) (Q : Value → World → Prop) (h : wp_slices_Clone_api_Slot_api_Slot s sl sc w Q) : FnP Try.prog F_slices_Clone_api_Slot_api_Slot #[(.slice s sl sc)] w Q := by
  have e_ : wp_slices_Clone_api_Slot_api_Slot s sl sc w Q = Runs Try.prog Q ({ N := 8, wrap := [], pub := [], muts := [], joins := [] } : Cfg) Try.f13 (Try.f13.body.getD .skip) [.sc (.slc s sl sc)] w := by kernel_rfl
  rw [e_] at h
  exact runs_fn h Try.func13 (by kernel_rfl) (fun args w => Try.call13 args w) (by kernel_rfl) (by kernel_rfl) rfl rfl

/-- slices.Reverse[[]shiftbell/api.Slot,shiftbell/api.Slot] -/
def wp_slices_Reverse_api_Slot_api_Slot (s : Option Addr) (sl : Nat) (sc : Nat) (w : World) (Q : Value → World → Prop) : Prop :=
  InR .i64 ((sl : Int) - 1) ∧
  ∃ (I0 : Int → Int → World → Prop) (M0 : Int → Int → World → Nat), I0 0 ((sl : Int) - 1) w ∧
  ∀ (i1 : Int) (j2 : Int) (w3 : World), I0 i1 j2 w3 →
   (((i1 < j2) →
    s ≠ none ∧
    (0 : Int) ≤ j2 ∧
    (j2 : Int) < (sl : Int) ∧
    (pIdx s j2 3) ≠ none ∧
    ∃ t4 : Int, cell w3 (pIdx s j2 3) 0 = some (.int .i64 t4) ∧
    ∃ t5 : Int, cell w3 (pIdx s j2 3) 1 = some (.int .i64 t5) ∧
    ∃ t6 : Int, cell w3 (pIdx s j2 3) 2 = some (.int .i64 t6) ∧
    s ≠ none ∧
    (0 : Int) ≤ i1 ∧
    (i1 : Int) < (sl : Int) ∧
    (pIdx s i1 3) ≠ none ∧
    ∃ t7 : Int, cell w3 (pIdx s i1 3) 0 = some (.int .i64 t7) ∧
    ∃ t8 : Int, cell w3 (pIdx s i1 3) 1 = some (.int .i64 t8) ∧
    ∃ t9 : Int, cell w3 (pIdx s i1 3) 2 = some (.int .i64 t9) ∧
    s ≠ none ∧
    (0 : Int) ≤ i1 ∧
    (i1 : Int) < (sl : Int) ∧
    Store w3 (pIdx s i1 3) [(.int .i64 t4), (.int .i64 t5), (.int .i64 t6)] [] fun w10 =>
     s ≠ none ∧
     (0 : Int) ≤ j2 ∧
     (j2 : Int) < (sl : Int) ∧
     Store w10 (pIdx s j2 3) [(.int .i64 t7), (.int .i64 t8), (.int .i64 t9)] [] fun w11 =>
      InR .i64 (i1 + 1) ∧
      InR .i64 (j2 - 1) ∧
      (I0 (i1 + 1) (j2 - 1) w11 ∧ M0 (i1 + 1) (j2 - 1) w11 < M0 i1 j2 w3))) ∧
   ((j2 ≤ i1) →
    ∀ w4, Ext w3 w4 →
    Q (.tuple #[]) w4)

theorem ok_slices_Reverse_api_Slot_api_Slot (s : Option Addr) (sl : Nat) (sc : Nat) (w : World) (Q : Value → World → Prop) (h : wp_slices_Reverse_api_Slot_api_Slot s sl sc w Q) : FnP Try.prog F_slices_Reverse_api_Slot_api_Slot #[(.slice s sl sc)] w Q := by
  have e_ : wp_slices_Reverse_api_Slot_api_Slot s sl sc w Q = Runs Try.prog Q ({ N := 28, wrap := [], pub := [], muts := [1000000], joins := [] } : Cfg) Try.f16 (Try.f16.body.getD .skip) [.sc (.slc s sl sc)] w := by kernel_rfl
  rw [e_] at h
  exact runs_fn h Try.func16 (by kernel_rfl) (fun args w => Try.call16 args w) (by kernel_rfl) (by kernel_rfl) rfl rfl

/-- slices.Equal[[]shiftbell/api.Slot,shiftbell/api.Slot] -/
def wp_slices_Equal_api_Slot_api_Slot (s1 : Option Addr) (s1l : Nat) (s1c : Nat) (s2 : Option Addr) (s2l : Nat) (s2c : Nat) (w : World) (Q : Value → World → Prop) : Prop :=
  (((s1l : Int) ≠ (s2l : Int)) →
   ∀ w0, Ext w w0 →
   Q (.bool false) w0) ∧
  (((s1l : Int) = (s2l : Int)) →
   ∃ (I0 : Int → World → Prop) (M0 : Int → World → Nat), I0 0 w ∧
   ∀ (k1 : Int) (w2 : World), I0 k1 w2 →
    (((k1 < (s1l : Int)) →
     s1 ≠ none ∧
     (0 : Int) ≤ k1 ∧
     (k1 : Int) < (s1l : Int) ∧
     (pIdx s1 k1 3) ≠ none ∧
     ∃ t3 : Int, cell w2 (pIdx s1 k1 3) 0 = some (.int .i64 t3) ∧
     ∃ t4 : Int, cell w2 (pIdx s1 k1 3) 1 = some (.int .i64 t4) ∧
     ∃ t5 : Int, cell w2 (pIdx s1 k1 3) 2 = some (.int .i64 t5) ∧
     s2 ≠ none ∧
     (0 : Int) ≤ k1 ∧
     (k1 : Int) < (s2l : Int) ∧
     (pIdx s2 k1 3) ≠ none ∧
     ∃ t6 : Int, cell w2 (pIdx s2 k1 3) 0 = some (.int .i64 t6) ∧
     ∃ t7 : Int, cell w2 (pIdx s2 k1 3) 1 = some (.int .i64 t7) ∧
     ∃ t8 : Int, cell w2 (pIdx s2 k1 3) 2 = some (.int .i64 t8) ∧
     ∀ w9, Ext w2 w9 →
     Run Try.prog (.eq .neq 28 false false (.agg #[(.int .i64 t3), (.int .i64 t4), (.int .i64 t5)]) (.agg #[(.int .i64 t6), (.int .i64 t7), (.int .i64 t8)])) w9 fun v10 w10 =>
      Ext w9 w10 ∧
      ∃ t11 : Bool, v10 = (.bool t11) ∧
      ((t11 = true) →
       ∀ w12, Ext w2 w12 →
       Q (.bool false) w12) ∧
      ((t11 = false) →
       InR .i64 (k1 + 1) ∧
       (I0 (k1 + 1) w2 ∧ M0 (k1 + 1) w2 < M0 k1 w2)))) ∧
    (((s1l : Int) ≤ k1) →
     ∀ w3, Ext w2 w3 →
     Q (.bool true) w3))

theorem ok_slices_Equal_api_Slot_api_Slot (s1 : Option Addr) (s1l : Nat) (s1c : Nat) (s2 : Option Addr) (s2l : Nat) (s2c : Nat) (w : World) (Q : Value → World → Prop) (h : wp_slices_Equal_api_Slot_api_Slot s1 s1l s1c s2 s2l s2c w Q) : FnP Try.prog F_slices_Equal_api_Slot_api_Slot #[(.slice s1 s1l s1c), (.slice s2 s2l s2c)] w Q := by
  have e_ : wp_slices_Equal_api_Slot_api_Slot s1 s1l s1c s2 s2l s2c w Q = Runs Try.prog Q ({ N := 26, wrap := [], pub := [], muts := [], joins := [] } : Cfg) Try.f17 (Try.f17.body.getD .skip) [.sc (.slc s1 s1l s1c), .sc (.slc s2 s2l s2c)] w := by kernel_rfl
  rw [e_] at h
  exact runs_fn h Try.func17 (by kernel_rfl) (fun args w => Try.call17 args w) (by kernel_rfl) (by kernel_rfl) rfl rfl

/-- shiftbell/shiftbellkeep.BookGaps -/
def wp_shiftbellkeep_BookGaps (size : Int) (l : Option Addr) (ll : Nat) (lc : Nat) (n : Int) (t : Int) (w : World) (Q : Value → World → Prop) : Prop :=
  ∀ w0, Ext w w0 →
  FnP Try.prog F_shiftbellkeep_books #[] w0 fun v1 w1 =>
   Ext w0 w1 ∧
   ∃ t2 : Bool, v1 = (.bool t2) ∧
   ((t2 = false) →
    ∀ w3, Ext w w3 →
    Q (.bool false) w3) ∧
   ((t2 = true) →
    ∀ w3, Ext w w3 →
    FnP Try.prog F_book_Gaps #[(.int .i64 size), (.slice l ll lc), (.int .i64 n)] w3 fun v4 w4 =>
     Ext w3 w4 ∧
     ∃ t5 : Option Addr, ∃ tl6 : Nat, ∃ tc7 : Nat, ∃ t8 : Int, v4 = (.tuple #[(.slice t5 tl6 tc7), (.int .i64 t8)]) ∧
     ((t8 ≠ 0) →
      ∀ w9, Ext w4 w9 →
      Q (.bool (decide ((tl6 : Int) = 0))) w9) ∧
     ((t8 = 0) →
      ∃ (I9 : Bool → Int → World → Prop) (M9 : Bool → Int → World → Nat), I9 false 0 w4 ∧
      ∀ (in10 : Bool) (k11 : Int) (w12 : World), I9 in10 k11 w12 →
       (((k11 < (tl6 : Int)) →
        t5 ≠ none ∧
        (0 : Int) ≤ k11 ∧
        (k11 : Int) < (tl6 : Int) ∧
        (pIdx t5 k11 3) ≠ none ∧
        ∃ t13 : Int, cell w12 (pIdx t5 k11 3) 0 = some (.int .i64 t13) ∧
        ∃ t14 : Int, cell w12 (pIdx t5 k11 3) 1 = some (.int .i64 t14) ∧
        ∃ t15 : Int, cell w12 (pIdx t5 k11 3) 2 = some (.int .i64 t15) ∧
        ∀ b16 : Nat, w12.heap.size ≤ b16 → ((((((0 ≤ t13) ∧ (t13 < t14)) ∧ (t14 ≤ 1000000)) ∧ (n ≤ t15)) →
         ((0 < k11) →
          InR .i64 (k11 - 1)))) ∧
        ((((((0 ≤ t13) ∧ (t13 < t14)) ∧ (t14 ≤ 1000000)) ∧ (n ≤ t15)) →
         ((0 < k11) →
          t5 ≠ none))) ∧
        ((((((0 ≤ t13) ∧ (t13 < t14)) ∧ (t14 ≤ 1000000)) ∧ (n ≤ t15)) →
         ((0 < k11) →
          (0 : Int) ≤ (k11 - 1)))) ∧
        ((((((0 ≤ t13) ∧ (t13 < t14)) ∧ (t14 ≤ 1000000)) ∧ (n ≤ t15)) →
         ((0 < k11) →
          ((k11 - 1) : Int) < (tl6 : Int)))) ∧
        ((((((0 ≤ t13) ∧ (t13 < t14)) ∧ (t14 ≤ 1000000)) ∧ (n ≤ t15)) →
         ((0 < k11) →
          (pIdx t5 (k11 - 1) 3) ≠ none))) ∧
        (((((t13 < 0) ∨ (t14 ≤ t13)) ∨ (1000000 < t14)) ∨ (t15 < n)) →
         ∀ w17, Ext w12 w17 →
         Q (.bool false) w17) ∧
        (((((0 ≤ t13) ∧ (t13 < t14)) ∧ (t14 ≤ 1000000)) ∧ (n ≤ t15)) →
         (((0 < k11) →
          ∃ t17 : Int, cell w12 (pAdd (pIdx t5 (k11 - 1) 3) 1) 0 = some (.int .i64 t17) ∧
          ((t13 ≤ t17) →
           ∀ w18, Ext w12 w18 →
           Q (.bool false) w18) ∧
          ((t17 < t13) →
           ∀ w18, Ext w12 w18 →
           FnP Try.prog F_book_Most #[(.int .i64 size), (.slice l ll lc), (.int .i64 t13), (.int .i64 t14)] w18 fun v19 w19 =>
            Ext w18 w19 ∧
            ∃ t20 : Int, ∃ t21 : Int, v19 = (.tuple #[(.int .i64 t20), (.int .i64 t21)]) ∧
            ((t21 = 0) →
             InR .i64 (t20 + t15)) ∧
            (((t21 ≠ 0) ∨ ((t20 + t15) ≠ size)) →
             ∀ w22, Ext w12 w22 →
             Q (.bool false) w22) ∧
            (((t21 = 0) ∧ ((t20 + t15) = size)) →
             InR .i64 (k11 + 1) ∧
             (I9 (in10 || ((decide (t13 ≤ t)) && (decide (t < t14)))) (k11 + 1) w12 ∧ M9 (in10 || ((decide (t13 ≤ t)) && (decide (t < t14)))) (k11 + 1) w12 < M9 in10 k11 w12))))) ∧
         ((k11 ≤ 0) →
          ∀ w17, Ext w12 w17 →
          FnP Try.prog F_book_Most #[(.int .i64 size), (.slice l ll lc), (.int .i64 t13), (.int .i64 t14)] w17 fun v18 w18 =>
           Ext w17 w18 ∧
           ∃ t19 : Int, ∃ t20 : Int, v18 = (.tuple #[(.int .i64 t19), (.int .i64 t20)]) ∧
           ((t20 = 0) →
            InR .i64 (t19 + t15)) ∧
           (((t20 ≠ 0) ∨ ((t19 + t15) ≠ size)) →
            ∀ w21, Ext w12 w21 →
            Q (.bool false) w21) ∧
           (((t20 = 0) ∧ ((t19 + t15) = size)) →
            InR .i64 (k11 + 1) ∧
            (I9 (in10 || ((decide (t13 ≤ t)) && (decide (t < t14)))) (k11 + 1) w12 ∧ M9 (in10 || ((decide (t13 ≤ t)) && (decide (t < t14)))) (k11 + 1) w12 < M9 in10 k11 w12)))))) ∧
       (((tl6 : Int) ≤ k11) →
        ∀ w13, Ext w12 w13 →
        FnP Try.prog F_book_Most #[(.int .i64 size), (.slice l ll lc), (.int .i64 t), (.int .i64 (IntKind.wrap .i64 (t + 1)))] w13 fun v14 w14 =>
         Ext w13 w14 ∧
         ∃ t15 : Int, ∃ t16 : Int, v14 = (.tuple #[(.int .i64 t15), (.int .i64 t16)]) ∧
         (((t16 = 0) ∨ (in10 = true)) →
          ((t16 = 0) →
           InR .i64 (t15 + n))) ∧
         ∀ w17, Ext w12 w17 →
         Q (.bool (((decide (t16 ≠ 0)) && (!in10)) || ((decide (t16 = 0)) && ((in10 && (decide ((t15 + n) ≤ size))) || ((!in10) && (decide (size < (t15 + n)))))))) w17)))

theorem ok_shiftbellkeep_BookGaps (size : Int) (l : Option Addr) (ll : Nat) (lc : Nat) (n : Int) (t : Int) (w : World) (Q : Value → World → Prop) (h : wp_shiftbellkeep_BookGaps size l ll lc n t w Q) : FnP Try.prog F_shiftbellkeep_BookGaps #[(.int .i64 size), (.slice l ll lc), (.int .i64 n), (.int .i64 t)] w Q := by
  have e_ : wp_shiftbellkeep_BookGaps size l ll lc n t w Q = Runs Try.prog Q ({ N := 137, wrap := [114], pub := [], muts := [], joins := [] } : Cfg) Try.f3 (Try.f3.body.getD .skip) [.sc (.int .i64 size), .sc (.slc l ll lc), .sc (.int .i64 n), .sc (.int .i64 t)] w := by kernel_rfl
  rw [e_] at h
  exact runs_fn h Try.func3 (by kernel_rfl) (fun args w => Try.call3 args w) (by kernel_rfl) (by kernel_rfl) rfl rfl

theorem open_shiftbellkeep_BookGaps (W : World) (R : Array Value → Prop) (h : ∀ size : Int, InR .i64 size → ∀ l : Option Addr, ∀ ll : Nat, ∀ lc : Nat, SlcArg Try.prog W 28 l ll lc → ∀ n : Int, InR .i64 n → ∀ t : Int, InR .i64 t → R #[(.int .i64 size), (.slice l ll lc), (.int .i64 n), (.int .i64 t)]) (args : Array Value) (hg : GoodAll Try.prog W Try.f3.params.toList args.toList) : R args := by
  have e_ : (ArgsAll Try.prog W Try.f3.params.toList fun l => R l.toArray) = (∀ size : Int, InR .i64 size → ∀ l : Option Addr, ∀ ll : Nat, ∀ lc : Nat, SlcArg Try.prog W 28 l ll lc → ∀ n : Int, InR .i64 n → ∀ t : Int, InR .i64 t → R #[(.int .i64 size), (.slice l ll lc), (.int .i64 n), (.int .i64 t)]) := by kernel_rfl
  exact args_open (by rw [e_]; exact h) args hg
-- wit 3 #[(.int .i64 0), (.slice none 0 0), (.int .i64 0), (.int .i64 0)]

/-- shiftbell/shiftbellkeep.BookPut -/
def wp_shiftbellkeep_BookPut (size : Int) (l : Option Addr) (ll : Nat) (lc : Nat) (x_0 : Int) (x_1 : Int) (x_2 : Int) (t : Int) (w : World) (Q : Value → World → Prop) : Prop :=
  ∀ b0 : Nat, w.heap.size ≤ b0 → ∀ w1, Ext w w1 →
  FnP Try.prog F_shiftbellkeep_books #[] w1 fun v2 w2 =>
   Ext w1 w2 ∧
   ∃ t3 : Bool, v2 = (.bool t3) ∧
   ((t3 = false) →
    ∀ w4, Ext w w4 →
    Q (.bool false) w4) ∧
   ((t3 = true) →
    ∀ w4, ExtB [] [b0] w w4 →
    FnP Try.prog F_book_Put #[(.int .i64 size), (.slice l ll lc), (.agg #[(.int .i64 x_0), (.int .i64 x_1), (.int .i64 x_2)])] w4 fun v5 w5 =>
     Ext w4 w5 ∧
     ∃ t6 : Option Addr, ∃ tl7 : Nat, ∃ tc8 : Nat, ∃ t9 : Int, v5 = (.tuple #[(.slice t6 tl7 tc8), (.int .i64 t9)]) ∧
     ((t9 ≠ 0) →
      ∀ w10, Ext w5 w10 →
      Q (.bool (decide ((tl7 : Int) = 0))) w10) ∧
     ((t9 = 0) →
      ∀ w10, Ext w5 w10 →
      FnP Try.prog F_book_Most #[(.int .i64 size), (.slice l ll lc), (.int .i64 t), (.int .i64 (IntKind.wrap .i64 (t + 1)))] w10 fun v11 w11 =>
       Ext w10 w11 ∧
       ∃ t12 : Int, ∃ t13 : Int, v11 = (.tuple #[(.int .i64 t12), (.int .i64 t13)]) ∧
       ∀ w14, Ext w5 w14 →
       FnP Try.prog F_book_Most #[(.int .i64 size), (.slice t6 tl7 tc8), (.int .i64 t), (.int .i64 (IntKind.wrap .i64 (t + 1)))] w14 fun v15 w15 =>
        Ext w14 w15 ∧
        ∃ t16 : Int, ∃ t17 : Int, v15 = (.tuple #[(.int .i64 t16), (.int .i64 t17)]) ∧
        ((t13 ≠ 0) →
         ∀ w18, Ext w5 w18 →
         Q (.bool (decide (t13 = t17))) w18) ∧
        ((t13 = 0) →
         ((((x_0 ≤ t) ∧ (t < x_1)) →
          InR .i64 (t12 + x_2) ∧
          ((((t17 = 0) ∧ ((t12 + x_2) = t16)) →
           ∀ w18, Ext w5 w18 →
           FnP Try.prog F_book_Check #[(.int .i64 size), (.slice t6 tl7 tc8)] w18 fun v19 w19 =>
            Ext w18 w19 ∧
            ∃ t20 : Int, v19 = (.int .i64 t20) ∧
            ∀ w21, Ext w5 w21 →
            Q (.bool (decide (t20 = 0))) w21)) ∧
          (((t17 ≠ 0) ∨ ((t12 + x_2) ≠ t16)) →
           ∀ w18, Ext w5 w18 →
           Q (.bool false) w18))) ∧
         (((t < x_0) ∨ (x_1 ≤ t)) →
          ((((t17 = 0) ∧ (t12 = t16)) →
           ∀ w18, Ext w5 w18 →
           FnP Try.prog F_book_Check #[(.int .i64 size), (.slice t6 tl7 tc8)] w18 fun v19 w19 =>
            Ext w18 w19 ∧
            ∃ t20 : Int, v19 = (.int .i64 t20) ∧
            ∀ w21, Ext w5 w21 →
            Q (.bool (decide (t20 = 0))) w21)) ∧
          (((t17 ≠ 0) ∨ (t12 ≠ t16)) →
           ∀ w18, Ext w5 w18 →
           Q (.bool false) w18)))))

theorem ok_shiftbellkeep_BookPut (size : Int) (l : Option Addr) (ll : Nat) (lc : Nat) (x_0 : Int) (x_1 : Int) (x_2 : Int) (t : Int) (w : World) (Q : Value → World → Prop) (h : wp_shiftbellkeep_BookPut size l ll lc x_0 x_1 x_2 t w Q) : FnP Try.prog F_shiftbellkeep_BookPut #[(.int .i64 size), (.slice l ll lc), (.agg #[(.int .i64 x_0), (.int .i64 x_1), (.int .i64 x_2)]), (.int .i64 t)] w Q := by
  have e_ : wp_shiftbellkeep_BookPut size l ll lc x_0 x_1 x_2 t w Q = Runs Try.prog Q ({ N := 79, wrap := [34, 43], pub := [], muts := [], joins := [] } : Cfg) Try.f5 (Try.f5.body.getD .skip) [.sc (.int .i64 size), .sc (.slc l ll lc), .agg [.int .i64 x_0, .int .i64 x_1, .int .i64 x_2], .sc (.int .i64 t)] w := by kernel_rfl
  rw [e_] at h
  exact runs_fn h Try.func5 (by kernel_rfl) (fun args w => Try.call5 args w) (by kernel_rfl) (by kernel_rfl) rfl rfl

theorem open_shiftbellkeep_BookPut (W : World) (R : Array Value → Prop) (h : ∀ size : Int, InR .i64 size → ∀ l : Option Addr, ∀ ll : Nat, ∀ lc : Nat, SlcArg Try.prog W 28 l ll lc → ∀ x_0 : Int, InR .i64 x_0 → ∀ x_1 : Int, InR .i64 x_1 → ∀ x_2 : Int, InR .i64 x_2 → ∀ t : Int, InR .i64 t → R #[(.int .i64 size), (.slice l ll lc), (.agg #[(.int .i64 x_0), (.int .i64 x_1), (.int .i64 x_2)]), (.int .i64 t)]) (args : Array Value) (hg : GoodAll Try.prog W Try.f5.params.toList args.toList) : R args := by
  have e_ : (ArgsAll Try.prog W Try.f5.params.toList fun l => R l.toArray) = (∀ size : Int, InR .i64 size → ∀ l : Option Addr, ∀ ll : Nat, ∀ lc : Nat, SlcArg Try.prog W 28 l ll lc → ∀ x_0 : Int, InR .i64 x_0 → ∀ x_1 : Int, InR .i64 x_1 → ∀ x_2 : Int, InR .i64 x_2 → ∀ t : Int, InR .i64 t → R #[(.int .i64 size), (.slice l ll lc), (.agg #[(.int .i64 x_0), (.int .i64 x_1), (.int .i64 x_2)]), (.int .i64 t)]) := by kernel_rfl
  exact args_open (by rw [e_]; exact h) args hg
-- wit 5 #[(.int .i64 0), (.slice none 0 0), (.agg #[(.int .i64 0), (.int .i64 0), (.int .i64 0)]), (.int .i64 0)]

/-- shiftbell/shiftbellkeep.BookFind -/
def wp_shiftbellkeep_BookFind (size : Int) (l : Option Addr) (ll : Nat) (lc : Nat) (n : Int) (long : Int) (after : Int) (other : Int) (w : World) (Q : Value → World → Prop) : Prop :=
  ∀ w0, Ext w w0 →
  FnP Try.prog F_shiftbellkeep_books #[] w0 fun v1 w1 =>
   Ext w0 w1 ∧
   ∃ t2 : Bool, v1 = (.bool t2) ∧
   ((t2 = false) →
    ∀ w3, Ext w w3 →
    Q (.bool false) w3) ∧
   ((t2 = true) →
    ∀ w3, Ext w w3 →
    FnP Try.prog F_book_Find #[(.int .i64 size), (.slice l ll lc), (.int .i64 n), (.int .i64 long), (.int .i64 after)] w3 fun v4 w4 =>
     Ext w3 w4 ∧
     ∃ t5 : Int, ∃ t6 : Int, v4 = (.tuple #[(.int .i64 t5), (.int .i64 t6)]) ∧
     InR .i64 (t5 + long) ∧
     ∀ b7 : Nat, w.heap.size ≤ b7 → (((t6 = 0) →
      InR .i64 (t5 + long) ∧
      ∀ w8, Ext w w8 →
      FnP Try.prog F_book_Most #[(.int .i64 size), (.slice l ll lc), (.int .i64 t5), (.int .i64 (t5 + long))] w8 fun v9 w9 =>
       Ext w8 w9 ∧
       ∃ t10 : Int, ∃ t11 : Int, v9 = (.tuple #[(.int .i64 t10), (.int .i64 t11)]) ∧
       ∀ w12, ExtB [] [b7] w w12 →
       FnP Try.prog F_book_Put #[(.int .i64 size), (.slice l ll lc), (.agg #[(.int .i64 t5), (.int .i64 (t5 + long)), (.int .i64 n)])] w12 fun v13 w13 =>
        Ext w12 w13 ∧
        ∃ t14 : Option Addr, ∃ tl15 : Nat, ∃ tc16 : Nat, ∃ t17 : Int, v13 = (.tuple #[(.slice t14 tl15 tc16), (.int .i64 t17)]) ∧
        ((((after ≤ t5) ∧ (t11 = 0)) →
         InR .i64 (t10 + n))) ∧
        ((((((t5 < after) ∨ (t11 ≠ 0)) ∨ (size < (t10 + n))) ∨ ((t17 ≠ 0) ∧ (t17 ≠ 7))) →
         ∀ w18, Ext w13 w18 →
         Q (.bool false) w18)) ∧
        (((((after ≤ t5) ∧ (t11 = 0)) ∧ ((t10 + n) ≤ size)) ∧ ((t17 = 0) ∨ (t17 = 7))) →
         ((((t6 ≠ 0) ∧ (t6 ≠ 5)) →
          ∀ w18, Ext w13 w18 →
          Q (.bool (decide (t5 = 0))) w18)) ∧
         (((t6 = 0) ∨ (t6 = 5)) →
          ((((other < after) ∨ ((t6 = 0) ∧ (t5 ≤ other))) →
           ∀ w18, Ext w13 w18 →
           Q (.bool true) w18)) ∧
          (((after ≤ other) ∧ ((t6 ≠ 0) ∨ (other < t5))) →
           ∀ w18, Ext w13 w18 →
           FnP Try.prog F_book_Most #[(.int .i64 size), (.slice l ll lc), (.int .i64 other), (.int .i64 (IntKind.wrap .i64 (other + long)))] w18 fun v19 w19 =>
            Ext w18 w19 ∧
            ∃ t20 : Int, ∃ t21 : Int, v19 = (.tuple #[(.int .i64 t20), (.int .i64 t21)]) ∧
            ((t21 = 0) →
             InR .i64 (t20 + n)) ∧
            ∀ w22, Ext w13 w22 →
            Q (.bool ((decide (t21 ≠ 0)) || (decide (size < (t20 + n))))) w22))))) ∧
     ((t6 ≠ 0) →
      ((((t6 ≠ 0) ∧ (t6 ≠ 5)) →
       ∀ w8, Ext w w8 →
       Q (.bool (decide (t5 = 0))) w8)) ∧
      (((t6 = 0) ∨ (t6 = 5)) →
       ((((other < after) ∨ ((t6 = 0) ∧ (t5 ≤ other))) →
        ∀ w8, Ext w w8 →
        Q (.bool true) w8)) ∧
       (((after ≤ other) ∧ ((t6 ≠ 0) ∨ (other < t5))) →
        ∀ w8, Ext w w8 →
        FnP Try.prog F_book_Most #[(.int .i64 size), (.slice l ll lc), (.int .i64 other), (.int .i64 (IntKind.wrap .i64 (other + long)))] w8 fun v9 w9 =>
         Ext w8 w9 ∧
         ∃ t10 : Int, ∃ t11 : Int, v9 = (.tuple #[(.int .i64 t10), (.int .i64 t11)]) ∧
         ((t11 = 0) →
          InR .i64 (t10 + n)) ∧
         ∀ w12, Ext w w12 →
         Q (.bool ((decide (t11 ≠ 0)) || (decide (size < (t10 + n))))) w12))))

theorem ok_shiftbellkeep_BookFind (size : Int) (l : Option Addr) (ll : Nat) (lc : Nat) (n : Int) (long : Int) (after : Int) (other : Int) (w : World) (Q : Value → World → Prop) (h : wp_shiftbellkeep_BookFind size l ll lc n long after other w Q) : FnP Try.prog F_shiftbellkeep_BookFind #[(.int .i64 size), (.slice l ll lc), (.int .i64 n), (.int .i64 long), (.int .i64 after), (.int .i64 other)] w Q := by
  have e_ : wp_shiftbellkeep_BookFind size l ll lc n long after other w Q = Runs Try.prog Q ({ N := 119, wrap := [106], pub := [], muts := [], joins := [] } : Cfg) Try.f6 (Try.f6.body.getD .skip) [.sc (.int .i64 size), .sc (.slc l ll lc), .sc (.int .i64 n), .sc (.int .i64 long), .sc (.int .i64 after), .sc (.int .i64 other)] w := by kernel_rfl
  rw [e_] at h
  exact runs_fn h Try.func6 (by kernel_rfl) (fun args w => Try.call6 args w) (by kernel_rfl) (by kernel_rfl) rfl rfl

theorem open_shiftbellkeep_BookFind (W : World) (R : Array Value → Prop) (h : ∀ size : Int, InR .i64 size → ∀ l : Option Addr, ∀ ll : Nat, ∀ lc : Nat, SlcArg Try.prog W 28 l ll lc → ∀ n : Int, InR .i64 n → ∀ long : Int, InR .i64 long → ∀ after : Int, InR .i64 after → ∀ other : Int, InR .i64 other → R #[(.int .i64 size), (.slice l ll lc), (.int .i64 n), (.int .i64 long), (.int .i64 after), (.int .i64 other)]) (args : Array Value) (hg : GoodAll Try.prog W Try.f6.params.toList args.toList) : R args := by
  have e_ : (ArgsAll Try.prog W Try.f6.params.toList fun l => R l.toArray) = (∀ size : Int, InR .i64 size → ∀ l : Option Addr, ∀ ll : Nat, ∀ lc : Nat, SlcArg Try.prog W 28 l ll lc → ∀ n : Int, InR .i64 n → ∀ long : Int, InR .i64 long → ∀ after : Int, InR .i64 after → ∀ other : Int, InR .i64 other → R #[(.int .i64 size), (.slice l ll lc), (.int .i64 n), (.int .i64 long), (.int .i64 after), (.int .i64 other)]) := by kernel_rfl
  exact args_open (by rw [e_]; exact h) args hg
-- wit 6 #[(.int .i64 0), (.slice none 0 0), (.int .i64 0), (.int .i64 0), (.int .i64 0), (.int .i64 0)]

end Go.Proofs.Ytlgcnfmifkbefaa
