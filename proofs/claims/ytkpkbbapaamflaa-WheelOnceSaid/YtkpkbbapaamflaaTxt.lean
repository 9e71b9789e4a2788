/- The texts of this seat's functions: what each computes, as its symbolic run says it. -/
import Derived.Test.YtkpkbbapaamflaaRows
import Derived.Test.YtkpkbbapaamflaaSxD
import Derived.Test.YtkpkbbapaamflaaSxN
set_option linter.unusedVariables false
set_option linter.unusedSimpArgs false
set_option maxRecDepth 100000
namespace Go.Proofs.Ytkpkbbapaamflaa
open Go.Sx Go.RowKit

abbrev F_shiftbellkeep_WheelSorted : FuncId := 4
abbrev F_shiftbellkeep_wheels : FuncId := 6
abbrev F_wheel_New : FuncId := 7
abbrev F_wheel_Wheel_Add : FuncId := 9
abbrev F_wheel_Wheel_Cancel : FuncId := 10
abbrev F_wheel_Wheel_Advance : FuncId := 11
abbrev F_wheel_Wheel_Next : FuncId := 12
abbrev F_wheel_Wheel_Now : FuncId := 13
abbrev F_shiftbellkeep_good : FuncId := 15
abbrev F_slices_Equal_api_Fire_api_Fire : FuncId := 16
abbrev F_wheel_Wheel_put : FuncId := 17
abbrev F_wheel_Wheel_slot : FuncId := 18
abbrev F_slices_DeleteFunc_wheel_timer_wheel_timer : FuncId := 19
abbrev F_wheel_Wheel_Cancel_1 : FuncId := 20
abbrev F_wheel_Wheel_to : FuncId := 21
abbrev F_slices_SortFunc_wheel_timer_wheel_timer : FuncId := 22
abbrev F_wheel_Wheel_Advance_1 : FuncId := 23
abbrev F_cmp_Compare_int : FuncId := 24
abbrev F_slices_ContainsFunc_api_Errno_api_Errno : FuncId := 25
abbrev F_shiftbellkeep_good_1 : FuncId := 26
abbrev F_slices_IndexFunc_wheel_timer_wheel_timer : FuncId := 27
abbrev F_cmp_isNaN_int : FuncId := 30
abbrev F_slices_IndexFunc_api_Errno_api_Errno : FuncId := 31
abbrev T__0 : TypeId := 0
abbrev T_int64 : TypeId := 2
abbrev T_int : TypeId := 3
abbrev T_bool : TypeId := 4
abbrev T_uint8 : TypeId := 5
abbrev T_string : TypeId := 9
abbrev T_uintptr : TypeId := 12
abbrev T_int32 : TypeId := 21
abbrev T_sl_shiftbellkeep_Act : TypeId := 22
abbrev T_ptr_wheel_Wheel : TypeId := 24
abbrev T_map_int_int64 : TypeId := 26
abbrev T_sl_Fire : TypeId := 27
abbrev T_Fire : TypeId := 29
abbrev T_int64_bool : TypeId := 30
abbrev T_shiftbellkeep_Act : TypeId := 33
abbrev T_Errno : TypeId := 34
abbrev T_sl_Fire_Errno : TypeId := 37
abbrev T_sl_wheel_timer : TypeId := 45
abbrev T_wheel_Wheel : TypeId := 49
abbrev T_wheel_timer : TypeId := 52
abbrev T_ptr_sl_wheel_timer : TypeId := 53
abbrev T_sl_Errno : TypeId := 61
abbrev T_uint : TypeId := 67
abbrev T_slices_sortedHint : TypeId := 71
abbrev T_int_slices_sortedHint : TypeId := 72
abbrev T_int_bool : TypeId := 76
abbrev T_uint32 : TypeId := 79
abbrev T_uint64 : TypeId := 81
abbrev T_slices_xorshift : TypeId := 82
abbrev T_ptr_int : TypeId := 86
abbrev T_ptr_slices_xorshift : TypeId := 88
abbrev T_int_int : TypeId := 89
abbrev T_ptr_uint8 : TypeId := 101
abbrev T_unsafe_Pointer : TypeId := 106
theorem elem_sl_shiftbellkeep_Act : slEl Try.prog 22 = some (33, 4, 32, (.agg #[(.int .i64 0), (.int .i64 0), (.int .i64 0), (.int .i64 0)])) := by kernel_rfl
theorem elem_sl_Fire : slEl Try.prog 27 = some (29, 2, 16, (.agg #[(.int .i64 0), (.int .i64 0)])) := by kernel_rfl
theorem elem_sl_wheel_timer : slEl Try.prog 45 = some (52, 3, 24, (.agg #[(.int .i64 0), (.int .i64 0), (.int .i64 0)])) := by kernel_rfl
theorem elem_sl_Errno : slEl Try.prog 61 = some (34, 1, 8, (.int .i64 0)) := by kernel_rfl

/-- (*shiftbell/wheel.Wheel).slot -/
def wp_wheel_Wheel_slot (w_v : Option Addr) (at_v : Int) (w : World) (Q : Value → World → Prop) : Prop :=
  ∃ (I0 : Int → World → Prop) (M0 : Int → World → Nat), I0 0 w ∧
  ∀ (level1 : Int) (w2 : World), I0 level1 w2 →
   ((level1 < 4) →
    InR .i64 (level1 + 1)) ∧
   ((level1 < 4) →
    InR .i64 (6 * (level1 + 1))) ∧
   ((level1 < 4) →
    0 ≤ ((6 * (level1 + 1)) : Int)) ∧
   ((level1 < 4) →
    w_v ≠ none) ∧
   ((level1 < 4) →
    w_v ≠ none) ∧
   (((level1 < 4) →
    ∃ t3 : Int, cell w2 (pAdd w_v 0) 0 = some (.int .i64 t3) ∧
    InR .i64 (level1 + 1) ∧
    InR .i64 (6 * (level1 + 1)) ∧
    0 ≤ ((6 * (level1 + 1)) : Int) ∧
    ((((iBit .shr .i64 at_v (6 * (level1 + 1))) ≠ (iBit .shr .i64 t3 (6 * (level1 + 1)))) →
     InR .i64 (level1 + 1) ∧
     (I0 (level1 + 1) w2 ∧ M0 (level1 + 1) w2 < M0 level1 w2))) ∧
    (((iBit .shr .i64 at_v (6 * (level1 + 1))) = (iBit .shr .i64 t3 (6 * (level1 + 1)))) →
     InR .i64 (6 * level1) ∧
     0 ≤ ((6 * level1) : Int) ∧
     w_v ≠ none ∧
     w_v ≠ none ∧
     (pAdd w_v 3) ≠ none ∧
     (0 : Int) ≤ level1 ∧
     (level1 : Int) < 5 ∧
     (pIdx (pAdd w_v 3) level1 64) ≠ none ∧
     (0 : Int) ≤ (iBit .and .i64 (iBit .shr .i64 at_v (6 * level1)) 63) ∧
     ((iBit .and .i64 (iBit .shr .i64 at_v (6 * level1)) 63) : Int) < 64 ∧
     ∀ w4, Ext w2 w4 →
     Q (.pointer (pIdx (pIdx (pAdd w_v 3) level1 64) (iBit .and .i64 (iBit .shr .i64 at_v (6 * level1)) 63) 1)) w4))) ∧
   ((4 ≤ level1) →
    InR .i64 (6 * level1) ∧
    0 ≤ ((6 * level1) : Int) ∧
    w_v ≠ none ∧
    w_v ≠ none ∧
    (pAdd w_v 3) ≠ none ∧
    (0 : Int) ≤ level1 ∧
    (level1 : Int) < 5 ∧
    (pIdx (pAdd w_v 3) level1 64) ≠ none ∧
    (0 : Int) ≤ (iBit .and .i64 (iBit .shr .i64 at_v (6 * level1)) 63) ∧
    ((iBit .and .i64 (iBit .shr .i64 at_v (6 * level1)) 63) : Int) < 64 ∧
    ∀ w3, Ext w2 w3 →
    Q (.pointer (pIdx (pIdx (pAdd w_v 3) level1 64) (iBit .and .i64 (iBit .shr .i64 at_v (6 * level1)) 63) 1)) w3)

theorem ok_wheel_Wheel_slot (w_v : Option Addr) (at_v : Int) (w : World) (Q : Value → World → Prop) (h : wp_wheel_Wheel_slot w_v at_v w Q) : FnP Try.prog F_wheel_Wheel_slot #[(.pointer w_v), (.int .i64 at_v)] w Q := by
  have e_ : wp_wheel_Wheel_slot w_v at_v w Q = Runs Try.prog Q ({ N := 37, wrap := [], pub := [], muts := [], joins := [] } : Cfg) Try.f18 (Try.f18.body.getD .skip) [.sc (.ptr w_v), .sc (.int .i64 at_v)] w := by kernel_rfl
  rw [e_] at h
  exact runs_fn h Try.func18 (by kernel_rfl) (fun args w => Try.call18 args w) (by kernel_rfl) (by kernel_rfl) rfl rfl

/-- (*shiftbell/wheel.Wheel).put -/
def wp_wheel_Wheel_put (w_v : Option Addr) (t_0 : Int) (t_1 : Int) (t_2 : Int) (w : World) (Q : Value → World → Prop) : Prop :=
  ∀ b0 : Nat, w.heap.size ≤ b0 → ∀ w1, ExtB [] [b0] w w1 →
  FnP Try.prog F_wheel_Wheel_slot #[(.pointer w_v), (.int .i64 t_0)] w1 fun v2 w2 =>
   Ext w1 w2 ∧
   ∃ t3 : Option Addr, v2 = (.pointer t3) ∧
   t3 ≠ none ∧
   ∃ t4 : Option Addr, ∃ tl5 : Nat, ∃ tc6 : Nat, cell w2 t3 0 = some (.slice t4 tl5 tc6) ∧
   ∀ w7, ExtB [] [b0] w2 w7 →
   Run Try.prog (.buildSlice 45 1 [(0, (.agg #[(.int .i64 t_0), (.int .i64 t_1), (.int .i64 t_2)]))]) w7 fun v8 w8 =>
    Ext w7 w8 ∧
    ∃ t9 : Option Addr, ∃ tl10 : Nat, ∃ tc11 : Nat, v8 = (.slice t9 tl10 tc11) ∧
    ∀ w12, ExtB [] [b0] w8 w12 →
    Run Try.prog (.append #[45, 45] 45 [(.slice t4 tl5 tc6), (.slice t9 tl10 tc11)]) w12 fun v13 w13 =>
     Kept [b0] w12 w13 ∧
     ∃ t14 : Option Addr, ∃ tl15 : Nat, ∃ tc16 : Nat, v13 = (.slice t14 tl15 tc16) ∧
     t3 ≠ none ∧
     Store w13 t3 [(.slice t14 tl15 tc16)] [b0] fun w17 =>
      ∀ w18, Ext w17 w18 →
      Q (.tuple #[]) w18

theorem ok_wheel_Wheel_put (w_v : Option Addr) (t_0 : Int) (t_1 : Int) (t_2 : Int) (w : World) (Q : Value → World → Prop) (h : wp_wheel_Wheel_put w_v t_0 t_1 t_2 w Q) : FnP Try.prog F_wheel_Wheel_put #[(.pointer w_v), (.agg #[(.int .i64 t_0), (.int .i64 t_1), (.int .i64 t_2)])] w Q := by
  have e_ : wp_wheel_Wheel_put w_v t_0 t_1 t_2 w Q = Runs Try.prog Q ({ N := 18, wrap := [], pub := [], muts := [], joins := [] } : Cfg) Try.f17 (Try.f17.body.getD .skip) [.sc (.ptr w_v), .agg [.int .i64 t_0, .int .i64 t_1, .int .i64 t_2]] w := by kernel_rfl
  rw [e_] at h
  exact runs_fn h Try.func17 (by kernel_rfl) (fun args w => Try.call17 args w) (by kernel_rfl) (by kernel_rfl) rfl rfl

/-- (*shiftbell/wheel.Wheel).Next -/
def wp_wheel_Wheel_Next (w_v : Option Addr) (w : World) (Q : Value → World → Prop) : Prop :=
  w_v ≠ none ∧
  w_v ≠ none ∧
  ∃ t0 : Value, cell w (pAdd w_v 2) 0 = some t0 ∧
  ∀ w1, Ext w w1 →
  Run Try.prog (.range 26 t0) w1 fun v2 w2 =>
   ∃ t3 : Value, v2 = t3 ∧
   ∃ (I4 : Int → Bool → World → Prop) (M4 : Int → Bool → World → Nat), I4 0 false w2 ∧
   ∀ (least5 : Int) (is6 : Bool) (w7 : World), I4 least5 is6 w7 →
    ∀ w8, Ext w7 w8 →
    Run Try.prog (.next t3 false 0) w8 fun v9 w9 =>
     ∃ t10 : Value, v9 = t10 ∧
     ∀ w11, Ext w9 w11 →
     Run Try.prog (.extract t10 0) w11 fun v12 w12 =>
      Ext w11 w12 ∧
      ∃ t13 : Bool, v12 = (.bool t13) ∧
      (((t13 = true) →
       ∀ w14, Ext w9 w14 →
       Run Try.prog (.entry t3) w14 fun v15 w15 =>
        Ext w14 w15 ∧
        ∃ t16 : Value, v15 = t16 ∧
        ∀ w17, Ext w15 w17 →
        Run Try.prog (.extract t16 1) w17 fun v18 w18 =>
         Ext w17 w18 ∧
         ∃ t19 : Int, v18 = (.int .i64 t19) ∧
         ((((is6 = false) ∨ (t19 < least5)) →
          (I4 t19 true w15 ∧ M4 t19 true w15 < M4 least5 is6 w7))) ∧
         (((is6 = true) ∧ (least5 ≤ t19)) →
          (I4 least5 is6 w15 ∧ M4 least5 is6 w15 < M4 least5 is6 w7)))) ∧
      ((t13 = false) →
       ∀ w14, Ext w9 w14 →
       Q (.tuple #[(.int .i64 least5), (.bool is6)]) w14)

theorem ok_wheel_Wheel_Next (w_v : Option Addr) (w : World) (Q : Value → World → Prop) (h : wp_wheel_Wheel_Next w_v w Q) : FnP Try.prog F_wheel_Wheel_Next #[(.pointer w_v)] w Q := by
  have e_ : wp_wheel_Wheel_Next w_v w Q = Runs Try.prog Q ({ N := 27, wrap := [], pub := [], muts := [], joins := [] } : Cfg) Try.f12 (Try.f12.body.getD .skip) [.sc (.ptr w_v)] w := by kernel_rfl
  rw [e_] at h
  exact runs_fn h Try.func12 (by kernel_rfl) (fun args w => Try.call12 args w) (by kernel_rfl) (by kernel_rfl) rfl rfl

/-- (*shiftbell/wheel.Wheel).Now -/
def wp_wheel_Wheel_Now (w_v : Option Addr) (w : World) (Q : Value → World → Prop) : Prop :=
  w_v ≠ none ∧
  w_v ≠ none ∧
  ∃ t0 : Int, cell w (pAdd w_v 0) 0 = some (.int .i64 t0) ∧
  ∀ w1, Ext w w1 →
  Q (.int .i64 t0) w1

theorem ok_wheel_Wheel_Now (w_v : Option Addr) (w : World) (Q : Value → World → Prop) (h : wp_wheel_Wheel_Now w_v w Q) : FnP Try.prog F_wheel_Wheel_Now #[(.pointer w_v)] w Q := by
  have e_ : wp_wheel_Wheel_Now w_v w Q = Runs Try.prog Q ({ N := 7, wrap := [], pub := [], muts := [], joins := [] } : Cfg) Try.f13 (Try.f13.body.getD .skip) [.sc (.ptr w_v)] w := by kernel_rfl
  rw [e_] at h
  exact runs_fn h Try.func13 (by kernel_rfl) (fun args w => Try.call13 args w) (by kernel_rfl) (by kernel_rfl) rfl rfl

/-- shiftbell/wheel.New -/
def wp_wheel_New  (w : World) (Q : Value → World → Prop) : Prop :=
  ∀ w0, Ext w w0 →
  Run Try.prog (.makeMap 26) w0 fun v1 w1 =>
   Ext w0 w1 ∧
   ∃ t2 : Value, v1 = t2 ∧
   Value.oneCell' t2 = true ∧
   ∀ w3, Ext w1 w3 →
   New w3 49 [(.int .i64 0), (.int .i64 0), t2, (.slice none 0 0), (.slice none 0 0), (.slice none 0 0), (.slice none 0 0), (.slice none 0 0), (.slice none 0 0), (.slice none 0 0), (.slice none 0 0), (.slice none 0 0), (.slice none 0 0), (.slice none 0 0), (.slice none 0 0), (.slice none 0 0), (.slice none 0 0), (.slice none 0 0), (.slice none 0 0), (.slice none 0 0), (.slice none 0 0), (.slice none 0 0), (.slice none 0 0), (.slice none 0 0), (.slice none 0 0), (.slice none 0 0), (.slice none 0 0), (.slice none 0 0), (.slice none 0 0), (.slice none 0 0), (.slice none 0 0), (.slice none 0 0), (.slice none 0 0), (.slice none 0 0), (.slice none 0 0), (.slice none 0 0), (.slice none 0 0), (.slice none 0 0), (.slice none 0 0), (.slice none 0 0), (.slice none 0 0), (.slice none 0 0), (.slice none 0 0), (.slice none 0 0), (.slice none 0 0), (.slice none 0 0), (.slice none 0 0), (.slice none 0 0), (.slice none 0 0), (.slice none 0 0), (.slice none 0 0), (.slice none 0 0), (.slice none 0 0), (.slice none 0 0), (.slice none 0 0), (.slice none 0 0), (.slice none 0 0), (.slice none 0 0), (.slice none 0 0), (.slice none 0 0), (.slice none 0 0), (.slice none 0 0), (.slice none 0 0), (.slice none 0 0), (.slice none 0 0), (.slice none 0 0), (.slice none 0 0), (.slice none 0 0), (.slice none 0 0), (.slice none 0 0), (.slice none 0 0), (.slice none 0 0), (.slice none 0 0), (.slice none 0 0), (.slice none 0 0), (.slice none 0 0), (.slice none 0 0), (.slice none 0 0), (.slice none 0 0), (.slice none 0 0), (.slice none 0 0), (.slice none 0 0), (.slice none 0 0), (.slice none 0 0), (.slice none 0 0), (.slice none 0 0), (.slice none 0 0), (.slice none 0 0), (.slice none 0 0), (.slice none 0 0), (.slice none 0 0), (.slice none 0 0), (.slice none 0 0), (.slice none 0 0), (.slice none 0 0), (.slice none 0 0), (.slice none 0 0), (.slice none 0 0), (.slice none 0 0), (.slice none 0 0), (.slice none 0 0), (.slice none 0 0), (.slice none 0 0), (.slice none 0 0), (.slice none 0 0), (.slice none 0 0), (.slice none 0 0), (.slice none 0 0), (.slice none 0 0), (.slice none 0 0), (.slice none 0 0), (.slice none 0 0), (.slice none 0 0), (.slice none 0 0), (.slice none 0 0), (.slice none 0 0), (.slice none 0 0), (.slice none 0 0), (.slice none 0 0), (.slice none 0 0), (.slice none 0 0), (.slice none 0 0), (.slice none 0 0), (.slice none 0 0), (.slice none 0 0), (.slice none 0 0), (.slice none 0 0), (.slice none 0 0), (.slice none 0 0), (.slice none 0 0), (.slice none 0 0), (.slice none 0 0), (.slice none 0 0), (.slice none 0 0), (.slice none 0 0), (.slice none 0 0), (.slice none 0 0), (.slice none 0 0), (.slice none 0 0), (.slice none 0 0), (.slice none 0 0), (.slice none 0 0), (.slice none 0 0), (.slice none 0 0), (.slice none 0 0), (.slice none 0 0), (.slice none 0 0), (.slice none 0 0), (.slice none 0 0), (.slice none 0 0), (.slice none 0 0), (.slice none 0 0), (.slice none 0 0), (.slice none 0 0), (.slice none 0 0), (.slice none 0 0), (.slice none 0 0), (.slice none 0 0), (.slice none 0 0), (.slice none 0 0), (.slice none 0 0), (.slice none 0 0), (.slice none 0 0), (.slice none 0 0), (.slice none 0 0), (.slice none 0 0), (.slice none 0 0), (.slice none 0 0), (.slice none 0 0), (.slice none 0 0), (.slice none 0 0), (.slice none 0 0), (.slice none 0 0), (.slice none 0 0), (.slice none 0 0), (.slice none 0 0), (.slice none 0 0), (.slice none 0 0), (.slice none 0 0), (.slice none 0 0), (.slice none 0 0), (.slice none 0 0), (.slice none 0 0), (.slice none 0 0), (.slice none 0 0), (.slice none 0 0), (.slice none 0 0), (.slice none 0 0), (.slice none 0 0), (.slice none 0 0), (.slice none 0 0), (.slice none 0 0), (.slice none 0 0), (.slice none 0 0), (.slice none 0 0), (.slice none 0 0), (.slice none 0 0), (.slice none 0 0), (.slice none 0 0), (.slice none 0 0), (.slice none 0 0), (.slice none 0 0), (.slice none 0 0), (.slice none 0 0), (.slice none 0 0), (.slice none 0 0), (.slice none 0 0), (.slice none 0 0), (.slice none 0 0), (.slice none 0 0), (.slice none 0 0), (.slice none 0 0), (.slice none 0 0), (.slice none 0 0), (.slice none 0 0), (.slice none 0 0), (.slice none 0 0), (.slice none 0 0), (.slice none 0 0), (.slice none 0 0), (.slice none 0 0), (.slice none 0 0), (.slice none 0 0), (.slice none 0 0), (.slice none 0 0), (.slice none 0 0), (.slice none 0 0), (.slice none 0 0), (.slice none 0 0), (.slice none 0 0), (.slice none 0 0), (.slice none 0 0), (.slice none 0 0), (.slice none 0 0), (.slice none 0 0), (.slice none 0 0), (.slice none 0 0), (.slice none 0 0), (.slice none 0 0), (.slice none 0 0), (.slice none 0 0), (.slice none 0 0), (.slice none 0 0), (.slice none 0 0), (.slice none 0 0), (.slice none 0 0), (.slice none 0 0), (.slice none 0 0), (.slice none 0 0), (.slice none 0 0), (.slice none 0 0), (.slice none 0 0), (.slice none 0 0), (.slice none 0 0), (.slice none 0 0), (.slice none 0 0), (.slice none 0 0), (.slice none 0 0), (.slice none 0 0), (.slice none 0 0), (.slice none 0 0), (.slice none 0 0), (.slice none 0 0), (.slice none 0 0), (.slice none 0 0), (.slice none 0 0), (.slice none 0 0), (.slice none 0 0), (.slice none 0 0), (.slice none 0 0), (.slice none 0 0), (.slice none 0 0), (.slice none 0 0), (.slice none 0 0), (.slice none 0 0), (.slice none 0 0), (.slice none 0 0), (.slice none 0 0), (.slice none 0 0), (.slice none 0 0), (.slice none 0 0), (.slice none 0 0), (.slice none 0 0), (.slice none 0 0), (.slice none 0 0), (.slice none 0 0), (.slice none 0 0), (.slice none 0 0), (.slice none 0 0), (.slice none 0 0), (.slice none 0 0), (.slice none 0 0), (.slice none 0 0), (.slice none 0 0), (.slice none 0 0), (.slice none 0 0), (.slice none 0 0), (.slice none 0 0), (.slice none 0 0), (.slice none 0 0), (.slice none 0 0), (.slice none 0 0), (.slice none 0 0), (.slice none 0 0), (.slice none 0 0), (.slice none 0 0), (.slice none 0 0), (.slice none 0 0), (.slice none 0 0), (.slice none 0 0), (.slice none 0 0), (.slice none 0 0), (.slice none 0 0), (.slice none 0 0), (.slice none 0 0), (.slice none 0 0), (.slice none 0 0), (.slice none 0 0), (.slice none 0 0), (.slice none 0 0), (.slice none 0 0), (.slice none 0 0), (.slice none 0 0)] fun p4 w4 =>
    ∀ w5, Ext w4 w5 →
    Q (.pointer p4) w5

theorem ok_wheel_New  (w : World) (Q : Value → World → Prop) (h : wp_wheel_New  w Q) : FnP Try.prog F_wheel_New #[] w Q := by
  have e_ : wp_wheel_New  w Q = Runs Try.prog Q ({ N := 4, wrap := [], pub := [3], muts := [], joins := [] } : Cfg) Try.f7 (Try.f7.body.getD .skip) [] w := by kernel_rfl
  rw [e_] at h
  exact runs_fn h Try.func7 (by kernel_rfl) (fun args w => Try.call7 args w) (by kernel_rfl) (by kernel_rfl) rfl rfl

/-- (*shiftbell/wheel.Wheel).Add -/
def wp_wheel_Wheel_Add (w_v : Option Addr) (at_v : Int) (id : Int) (w : World) (Q : Value → World → Prop) : Prop :=
  w_v ≠ none ∧
  w_v ≠ none ∧
  ∃ t0 : Value, cell w (pAdd w_v 2) 0 = some t0 ∧
  ∀ w1, Ext w w1 →
  Run Try.prog (.lookup 26 t0 (.int .i64 id) true) w1 fun v2 w2 =>
   Ext w1 w2 ∧
   ∃ t3 : Int, ∃ t4 : Bool, v2 = (.tuple #[(.int .i64 t3), (.bool t4)]) ∧
   w_v ≠ none ∧
   w_v ≠ none ∧
   ∃ t5 : Int, cell w (pAdd w_v 0) 0 = some (.int .i64 t5) ∧
   ((at_v ≤ t5) →
    ∀ w6, Ext w w6 →
    Q (.int .i64 11) w6) ∧
   ((t5 < at_v) →
    w_v ≠ none ∧
    w_v ≠ none ∧
    ∃ t6 : Int, cell w (pAdd w_v 0) 0 = some (.int .i64 t6) ∧
    InR .i64 (at_v - t6) ∧
    ((16777216 < (at_v - t6)) →
     ∀ w7, Ext w w7 →
     Q (.int .i64 4) w7) ∧
    (((at_v - t6) ≤ 16777216) →
     ((t4 = true) →
      ∀ w7, Ext w w7 →
      Q (.int .i64 6) w7) ∧
     ((t4 = false) →
      w_v ≠ none ∧
      w_v ≠ none ∧
      ∃ t7 : Value, cell w (pAdd w_v 2) 0 = some t7 ∧
      ∀ w8, Ext w w8 →
      Run Try.prog (.len #[26] 3 [t7]) w8 fun v9 w9 =>
       Ext w8 w9 ∧
       ∃ t10 : Int, v9 = (.int .i64 t10) ∧
       ((t10 = 200) →
        ∀ w11, Ext w w11 →
        Q (.int .i64 7) w11) ∧
       ((t10 ≠ 200) →
        w_v ≠ none ∧
        w_v ≠ none ∧
        ∃ t11 : Int, cell w (pAdd w_v 1) 0 = some (.int .i64 t11) ∧
        InR .i64 (t11 + 1) ∧
        w_v ≠ none ∧
        w_v ≠ none ∧
        Store w (pAdd w_v 1) [(.int .i64 (t11 + 1))] [] fun w12 =>
         w_v ≠ none ∧
         w_v ≠ none ∧
         ∃ t13 : Value, cell w12 (pAdd w_v 2) 0 = some t13 ∧
         ∀ w14, Ext w12 w14 →
         Run Try.prog (.mapUpdate 26 t13 (.int .i64 id) (.int .i64 at_v)) w14 fun v15 w15 =>
          w_v ≠ none ∧
          w_v ≠ none ∧
          ∃ t16 : Int, cell w15 (pAdd w_v 1) 0 = some (.int .i64 t16) ∧
          ∀ w17, Ext w15 w17 →
          FnP Try.prog F_wheel_Wheel_put #[(.pointer w_v), (.agg #[(.int .i64 at_v), (.int .i64 id), (.int .i64 t16)])] w17 fun v18 w18 =>
           v18 = (.tuple #[]) ∧
           ∀ w19, Ext w18 w19 →
           Q (.int .i64 0) w19))))

theorem ok_wheel_Wheel_Add (w_v : Option Addr) (at_v : Int) (id : Int) (w : World) (Q : Value → World → Prop) (h : wp_wheel_Wheel_Add w_v at_v id w Q) : FnP Try.prog F_wheel_Wheel_Add #[(.pointer w_v), (.int .i64 at_v), (.int .i64 id)] w Q := by
  have e_ : wp_wheel_Wheel_Add w_v at_v id w Q = Runs Try.prog Q ({ N := 65, wrap := [], pub := [], muts := [17], joins := [] } : Cfg) Try.f9 (Try.f9.body.getD .skip) [.sc (.ptr w_v), .sc (.int .i64 at_v), .sc (.int .i64 id)] w := by kernel_rfl
  rw [e_] at h
  exact runs_fn h Try.func9 (by kernel_rfl) (fun args w => Try.call9 args w) (by kernel_rfl) (by kernel_rfl) rfl rfl

/-- (*shiftbell/wheel.Wheel).Cancel$1 -/
def wp_wheel_Wheel_Cancel_1 (t_0 : Int) (t_1 : Int) (t_2 : Int) (c0 : Option Addr) (w : World) (Q : Value → World → Prop) : Prop :=
  ∀ b0 : Nat, w.heap.size ≤ b0 → ∃ t1 : Int, cell w c0 0 = some (.int .i64 t1) ∧
  ∀ w2, Ext w w2 →
  Q (.bool (decide (t_1 = t1))) w2

theorem ok_wheel_Wheel_Cancel_1 (t_0 : Int) (t_1 : Int) (t_2 : Int) (c0 : Option Addr) (w : World) (Q : Value → World → Prop) (h : wp_wheel_Wheel_Cancel_1 t_0 t_1 t_2 c0 w Q) : FnP Try.prog F_wheel_Wheel_Cancel_1 #[(.agg #[(.int .i64 t_0), (.int .i64 t_1), (.int .i64 t_2)]), (.pointer c0)] w Q := by
  have e_ : wp_wheel_Wheel_Cancel_1 t_0 t_1 t_2 c0 w Q = Runs Try.prog Q ({ N := 9, wrap := [], pub := [], muts := [], joins := [] } : Cfg) Try.f20 (Try.f20.body.getD .skip) [.agg [.int .i64 t_0, .int .i64 t_1, .int .i64 t_2], .sc (.ptr c0)] w := by kernel_rfl
  rw [e_] at h
  exact runs_fn h Try.func20 (by kernel_rfl) (fun args w => Try.call20 args w) (by kernel_rfl) (by kernel_rfl) rfl rfl

/-- slices.IndexFunc[[]shiftbell/wheel.timer,shiftbell/wheel.timer] -/
def wp_slices_IndexFunc_wheel_timer_wheel_timer (s : Option Addr) (sl : Nat) (sc : Nat) (f : Value) (w : World) (Q : Value → World → Prop) : Prop :=
  ∃ (I0 : Int → World → Prop) (M0 : Int → World → Nat), I0 0 w ∧
  ∀ (k1 : Int) (w2 : World), I0 k1 w2 →
   (((k1 < (sl : Int)) →
    s ≠ none ∧
    (0 : Int) ≤ k1 ∧
    (k1 : Int) < (sl : Int) ∧
    (pIdx s k1 3) ≠ none ∧
    ∃ t3 : Int, cell w2 (pIdx s k1 3) 0 = some (.int .i64 t3) ∧
    ∃ t4 : Int, cell w2 (pIdx s k1 3) 1 = some (.int .i64 t4) ∧
    ∃ t5 : Int, cell w2 (pIdx s k1 3) 2 = some (.int .i64 t5) ∧
    ∀ w6, Ext w2 w6 →
    FnVP Try.prog f [(.agg #[(.int .i64 t3), (.int .i64 t4), (.int .i64 t5)])] w6 fun v7 w7 =>
     Ext w6 w7 ∧
     ∃ t8 : Bool, v7 = (.bool t8) ∧
     ((t8 = true) →
      ∀ w9, Ext w2 w9 →
      Q (.int .i64 k1) w9) ∧
     ((t8 = false) →
      InR .i64 (k1 + 1) ∧
      (I0 (k1 + 1) w2 ∧ M0 (k1 + 1) w2 < M0 k1 w2)))) ∧
   (((sl : Int) ≤ k1) →
    ∀ w3, Ext w2 w3 →
    Q (.int .i64 (-1)) w3)

theorem ok_slices_IndexFunc_wheel_timer_wheel_timer (s : Option Addr) (sl : Nat) (sc : Nat) (f : Value) (w : World) (Q : Value → World → Prop) (h : wp_slices_IndexFunc_wheel_timer_wheel_timer s sl sc f w Q) : FnP Try.prog F_slices_IndexFunc_wheel_timer_wheel_timer #[(.slice s sl sc), f] w Q := by
  have e_ : wp_slices_IndexFunc_wheel_timer_wheel_timer s sl sc f w Q = Runs Try.prog Q ({ N := 19, wrap := [], pub := [], muts := [], joins := [] } : Cfg) Try.f27 (Try.f27.body.getD .skip) [.sc (.slc s sl sc), .sc (.val f)] w := by kernel_rfl
  rw [e_] at h
  exact runs_fn h Try.func27 (by kernel_rfl) (fun args w => Try.call27 args w) (by kernel_rfl) (by kernel_rfl) rfl rfl

/-- slices.DeleteFunc[[]shiftbell/wheel.timer,shiftbell/wheel.timer] -/
def wp_slices_DeleteFunc_wheel_timer_wheel_timer (s : Option Addr) (sl : Nat) (sc : Nat) (del : Value) (w : World) (Q : Value → World → Prop) : Prop :=
  ∀ w0, Ext w w0 →
  FnP Try.prog F_slices_IndexFunc_wheel_timer_wheel_timer #[(.slice s sl sc), del] w0 fun v1 w1 =>
   Ext w0 w1 ∧
   ∃ t2 : Int, v1 = (.int .i64 t2) ∧
   ((t2 = (-1)) →
    ∀ w3, Ext w w3 →
    Q (.slice s sl sc) w3) ∧
   ((t2 ≠ (-1)) →
    InR .i64 (t2 + 1) ∧
    ∃ (I3 : Int → Int → World → Prop) (M3 : Int → Int → World → Nat), I3 t2 (t2 + 1) w ∧
    ∀ (i4 : Int) (j5 : Int) (w6 : World), I3 i4 j5 w6 →
     (((j5 < (sl : Int)) →
      s ≠ none ∧
      (0 : Int) ≤ j5 ∧
      (j5 : Int) < (sl : Int) ∧
      (pIdx s j5 3) ≠ none ∧
      ∃ t7 : Int, cell w6 (pIdx s j5 3) 0 = some (.int .i64 t7) ∧
      ∃ t8 : Int, cell w6 (pIdx s j5 3) 1 = some (.int .i64 t8) ∧
      ∃ t9 : Int, cell w6 (pIdx s j5 3) 2 = some (.int .i64 t9) ∧
      ∀ b10 : Nat, w6.heap.size ≤ b10 → ∀ w11, Ext w6 w11 →
      FnVP Try.prog del [(.agg #[(.int .i64 t7), (.int .i64 t8), (.int .i64 t9)])] w11 fun v12 w12 =>
       Ext w11 w12 ∧
       ∃ t13 : Bool, v12 = (.bool t13) ∧
       (((t13 = false) →
        s ≠ none ∧
        (0 : Int) ≤ i4 ∧
        (i4 : Int) < (sl : Int) ∧
        Store w6 (pIdx s i4 3) [(.int .i64 t7), (.int .i64 t8), (.int .i64 t9)] [b10] fun w14 =>
         InR .i64 (i4 + 1) ∧
         InR .i64 (j5 + 1) ∧
         (I3 (i4 + 1) (j5 + 1) w14 ∧ M3 (i4 + 1) (j5 + 1) w14 < M3 i4 j5 w6))) ∧
       ((t13 = true) →
        InR .i64 (j5 + 1) ∧
        (I3 i4 (j5 + 1) w6 ∧ M3 i4 (j5 + 1) w6 < M3 i4 j5 w6)))) ∧
     (((sl : Int) ≤ j5) →
      (0 : Int) ≤ i4 ∧
      (i4 : Int) ≤ (sl : Int) ∧
      ((sl : Int) : Int) ≤ (sc : Int) ∧
      ∀ w7, Ext w6 w7 →
      Run Try.prog (.clear #[45] 0 [(.slice (pCut s sc i4 3) ((sl : Int) - i4).toNat (sc - i4.toNat))]) w7 fun v8 w8 =>
       v8 = (.tuple #[]) ∧
       (0 : Int) ≤ 0 ∧
       (0 : Int) ≤ i4 ∧
       (i4 : Int) ≤ (sc : Int) ∧
       ∀ w9, Ext w8 w9 →
       Q (.slice (pCut s sc 0 3) (i4 - 0).toNat (sc - (0 : Int).toNat)) w9))

theorem ok_slices_DeleteFunc_wheel_timer_wheel_timer (s : Option Addr) (sl : Nat) (sc : Nat) (del : Value) (w : World) (Q : Value → World → Prop) (h : wp_slices_DeleteFunc_wheel_timer_wheel_timer s sl sc del w Q) : FnP Try.prog F_slices_DeleteFunc_wheel_timer_wheel_timer #[(.slice s sl sc), del] w Q := by
  have e_ : wp_slices_DeleteFunc_wheel_timer_wheel_timer s sl sc del w Q = Runs Try.prog Q ({ N := 42, wrap := [], pub := [], muts := [], joins := [] } : Cfg) Try.f19 (Try.f19.body.getD .skip) [.sc (.slc s sl sc), .sc (.val del)] w := by kernel_rfl
  rw [e_] at h
  exact runs_fn h Try.func19 (by kernel_rfl) (fun args w => Try.call19 args w) (by kernel_rfl) (by kernel_rfl) rfl rfl

/-- (*shiftbell/wheel.Wheel).Cancel -/
def wp_wheel_Wheel_Cancel (w_v : Option Addr) (id : Int) (w : World) (Q : Value → World → Prop) : Prop :=
  ∀ w0, Ext w w0 →
  New w0 3 [(.int .i64 id)] fun p1 w1 =>
   w_v ≠ none ∧
   w_v ≠ none ∧
   ∃ t2 : Value, cell w1 (pAdd w_v 2) 0 = some t2 ∧
   ∃ t3 : Int, cell w1 p1 0 = some (.int .i64 t3) ∧
   ∀ w4, Ext w1 w4 →
   Run Try.prog (.lookup 26 t2 (.int .i64 t3) true) w4 fun v5 w5 =>
    Ext w4 w5 ∧
    ∃ t6 : Int, ∃ t7 : Bool, v5 = (.tuple #[(.int .i64 t6), (.bool t7)]) ∧
    ((t7 = false) →
     ∀ w8, Ext w1 w8 →
     Q (.int .i64 5) w8) ∧
    ((t7 = true) →
     w_v ≠ none ∧
     w_v ≠ none ∧
     ∃ t8 : Value, cell w1 (pAdd w_v 2) 0 = some t8 ∧
     ∃ t9 : Int, cell w1 p1 0 = some (.int .i64 t9) ∧
     ∀ w10, Ext w1 w10 →
     Run Try.prog (.delete #[26, 3] 0 [t8, (.int .i64 t9)]) w10 fun v11 w11 =>
      v11 = (.tuple #[]) ∧
      ∀ w12, Ext w11 w12 →
      FnP Try.prog F_wheel_Wheel_slot #[(.pointer w_v), (.int .i64 t6)] w12 fun v13 w13 =>
       Ext w12 w13 ∧
       ∃ t14 : Option Addr, v13 = (.pointer t14) ∧
       t14 ≠ none ∧
       ∃ t15 : Option Addr, ∃ tl16 : Nat, ∃ tc17 : Nat, cell w13 t14 0 = some (.slice t15 tl16 tc17) ∧
       ∀ w18, Ext w13 w18 →
       FnP Try.prog F_slices_DeleteFunc_wheel_timer_wheel_timer #[(.slice t15 tl16 tc17), (.func (.func 20) #[] #[(.pointer p1)])] w18 fun v19 w19 =>
        ∃ t20 : Option Addr, ∃ tl21 : Nat, ∃ tc22 : Nat, v19 = (.slice t20 tl21 tc22) ∧
        t14 ≠ none ∧
        Store w19 t14 [(.slice t20 tl21 tc22)] [] fun w23 =>
         ∀ w24, Ext w23 w24 →
         Q (.int .i64 0) w24)

theorem ok_wheel_Wheel_Cancel (w_v : Option Addr) (id : Int) (w : World) (Q : Value → World → Prop) (h : wp_wheel_Wheel_Cancel w_v id w Q) : FnP Try.prog F_wheel_Wheel_Cancel #[(.pointer w_v), (.int .i64 id)] w Q := by
  have e_ : wp_wheel_Wheel_Cancel w_v id w Q = Runs Try.prog Q ({ N := 34, wrap := [], pub := [3], muts := [19], joins := [] } : Cfg) Try.f10 (Try.f10.body.getD .skip) [.sc (.ptr w_v), .sc (.int .i64 id)] w := by kernel_rfl
  rw [e_] at h
  exact runs_fn h Try.func10 (by kernel_rfl) (fun args w => Try.call10 args w) (by kernel_rfl) (by kernel_rfl) rfl rfl

/-- (*shiftbell/wheel.Wheel).to -/
def wp_wheel_Wheel_to (w_v : Option Addr) (at_v : Int) (w : World) (Q : Value → World → Prop) : Prop :=
  w_v ≠ none ∧
  w_v ≠ none ∧
  ∃ t0 : Int, cell w (pAdd w_v 0) 0 = some (.int .i64 t0) ∧
  w_v ≠ none ∧
  w_v ≠ none ∧
  Store w (pAdd w_v 0) [(.int .i64 at_v)] [] fun w1 =>
   ∃ (I2 : Int → World → Prop) (M2 : Int → World → Nat), I2 4 w1 ∧
   ∀ (level3 : Int) (w4 : World), I2 level3 w4 →
    (((0 < level3) →
     InR .i64 (6 * level3) ∧
     0 ≤ ((6 * level3) : Int) ∧
     InR .i64 (6 * level3) ∧
     0 ≤ ((6 * level3) : Int) ∧
     ((((iBit .shr .i64 t0 (6 * level3)) = (iBit .shr .i64 at_v (6 * level3))) →
      InR .i64 (level3 - 1) ∧
      (I2 (level3 - 1) w4 ∧ M2 (level3 - 1) w4 < M2 level3 w4))) ∧
     (((iBit .shr .i64 t0 (6 * level3)) ≠ (iBit .shr .i64 at_v (6 * level3))) →
      InR .i64 (6 * level3) ∧
      0 ≤ ((6 * level3) : Int) ∧
      w_v ≠ none ∧
      w_v ≠ none ∧
      (pAdd w_v 3) ≠ none ∧
      (0 : Int) ≤ level3 ∧
      (level3 : Int) < 5 ∧
      (pIdx (pAdd w_v 3) level3 64) ≠ none ∧
      (0 : Int) ≤ (iBit .and .i64 (iBit .shr .i64 at_v (6 * level3)) 63) ∧
      ((iBit .and .i64 (iBit .shr .i64 at_v (6 * level3)) 63) : Int) < 64 ∧
      (pIdx (pIdx (pAdd w_v 3) level3 64) (iBit .and .i64 (iBit .shr .i64 at_v (6 * level3)) 63) 1) ≠ none ∧
      ∃ t5 : Option Addr, ∃ tl6 : Nat, ∃ tc7 : Nat, cell w4 (pIdx (pIdx (pAdd w_v 3) level3 64) (iBit .and .i64 (iBit .shr .i64 at_v (6 * level3)) 63) 1) 0 = some (.slice t5 tl6 tc7) ∧
      (pIdx (pIdx (pAdd w_v 3) level3 64) (iBit .and .i64 (iBit .shr .i64 at_v (6 * level3)) 63) 1) ≠ none ∧
      Store w4 (pIdx (pIdx (pAdd w_v 3) level3 64) (iBit .and .i64 (iBit .shr .i64 at_v (6 * level3)) 63) 1) [(.slice none 0 0)] [] fun w8 =>
       ∃ (I9 : Int → World → Prop) (M9 : Int → World → Nat), I9 0 w8 ∧
       ∀ (k10 : Int) (w11 : World), I9 k10 w11 →
        (((k10 < (tl6 : Int)) →
         t5 ≠ none ∧
         (0 : Int) ≤ k10 ∧
         (k10 : Int) < (tl6 : Int) ∧
         (pIdx t5 k10 3) ≠ none ∧
         ∃ t12 : Int, cell w11 (pIdx t5 k10 3) 0 = some (.int .i64 t12) ∧
         ∃ t13 : Int, cell w11 (pIdx t5 k10 3) 1 = some (.int .i64 t13) ∧
         ∃ t14 : Int, cell w11 (pIdx t5 k10 3) 2 = some (.int .i64 t14) ∧
         ∀ b15 : Nat, w11.heap.size ≤ b15 → ∀ w16, ExtB [] [b15] w11 w16 →
         FnP Try.prog F_wheel_Wheel_put #[(.pointer w_v), (.agg #[(.int .i64 t12), (.int .i64 t13), (.int .i64 t14)])] w16 fun v17 w17 =>
          Kept [b15] w16 w17 ∧
          v17 = (.tuple #[]) ∧
          InR .i64 (k10 + 1) ∧
          (I9 (k10 + 1) w17 ∧ M9 (k10 + 1) w17 < M9 k10 w11))) ∧
        (((tl6 : Int) ≤ k10) →
         InR .i64 (level3 - 1) ∧
         (I2 (level3 - 1) w11 ∧ M2 (level3 - 1) w11 < M2 level3 w4))))) ∧
    ((level3 ≤ 0) →
     ∀ w5, Ext w4 w5 →
     Q (.tuple #[]) w5)

theorem ok_wheel_Wheel_to (w_v : Option Addr) (at_v : Int) (w : World) (Q : Value → World → Prop) (h : wp_wheel_Wheel_to w_v at_v w Q) : FnP Try.prog F_wheel_Wheel_to #[(.pointer w_v), (.int .i64 at_v)] w Q := by
  have e_ : wp_wheel_Wheel_to w_v at_v w Q = Runs Try.prog Q ({ N := 57, wrap := [], pub := [], muts := [17], joins := [] } : Cfg) Try.f21 (Try.f21.body.getD .skip) [.sc (.ptr w_v), .sc (.int .i64 at_v)] w := by kernel_rfl
  rw [e_] at h
  exact runs_fn h Try.func21 (by kernel_rfl) (fun args w => Try.call21 args w) (by kernel_rfl) (by kernel_rfl) rfl rfl

/-- (*shiftbell/wheel.Wheel).Advance$1 -/
def wp_wheel_Wheel_Advance_1 (a_0 : Int) (a_1 : Int) (a_2 : Int) (b_0 : Int) (b_1 : Int) (b_2 : Int) (w : World) (Q : Value → World → Prop) : Prop :=
  ∀ b0 : Nat, w.heap.size ≤ b0 → ∀ b1 : Nat, w.heap.size ≤ b1 → ∀ w2, Ext w w2 →
  FnP Try.prog F_cmp_Compare_int #[(.int .i64 a_2), (.int .i64 b_2)] w2 fun v3 w3 =>
   Ext w2 w3 ∧
   ∃ t4 : Int, v3 = (.int .i64 t4) ∧
   ∀ w5, Ext w w5 →
   Q (.int .i64 t4) w5

theorem ok_wheel_Wheel_Advance_1 (a_0 : Int) (a_1 : Int) (a_2 : Int) (b_0 : Int) (b_1 : Int) (b_2 : Int) (w : World) (Q : Value → World → Prop) (h : wp_wheel_Wheel_Advance_1 a_0 a_1 a_2 b_0 b_1 b_2 w Q) : FnP Try.prog F_wheel_Wheel_Advance_1 #[(.agg #[(.int .i64 a_0), (.int .i64 a_1), (.int .i64 a_2)]), (.agg #[(.int .i64 b_0), (.int .i64 b_1), (.int .i64 b_2)])] w Q := by
  have e_ : wp_wheel_Wheel_Advance_1 a_0 a_1 a_2 b_0 b_1 b_2 w Q = Runs Try.prog Q ({ N := 10, wrap := [], pub := [], muts := [], joins := [] } : Cfg) Try.f23 (Try.f23.body.getD .skip) [.agg [.int .i64 a_0, .int .i64 a_1, .int .i64 a_2], .agg [.int .i64 b_0, .int .i64 b_1, .int .i64 b_2]] w := by kernel_rfl
  rw [e_] at h
  exact runs_fn h Try.func23 (by kernel_rfl) (fun args w => Try.call23 args w) (by kernel_rfl) (by kernel_rfl) rfl rfl

/-- cmp.Compare[int] -/
def wp_cmp_Compare_int (x : Int) (y : Int) (w : World) (Q : Value → World → Prop) : Prop :=
  ∀ w0, Ext w w0 →
  FnP Try.prog F_cmp_isNaN_int #[(.int .i64 x)] w0 fun v1 w1 =>
   Ext w0 w1 ∧
   ∃ t2 : Bool, v1 = (.bool t2) ∧
   ∀ w3, Ext w w3 →
   FnP Try.prog F_cmp_isNaN_int #[(.int .i64 y)] w3 fun v4 w4 =>
    Ext w3 w4 ∧
    ∃ t5 : Bool, v4 = (.bool t5) ∧
    (((t2 = true) →
     ((t5 = true) →
      ∀ w6, Ext w w6 →
      Q (.int .i64 0) w6) ∧
     ((t5 = false) →
      ∀ w6, Ext w w6 →
      Q (.int .i64 (-1)) w6))) ∧
    ((t2 = false) →
     ((t5 = true) →
      ∀ w6, Ext w w6 →
      Q (.int .i64 1) w6) ∧
     ((t5 = false) →
      ((x < y) →
       ∀ w6, Ext w w6 →
       Q (.int .i64 (-1)) w6) ∧
      ((y ≤ x) →
       ((y < x) →
        ∀ w6, Ext w w6 →
        Q (.int .i64 1) w6) ∧
       ((x ≤ y) →
        ∀ w6, Ext w w6 →
        Q (.int .i64 0) w6))))

theorem ok_cmp_Compare_int (x : Int) (y : Int) (w : World) (Q : Value → World → Prop) (h : wp_cmp_Compare_int x y w Q) : FnP Try.prog F_cmp_Compare_int #[(.int .i64 x), (.int .i64 y)] w Q := by
  have e_ : wp_cmp_Compare_int x y w Q = Runs Try.prog Q ({ N := 20, wrap := [], pub := [], muts := [], joins := [] } : Cfg) Try.f24 (Try.f24.body.getD .skip) [.sc (.int .i64 x), .sc (.int .i64 y)] w := by kernel_rfl
  rw [e_] at h
  exact runs_fn h Try.func24 (by kernel_rfl) (fun args w => Try.call24 args w) (by kernel_rfl) (by kernel_rfl) rfl rfl

/-- (*shiftbell/wheel.Wheel).Advance -/
def wp_wheel_Wheel_Advance (w_v : Option Addr) (n : Int) (w : World) (Q : Value → World → Prop) : Prop :=
  (((n < 0) ∨ (16777216 < n)) →
   ∀ w0, Ext w w0 →
   Q (.tuple #[(.slice none 0 0), (.int .i64 1)]) w0) ∧
  (((0 ≤ n) ∧ (n ≤ 16777216)) →
   w_v ≠ none ∧
   w_v ≠ none ∧
   ∃ t0 : Int, cell w (pAdd w_v 0) 0 = some (.int .i64 t0) ∧
   InR .i64 (t0 + n) ∧
   ∃ (I1 : Option Addr → Nat → Nat → World → Prop) (M1 : Option Addr → Nat → Nat → World → Nat), I1 none 0 0 w ∧
   ∀ (out2 : Option Addr) (outl2 : Nat) (outc2 : Nat) (w3 : World), I1 out2 outl2 outc2 w3 →
    ∀ w4, Ext w3 w4 →
    FnP Try.prog F_wheel_Wheel_Next #[(.pointer w_v)] w4 fun v5 w5 =>
     Ext w4 w5 ∧
     ∃ t6 : Int, ∃ t7 : Bool, v5 = (.tuple #[(.int .i64 t6), (.bool t7)]) ∧
     ((((t7 = false) ∨ ((t0 + n) < t6)) →
      ∀ w8, Ext w3 w8 →
      FnP Try.prog F_wheel_Wheel_to #[(.pointer w_v), (.int .i64 (t0 + n))] w8 fun v9 w9 =>
       v9 = (.tuple #[]) ∧
       ∀ w10, Ext w9 w10 →
       Q (.tuple #[(.slice out2 outl2 outc2), (.int .i64 0)]) w10)) ∧
     (((t7 = true) ∧ (t6 ≤ (t0 + n))) →
      ∀ w8, Ext w3 w8 →
      FnP Try.prog F_wheel_Wheel_to #[(.pointer w_v), (.int .i64 t6)] w8 fun v9 w9 =>
       v9 = (.tuple #[]) ∧
       ∀ w10, Ext w9 w10 →
       FnP Try.prog F_wheel_Wheel_slot #[(.pointer w_v), (.int .i64 t6)] w10 fun v11 w11 =>
        Ext w10 w11 ∧
        ∃ t12 : Option Addr, v11 = (.pointer t12) ∧
        t12 ≠ none ∧
        ∃ t13 : Option Addr, ∃ tl14 : Nat, ∃ tc15 : Nat, cell w11 t12 0 = some (.slice t13 tl14 tc15) ∧
        ∀ w16, Ext w11 w16 →
        FnP Try.prog F_slices_SortFunc_wheel_timer_wheel_timer #[(.slice t13 tl14 tc15), (.func (.func 23) #[] #[])] w16 fun v17 w17 =>
         v17 = (.tuple #[]) ∧
         t12 ≠ none ∧
         ∃ t18 : Option Addr, ∃ tl19 : Nat, ∃ tc20 : Nat, cell w17 t12 0 = some (.slice t18 tl19 tc20) ∧
         ∃ (I21 : Option Addr → Nat → Nat → Int → World → Prop) (M21 : Option Addr → Nat → Nat → Int → World → Nat), I21 out2 outl2 outc2 0 w17 ∧
         ∀ (out22 : Option Addr) (outl22 : Nat) (outc22 : Nat) (k23 : Int) (w24 : World), I21 out22 outl22 outc22 k23 w24 →
          (((k23 < (tl19 : Int)) →
           t18 ≠ none ∧
           (0 : Int) ≤ k23 ∧
           (k23 : Int) < (tl19 : Int) ∧
           (pIdx t18 k23 3) ≠ none ∧
           ∃ t25 : Int, cell w24 (pIdx t18 k23 3) 0 = some (.int .i64 t25) ∧
           ∃ t26 : Int, cell w24 (pIdx t18 k23 3) 1 = some (.int .i64 t26) ∧
           ∃ t27 : Int, cell w24 (pIdx t18 k23 3) 2 = some (.int .i64 t27) ∧
           ∀ b28 : Nat, w24.heap.size ≤ b28 → ∀ w29, ExtB [] [b28] w24 w29 →
           Run Try.prog (.buildSlice 27 1 [(0, (.agg #[(.int .i64 t25), (.int .i64 t26)]))]) w29 fun v30 w30 =>
            Ext w29 w30 ∧
            ∃ t31 : Option Addr, ∃ tl32 : Nat, ∃ tc33 : Nat, v30 = (.slice t31 tl32 tc33) ∧
            ∀ w34, ExtB [] [b28] w30 w34 →
            Run Try.prog (.append #[27, 27] 27 [(.slice out22 outl22 outc22), (.slice t31 tl32 tc33)]) w34 fun v35 w35 =>
             Kept [b28] w34 w35 ∧
             ∃ t36 : Option Addr, ∃ tl37 : Nat, ∃ tc38 : Nat, v35 = (.slice t36 tl37 tc38) ∧
             w_v ≠ none ∧
             w_v ≠ none ∧
             ∃ t39 : Value, cell w35 (pAdd w_v 2) 0 = some t39 ∧
             ∀ w40, ExtB [] [b28] w35 w40 →
             Run Try.prog (.delete #[26, 3] 0 [t39, (.int .i64 t26)]) w40 fun v41 w41 =>
              Kept [b28] w40 w41 ∧
              v41 = (.tuple #[]) ∧
              InR .i64 (k23 + 1) ∧
              (I21 t36 tl37 tc38 (k23 + 1) w41 ∧ M21 t36 tl37 tc38 (k23 + 1) w41 < M21 out22 outl22 outc22 k23 w24))) ∧
          (((tl19 : Int) ≤ k23) →
           t12 ≠ none ∧
           Store w24 t12 [(.slice none 0 0)] [] fun w25 =>
            (I1 out22 outl22 outc22 w25 ∧ M1 out22 outl22 outc22 w25 < M1 out2 outl2 outc2 w3))))

theorem ok_wheel_Wheel_Advance (w_v : Option Addr) (n : Int) (w : World) (Q : Value → World → Prop) (h : wp_wheel_Wheel_Advance w_v n w Q) : FnP Try.prog F_wheel_Wheel_Advance #[(.pointer w_v), (.int .i64 n)] w Q := by
  have e_ : wp_wheel_Wheel_Advance w_v n w Q = Runs Try.prog Q ({ N := 74, wrap := [], pub := [], muts := [21, 22], joins := [] } : Cfg) Try.f11 (Try.f11.body.getD .skip) [.sc (.ptr w_v), .sc (.int .i64 n)] w := by kernel_rfl
  rw [e_] at h
  exact runs_fn h Try.func11 (by kernel_rfl) (fun args w => Try.call11 args w) (by kernel_rfl) (by kernel_rfl) rfl rfl

/-- shiftbell/shiftbellkeep.wheels -/
def wp_shiftbellkeep_wheels  (w : World) (Q : Value → World → Prop) : Prop :=
  ∀ w0, Ext w w0 →
  FnP Try.prog F_wheel_New #[] w0 fun v1 w1 =>
   Ext w0 w1 ∧
   ∃ t2 : Option Addr, v1 = (.pointer t2) ∧
   ∀ w3, Ext w1 w3 →
   FnP Try.prog F_wheel_Wheel_Add #[(.pointer t2), (.int .i64 3), (.int .i64 7)] w3 fun v4 w4 =>
    ∃ t5 : Int, v4 = (.int .i64 t5) ∧
    ∀ w6, Ext w4 w6 →
    FnP Try.prog F_wheel_Wheel_Next #[(.pointer t2)] w6 fun v7 w7 =>
     Ext w6 w7 ∧
     ∃ t8 : Int, ∃ t9 : Bool, v7 = (.tuple #[(.int .i64 t8), (.bool t9)]) ∧
     ∀ w10, Ext w4 w10 →
     Q (.bool (((decide (t5 = 0)) && t9) && (decide (t8 = 3)))) w10

theorem ok_shiftbellkeep_wheels  (w : World) (Q : Value → World → Prop) (h : wp_shiftbellkeep_wheels  w Q) : FnP Try.prog F_shiftbellkeep_wheels #[] w Q := by
  have e_ : wp_shiftbellkeep_wheels  w Q = Runs Try.prog Q ({ N := 22, wrap := [], pub := [], muts := [9], joins := [] } : Cfg) Try.f6 (Try.f6.body.getD .skip) [] w := by kernel_rfl
  rw [e_] at h
  exact runs_fn h Try.func6 (by kernel_rfl) (fun args w => Try.call6 args w) (by kernel_rfl) (by kernel_rfl) rfl rfl

/-- slices.Equal[[]shiftbell/api.Fire,shiftbell/api.Fire] -/
def wp_slices_Equal_api_Fire_api_Fire (s1 : Option Addr) (s1l : Nat) (s1c : Nat) (s2 : Option Addr) (s2l : Nat) (s2c : Nat) (w : World) (Q : Value → World → Prop) : Prop :=
  (((s1l : Int) ≠ (s2l : Int)) →
   ∀ w0, Ext w w0 →
   Q (.bool false) w0) ∧
  (((s1l : Int) = (s2l : Int)) →
   ∃ (I0 : Int → World → Prop) (M0 : Int → World → Nat), I0 0 w ∧
   ∀ (k1 : Int) (w2 : World), I0 k1 w2 →
    (((k1 < (s1l : Int)) →
     s1 ≠ none ∧
     (0 : Int) ≤ k1 ∧
     (k1 : Int) < (s1l : Int) ∧
     (pIdx s1 k1 2) ≠ none ∧
     ∃ t3 : Int, cell w2 (pIdx s1 k1 2) 0 = some (.int .i64 t3) ∧
     ∃ t4 : Int, cell w2 (pIdx s1 k1 2) 1 = some (.int .i64 t4) ∧
     s2 ≠ none ∧
     (0 : Int) ≤ k1 ∧
     (k1 : Int) < (s2l : Int) ∧
     (pIdx s2 k1 2) ≠ none ∧
     ∃ t5 : Int, cell w2 (pIdx s2 k1 2) 0 = some (.int .i64 t5) ∧
     ∃ t6 : Int, cell w2 (pIdx s2 k1 2) 1 = some (.int .i64 t6) ∧
     ∀ w7, Ext w2 w7 →
     Run Try.prog (.eq .neq 29 false false (.agg #[(.int .i64 t3), (.int .i64 t4)]) (.agg #[(.int .i64 t5), (.int .i64 t6)])) w7 fun v8 w8 =>
      Ext w7 w8 ∧
      ∃ t9 : Bool, v8 = (.bool t9) ∧
      ((t9 = true) →
       ∀ w10, Ext w2 w10 →
       Q (.bool false) w10) ∧
      ((t9 = false) →
       InR .i64 (k1 + 1) ∧
       (I0 (k1 + 1) w2 ∧ M0 (k1 + 1) w2 < M0 k1 w2)))) ∧
    (((s1l : Int) ≤ k1) →
     ∀ w3, Ext w2 w3 →
     Q (.bool true) w3))

theorem ok_slices_Equal_api_Fire_api_Fire (s1 : Option Addr) (s1l : Nat) (s1c : Nat) (s2 : Option Addr) (s2l : Nat) (s2c : Nat) (w : World) (Q : Value → World → Prop) (h : wp_slices_Equal_api_Fire_api_Fire s1 s1l s1c s2 s2l s2c w Q) : FnP Try.prog F_slices_Equal_api_Fire_api_Fire #[(.slice s1 s1l s1c), (.slice s2 s2l s2c)] w Q := by
  have e_ : wp_slices_Equal_api_Fire_api_Fire s1 s1l s1c s2 s2l s2c w Q = Runs Try.prog Q ({ N := 26, wrap := [], pub := [], muts := [], joins := [] } : Cfg) Try.f16 (Try.f16.body.getD .skip) [.sc (.slc s1 s1l s1c), .sc (.slc s2 s2l s2c)] w := by kernel_rfl
  rw [e_] at h
  exact runs_fn h Try.func16 (by kernel_rfl) (fun args w => Try.call16 args w) (by kernel_rfl) (by kernel_rfl) rfl rfl

/-- shiftbell/shiftbellkeep.good$1 -/
def wp_shiftbellkeep_good_1 (e : Int) (w : World) (Q : Value → World → Prop) : Prop :=
  ∀ w0, Ext w w0 →
  Q (.bool (decide (e ≠ 0))) w0

theorem ok_shiftbellkeep_good_1 (e : Int) (w : World) (Q : Value → World → Prop) (h : wp_shiftbellkeep_good_1 e w Q) : FnP Try.prog F_shiftbellkeep_good_1 #[(.int .i64 e)] w Q := by
  have e_ : wp_shiftbellkeep_good_1 e w Q = Runs Try.prog Q ({ N := 5, wrap := [], pub := [], muts := [], joins := [] } : Cfg) Try.f26 (Try.f26.body.getD .skip) [.sc (.int .i64 e)] w := by kernel_rfl
  rw [e_] at h
  exact runs_fn h Try.func26 (by kernel_rfl) (fun args w => Try.call26 args w) (by kernel_rfl) (by kernel_rfl) rfl rfl

/-- slices.IndexFunc[[]shiftbell/api.Errno,shiftbell/api.Errno] -/
def wp_slices_IndexFunc_api_Errno_api_Errno (s : Option Addr) (sl : Nat) (sc : Nat) (f : Value) (w : World) (Q : Value → World → Prop) : Prop :=
  ∃ (I0 : Int → World → Prop) (M0 : Int → World → Nat), I0 0 w ∧
  ∀ (k1 : Int) (w2 : World), I0 k1 w2 →
   (((k1 < (sl : Int)) →
    s ≠ none ∧
    (0 : Int) ≤ k1 ∧
    (k1 : Int) < (sl : Int) ∧
    ∃ t3 : Int, cell w2 (pIdx s k1 1) 0 = some (.int .i64 t3) ∧
    ∀ w4, Ext w2 w4 →
    FnVP Try.prog f [(.int .i64 t3)] w4 fun v5 w5 =>
     Ext w4 w5 ∧
     ∃ t6 : Bool, v5 = (.bool t6) ∧
     ((t6 = true) →
      ∀ w7, Ext w2 w7 →
      Q (.int .i64 k1) w7) ∧
     ((t6 = false) →
      InR .i64 (k1 + 1) ∧
      (I0 (k1 + 1) w2 ∧ M0 (k1 + 1) w2 < M0 k1 w2)))) ∧
   (((sl : Int) ≤ k1) →
    ∀ w3, Ext w2 w3 →
    Q (.int .i64 (-1)) w3)

theorem ok_slices_IndexFunc_api_Errno_api_Errno (s : Option Addr) (sl : Nat) (sc : Nat) (f : Value) (w : World) (Q : Value → World → Prop) (h : wp_slices_IndexFunc_api_Errno_api_Errno s sl sc f w Q) : FnP Try.prog F_slices_IndexFunc_api_Errno_api_Errno #[(.slice s sl sc), f] w Q := by
  have e_ : wp_slices_IndexFunc_api_Errno_api_Errno s sl sc f w Q = Runs Try.prog Q ({ N := 19, wrap := [], pub := [], muts := [], joins := [] } : Cfg) Try.f31 (Try.f31.body.getD .skip) [.sc (.slc s sl sc), .sc (.val f)] w := by kernel_rfl
  rw [e_] at h
  exact runs_fn h Try.func31 (by kernel_rfl) (fun args w => Try.call31 args w) (by kernel_rfl) (by kernel_rfl) rfl rfl

/-- slices.ContainsFunc[[]shiftbell/api.Errno,shiftbell/api.Errno] -/
def wp_slices_ContainsFunc_api_Errno_api_Errno (s : Option Addr) (sl : Nat) (sc : Nat) (f : Value) (w : World) (Q : Value → World → Prop) : Prop :=
  ∀ w0, Ext w w0 →
  FnP Try.prog F_slices_IndexFunc_api_Errno_api_Errno #[(.slice s sl sc), f] w0 fun v1 w1 =>
   Ext w0 w1 ∧
   ∃ t2 : Int, v1 = (.int .i64 t2) ∧
   ∀ w3, Ext w w3 →
   Q (.bool (decide (0 ≤ t2))) w3

theorem ok_slices_ContainsFunc_api_Errno_api_Errno (s : Option Addr) (sl : Nat) (sc : Nat) (f : Value) (w : World) (Q : Value → World → Prop) (h : wp_slices_ContainsFunc_api_Errno_api_Errno s sl sc f w Q) : FnP Try.prog F_slices_ContainsFunc_api_Errno_api_Errno #[(.slice s sl sc), f] w Q := by
  have e_ : wp_slices_ContainsFunc_api_Errno_api_Errno s sl sc f w Q = Runs Try.prog Q ({ N := 9, wrap := [], pub := [], muts := [], joins := [] } : Cfg) Try.f25 (Try.f25.body.getD .skip) [.sc (.slc s sl sc), .sc (.val f)] w := by kernel_rfl
  rw [e_] at h
  exact runs_fn h Try.func25 (by kernel_rfl) (fun args w => Try.call25 args w) (by kernel_rfl) (by kernel_rfl) rfl rfl

/-- shiftbell/shiftbellkeep.good -/
def wp_shiftbellkeep_good (l : Option Addr) (ll : Nat) (lc : Nat) (w : World) (Q : Value → World → Prop) : Prop :=
  ∀ w0, Ext w w0 →
  FnP Try.prog F_slices_ContainsFunc_api_Errno_api_Errno #[(.slice l ll lc), (.func (.func 26) #[] #[])] w0 fun v1 w1 =>
   Ext w0 w1 ∧
   ∃ t2 : Bool, v1 = (.bool t2) ∧
   ∀ w3, Ext w w3 →
   Q (.bool (!t2)) w3

theorem ok_shiftbellkeep_good (l : Option Addr) (ll : Nat) (lc : Nat) (w : World) (Q : Value → World → Prop) (h : wp_shiftbellkeep_good l ll lc w Q) : FnP Try.prog F_shiftbellkeep_good #[(.slice l ll lc)] w Q := by
  have e_ : wp_shiftbellkeep_good l ll lc w Q = Runs Try.prog Q ({ N := 6, wrap := [], pub := [], muts := [], joins := [] } : Cfg) Try.f15 (Try.f15.body.getD .skip) [.sc (.slc l ll lc)] w := by kernel_rfl
  rw [e_] at h
  exact runs_fn h Try.func15 (by kernel_rfl) (fun args w => Try.call15 args w) (by kernel_rfl) (by kernel_rfl) rfl rfl

/-- shiftbell/shiftbellkeep.WheelSorted -/
def wp_shiftbellkeep_WheelSorted (l : Option Addr) (ll : Nat) (lc : Nat) (w : World) (Q : Value → World → Prop) : Prop :=
  ∀ w0, Ext w w0 →
  FnP Try.prog F_shiftbellkeep_wheels #[] w0 fun v1 w1 =>
   Ext w0 w1 ∧
   ∃ t2 : Bool, v1 = (.bool t2) ∧
   ((t2 = false) →
    ∀ w3, Ext w w3 →
    Q (.bool false) w3) ∧
   ((t2 = true) →
    ((200 < (ll : Int)) →
     ∀ w3, Ext w w3 →
     Q (.bool true) w3) ∧
    (((ll : Int) ≤ 200) →
     ∀ w3, Ext w w3 →
     FnP Try.prog F_wheel_New #[] w3 fun v4 w4 =>
      Ext w3 w4 ∧
      ∃ t5 : Option Addr, v4 = (.pointer t5) ∧
      ∃ (I6 : Int → World → Prop) (M6 : Int → World → Nat), I6 0 w4 ∧
      ∀ (k7 : Int) (w8 : World), I6 k7 w8 →
       (((k7 < (ll : Int)) →
        l ≠ none ∧
        (0 : Int) ≤ k7 ∧
        (k7 : Int) < (ll : Int) ∧
        (pIdx l k7 4) ≠ none ∧
        ∃ t9 : Int, cell w8 (pIdx l k7 4) 0 = some (.int .i64 t9) ∧
        ∃ t10 : Int, cell w8 (pIdx l k7 4) 1 = some (.int .i64 t10) ∧
        ∃ t11 : Int, cell w8 (pIdx l k7 4) 2 = some (.int .i64 t11) ∧
        ∃ t12 : Int, cell w8 (pIdx l k7 4) 3 = some (.int .i64 t12) ∧
        ∀ b13 : Nat, w8.heap.size ≤ b13 → ∀ w14, Ext w8 w14 →
        FnP Try.prog F_wheel_Wheel_Now #[(.pointer t5)] w14 fun v15 w15 =>
         Ext w14 w15 ∧
         ∃ t16 : Int, v15 = (.int .i64 t16) ∧
         (((t9 = 1) →
          ∀ w17, ExtB [] [b13] w8 w17 →
          FnP Try.prog F_wheel_Wheel_Add #[(.pointer t5), (.int .i64 t12), (.int .i64 t10)] w17 fun v18 w18 =>
           Kept [b13] w17 w18 ∧
           ∃ t19 : Int, v18 = (.int .i64 t19) ∧
           ∀ w20, Ext w18 w20 →
           FnP Try.prog F_wheel_Wheel_Next #[(.pointer t5)] w20 fun v21 w21 =>
            Ext w20 w21 ∧
            ∃ t22 : Int, ∃ t23 : Bool, v21 = (.tuple #[(.int .i64 t22), (.bool t23)]) ∧
            (((t23 = true) →
             ∀ w24, Ext w18 w24 →
             FnP Try.prog F_wheel_Wheel_Now #[(.pointer t5)] w24 fun v25 w25 =>
              Ext w24 w25 ∧
              ∃ t26 : Int, v25 = (.int .i64 t26) ∧
              ((t22 ≤ t26) →
               ∀ w27, Ext w18 w27 →
               Q (.bool false) w27) ∧
              ((t26 < t22) →
               InR .i64 (k7 + 1) ∧
               (I6 (k7 + 1) w18 ∧ M6 (k7 + 1) w18 < M6 k7 w8)))) ∧
            ((t23 = false) →
             InR .i64 (k7 + 1) ∧
             (I6 (k7 + 1) w18 ∧ M6 (k7 + 1) w18 < M6 k7 w8)))) ∧
         ((t9 ≠ 1) →
          (((t9 = 2) →
           ∀ w17, ExtB [] [b13] w8 w17 →
           FnP Try.prog F_wheel_Wheel_Cancel #[(.pointer t5), (.int .i64 t10)] w17 fun v18 w18 =>
            Kept [b13] w17 w18 ∧
            ∃ t19 : Int, v18 = (.int .i64 t19) ∧
            ∀ w20, Ext w18 w20 →
            FnP Try.prog F_wheel_Wheel_Next #[(.pointer t5)] w20 fun v21 w21 =>
             Ext w20 w21 ∧
             ∃ t22 : Int, ∃ t23 : Bool, v21 = (.tuple #[(.int .i64 t22), (.bool t23)]) ∧
             (((t23 = true) →
              ∀ w24, Ext w18 w24 →
              FnP Try.prog F_wheel_Wheel_Now #[(.pointer t5)] w24 fun v25 w25 =>
               Ext w24 w25 ∧
               ∃ t26 : Int, v25 = (.int .i64 t26) ∧
               ((t22 ≤ t26) →
                ∀ w27, Ext w18 w27 →
                Q (.bool false) w27) ∧
               ((t26 < t22) →
                InR .i64 (k7 + 1) ∧
                (I6 (k7 + 1) w18 ∧ M6 (k7 + 1) w18 < M6 k7 w8)))) ∧
             ((t23 = false) →
              InR .i64 (k7 + 1) ∧
              (I6 (k7 + 1) w18 ∧ M6 (k7 + 1) w18 < M6 k7 w8)))) ∧
          ((t9 ≠ 2) →
           ∀ w17, ExtB [] [b13] w8 w17 →
           FnP Try.prog F_wheel_Wheel_Advance #[(.pointer t5), (.int .i64 t12)] w17 fun v18 w18 =>
            Kept [b13] w17 w18 ∧
            ∃ t19 : Option Addr, ∃ tl20 : Nat, ∃ tc21 : Nat, ∃ t22 : Int, v18 = (.tuple #[(.slice t19 tl20 tc21), (.int .i64 t22)]) ∧
            (((t22 ≠ 0) →
             ((0 < (tl20 : Int)) →
              ∀ w23, Ext w18 w23 →
              Q (.bool false) w23) ∧
             (((tl20 : Int) ≤ 0) →
              ∀ w23, Ext w18 w23 →
              FnP Try.prog F_wheel_Wheel_Now #[(.pointer t5)] w23 fun v24 w24 =>
               Ext w23 w24 ∧
               ∃ t25 : Int, v24 = (.int .i64 t25) ∧
               ((t25 ≠ t16) →
                ∀ w26, Ext w18 w26 →
                Q (.bool false) w26) ∧
               ((t25 = t16) →
                InR .i64 (k7 + 1) ∧
                (I6 (k7 + 1) w18 ∧ M6 (k7 + 1) w18 < M6 k7 w8))))) ∧
            ((t22 = 0) →
             InR .i64 (t16 + 1) ∧
             ∃ (I23 : Int → Int → World → Prop) (M23 : Int → Int → World → Nat), I23 (t16 + 1) 0 w18 ∧
             ∀ (last24 : Int) (k25 : Int) (w26 : World), I23 last24 k25 w26 →
              (((k25 < (tl20 : Int)) →
               t19 ≠ none ∧
               (0 : Int) ≤ k25 ∧
               (k25 : Int) < (tl20 : Int) ∧
               (pIdx t19 k25 2) ≠ none ∧
               ∃ t27 : Int, cell w26 (pIdx t19 k25 2) 0 = some (.int .i64 t27) ∧
               ∃ t28 : Int, cell w26 (pIdx t19 k25 2) 1 = some (.int .i64 t28) ∧
               ∀ b29 : Nat, w26.heap.size ≤ b29 → ((t27 < last24) →
                ∀ w30, Ext w26 w30 →
                Q (.bool false) w30) ∧
               ((last24 ≤ t27) →
                ∀ w30, Ext w26 w30 →
                FnP Try.prog F_wheel_Wheel_Now #[(.pointer t5)] w30 fun v31 w31 =>
                 Ext w30 w31 ∧
                 ∃ t32 : Int, v31 = (.int .i64 t32) ∧
                 ((t32 < t27) →
                  ∀ w33, Ext w26 w33 →
                  Q (.bool false) w33) ∧
                 ((t27 ≤ t32) →
                  InR .i64 (k25 + 1) ∧
                  (I23 t27 (k25 + 1) w26 ∧ M23 t27 (k25 + 1) w26 < M23 last24 k25 w26))))) ∧
              (((tl20 : Int) ≤ k25) →
               InR .i64 (t16 + t12) ∧
               ∀ w27, Ext w26 w27 →
               FnP Try.prog F_wheel_Wheel_Now #[(.pointer t5)] w27 fun v28 w28 =>
                Ext w27 w28 ∧
                ∃ t29 : Int, v28 = (.int .i64 t29) ∧
                ((t29 ≠ (t16 + t12)) →
                 ∀ w30, Ext w26 w30 →
                 Q (.bool false) w30) ∧
                ((t29 = (t16 + t12)) →
                 ∀ w30, Ext w26 w30 →
                 FnP Try.prog F_wheel_Wheel_Next #[(.pointer t5)] w30 fun v31 w31 =>
                  Ext w30 w31 ∧
                  ∃ t32 : Int, ∃ t33 : Bool, v31 = (.tuple #[(.int .i64 t32), (.bool t33)]) ∧
                  (((t33 = true) →
                   ∀ w34, Ext w26 w34 →
                   FnP Try.prog F_wheel_Wheel_Now #[(.pointer t5)] w34 fun v35 w35 =>
                    Ext w34 w35 ∧
                    ∃ t36 : Int, v35 = (.int .i64 t36) ∧
                    ((t32 ≤ t36) →
                     ∀ w37, Ext w26 w37 →
                     Q (.bool false) w37) ∧
                    ((t36 < t32) →
                     InR .i64 (k7 + 1) ∧
                     (I6 (k7 + 1) w26 ∧ M6 (k7 + 1) w26 < M6 k7 w8)))) ∧
                  ((t33 = false) →
                   InR .i64 (k7 + 1) ∧
                   (I6 (k7 + 1) w26 ∧ M6 (k7 + 1) w26 < M6 k7 w8))))))))) ∧
       (((ll : Int) ≤ k7) →
        ∀ w9, Ext w8 w9 →
        Q (.bool true) w9)))

theorem ok_shiftbellkeep_WheelSorted (l : Option Addr) (ll : Nat) (lc : Nat) (w : World) (Q : Value → World → Prop) (h : wp_shiftbellkeep_WheelSorted l ll lc w Q) : FnP Try.prog F_shiftbellkeep_WheelSorted #[(.slice l ll lc)] w Q := by
  have e_ : wp_shiftbellkeep_WheelSorted l ll lc w Q = Runs Try.prog Q ({ N := 104, wrap := [], pub := [], muts := [9, 10, 11], joins := [] } : Cfg) Try.f4 (Try.f4.body.getD .skip) [.sc (.slc l ll lc)] w := by kernel_rfl
  rw [e_] at h
  exact runs_fn h Try.func4 (by kernel_rfl) (fun args w => Try.call4 args w) (by kernel_rfl) (by kernel_rfl) rfl rfl

theorem open_shiftbellkeep_WheelSorted (W : World) (R : Array Value → Prop) (h : ∀ l : Option Addr, ∀ ll : Nat, ∀ lc : Nat, SlcArg Try.prog W 33 l ll lc → R #[(.slice l ll lc)]) (args : Array Value) (hg : GoodAll Try.prog W Try.f4.params.toList args.toList) : R args := by
  have e_ : (ArgsAll Try.prog W Try.f4.params.toList fun l => R l.toArray) = (∀ l : Option Addr, ∀ ll : Nat, ∀ lc : Nat, SlcArg Try.prog W 33 l ll lc → R #[(.slice l ll lc)]) := by kernel_rfl
  exact args_open (by rw [e_]; exact h) args hg
-- wit 4 #[(.slice none 0 0)]

end Go.Proofs.Ytkpkbbapaamflaa
