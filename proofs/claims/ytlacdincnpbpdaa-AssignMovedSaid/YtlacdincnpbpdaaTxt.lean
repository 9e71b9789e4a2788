/- The texts of this seat's functions: what each computes, as its symbolic run says it. -/
import Derived.Test.YtlacdincnpbpdaaRows
import Derived.Test.YtlacdincnpbpdaaSxD
import Derived.Test.YtlacdincnpbpdaaSxN
set_option linter.unusedVariables false
set_option linter.unusedSimpArgs false
set_option maxRecDepth 100000
namespace Go.Proofs.Ytlacdincnpbpdaa
open Go.Sx Go.RowKit

abbrev F_shiftbellkeep_AssignLeast : FuncId := 3
abbrev F_shiftbellkeep_AssignTurned : FuncId := 4
abbrev F_shiftbellkeep_AssignPrices : FuncId := 5
abbrev F_shiftbellkeep_AssignMoved : FuncId := 6
abbrev F_shiftbellkeep_assigns : FuncId := 7
abbrev F_assign_Least : FuncId := 8
abbrev F_assign_Cost : FuncId := 9
abbrev F_assign_Prices : FuncId := 10
abbrev F_shiftbellkeep_sum : FuncId := 11
abbrev F_slices_Clone_SS_int64_int64 : FuncId := 12
abbrev F_slices_Clone_int64_int64 : FuncId := 13
abbrev F_assign_Check : FuncId := 14
abbrev F_assign_solve : FuncId := 15
abbrev F_assign_solver_one : FuncId := 16
abbrev T__0 : TypeId := 0
abbrev T_int64 : TypeId := 2
abbrev T_int : TypeId := 3
abbrev T_bool : TypeId := 4
abbrev T_uint8 : TypeId := 5
abbrev T_string : TypeId := 9
abbrev T_uintptr : TypeId := 12
abbrev T_int32 : TypeId := 21
abbrev T_sl_sl_int64 : TypeId := 22
abbrev T_sl_int : TypeId := 23
abbrev T_Errno : TypeId := 25
abbrev T_sl_int_int64_Errno : TypeId := 26
abbrev T_int64_Errno : TypeId := 28
abbrev T_sl_int64 : TypeId := 31
abbrev T_sl_int64_sl_int64_Errno : TypeId := 33
abbrev T_ptr_assign_solver : TypeId := 41
abbrev T_assign_solver : TypeId := 44
abbrev T_sl_bool : TypeId := 45
abbrev T_uint32 : TypeId := 54
abbrev T_ptr_uint8 : TypeId := 58
abbrev T_unsafe_Pointer : TypeId := 63
theorem elem_sl_sl_int64 : slEl Try.prog 22 = some (31, 1, 24, (.slice none 0 0)) := by kernel_rfl
theorem elem_sl_int : slEl Try.prog 23 = some (3, 1, 8, (.int .i64 0)) := by kernel_rfl
theorem elem_sl_int64 : slEl Try.prog 31 = some (2, 1, 8, (.int .i64 0)) := by kernel_rfl
theorem elem_sl_bool : slEl Try.prog 45 = some (4, 1, 1, (.bool false)) := by kernel_rfl

/-- shiftbell/assign.Check -/
def wp_assign_Check (c : Option Addr) (cl : Nat) (cc : Nat) (w : World) (Q : Value → World → Prop) : Prop :=
  ((12 < (cl : Int)) →
   ∀ w0, Ext w w0 →
   Q (.int .i64 2) w0) ∧
  (((cl : Int) ≤ 12) →
   ∃ (I0 : Int → World → Prop) (M0 : Int → World → Nat), I0 0 w ∧
   ∀ (k1 : Int) (w2 : World), I0 k1 w2 →
    ((k1 < (cl : Int)) →
     c ≠ none ∧
     (0 : Int) ≤ k1 ∧
     (k1 : Int) < (cl : Int) ∧
     ∃ t3 : Option Addr, ∃ tl4 : Nat, ∃ tc5 : Nat, cell w2 (pIdx c k1 1) 0 = some (.slice t3 tl4 tc5) ∧
     (((tl4 : Int) ≠ (cl : Int)) →
      ∀ w6, Ext w2 w6 →
      Q (.int .i64 1) w6) ∧
     (((tl4 : Int) = (cl : Int)) →
      InR .i64 (k1 + 1) ∧
      (I0 (k1 + 1) w2 ∧ M0 (k1 + 1) w2 < M0 k1 w2))) ∧
    (((cl : Int) ≤ k1) →
     ∃ (I3 : Int → World → Prop) (M3 : Int → World → Nat), I3 0 w2 ∧
     ∀ (k4 : Int) (w5 : World), I3 k4 w5 →
      ((k4 < (cl : Int)) →
       c ≠ none ∧
       (0 : Int) ≤ k4 ∧
       (k4 : Int) < (cl : Int) ∧
       ∃ t6 : Option Addr, ∃ tl7 : Nat, ∃ tc8 : Nat, cell w5 (pIdx c k4 1) 0 = some (.slice t6 tl7 tc8) ∧
       ∃ (I9 : Int → World → Prop) (M9 : Int → World → Nat), I9 0 w5 ∧
       ∀ (k10 : Int) (w11 : World), I9 k10 w11 →
        ((k10 < (tl7 : Int)) →
         t6 ≠ none ∧
         (0 : Int) ≤ k10 ∧
         (k10 : Int) < (tl7 : Int) ∧
         ∃ t12 : Int, cell w11 (pIdx t6 k10 1) 0 = some (.int .i64 t12) ∧
         (((t12 < (-1000000000)) ∨ (1000000000 < t12)) →
          ∀ w13, Ext w11 w13 →
          Q (.int .i64 4) w13) ∧
         ((((-1000000000) ≤ t12) ∧ (t12 ≤ 1000000000)) →
          InR .i64 (k10 + 1) ∧
          (I9 (k10 + 1) w11 ∧ M9 (k10 + 1) w11 < M9 k10 w11))) ∧
        (((tl7 : Int) ≤ k10) →
         InR .i64 (k4 + 1) ∧
         (I3 (k4 + 1) w11 ∧ M3 (k4 + 1) w11 < M3 k4 w5))) ∧
      (((cl : Int) ≤ k4) →
       ∀ w6, Ext w5 w6 →
       Q (.int .i64 0) w6)))

theorem ok_assign_Check (c : Option Addr) (cl : Nat) (cc : Nat) (w : World) (Q : Value → World → Prop) (h : wp_assign_Check c cl cc w Q) : FnP Try.prog F_assign_Check #[(.slice c cl cc)] w Q := by
  have e_ : wp_assign_Check c cl cc w Q = Runs Try.prog Q ({ N := 44, wrap := [], pub := [], muts := [] } : Cfg) Try.f14 (Try.f14.body.getD .skip) [.sc (.slc c cl cc)] w := by kernel_rfl
  rw [e_] at h
  exact runs_fn h Try.func14 (by kernel_rfl) (fun args w => Try.call14 args w) (by kernel_rfl) (by kernel_rfl) rfl rfl

/-- shiftbell/assign.Cost -/
def wp_assign_Cost (c : Option Addr) (cl : Nat) (cc : Nat) (to : Option Addr) (tol : Nat) (toc : Nat) (w : World) (Q : Value → World → Prop) : Prop :=
  ∀ w0, Ext w w0 →
  FnP Try.prog F_assign_Check #[(.slice c cl cc)] w0 fun v1 w1 =>
   Ext w0 w1 ∧
   ∃ t2 : Int, v1 = (.int .i64 t2) ∧
   ((t2 ≠ 0) →
    ∀ w3, Ext w w3 →
    Q (.tuple #[(.int .i64 0), (.int .i64 t2)]) w3) ∧
   ((t2 = 0) →
    (((tol : Int) ≠ (cl : Int)) →
     ∀ w3, Ext w w3 →
     Q (.tuple #[(.int .i64 0), (.int .i64 1)]) w3) ∧
    (((tol : Int) = (cl : Int)) →
     ∀ w3, Ext w w3 →
     Run Try.prog (.makeSlice 45 (.int .i64 (cl : Int)) (.int .i64 (cl : Int))) w3 fun v4 w4 =>
      Ext w3 w4 ∧
      ∃ t5 : Option Addr, ∃ tl6 : Nat, ∃ tc7 : Nat, v4 = (.slice t5 tl6 tc7) ∧
      ∃ (I8 : Int → Int → World → Prop) (M8 : Int → Int → World → Nat), I8 0 0 w4 ∧
      ∀ (sum9 : Int) (k10 : Int) (w11 : World), I8 sum9 k10 w11 →
       ((k10 < (tol : Int)) →
        to ≠ none ∧
        (0 : Int) ≤ k10 ∧
        (k10 : Int) < (tol : Int) ∧
        ∃ t12 : Int, cell w11 (pIdx to k10 1) 0 = some (.int .i64 t12) ∧
        (((0 ≤ t12) ∧ (t12 < (cl : Int))) →
         t5 ≠ none) ∧
        (((0 ≤ t12) ∧ (t12 < (cl : Int))) →
         (0 : Int) ≤ t12) ∧
        (((0 ≤ t12) ∧ (t12 < (cl : Int))) →
         (t12 : Int) < (tl6 : Int)) ∧
        (((t12 < 0) ∨ ((cl : Int) ≤ t12)) →
         ∀ w13, Ext w11 w13 →
         Q (.tuple #[(.int .i64 0), (.int .i64 1)]) w13) ∧
        (((0 ≤ t12) ∧ (t12 < (cl : Int))) →
         ∃ t13 : Bool, cell w11 (pIdx t5 t12 1) 0 = some (.bool t13) ∧
         ((t13 = true) →
          ∀ w14, Ext w11 w14 →
          Q (.tuple #[(.int .i64 0), (.int .i64 1)]) w14) ∧
         ((t13 = false) →
          t5 ≠ none ∧
          (0 : Int) ≤ t12 ∧
          (t12 : Int) < (tl6 : Int) ∧
          Store w11 (pIdx t5 t12 1) [(.bool true)] [] fun w14 =>
           c ≠ none ∧
           (0 : Int) ≤ k10 ∧
           (k10 : Int) < (cl : Int) ∧
           ∃ t15 : Option Addr, ∃ tl16 : Nat, ∃ tc17 : Nat, cell w14 (pIdx c k10 1) 0 = some (.slice t15 tl16 tc17) ∧
           t15 ≠ none ∧
           (0 : Int) ≤ t12 ∧
           (t12 : Int) < (tl16 : Int) ∧
           ∃ t18 : Int, cell w14 (pIdx t15 t12 1) 0 = some (.int .i64 t18) ∧
           InR .i64 (sum9 + t18) ∧
           InR .i64 (k10 + 1) ∧
           (I8 (sum9 + t18) (k10 + 1) w14 ∧ M8 (sum9 + t18) (k10 + 1) w14 < M8 sum9 k10 w11)))) ∧
       (((tol : Int) ≤ k10) →
        ∀ w12, Ext w11 w12 →
        Q (.tuple #[(.int .i64 sum9), (.int .i64 0)]) w12)))

theorem ok_assign_Cost (c : Option Addr) (cl : Nat) (cc : Nat) (to : Option Addr) (tol : Nat) (toc : Nat) (w : World) (Q : Value → World → Prop) (h : wp_assign_Cost c cl cc to tol toc w Q) : FnP Try.prog F_assign_Cost #[(.slice c cl cc), (.slice to tol toc)] w Q := by
  have e_ : wp_assign_Cost c cl cc to tol toc w Q = Runs Try.prog Q ({ N := 59, wrap := [], pub := [], muts := [] } : Cfg) Try.f9 (Try.f9.body.getD .skip) [.sc (.slc c cl cc), .sc (.slc to tol toc)] w := by kernel_rfl
  rw [e_] at h
  exact runs_fn h Try.func9 (by kernel_rfl) (fun args w => Try.call9 args w) (by kernel_rfl) (by kernel_rfl) rfl rfl

/-- shiftbell/assign.solve -/
def wp_assign_solve (c : Option Addr) (cl : Nat) (cc : Nat) (w : World) (Q : Value → World → Prop) : Prop :=
  InR .i64 ((cl : Int) + 1) ∧
  ∃ (J0 : Option Addr → Option Addr → World → Prop), ((∀ w4, Ext w w4 →
   Run Try.prog (.makeSlice 31 (.int .i64 ((cl : Int) + 1)) (.int .i64 ((cl : Int) + 1))) w4 fun v5 w5 =>
    Ext w4 w5 ∧
    ∃ t6 : Option Addr, ∃ tl7 : Nat, ∃ tc8 : Nat, v5 = (.slice t6 tl7 tc8) ∧
    (∀ w9, Ext w5 w9 →
    Run Try.prog (.makeSlice 31 (.int .i64 ((cl : Int) + 1)) (.int .i64 ((cl : Int) + 1))) w9 fun v10 w10 =>
     Ext w9 w10 ∧
     ∃ t11 : Option Addr, ∃ tl12 : Nat, ∃ tc13 : Nat, v10 = (.slice t11 tl12 tc13) ∧
     ∀ w14, Ext w10 w14 →
     Run Try.prog (.makeSlice 23 (.int .i64 ((cl : Int) + 1)) (.int .i64 ((cl : Int) + 1))) w14 fun v15 w15 =>
      Ext w14 w15 ∧
      ∃ t16 : Option Addr, ∃ tl17 : Nat, ∃ tc18 : Nat, v15 = (.slice t16 tl17 tc18) ∧
      ∀ w19, Ext w15 w19 →
      New w19 44 [(.slice c cl cc), (.slice t6 tl7 tc8), (.slice t11 tl12 tc13), (.slice t16 tl17 tc18)] fun p20 w20 =>
       J0 p20 p20 w20) ∧
    ∀ w9, Ext w5 w9 →
    Run Try.prog (.makeSlice 23 (.int .i64 ((cl : Int) + 1)) (.int .i64 ((cl : Int) + 1))) w9 fun v10 w10 =>
     Ext w9 w10 ∧
     ∃ t11 : Option Addr, ∃ tl12 : Nat, ∃ tc13 : Nat, v10 = (.slice t11 tl12 tc13) ∧
     ∀ w14, Ext w10 w14 →
     Run Try.prog (.makeSlice 31 (.int .i64 ((cl : Int) + 1)) (.int .i64 ((cl : Int) + 1))) w14 fun v15 w15 =>
      Ext w14 w15 ∧
      ∃ t16 : Option Addr, ∃ tl17 : Nat, ∃ tc18 : Nat, v15 = (.slice t16 tl17 tc18) ∧
      ∀ w19, Ext w15 w19 →
      New w19 44 [(.slice c cl cc), (.slice t6 tl7 tc8), (.slice t16 tl17 tc18), (.slice t11 tl12 tc13)] fun p20 w20 =>
       J0 p20 p20 w20) ∧
   (∀ w4, Ext w w4 →
   Run Try.prog (.makeSlice 31 (.int .i64 ((cl : Int) + 1)) (.int .i64 ((cl : Int) + 1))) w4 fun v5 w5 =>
    Ext w4 w5 ∧
    ∃ t6 : Option Addr, ∃ tl7 : Nat, ∃ tc8 : Nat, v5 = (.slice t6 tl7 tc8) ∧
    (∀ w9, Ext w5 w9 →
    Run Try.prog (.makeSlice 31 (.int .i64 ((cl : Int) + 1)) (.int .i64 ((cl : Int) + 1))) w9 fun v10 w10 =>
     Ext w9 w10 ∧
     ∃ t11 : Option Addr, ∃ tl12 : Nat, ∃ tc13 : Nat, v10 = (.slice t11 tl12 tc13) ∧
     ∀ w14, Ext w10 w14 →
     Run Try.prog (.makeSlice 23 (.int .i64 ((cl : Int) + 1)) (.int .i64 ((cl : Int) + 1))) w14 fun v15 w15 =>
      Ext w14 w15 ∧
      ∃ t16 : Option Addr, ∃ tl17 : Nat, ∃ tc18 : Nat, v15 = (.slice t16 tl17 tc18) ∧
      ∀ w19, Ext w15 w19 →
      New w19 44 [(.slice c cl cc), (.slice t11 tl12 tc13), (.slice t6 tl7 tc8), (.slice t16 tl17 tc18)] fun p20 w20 =>
       J0 p20 p20 w20) ∧
    ∀ w9, Ext w5 w9 →
    Run Try.prog (.makeSlice 23 (.int .i64 ((cl : Int) + 1)) (.int .i64 ((cl : Int) + 1))) w9 fun v10 w10 =>
     Ext w9 w10 ∧
     ∃ t11 : Option Addr, ∃ tl12 : Nat, ∃ tc13 : Nat, v10 = (.slice t11 tl12 tc13) ∧
     ∀ w14, Ext w10 w14 →
     Run Try.prog (.makeSlice 31 (.int .i64 ((cl : Int) + 1)) (.int .i64 ((cl : Int) + 1))) w14 fun v15 w15 =>
      Ext w14 w15 ∧
      ∃ t16 : Option Addr, ∃ tl17 : Nat, ∃ tc18 : Nat, v15 = (.slice t16 tl17 tc18) ∧
      ∀ w19, Ext w15 w19 →
      New w19 44 [(.slice c cl cc), (.slice t16 tl17 tc18), (.slice t6 tl7 tc8), (.slice t11 tl12 tc13)] fun p20 w20 =>
       J0 p20 p20 w20) ∧
   ∀ w4, Ext w w4 →
   Run Try.prog (.makeSlice 23 (.int .i64 ((cl : Int) + 1)) (.int .i64 ((cl : Int) + 1))) w4 fun v5 w5 =>
    Ext w4 w5 ∧
    ∃ t6 : Option Addr, ∃ tl7 : Nat, ∃ tc8 : Nat, v5 = (.slice t6 tl7 tc8) ∧
    (∀ w9, Ext w5 w9 →
    Run Try.prog (.makeSlice 31 (.int .i64 ((cl : Int) + 1)) (.int .i64 ((cl : Int) + 1))) w9 fun v10 w10 =>
     Ext w9 w10 ∧
     ∃ t11 : Option Addr, ∃ tl12 : Nat, ∃ tc13 : Nat, v10 = (.slice t11 tl12 tc13) ∧
     ∀ w14, Ext w10 w14 →
     Run Try.prog (.makeSlice 31 (.int .i64 ((cl : Int) + 1)) (.int .i64 ((cl : Int) + 1))) w14 fun v15 w15 =>
      Ext w14 w15 ∧
      ∃ t16 : Option Addr, ∃ tl17 : Nat, ∃ tc18 : Nat, v15 = (.slice t16 tl17 tc18) ∧
      ∀ w19, Ext w15 w19 →
      New w19 44 [(.slice c cl cc), (.slice t11 tl12 tc13), (.slice t16 tl17 tc18), (.slice t6 tl7 tc8)] fun p20 w20 =>
       J0 p20 p20 w20) ∧
    ∀ w9, Ext w5 w9 →
    Run Try.prog (.makeSlice 31 (.int .i64 ((cl : Int) + 1)) (.int .i64 ((cl : Int) + 1))) w9 fun v10 w10 =>
     Ext w9 w10 ∧
     ∃ t11 : Option Addr, ∃ tl12 : Nat, ∃ tc13 : Nat, v10 = (.slice t11 tl12 tc13) ∧
     ∀ w14, Ext w10 w14 →
     Run Try.prog (.makeSlice 31 (.int .i64 ((cl : Int) + 1)) (.int .i64 ((cl : Int) + 1))) w14 fun v15 w15 =>
      Ext w14 w15 ∧
      ∃ t16 : Option Addr, ∃ tl17 : Nat, ∃ tc18 : Nat, v15 = (.slice t16 tl17 tc18) ∧
      ∀ w19, Ext w15 w19 →
      New w19 44 [(.slice c cl cc), (.slice t16 tl17 tc18), (.slice t11 tl12 tc13), (.slice t6 tl7 tc8)] fun p20 w20 =>
       J0 p20 p20 w20) ∧
  ∀ (k1 : Option Addr) (s2 : Option Addr) (w3 : World), J0 k1 s2 w3 →
   ∃ (I4 : Int → World → Prop) (M4 : Int → World → Nat), I4 1 w3 ∧
   ∀ (i5 : Int) (w6 : World), I4 i5 w6 →
    ((i5 < ((cl : Int) + 1)) →
     ∀ w7, Ext w6 w7 →
     FnP Try.prog F_assign_solver_one #[(.pointer s2), (.int .i64 i5)] w7 fun v8 w8 =>
      v8 = (.tuple #[]) ∧
      InR .i64 (i5 + 1) ∧
      (I4 (i5 + 1) w8 ∧ M4 (i5 + 1) w8 < M4 i5 w6)) ∧
    ((((cl : Int) + 1) ≤ i5) →
     ∀ w7, Ext w6 w7 →
     Q (.pointer s2) w7)

theorem ok_assign_solve (c : Option Addr) (cl : Nat) (cc : Nat) (w : World) (Q : Value → World → Prop) (h : wp_assign_solve c cl cc w Q) : FnP Try.prog F_assign_solve #[(.slice c cl cc)] w Q := by
  have e_ : wp_assign_solve c cl cc w Q = Runs Try.prog Q ({ N := 27, wrap := [], pub := [17], muts := [16] } : Cfg) Try.f15 (Try.f15.body.getD .skip) [.sc (.slc c cl cc)] w := by kernel_rfl
  rw [e_] at h
  exact runs_fn h Try.func15 (by kernel_rfl) (fun args w => Try.call15 args w) (by kernel_rfl) (by kernel_rfl) rfl rfl

/-- (*shiftbell/assign.solver).one -/
def wp_assign_solver_one (s : Option Addr) (i : Int) (w : World) (Q : Value → World → Prop) : Prop :=
  s ≠ none ∧
  s ≠ none ∧
  ∃ t0 : Option Addr, ∃ tl1 : Nat, ∃ tc2 : Nat, cell w (pAdd s 0) 0 = some (.slice t0 tl1 tc2) ∧
  s ≠ none ∧
  s ≠ none ∧
  ∃ t3 : Option Addr, ∃ tl4 : Nat, ∃ tc5 : Nat, cell w (pAdd s 3) 0 = some (.slice t3 tl4 tc5) ∧
  t3 ≠ none ∧
  (0 : Int) ≤ 0 ∧
  (0 : Int) < (tl4 : Int) ∧
  Store w (pIdx t3 0 1) [(.int .i64 i)] [] fun w6 =>
   ∃ (J7 : Option Addr → Nat → Nat → Option Addr → Nat → Nat → Option Addr → Nat → Nat → World → Prop), (InR .i64 ((tl1 : Int) + 1) ∧
    InR .i64 ((tl1 : Int) + 1) ∧
    InR .i64 ((tl1 : Int) + 1) ∧
    (∀ w12, Ext w6 w12 →
    Run Try.prog (.makeSlice 31 (.int .i64 ((tl1 : Int) + 1)) (.int .i64 ((tl1 : Int) + 1))) w12 fun v13 w13 =>
     Ext w12 w13 ∧
     ∃ t14 : Option Addr, ∃ tl15 : Nat, ∃ tc16 : Nat, v13 = (.slice t14 tl15 tc16) ∧
     (∀ w17, Ext w13 w17 →
     Run Try.prog (.makeSlice 23 (.int .i64 ((tl1 : Int) + 1)) (.int .i64 ((tl1 : Int) + 1))) w17 fun v18 w18 =>
      Ext w17 w18 ∧
      ∃ t19 : Option Addr, ∃ tl20 : Nat, ∃ tc21 : Nat, v18 = (.slice t19 tl20 tc21) ∧
      ∀ w22, Ext w18 w22 →
      Run Try.prog (.makeSlice 45 (.int .i64 ((tl1 : Int) + 1)) (.int .i64 ((tl1 : Int) + 1))) w22 fun v23 w23 =>
       Ext w22 w23 ∧
       ∃ t24 : Option Addr, ∃ tl25 : Nat, ∃ tc26 : Nat, v23 = (.slice t24 tl25 tc26) ∧
       J7 t14 tl15 tc16 t19 tl20 tc21 t24 tl25 tc26 w23) ∧
     ∀ w17, Ext w13 w17 →
     Run Try.prog (.makeSlice 45 (.int .i64 ((tl1 : Int) + 1)) (.int .i64 ((tl1 : Int) + 1))) w17 fun v18 w18 =>
      Ext w17 w18 ∧
      ∃ t19 : Option Addr, ∃ tl20 : Nat, ∃ tc21 : Nat, v18 = (.slice t19 tl20 tc21) ∧
      ∀ w22, Ext w18 w22 →
      Run Try.prog (.makeSlice 23 (.int .i64 ((tl1 : Int) + 1)) (.int .i64 ((tl1 : Int) + 1))) w22 fun v23 w23 =>
       Ext w22 w23 ∧
       ∃ t24 : Option Addr, ∃ tl25 : Nat, ∃ tc26 : Nat, v23 = (.slice t24 tl25 tc26) ∧
       J7 t14 tl15 tc16 t24 tl25 tc26 t19 tl20 tc21 w23) ∧
    (∀ w12, Ext w6 w12 →
    Run Try.prog (.makeSlice 23 (.int .i64 ((tl1 : Int) + 1)) (.int .i64 ((tl1 : Int) + 1))) w12 fun v13 w13 =>
     Ext w12 w13 ∧
     ∃ t14 : Option Addr, ∃ tl15 : Nat, ∃ tc16 : Nat, v13 = (.slice t14 tl15 tc16) ∧
     (∀ w17, Ext w13 w17 →
     Run Try.prog (.makeSlice 31 (.int .i64 ((tl1 : Int) + 1)) (.int .i64 ((tl1 : Int) + 1))) w17 fun v18 w18 =>
      Ext w17 w18 ∧
      ∃ t19 : Option Addr, ∃ tl20 : Nat, ∃ tc21 : Nat, v18 = (.slice t19 tl20 tc21) ∧
      ∀ w22, Ext w18 w22 →
      Run Try.prog (.makeSlice 45 (.int .i64 ((tl1 : Int) + 1)) (.int .i64 ((tl1 : Int) + 1))) w22 fun v23 w23 =>
       Ext w22 w23 ∧
       ∃ t24 : Option Addr, ∃ tl25 : Nat, ∃ tc26 : Nat, v23 = (.slice t24 tl25 tc26) ∧
       J7 t19 tl20 tc21 t14 tl15 tc16 t24 tl25 tc26 w23) ∧
     ∀ w17, Ext w13 w17 →
     Run Try.prog (.makeSlice 45 (.int .i64 ((tl1 : Int) + 1)) (.int .i64 ((tl1 : Int) + 1))) w17 fun v18 w18 =>
      Ext w17 w18 ∧
      ∃ t19 : Option Addr, ∃ tl20 : Nat, ∃ tc21 : Nat, v18 = (.slice t19 tl20 tc21) ∧
      ∀ w22, Ext w18 w22 →
      Run Try.prog (.makeSlice 31 (.int .i64 ((tl1 : Int) + 1)) (.int .i64 ((tl1 : Int) + 1))) w22 fun v23 w23 =>
       Ext w22 w23 ∧
       ∃ t24 : Option Addr, ∃ tl25 : Nat, ∃ tc26 : Nat, v23 = (.slice t24 tl25 tc26) ∧
       J7 t24 tl25 tc26 t14 tl15 tc16 t19 tl20 tc21 w23) ∧
    ∀ w12, Ext w6 w12 →
    Run Try.prog (.makeSlice 45 (.int .i64 ((tl1 : Int) + 1)) (.int .i64 ((tl1 : Int) + 1))) w12 fun v13 w13 =>
     Ext w12 w13 ∧
     ∃ t14 : Option Addr, ∃ tl15 : Nat, ∃ tc16 : Nat, v13 = (.slice t14 tl15 tc16) ∧
     (∀ w17, Ext w13 w17 →
     Run Try.prog (.makeSlice 31 (.int .i64 ((tl1 : Int) + 1)) (.int .i64 ((tl1 : Int) + 1))) w17 fun v18 w18 =>
      Ext w17 w18 ∧
      ∃ t19 : Option Addr, ∃ tl20 : Nat, ∃ tc21 : Nat, v18 = (.slice t19 tl20 tc21) ∧
      ∀ w22, Ext w18 w22 →
      Run Try.prog (.makeSlice 23 (.int .i64 ((tl1 : Int) + 1)) (.int .i64 ((tl1 : Int) + 1))) w22 fun v23 w23 =>
       Ext w22 w23 ∧
       ∃ t24 : Option Addr, ∃ tl25 : Nat, ∃ tc26 : Nat, v23 = (.slice t24 tl25 tc26) ∧
       J7 t19 tl20 tc21 t24 tl25 tc26 t14 tl15 tc16 w23) ∧
     ∀ w17, Ext w13 w17 →
     Run Try.prog (.makeSlice 23 (.int .i64 ((tl1 : Int) + 1)) (.int .i64 ((tl1 : Int) + 1))) w17 fun v18 w18 =>
      Ext w17 w18 ∧
      ∃ t19 : Option Addr, ∃ tl20 : Nat, ∃ tc21 : Nat, v18 = (.slice t19 tl20 tc21) ∧
      ∀ w22, Ext w18 w22 →
      Run Try.prog (.makeSlice 31 (.int .i64 ((tl1 : Int) + 1)) (.int .i64 ((tl1 : Int) + 1))) w22 fun v23 w23 =>
       Ext w22 w23 ∧
       ∃ t24 : Option Addr, ∃ tl25 : Nat, ∃ tc26 : Nat, v23 = (.slice t24 tl25 tc26) ∧
       J7 t24 tl25 tc26 t19 tl20 tc21 t14 tl15 tc16 w23) ∧
   ∀ (low8 : Option Addr) (lowl8 : Nat) (lowc8 : Nat) (from9 : Option Addr) (froml9 : Nat) (fromc9 : Nat) (seen10 : Option Addr) (seenl10 : Nat) (seenc10 : Nat) (w11 : World), J7 low8 lowl8 lowc8 from9 froml9 fromc9 seen10 seenl10 seenc10 w11 →
    ∃ (I12 : Int → World → Prop) (M12 : Int → World → Nat), I12 0 w11 ∧
    ∀ (k13 : Int) (w14 : World), I12 k13 w14 →
     ((k13 < (lowl8 : Int)) →
      low8 ≠ none ∧
      (0 : Int) ≤ k13 ∧
      (k13 : Int) < (lowl8 : Int) ∧
      Store w14 (pIdx low8 k13 1) [(.int .i64 1125899906842624)] [] fun w15 =>
       InR .i64 (k13 + 1) ∧
       (I12 (k13 + 1) w15 ∧ M12 (k13 + 1) w15 < M12 k13 w14)) ∧
     (((lowl8 : Int) ≤ k13) →
      ∃ (I15 : Int → World → Prop) (M15 : Int → World → Nat), I15 0 w14 ∧
      ∀ (at16 : Int) (w17 : World), I15 at16 w17 →
       s ≠ none ∧
       s ≠ none ∧
       ∃ t18 : Option Addr, ∃ tl19 : Nat, ∃ tc20 : Nat, cell w17 (pAdd s 3) 0 = some (.slice t18 tl19 tc20) ∧
       t18 ≠ none ∧
       (0 : Int) ≤ at16 ∧
       (at16 : Int) < (tl19 : Int) ∧
       ∃ t21 : Int, cell w17 (pIdx t18 at16 1) 0 = some (.int .i64 t21) ∧
       ((t21 ≠ 0) →
        seen10 ≠ none ∧
        (0 : Int) ≤ at16 ∧
        (at16 : Int) < (seenl10 : Int) ∧
        Store w17 (pIdx seen10 at16 1) [(.bool true)] [] fun w22 =>
         s ≠ none ∧
         s ≠ none ∧
         ∃ t23 : Option Addr, ∃ tl24 : Nat, ∃ tc25 : Nat, cell w22 (pAdd s 3) 0 = some (.slice t23 tl24 tc25) ∧
         t23 ≠ none ∧
         (0 : Int) ≤ at16 ∧
         (at16 : Int) < (tl24 : Int) ∧
         ∃ t26 : Int, cell w22 (pIdx t23 at16 1) 0 = some (.int .i64 t26) ∧
         ∃ (I27 : Int → Int → Int → World → Prop) (M27 : Int → Int → Int → World → Nat), I27 1125899906842624 0 1 w22 ∧
         ∀ (step28 : Int) (next29 : Int) (k30 : Int) (w31 : World), I27 step28 next29 k30 w31 →
          ((k30 ≤ (tl1 : Int)) →
           seen10 ≠ none ∧
           (0 : Int) ≤ k30 ∧
           (k30 : Int) < (seenl10 : Int) ∧
           ∃ t32 : Bool, cell w31 (pIdx seen10 k30 1) 0 = some (.bool t32) ∧
           ((t32 = true) →
            InR .i64 (k30 + 1) ∧
            (I27 step28 next29 (k30 + 1) w31 ∧ M27 step28 next29 (k30 + 1) w31 < M27 step28 next29 k30 w31)) ∧
           ((t32 = false) →
            s ≠ none ∧
            s ≠ none ∧
            ∃ t33 : Option Addr, ∃ tl34 : Nat, ∃ tc35 : Nat, cell w31 (pAdd s 0) 0 = some (.slice t33 tl34 tc35) ∧
            InR .i64 (t26 - 1) ∧
            t33 ≠ none ∧
            (0 : Int) ≤ (t26 - 1) ∧
            ((t26 - 1) : Int) < (tl34 : Int) ∧
            ∃ t36 : Option Addr, ∃ tl37 : Nat, ∃ tc38 : Nat, cell w31 (pIdx t33 (t26 - 1) 1) 0 = some (.slice t36 tl37 tc38) ∧
            InR .i64 (k30 - 1) ∧
            t36 ≠ none ∧
            (0 : Int) ≤ (k30 - 1) ∧
            ((k30 - 1) : Int) < (tl37 : Int) ∧
            ∃ t39 : Int, cell w31 (pIdx t36 (k30 - 1) 1) 0 = some (.int .i64 t39) ∧
            s ≠ none ∧
            s ≠ none ∧
            ∃ t40 : Option Addr, ∃ tl41 : Nat, ∃ tc42 : Nat, cell w31 (pAdd s 1) 0 = some (.slice t40 tl41 tc42) ∧
            t40 ≠ none ∧
            (0 : Int) ≤ t26 ∧
            (t26 : Int) < (tl41 : Int) ∧
            ∃ t43 : Int, cell w31 (pIdx t40 t26 1) 0 = some (.int .i64 t43) ∧
            InR .i64 (t39 - t43) ∧
            s ≠ none ∧
            s ≠ none ∧
            ∃ t44 : Option Addr, ∃ tl45 : Nat, ∃ tc46 : Nat, cell w31 (pAdd s 2) 0 = some (.slice t44 tl45 tc46) ∧
            t44 ≠ none ∧
            (0 : Int) ≤ k30 ∧
            (k30 : Int) < (tl45 : Int) ∧
            ∃ t47 : Int, cell w31 (pIdx t44 k30 1) 0 = some (.int .i64 t47) ∧
            InR .i64 ((t39 - t43) - t47) ∧
            low8 ≠ none ∧
            (0 : Int) ≤ k30 ∧
            (k30 : Int) < (lowl8 : Int) ∧
            ∃ t48 : Int, cell w31 (pIdx low8 k30 1) 0 = some (.int .i64 t48) ∧
            ((((t39 - t43) - t47) < t48) →
             low8 ≠ none ∧
             (0 : Int) ≤ k30 ∧
             (k30 : Int) < (lowl8 : Int) ∧
             Store w31 (pIdx low8 k30 1) [(.int .i64 ((t39 - t43) - t47))] [] fun w49 =>
              from9 ≠ none ∧
              (0 : Int) ≤ k30 ∧
              (k30 : Int) < (froml9 : Int) ∧
              Store w49 (pIdx from9 k30 1) [(.int .i64 at16)] [] fun w50 =>
               low8 ≠ none ∧
               (0 : Int) ≤ k30 ∧
               (k30 : Int) < (lowl8 : Int) ∧
               ∃ t51 : Int, cell w50 (pIdx low8 k30 1) 0 = some (.int .i64 t51) ∧
               ((t51 < step28) →
                low8 ≠ none ∧
                (0 : Int) ≤ k30 ∧
                (k30 : Int) < (lowl8 : Int) ∧
                ∃ t52 : Int, cell w50 (pIdx low8 k30 1) 0 = some (.int .i64 t52) ∧
                InR .i64 (k30 + 1) ∧
                (I27 t52 k30 (k30 + 1) w50 ∧ M27 t52 k30 (k30 + 1) w50 < M27 step28 next29 k30 w31)) ∧
               ((step28 ≤ t51) →
                InR .i64 (k30 + 1) ∧
                (I27 step28 next29 (k30 + 1) w50 ∧ M27 step28 next29 (k30 + 1) w50 < M27 step28 next29 k30 w31))) ∧
            ((t48 ≤ ((t39 - t43) - t47)) →
             low8 ≠ none ∧
             (0 : Int) ≤ k30 ∧
             (k30 : Int) < (lowl8 : Int) ∧
             ∃ t49 : Int, cell w31 (pIdx low8 k30 1) 0 = some (.int .i64 t49) ∧
             ((t49 < step28) →
              low8 ≠ none ∧
              (0 : Int) ≤ k30 ∧
              (k30 : Int) < (lowl8 : Int) ∧
              ∃ t50 : Int, cell w31 (pIdx low8 k30 1) 0 = some (.int .i64 t50) ∧
              InR .i64 (k30 + 1) ∧
              (I27 t50 k30 (k30 + 1) w31 ∧ M27 t50 k30 (k30 + 1) w31 < M27 step28 next29 k30 w31)) ∧
             ((step28 ≤ t49) →
              InR .i64 (k30 + 1) ∧
              (I27 step28 next29 (k30 + 1) w31 ∧ M27 step28 next29 (k30 + 1) w31 < M27 step28 next29 k30 w31))))) ∧
          (((tl1 : Int) < k30) →
           ∃ (I32 : Int → World → Prop) (M32 : Int → World → Nat), I32 0 w31 ∧
           ∀ (k33 : Int) (w34 : World), I32 k33 w34 →
            ((k33 ≤ (tl1 : Int)) →
             seen10 ≠ none ∧
             (0 : Int) ≤ k33 ∧
             (k33 : Int) < (seenl10 : Int) ∧
             ∃ t35 : Bool, cell w34 (pIdx seen10 k33 1) 0 = some (.bool t35) ∧
             ((t35 = true) →
              s ≠ none ∧
              s ≠ none ∧
              ∃ t36 : Option Addr, ∃ tl37 : Nat, ∃ tc38 : Nat, cell w34 (pAdd s 1) 0 = some (.slice t36 tl37 tc38) ∧
              s ≠ none ∧
              s ≠ none ∧
              ∃ t39 : Option Addr, ∃ tl40 : Nat, ∃ tc41 : Nat, cell w34 (pAdd s 3) 0 = some (.slice t39 tl40 tc41) ∧
              t39 ≠ none ∧
              (0 : Int) ≤ k33 ∧
              (k33 : Int) < (tl40 : Int) ∧
              ∃ t42 : Int, cell w34 (pIdx t39 k33 1) 0 = some (.int .i64 t42) ∧
              t36 ≠ none ∧
              (0 : Int) ≤ t42 ∧
              (t42 : Int) < (tl37 : Int) ∧
              ∃ t43 : Int, cell w34 (pIdx t36 t42 1) 0 = some (.int .i64 t43) ∧
              InR .i64 (t43 + step28) ∧
              t36 ≠ none ∧
              (0 : Int) ≤ t42 ∧
              (t42 : Int) < (tl37 : Int) ∧
              Store w34 (pIdx t36 t42 1) [(.int .i64 (t43 + step28))] [] fun w44 =>
               s ≠ none ∧
               s ≠ none ∧
               ∃ t45 : Option Addr, ∃ tl46 : Nat, ∃ tc47 : Nat, cell w44 (pAdd s 2) 0 = some (.slice t45 tl46 tc47) ∧
               t45 ≠ none ∧
               (0 : Int) ≤ k33 ∧
               (k33 : Int) < (tl46 : Int) ∧
               ∃ t48 : Int, cell w44 (pIdx t45 k33 1) 0 = some (.int .i64 t48) ∧
               InR .i64 (t48 - step28) ∧
               t45 ≠ none ∧
               (0 : Int) ≤ k33 ∧
               (k33 : Int) < (tl46 : Int) ∧
               Store w44 (pIdx t45 k33 1) [(.int .i64 (t48 - step28))] [] fun w49 =>
                InR .i64 (k33 + 1) ∧
                (I32 (k33 + 1) w49 ∧ M32 (k33 + 1) w49 < M32 k33 w34)) ∧
             ((t35 = false) →
              low8 ≠ none ∧
              (0 : Int) ≤ k33 ∧
              (k33 : Int) < (lowl8 : Int) ∧
              ∃ t36 : Int, cell w34 (pIdx low8 k33 1) 0 = some (.int .i64 t36) ∧
              InR .i64 (t36 - step28) ∧
              low8 ≠ none ∧
              (0 : Int) ≤ k33 ∧
              (k33 : Int) < (lowl8 : Int) ∧
              Store w34 (pIdx low8 k33 1) [(.int .i64 (t36 - step28))] [] fun w37 =>
               InR .i64 (k33 + 1) ∧
               (I32 (k33 + 1) w37 ∧ M32 (k33 + 1) w37 < M32 k33 w34))) ∧
            (((tl1 : Int) < k33) →
             (I15 next29 w34 ∧ M15 next29 w34 < M15 at16 w17)))) ∧
       ((t21 = 0) →
        ∃ (I22 : Int → World → Prop) (M22 : Int → World → Nat), I22 at16 w17 ∧
        ∀ (at23 : Int) (w24 : World), I22 at23 w24 →
         ((at23 ≠ 0) →
          s ≠ none ∧
          s ≠ none ∧
          ∃ t25 : Option Addr, ∃ tl26 : Nat, ∃ tc27 : Nat, cell w24 (pAdd s 3) 0 = some (.slice t25 tl26 tc27) ∧
          s ≠ none ∧
          s ≠ none ∧
          ∃ t28 : Option Addr, ∃ tl29 : Nat, ∃ tc30 : Nat, cell w24 (pAdd s 3) 0 = some (.slice t28 tl29 tc30) ∧
          from9 ≠ none ∧
          (0 : Int) ≤ at23 ∧
          (at23 : Int) < (froml9 : Int) ∧
          ∃ t31 : Int, cell w24 (pIdx from9 at23 1) 0 = some (.int .i64 t31) ∧
          t28 ≠ none ∧
          (0 : Int) ≤ t31 ∧
          (t31 : Int) < (tl29 : Int) ∧
          ∃ t32 : Int, cell w24 (pIdx t28 t31 1) 0 = some (.int .i64 t32) ∧
          t25 ≠ none ∧
          (0 : Int) ≤ at23 ∧
          (at23 : Int) < (tl26 : Int) ∧
          Store w24 (pIdx t25 at23 1) [(.int .i64 t32)] [] fun w33 =>
           from9 ≠ none ∧
           (0 : Int) ≤ at23 ∧
           (at23 : Int) < (froml9 : Int) ∧
           ∃ t34 : Int, cell w33 (pIdx from9 at23 1) 0 = some (.int .i64 t34) ∧
           (I22 t34 w33 ∧ M22 t34 w33 < M22 at23 w24)) ∧
         ((at23 = 0) →
          ∀ w25, Ext w24 w25 →
          Q (.tuple #[]) w25)))

theorem ok_assign_solver_one (s : Option Addr) (i : Int) (w : World) (Q : Value → World → Prop) (h : wp_assign_solver_one s i w Q) : FnP Try.prog F_assign_solver_one #[(.pointer s), (.int .i64 i)] w Q := by
  have e_ : wp_assign_solver_one s i w Q = Runs Try.prog Q ({ N := 190, wrap := [], pub := [], muts := [] } : Cfg) Try.f16 (Try.f16.body.getD .skip) [.sc (.ptr s), .sc (.int .i64 i)] w := by kernel_rfl
  rw [e_] at h
  exact runs_fn h Try.func16 (by kernel_rfl) (fun args w => Try.call16 args w) (by kernel_rfl) (by kernel_rfl) rfl rfl

/-- shiftbell/assign.Least -/
def wp_assign_Least (c : Option Addr) (cl : Nat) (cc : Nat) (w : World) (Q : Value → World → Prop) : Prop :=
  ∀ w0, Ext w w0 →
  FnP Try.prog F_assign_Check #[(.slice c cl cc)] w0 fun v1 w1 =>
   Ext w0 w1 ∧
   ∃ t2 : Int, v1 = (.int .i64 t2) ∧
   ((t2 ≠ 0) →
    ∀ w3, Ext w w3 →
    Q (.tuple #[(.slice none 0 0), (.int .i64 0), (.int .i64 t2)]) w3) ∧
   ((t2 = 0) →
    ∀ w3, Ext w w3 →
    FnP Try.prog F_assign_solve #[(.slice c cl cc)] w3 fun v4 w4 =>
     Ext w3 w4 ∧
     ∃ t5 : Option Addr, v4 = (.pointer t5) ∧
     ∀ w6, Ext w4 w6 →
     Run Try.prog (.makeSlice 23 (.int .i64 (cl : Int)) (.int .i64 (cl : Int))) w6 fun v7 w7 =>
      Ext w6 w7 ∧
      ∃ t8 : Option Addr, ∃ tl9 : Nat, ∃ tc10 : Nat, v7 = (.slice t8 tl9 tc10) ∧
      ∃ (I11 : Int → World → Prop) (M11 : Int → World → Nat), I11 1 w7 ∧
      ∀ (k12 : Int) (w13 : World), I11 k12 w13 →
       ((k12 ≤ (cl : Int)) →
        t5 ≠ none ∧
        t5 ≠ none ∧
        ∃ t14 : Option Addr, ∃ tl15 : Nat, ∃ tc16 : Nat, cell w13 (pAdd t5 3) 0 = some (.slice t14 tl15 tc16) ∧
        t14 ≠ none ∧
        (0 : Int) ≤ k12 ∧
        (k12 : Int) < (tl15 : Int) ∧
        ∃ t17 : Int, cell w13 (pIdx t14 k12 1) 0 = some (.int .i64 t17) ∧
        InR .i64 (t17 - 1) ∧
        InR .i64 (k12 - 1) ∧
        t8 ≠ none ∧
        (0 : Int) ≤ (t17 - 1) ∧
        ((t17 - 1) : Int) < (tl9 : Int) ∧
        Store w13 (pIdx t8 (t17 - 1) 1) [(.int .i64 (k12 - 1))] [] fun w18 =>
         InR .i64 (k12 + 1) ∧
         (I11 (k12 + 1) w18 ∧ M11 (k12 + 1) w18 < M11 k12 w13)) ∧
       (((cl : Int) < k12) →
        ∀ w14, Ext w13 w14 →
        FnP Try.prog F_assign_Cost #[(.slice c cl cc), (.slice t8 tl9 tc10)] w14 fun v15 w15 =>
         Ext w14 w15 ∧
         ∃ t16 : Int, ∃ t17 : Int, v15 = (.tuple #[(.int .i64 t16), (.int .i64 t17)]) ∧
         ∀ w18, Ext w13 w18 →
         Q (.tuple #[(.slice t8 tl9 tc10), (.int .i64 t16), (.int .i64 0)]) w18))

theorem ok_assign_Least (c : Option Addr) (cl : Nat) (cc : Nat) (w : World) (Q : Value → World → Prop) (h : wp_assign_Least c cl cc w Q) : FnP Try.prog F_assign_Least #[(.slice c cl cc)] w Q := by
  have e_ : wp_assign_Least c cl cc w Q = Runs Try.prog Q ({ N := 47, wrap := [], pub := [], muts := [] } : Cfg) Try.f8 (Try.f8.body.getD .skip) [.sc (.slc c cl cc)] w := by kernel_rfl
  rw [e_] at h
  exact runs_fn h Try.func8 (by kernel_rfl) (fun args w => Try.call8 args w) (by kernel_rfl) (by kernel_rfl) rfl rfl

/-- shiftbell/assign.Prices -/
def wp_assign_Prices (c : Option Addr) (cl : Nat) (cc : Nat) (w : World) (Q : Value → World → Prop) : Prop :=
  ∀ w0, Ext w w0 →
  FnP Try.prog F_assign_Check #[(.slice c cl cc)] w0 fun v1 w1 =>
   Ext w0 w1 ∧
   ∃ t2 : Int, v1 = (.int .i64 t2) ∧
   ((t2 ≠ 0) →
    ∀ w3, Ext w w3 →
    Q (.tuple #[(.slice none 0 0), (.slice none 0 0), (.int .i64 t2)]) w3) ∧
   ((t2 = 0) →
    ∀ w3, Ext w w3 →
    FnP Try.prog F_assign_solve #[(.slice c cl cc)] w3 fun v4 w4 =>
     Ext w3 w4 ∧
     ∃ t5 : Option Addr, v4 = (.pointer t5) ∧
     ∃ (J6 : Option Addr → Nat → Nat → Option Addr → Nat → Nat → Int → World → Prop), (t5 ≠ none ∧
      t5 ≠ none ∧
      ∃ t11 : Option Addr, ∃ tl12 : Nat, ∃ tc13 : Nat, cell w4 (pAdd t5 1) 0 = some (.slice t11 tl12 tc13) ∧
      (0 : Int) ≤ 1 ∧
      (1 : Int) ≤ (tl12 : Int) ∧
      ((tl12 : Int) : Int) ≤ (tc13 : Int) ∧
      t5 ≠ none ∧
      t5 ≠ none ∧
      (∀ w14, Ext w4 w14 →
      Run Try.prog (.append #[31, 31] 31 [(.slice none 0 0), (.slice (pCut t11 tc13 1 1) ((tl12 : Int) - 1).toNat (tc13 - (1 : Int).toNat))]) w14 fun v15 w15 =>
       ∃ t16 : Option Addr, ∃ tl17 : Nat, ∃ tc18 : Nat, v15 = (.slice t16 tl17 tc18) ∧
       ∃ t19 : Option Addr, ∃ tl20 : Nat, ∃ tc21 : Nat, cell w15 (pAdd t5 2) 0 = some (.slice t19 tl20 tc21) ∧
       (0 : Int) ≤ 1 ∧
       (1 : Int) ≤ (tl20 : Int) ∧
       ((tl20 : Int) : Int) ≤ (tc21 : Int) ∧
       ∀ w22, Ext w15 w22 →
       Run Try.prog (.append #[31, 31] 31 [(.slice none 0 0), (.slice (pCut t19 tc21 1 1) ((tl20 : Int) - 1).toNat (tc21 - (1 : Int).toNat))]) w22 fun v23 w23 =>
        ∃ t24 : Option Addr, ∃ tl25 : Nat, ∃ tc26 : Nat, v23 = (.slice t24 tl25 tc26) ∧
        J6 t16 tl17 tc18 t24 tl25 tc26 0 w23) ∧
      ∃ t14 : Option Addr, ∃ tl15 : Nat, ∃ tc16 : Nat, cell w4 (pAdd t5 2) 0 = some (.slice t14 tl15 tc16) ∧
      (0 : Int) ≤ 1 ∧
      (1 : Int) ≤ (tl15 : Int) ∧
      ((tl15 : Int) : Int) ≤ (tc16 : Int) ∧
      ∀ w17, Ext w4 w17 →
      Run Try.prog (.append #[31, 31] 31 [(.slice none 0 0), (.slice (pCut t11 tc13 1 1) ((tl12 : Int) - 1).toNat (tc13 - (1 : Int).toNat))]) w17 fun v18 w18 =>
       ∃ t19 : Option Addr, ∃ tl20 : Nat, ∃ tc21 : Nat, v18 = (.slice t19 tl20 tc21) ∧
       ∀ w22, Ext w18 w22 →
       Run Try.prog (.append #[31, 31] 31 [(.slice none 0 0), (.slice (pCut t14 tc16 1 1) ((tl15 : Int) - 1).toNat (tc16 - (1 : Int).toNat))]) w22 fun v23 w23 =>
        ∃ t24 : Option Addr, ∃ tl25 : Nat, ∃ tc26 : Nat, v23 = (.slice t24 tl25 tc26) ∧
        J6 t19 tl20 tc21 t24 tl25 tc26 0 w23) ∧
     ∀ (k7 : Option Addr) (kl7 : Nat) (kc7 : Nat) (k8 : Option Addr) (kl8 : Nat) (kc8 : Nat) (k9 : Int) (w10 : World), J6 k7 kl7 kc7 k8 kl8 kc8 k9 w10 →
      ∀ w11, Ext w10 w11 →
      Q (.tuple #[(.slice k7 kl7 kc7), (.slice k8 kl8 kc8), (.int .i64 k9)]) w11)

theorem ok_assign_Prices (c : Option Addr) (cl : Nat) (cc : Nat) (w : World) (Q : Value → World → Prop) (h : wp_assign_Prices c cl cc w Q) : FnP Try.prog F_assign_Prices #[(.slice c cl cc)] w Q := by
  have e_ : wp_assign_Prices c cl cc w Q = Runs Try.prog Q ({ N := 26, wrap := [], pub := [], muts := [] } : Cfg) Try.f10 (Try.f10.body.getD .skip) [.sc (.slc c cl cc)] w := by kernel_rfl
  rw [e_] at h
  exact runs_fn h Try.func10 (by kernel_rfl) (fun args w => Try.call10 args w) (by kernel_rfl) (by kernel_rfl) rfl rfl

/-- shiftbell/shiftbellkeep.sum -/
def wp_shiftbellkeep_sum (l : Option Addr) (ll : Nat) (lc : Nat) (w : World) (Q : Value → World → Prop) : Prop :=
  ∃ (I0 : Int → Int → World → Prop) (M0 : Int → Int → World → Nat), I0 0 0 w ∧
  ∀ (n1 : Int) (k2 : Int) (w3 : World), I0 n1 k2 w3 →
   ((k2 < (ll : Int)) →
    l ≠ none ∧
    (0 : Int) ≤ k2 ∧
    (k2 : Int) < (ll : Int) ∧
    ∃ t4 : Int, cell w3 (pIdx l k2 1) 0 = some (.int .i64 t4) ∧
    InR .i64 (n1 + t4) ∧
    InR .i64 (k2 + 1) ∧
    (I0 (n1 + t4) (k2 + 1) w3 ∧ M0 (n1 + t4) (k2 + 1) w3 < M0 n1 k2 w3)) ∧
   (((ll : Int) ≤ k2) →
    ∀ w4, Ext w3 w4 →
    Q (.int .i64 n1) w4)

theorem ok_shiftbellkeep_sum (l : Option Addr) (ll : Nat) (lc : Nat) (w : World) (Q : Value → World → Prop) (h : wp_shiftbellkeep_sum l ll lc w Q) : FnP Try.prog F_shiftbellkeep_sum #[(.slice l ll lc)] w Q := by
  have e_ : wp_shiftbellkeep_sum l ll lc w Q = Runs Try.prog Q ({ N := 17, wrap := [], pub := [], muts := [] } : Cfg) Try.f11 (Try.f11.body.getD .skip) [.sc (.slc l ll lc)] w := by kernel_rfl
  rw [e_] at h
  exact runs_fn h Try.func11 (by kernel_rfl) (fun args w => Try.call11 args w) (by kernel_rfl) (by kernel_rfl) rfl rfl

/-- shiftbell/shiftbellkeep.assigns -/
def wp_shiftbellkeep_assigns  (w : World) (Q : Value → World → Prop) : Prop :=
  ∀ w0, Ext w w0 →
  Run Try.prog (.buildSlice 31 1 [(0, (.int .i64 7))]) w0 fun v1 w1 =>
   Ext w0 w1 ∧
   ∃ t2 : Option Addr, ∃ tl3 : Nat, ∃ tc4 : Nat, v1 = (.slice t2 tl3 tc4) ∧
   ∀ w5, Ext w1 w5 →
   Run Try.prog (.buildSlice 22 1 [(0, (.slice t2 tl3 tc4))]) w5 fun v6 w6 =>
    Ext w5 w6 ∧
    ∃ t7 : Option Addr, ∃ tl8 : Nat, ∃ tc9 : Nat, v6 = (.slice t7 tl8 tc9) ∧
    ∀ w10, Ext w6 w10 →
    FnP Try.prog F_assign_Least #[(.slice t7 tl8 tc9)] w10 fun v11 w11 =>
     Ext w10 w11 ∧
     ∃ t12 : Option Addr, ∃ tl13 : Nat, ∃ tc14 : Nat, ∃ t15 : Int, ∃ t16 : Int, v11 = (.tuple #[(.slice t12 tl13 tc14), (.int .i64 t15), (.int .i64 t16)]) ∧
     ∀ w17, Ext w11 w17 →
     Q (.bool ((decide (t16 = 0)) && (decide (t15 = 7)))) w17

theorem ok_shiftbellkeep_assigns  (w : World) (Q : Value → World → Prop) (h : wp_shiftbellkeep_assigns  w Q) : FnP Try.prog F_shiftbellkeep_assigns #[] w Q := by
  have e_ : wp_shiftbellkeep_assigns  w Q = Runs Try.prog Q ({ N := 17, wrap := [], pub := [], muts := [] } : Cfg) Try.f7 (Try.f7.body.getD .skip) [] w := by kernel_rfl
  rw [e_] at h
  exact runs_fn h Try.func7 (by kernel_rfl) (fun args w => Try.call7 args w) (by kernel_rfl) (by kernel_rfl) rfl rfl

/-- slices.Clone[[][]int64,[]int64] -/
def wp_slices_Clone_SS_int64_int64 (s : Option Addr) (sl : Nat) (sc : Nat) (w : World) (Q : Value → World → Prop) : Prop :=
  ((s = none) →
   ∀ w0, Ext w w0 →
   Q (.slice none 0 0) w0) ∧
  ((s ≠ none) →
   ∀ w0, Ext w w0 →
   Run Try.prog (.buildSlice 22 0 []) w0 fun v1 w1 =>
    Ext w0 w1 ∧
    ∃ t2 : Option Addr, ∃ tl3 : Nat, ∃ tc4 : Nat, v1 = (.slice t2 tl3 tc4) ∧
    ∀ w5, Ext w1 w5 →
    Run Try.prog (.append #[22, 22] 22 [(.slice t2 tl3 tc4), (.slice s sl sc)]) w5 fun v6 w6 =>
     ∃ t7 : Option Addr, ∃ tl8 : Nat, ∃ tc9 : Nat, v6 = (.slice t7 tl8 tc9) ∧
     ∀ w10, Ext w6 w10 →
     Q (.slice t7 tl8 tc9) w10)

theorem ok_slices_Clone_SS_int64_int64 (s : Option Addr) (sl : Nat) (sc : Nat) (w : World) (Q : Value → World → Prop) (h : wp_slices_Clone_SS_int64_int64 s sl sc w Q) : FnP Try.prog F_slices_Clone_SS_int64_int64 #[(.slice s sl sc)] w Q := by
  have e_ : wp_slices_Clone_SS_int64_int64 s sl sc w Q = Runs Try.prog Q ({ N := 8, wrap := [], pub := [], muts := [] } : Cfg) Try.f12 (Try.f12.body.getD .skip) [.sc (.slc s sl sc)] w := by kernel_rfl
  rw [e_] at h
  exact runs_fn h Try.func12 (by kernel_rfl) (fun args w => Try.call12 args w) (by kernel_rfl) (by kernel_rfl) rfl rfl

/-- slices.Clone[[]int64,int64] -/
def wp_slices_Clone_int64_int64 (s : Option Addr) (sl : Nat) (sc : Nat) (w : World) (Q : Value → World → Prop) : Prop :=
  ((s = none) →
   ∀ w0, Ext w w0 →
   Q (.slice none 0 0) w0) ∧
  ((s ≠ none) →
   ∀ w0, Ext w w0 →
   Run Try.prog (.buildSlice 31 0 []) w0 fun v1 w1 =>
    Ext w0 w1 ∧
    ∃ t2 : Option Addr, ∃ tl3 : Nat, ∃ tc4 : Nat, v1 = (.slice t2 tl3 tc4) ∧
    ∀ w5, Ext w1 w5 →
    Run Try.prog (.append #[31, 31] 31 [(.slice t2 tl3 tc4), (.slice s sl sc)]) w5 fun v6 w6 =>
     ∃ t7 : Option Addr, ∃ tl8 : Nat, ∃ tc9 : Nat, v6 = (.slice t7 tl8 tc9) ∧
     ∀ w10, Ext w6 w10 →
     Q (.slice t7 tl8 tc9) w10)

theorem ok_slices_Clone_int64_int64 (s : Option Addr) (sl : Nat) (sc : Nat) (w : World) (Q : Value → World → Prop) (h : wp_slices_Clone_int64_int64 s sl sc w Q) : FnP Try.prog F_slices_Clone_int64_int64 #[(.slice s sl sc)] w Q := by
  have e_ : wp_slices_Clone_int64_int64 s sl sc w Q = Runs Try.prog Q ({ N := 8, wrap := [], pub := [], muts := [] } : Cfg) Try.f13 (Try.f13.body.getD .skip) [.sc (.slc s sl sc)] w := by kernel_rfl
  rw [e_] at h
  exact runs_fn h Try.func13 (by kernel_rfl) (fun args w => Try.call13 args w) (by kernel_rfl) (by kernel_rfl) rfl rfl

/-- shiftbell/shiftbellkeep.AssignLeast -/
def wp_shiftbellkeep_AssignLeast (c : Option Addr) (cl : Nat) (cc : Nat) (to : Option Addr) (tol : Nat) (toc : Nat) (w : World) (Q : Value → World → Prop) : Prop :=
  ∀ w0, Ext w w0 →
  FnP Try.prog F_shiftbellkeep_assigns #[] w0 fun v1 w1 =>
   Ext w0 w1 ∧
   ∃ t2 : Bool, v1 = (.bool t2) ∧
   ((t2 = false) →
    ∀ w3, Ext w w3 →
    Q (.bool false) w3) ∧
   ((t2 = true) →
    ∀ w3, Ext w w3 →
    FnP Try.prog F_assign_Least #[(.slice c cl cc)] w3 fun v4 w4 =>
     Ext w3 w4 ∧
     ∃ t5 : Option Addr, ∃ tl6 : Nat, ∃ tc7 : Nat, ∃ t8 : Int, ∃ t9 : Int, v4 = (.tuple #[(.slice t5 tl6 tc7), (.int .i64 t8), (.int .i64 t9)]) ∧
     ∀ w10, Ext w4 w10 →
     FnP Try.prog F_assign_Cost #[(.slice c cl cc), (.slice to tol toc)] w10 fun v11 w11 =>
      Ext w10 w11 ∧
      ∃ t12 : Int, ∃ t13 : Int, v11 = (.tuple #[(.int .i64 t12), (.int .i64 t13)]) ∧
      ((t9 ≠ 0) →
       ∀ w14, Ext w4 w14 →
       Q (.bool (((decide ((tl6 : Int) = 0)) && (decide (t8 = 0))) && (decide (t13 = t9)))) w14) ∧
      ((t9 = 0) →
       ∀ w14, Ext w4 w14 →
       FnP Try.prog F_assign_Cost #[(.slice c cl cc), (.slice t5 tl6 tc7)] w14 fun v15 w15 =>
        Ext w14 w15 ∧
        ∃ t16 : Int, ∃ t17 : Int, v15 = (.tuple #[(.int .i64 t16), (.int .i64 t17)]) ∧
        ∀ w18, Ext w4 w18 →
        Q (.bool (((decide (t17 = 0)) && (decide (t16 = t8))) && ((decide (t13 ≠ 0)) || (decide (t8 ≤ t12))))) w18))

theorem ok_shiftbellkeep_AssignLeast (c : Option Addr) (cl : Nat) (cc : Nat) (to : Option Addr) (tol : Nat) (toc : Nat) (w : World) (Q : Value → World → Prop) (h : wp_shiftbellkeep_AssignLeast c cl cc to tol toc w Q) : FnP Try.prog F_shiftbellkeep_AssignLeast #[(.slice c cl cc), (.slice to tol toc)] w Q := by
  have e_ : wp_shiftbellkeep_AssignLeast c cl cc to tol toc w Q = Runs Try.prog Q ({ N := 62, wrap := [], pub := [], muts := [] } : Cfg) Try.f3 (Try.f3.body.getD .skip) [.sc (.slc c cl cc), .sc (.slc to tol toc)] w := by kernel_rfl
  rw [e_] at h
  exact runs_fn h Try.func3 (by kernel_rfl) (fun args w => Try.call3 args w) (by kernel_rfl) (by kernel_rfl) rfl rfl

theorem open_shiftbellkeep_AssignLeast (W : World) (R : Array Value → Prop) (h : ∀ c : Option Addr, ∀ cl : Nat, ∀ cc : Nat, SlcArg Try.prog W 31 c cl cc → ∀ to : Option Addr, ∀ tol : Nat, ∀ toc : Nat, SlcArg Try.prog W 3 to tol toc → R #[(.slice c cl cc), (.slice to tol toc)]) (args : Array Value) (hg : GoodAll Try.prog W Try.f3.params.toList args.toList) : R args := by
  have e_ : (ArgsAll Try.prog W Try.f3.params.toList fun l => R l.toArray) = (∀ c : Option Addr, ∀ cl : Nat, ∀ cc : Nat, SlcArg Try.prog W 31 c cl cc → ∀ to : Option Addr, ∀ tol : Nat, ∀ toc : Nat, SlcArg Try.prog W 3 to tol toc → R #[(.slice c cl cc), (.slice to tol toc)]) := by kernel_rfl
  exact args_open (by rw [e_]; exact h) args hg
-- wit 3 #[(.slice none 0 0), (.slice none 0 0)]

/-- shiftbell/shiftbellkeep.AssignPrices -/
def wp_shiftbellkeep_AssignPrices (c : Option Addr) (cl : Nat) (cc : Nat) (i : Int) (k : Int) (w : World) (Q : Value → World → Prop) : Prop :=
  ∀ w0, Ext w w0 →
  FnP Try.prog F_shiftbellkeep_assigns #[] w0 fun v1 w1 =>
   Ext w0 w1 ∧
   ∃ t2 : Bool, v1 = (.bool t2) ∧
   ((t2 = false) →
    ∀ w3, Ext w w3 →
    Q (.bool false) w3) ∧
   ((t2 = true) →
    ∀ w3, Ext w w3 →
    FnP Try.prog F_assign_Prices #[(.slice c cl cc)] w3 fun v4 w4 =>
     Ext w3 w4 ∧
     ∃ t5 : Option Addr, ∃ tl6 : Nat, ∃ tc7 : Nat, ∃ t8 : Option Addr, ∃ tl9 : Nat, ∃ tc10 : Nat, ∃ t11 : Int, v4 = (.tuple #[(.slice t5 tl6 tc7), (.slice t8 tl9 tc10), (.int .i64 t11)]) ∧
     ∀ w12, Ext w4 w12 →
     FnP Try.prog F_assign_Least #[(.slice c cl cc)] w12 fun v13 w13 =>
      Ext w12 w13 ∧
      ∃ t14 : Option Addr, ∃ tl15 : Nat, ∃ tc16 : Nat, ∃ t17 : Int, ∃ t18 : Int, v13 = (.tuple #[(.slice t14 tl15 tc16), (.int .i64 t17), (.int .i64 t18)]) ∧
      ((((t11 ≠ 0) ∨ ((tl6 : Int) ≠ (cl : Int))) ∨ ((tl9 : Int) ≠ (cl : Int))) →
       (((t11 ≠ 0) ∧ (t11 = t18)) →
        InR .i64 ((tl6 : Int) + (tl9 : Int))) ∧
       ∀ w19, Ext w13 w19 →
       Q (.bool (((decide (t11 ≠ 0)) && (decide (t11 = t18))) && (decide (((tl6 : Int) + (tl9 : Int)) = 0)))) w19) ∧
      ((((t11 = 0) ∧ ((tl6 : Int) = (cl : Int))) ∧ ((tl9 : Int) = (cl : Int))) →
       ((t18 = 0) →
        ∀ w19, Ext w13 w19 →
        FnP Try.prog F_shiftbellkeep_sum #[(.slice t5 tl6 tc7)] w19 fun v20 w20 =>
         Ext w19 w20 ∧
         ∃ t21 : Int, v20 = (.int .i64 t21) ∧
         ∀ w22, Ext w13 w22 →
         FnP Try.prog F_shiftbellkeep_sum #[(.slice t8 tl9 tc10)] w22 fun v23 w23 =>
          Ext w22 w23 ∧
          ∃ t24 : Int, v23 = (.int .i64 t24) ∧
          InR .i64 (t21 + t24) ∧
          (((t21 + t24) = t17) →
           (((((0 ≤ i) ∧ (i < (cl : Int))) ∧ (0 ≤ k)) ∧ (k < (cl : Int))) →
            t5 ≠ none)) ∧
          (((t21 + t24) = t17) →
           (((((0 ≤ i) ∧ (i < (cl : Int))) ∧ (0 ≤ k)) ∧ (k < (cl : Int))) →
            (0 : Int) ≤ i)) ∧
          (((t21 + t24) = t17) →
           (((((0 ≤ i) ∧ (i < (cl : Int))) ∧ (0 ≤ k)) ∧ (k < (cl : Int))) →
            (i : Int) < (tl6 : Int))) ∧
          (((t21 + t24) = t17) →
           (((((i < 0) ∨ ((cl : Int) ≤ i)) ∨ (k < 0)) ∨ ((cl : Int) ≤ k)) →
            ∀ w25, Ext w13 w25 →
            Q (.bool true) w25) ∧
           (((((0 ≤ i) ∧ (i < (cl : Int))) ∧ (0 ≤ k)) ∧ (k < (cl : Int))) →
            ∃ t25 : Int, cell w13 (pIdx t5 i 1) 0 = some (.int .i64 t25) ∧
            t8 ≠ none ∧
            (0 : Int) ≤ k ∧
            (k : Int) < (tl9 : Int) ∧
            ∃ t26 : Int, cell w13 (pIdx t8 k 1) 0 = some (.int .i64 t26) ∧
            InR .i64 (t25 + t26) ∧
            c ≠ none ∧
            (0 : Int) ≤ i ∧
            (i : Int) < (cl : Int) ∧
            ∃ t27 : Option Addr, ∃ tl28 : Nat, ∃ tc29 : Nat, cell w13 (pIdx c i 1) 0 = some (.slice t27 tl28 tc29) ∧
            t27 ≠ none ∧
            (0 : Int) ≤ k ∧
            (k : Int) < (tl28 : Int) ∧
            ∃ t30 : Int, cell w13 (pIdx t27 k 1) 0 = some (.int .i64 t30) ∧
            ∀ w31, Ext w13 w31 →
            Q (.bool (decide ((t25 + t26) ≤ t30))) w31)) ∧
          (((t21 + t24) ≠ t17) →
           ∀ w25, Ext w13 w25 →
           Q (.bool false) w25)) ∧
       ((t18 ≠ 0) →
        ∀ w19, Ext w13 w19 →
        Q (.bool false) w19)))

theorem ok_shiftbellkeep_AssignPrices (c : Option Addr) (cl : Nat) (cc : Nat) (i : Int) (k : Int) (w : World) (Q : Value → World → Prop) (h : wp_shiftbellkeep_AssignPrices c cl cc i k w Q) : FnP Try.prog F_shiftbellkeep_AssignPrices #[(.slice c cl cc), (.int .i64 i), (.int .i64 k)] w Q := by
  have e_ : wp_shiftbellkeep_AssignPrices c cl cc i k w Q = Runs Try.prog Q ({ N := 108, wrap := [], pub := [], muts := [] } : Cfg) Try.f5 (Try.f5.body.getD .skip) [.sc (.slc c cl cc), .sc (.int .i64 i), .sc (.int .i64 k)] w := by kernel_rfl
  rw [e_] at h
  exact runs_fn h Try.func5 (by kernel_rfl) (fun args w => Try.call5 args w) (by kernel_rfl) (by kernel_rfl) rfl rfl

theorem open_shiftbellkeep_AssignPrices (W : World) (R : Array Value → Prop) (h : ∀ c : Option Addr, ∀ cl : Nat, ∀ cc : Nat, SlcArg Try.prog W 31 c cl cc → ∀ i : Int, InR .i64 i → ∀ k : Int, InR .i64 k → R #[(.slice c cl cc), (.int .i64 i), (.int .i64 k)]) (args : Array Value) (hg : GoodAll Try.prog W Try.f5.params.toList args.toList) : R args := by
  have e_ : (ArgsAll Try.prog W Try.f5.params.toList fun l => R l.toArray) = (∀ c : Option Addr, ∀ cl : Nat, ∀ cc : Nat, SlcArg Try.prog W 31 c cl cc → ∀ i : Int, InR .i64 i → ∀ k : Int, InR .i64 k → R #[(.slice c cl cc), (.int .i64 i), (.int .i64 k)]) := by kernel_rfl
  exact args_open (by rw [e_]; exact h) args hg
-- wit 5 #[(.slice none 0 0), (.int .i64 0), (.int .i64 0)]

/-- shiftbell/shiftbellkeep.AssignTurned -/
def wp_shiftbellkeep_AssignTurned (c : Option Addr) (cl : Nat) (cc : Nat) (w : World) (Q : Value → World → Prop) : Prop :=
  ∀ w0, Ext w w0 →
  FnP Try.prog F_shiftbellkeep_assigns #[] w0 fun v1 w1 =>
   Ext w0 w1 ∧
   ∃ t2 : Bool, v1 = (.bool t2) ∧
   ((t2 = false) →
    ∀ w3, Ext w w3 →
    Q (.bool false) w3) ∧
   ((t2 = true) →
    ∀ w3, Ext w w3 →
    FnP Try.prog F_assign_Least #[(.slice c cl cc)] w3 fun v4 w4 =>
     Ext w3 w4 ∧
     ∃ t5 : Option Addr, ∃ tl6 : Nat, ∃ tc7 : Nat, ∃ t8 : Int, ∃ t9 : Int, v4 = (.tuple #[(.slice t5 tl6 tc7), (.int .i64 t8), (.int .i64 t9)]) ∧
     ((t9 ≠ 0) →
      ∀ w10, Ext w4 w10 →
      Q (.bool (decide (t8 = 0))) w10) ∧
     ((t9 = 0) →
      ∃ (I10 : Option Addr → Nat → Nat → Int → World → Prop) (M10 : Option Addr → Nat → Nat → Int → World → Nat), I10 none 0 0 0 w4 ∧
      ∀ (turned11 : Option Addr) (turnedl11 : Nat) (turnedc11 : Nat) (k12 : Int) (w13 : World), I10 turned11 turnedl11 turnedc11 k12 w13 →
       ((k12 < (cl : Int)) →
        ∃ (I14 : Option Addr → Nat → Nat → Int → World → Prop) (M14 : Option Addr → Nat → Nat → Int → World → Nat), I14 none 0 0 0 w13 ∧
        ∀ (row15 : Option Addr) (rowl15 : Nat) (rowc15 : Nat) (k16 : Int) (w17 : World), I14 row15 rowl15 rowc15 k16 w17 →
         ((k16 < (cl : Int)) →
          c ≠ none ∧
          (0 : Int) ≤ k16 ∧
          (k16 : Int) < (cl : Int) ∧
          ∃ t18 : Option Addr, ∃ tl19 : Nat, ∃ tc20 : Nat, cell w17 (pIdx c k16 1) 0 = some (.slice t18 tl19 tc20) ∧
          t18 ≠ none ∧
          (0 : Int) ≤ k12 ∧
          (k12 : Int) < (tl19 : Int) ∧
          ∃ t21 : Int, cell w17 (pIdx t18 k12 1) 0 = some (.int .i64 t21) ∧
          ∀ w22, Ext w17 w22 →
          Run Try.prog (.buildSlice 31 1 [(0, (.int .i64 t21))]) w22 fun v23 w23 =>
           Ext w22 w23 ∧
           ∃ t24 : Option Addr, ∃ tl25 : Nat, ∃ tc26 : Nat, v23 = (.slice t24 tl25 tc26) ∧
           ∀ w27, Ext w23 w27 →
           Run Try.prog (.append #[31, 31] 31 [(.slice row15 rowl15 rowc15), (.slice t24 tl25 tc26)]) w27 fun v28 w28 =>
            ∃ t29 : Option Addr, ∃ tl30 : Nat, ∃ tc31 : Nat, v28 = (.slice t29 tl30 tc31) ∧
            InR .i64 (k16 + 1) ∧
            (I14 t29 tl30 tc31 (k16 + 1) w28 ∧ M14 t29 tl30 tc31 (k16 + 1) w28 < M14 row15 rowl15 rowc15 k16 w17)) ∧
         (((cl : Int) ≤ k16) →
          ∀ w18, Ext w17 w18 →
          Run Try.prog (.buildSlice 22 1 [(0, (.slice row15 rowl15 rowc15))]) w18 fun v19 w19 =>
           Ext w18 w19 ∧
           ∃ t20 : Option Addr, ∃ tl21 : Nat, ∃ tc22 : Nat, v19 = (.slice t20 tl21 tc22) ∧
           ∀ w23, Ext w19 w23 →
           Run Try.prog (.append #[22, 22] 22 [(.slice turned11 turnedl11 turnedc11), (.slice t20 tl21 tc22)]) w23 fun v24 w24 =>
            ∃ t25 : Option Addr, ∃ tl26 : Nat, ∃ tc27 : Nat, v24 = (.slice t25 tl26 tc27) ∧
            InR .i64 (k12 + 1) ∧
            (I10 t25 tl26 tc27 (k12 + 1) w24 ∧ M10 t25 tl26 tc27 (k12 + 1) w24 < M10 turned11 turnedl11 turnedc11 k12 w13))) ∧
       (((cl : Int) ≤ k12) →
        ∀ w14, Ext w13 w14 →
        FnP Try.prog F_assign_Least #[(.slice turned11 turnedl11 turnedc11)] w14 fun v15 w15 =>
         Ext w14 w15 ∧
         ∃ t16 : Option Addr, ∃ tl17 : Nat, ∃ tc18 : Nat, ∃ t19 : Int, ∃ t20 : Int, v15 = (.tuple #[(.slice t16 tl17 tc18), (.int .i64 t19), (.int .i64 t20)]) ∧
         ∀ w21, Ext w15 w21 →
         Q (.bool ((decide (t20 = 0)) && (decide (t19 = t8)))) w21)))

theorem ok_shiftbellkeep_AssignTurned (c : Option Addr) (cl : Nat) (cc : Nat) (w : World) (Q : Value → World → Prop) (h : wp_shiftbellkeep_AssignTurned c cl cc w Q) : FnP Try.prog F_shiftbellkeep_AssignTurned #[(.slice c cl cc)] w Q := by
  have e_ : wp_shiftbellkeep_AssignTurned c cl cc w Q = Runs Try.prog Q ({ N := 64, wrap := [], pub := [], muts := [] } : Cfg) Try.f4 (Try.f4.body.getD .skip) [.sc (.slc c cl cc)] w := by kernel_rfl
  rw [e_] at h
  exact runs_fn h Try.func4 (by kernel_rfl) (fun args w => Try.call4 args w) (by kernel_rfl) (by kernel_rfl) rfl rfl

theorem open_shiftbellkeep_AssignTurned (W : World) (R : Array Value → Prop) (h : ∀ c : Option Addr, ∀ cl : Nat, ∀ cc : Nat, SlcArg Try.prog W 31 c cl cc → R #[(.slice c cl cc)]) (args : Array Value) (hg : GoodAll Try.prog W Try.f4.params.toList args.toList) : R args := by
  have e_ : (ArgsAll Try.prog W Try.f4.params.toList fun l => R l.toArray) = (∀ c : Option Addr, ∀ cl : Nat, ∀ cc : Nat, SlcArg Try.prog W 31 c cl cc → R #[(.slice c cl cc)]) := by kernel_rfl
  exact args_open (by rw [e_]; exact h) args hg
-- wit 4 #[(.slice none 0 0)]

/-- shiftbell/shiftbellkeep.AssignMoved -/
def wp_shiftbellkeep_AssignMoved (c : Option Addr) (cl : Nat) (cc : Nat) (i : Int) (by_v : Int) (w : World) (Q : Value → World → Prop) : Prop :=
  ∀ w0, Ext w w0 →
  FnP Try.prog F_shiftbellkeep_assigns #[] w0 fun v1 w1 =>
   Ext w0 w1 ∧
   ∃ t2 : Bool, v1 = (.bool t2) ∧
   ((t2 = false) →
    ∀ w3, Ext w w3 →
    Q (.bool false) w3) ∧
   ((t2 = true) →
    ∀ w3, Ext w w3 →
    FnP Try.prog F_assign_Least #[(.slice c cl cc)] w3 fun v4 w4 =>
     Ext w3 w4 ∧
     ∃ t5 : Option Addr, ∃ tl6 : Nat, ∃ tc7 : Nat, ∃ t8 : Int, ∃ t9 : Int, v4 = (.tuple #[(.slice t5 tl6 tc7), (.int .i64 t8), (.int .i64 t9)]) ∧
     ((((((t9 ≠ 0) ∨ (i < 0)) ∨ ((cl : Int) ≤ i)) ∨ (by_v < (-1000000000))) ∨ (1000000000 < by_v)) →
      ∀ w10, Ext w4 w10 →
      Q (.bool ((decide (t9 = 0)) || (decide (t8 = 0)))) w10) ∧
     ((((((t9 = 0) ∧ (0 ≤ i)) ∧ (i < (cl : Int))) ∧ ((-1000000000) ≤ by_v)) ∧ (by_v ≤ 1000000000)) →
      ∀ w10, Ext w4 w10 →
      FnP Try.prog F_slices_Clone_SS_int64_int64 #[(.slice c cl cc)] w10 fun v11 w11 =>
       Ext w10 w11 ∧
       ∃ t12 : Option Addr, ∃ tl13 : Nat, ∃ tc14 : Nat, v11 = (.slice t12 tl13 tc14) ∧
       c ≠ none ∧
       (0 : Int) ≤ i ∧
       (i : Int) < (cl : Int) ∧
       ∃ t15 : Option Addr, ∃ tl16 : Nat, ∃ tc17 : Nat, cell w11 (pIdx c i 1) 0 = some (.slice t15 tl16 tc17) ∧
       ∀ w18, Ext w11 w18 →
       FnP Try.prog F_slices_Clone_int64_int64 #[(.slice t15 tl16 tc17)] w18 fun v19 w19 =>
        Ext w18 w19 ∧
        ∃ t20 : Option Addr, ∃ tl21 : Nat, ∃ tc22 : Nat, v19 = (.slice t20 tl21 tc22) ∧
        t12 ≠ none ∧
        (0 : Int) ≤ i ∧
        (i : Int) < (tl13 : Int) ∧
        Store w19 (pIdx t12 i 1) [(.slice t20 tl21 tc22)] [] fun w23 =>
         t12 ≠ none ∧
         (0 : Int) ≤ i ∧
         (i : Int) < (tl13 : Int) ∧
         ∃ t24 : Option Addr, ∃ tl25 : Nat, ∃ tc26 : Nat, cell w23 (pIdx t12 i 1) 0 = some (.slice t24 tl25 tc26) ∧
         ∃ (I27 : Int → World → Prop) (M27 : Int → World → Nat), I27 0 w23 ∧
         ∀ (k28 : Int) (w29 : World), I27 k28 w29 →
          ((k28 < (tl25 : Int)) →
           t12 ≠ none ∧
           (0 : Int) ≤ i ∧
           (i : Int) < (tl13 : Int) ∧
           ∃ t30 : Option Addr, ∃ tl31 : Nat, ∃ tc32 : Nat, cell w29 (pIdx t12 i 1) 0 = some (.slice t30 tl31 tc32) ∧
           t30 ≠ none ∧
           (0 : Int) ≤ k28 ∧
           (k28 : Int) < (tl31 : Int) ∧
           ∃ t33 : Int, cell w29 (pIdx t30 k28 1) 0 = some (.int .i64 t33) ∧
           InR .i64 (t33 + by_v) ∧
           t30 ≠ none ∧
           (0 : Int) ≤ k28 ∧
           (k28 : Int) < (tl31 : Int) ∧
           Store w29 (pIdx t30 k28 1) [(.int .i64 (t33 + by_v))] [] fun w34 =>
            InR .i64 (k28 + 1) ∧
            (I27 (k28 + 1) w34 ∧ M27 (k28 + 1) w34 < M27 k28 w29)) ∧
          (((tl25 : Int) ≤ k28) →
           ∀ w30, Ext w29 w30 →
           FnP Try.prog F_assign_Least #[(.slice t12 tl13 tc14)] w30 fun v31 w31 =>
            Ext w30 w31 ∧
            ∃ t32 : Option Addr, ∃ tl33 : Nat, ∃ tc34 : Nat, ∃ t35 : Int, ∃ t36 : Int, v31 = (.tuple #[(.slice t32 tl33 tc34), (.int .i64 t35), (.int .i64 t36)]) ∧
            ((t36 ≠ 4) →
             ((t36 = 0) →
              InR .i64 (t8 + by_v))) ∧
            ∀ w37, Ext w31 w37 →
            Q (.bool ((decide (t36 = 4)) || ((decide (t36 = 0)) && (decide (t35 = (t8 + by_v)))))) w37)))

theorem ok_shiftbellkeep_AssignMoved (c : Option Addr) (cl : Nat) (cc : Nat) (i : Int) (by_v : Int) (w : World) (Q : Value → World → Prop) (h : wp_shiftbellkeep_AssignMoved c cl cc i by_v w Q) : FnP Try.prog F_shiftbellkeep_AssignMoved #[(.slice c cl cc), (.int .i64 i), (.int .i64 by_v)] w Q := by
  have e_ : wp_shiftbellkeep_AssignMoved c cl cc i by_v w Q = Runs Try.prog Q ({ N := 97, wrap := [], pub := [], muts := [] } : Cfg) Try.f6 (Try.f6.body.getD .skip) [.sc (.slc c cl cc), .sc (.int .i64 i), .sc (.int .i64 by_v)] w := by kernel_rfl
  rw [e_] at h
  exact runs_fn h Try.func6 (by kernel_rfl) (fun args w => Try.call6 args w) (by kernel_rfl) (by kernel_rfl) rfl rfl

theorem open_shiftbellkeep_AssignMoved (W : World) (R : Array Value → Prop) (h : ∀ c : Option Addr, ∀ cl : Nat, ∀ cc : Nat, SlcArg Try.prog W 31 c cl cc → ∀ i : Int, InR .i64 i → ∀ by_v : Int, InR .i64 by_v → R #[(.slice c cl cc), (.int .i64 i), (.int .i64 by_v)]) (args : Array Value) (hg : GoodAll Try.prog W Try.f6.params.toList args.toList) : R args := by
  have e_ : (ArgsAll Try.prog W Try.f6.params.toList fun l => R l.toArray) = (∀ c : Option Addr, ∀ cl : Nat, ∀ cc : Nat, SlcArg Try.prog W 31 c cl cc → ∀ i : Int, InR .i64 i → ∀ by_v : Int, InR .i64 by_v → R #[(.slice c cl cc), (.int .i64 i), (.int .i64 by_v)]) := by kernel_rfl
  exact args_open (by rw [e_]; exact h) args hg
-- wit 6 #[(.slice none 0 0), (.int .i64 0), (.int .i64 0)]

end Go.Proofs.Ytlacdincnpbpdaa
