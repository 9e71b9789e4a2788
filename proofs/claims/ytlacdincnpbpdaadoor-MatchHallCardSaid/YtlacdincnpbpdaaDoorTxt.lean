/- The texts of this seat's functions: what each computes, as its symbolic run says it. -/
import Derived.Test.YtlacdincnpbpdaaDoorRows
import Derived.Test.YtlacdincnpbpdaaDoorSxD
import Derived.Test.YtlacdincnpbpdaaDoorSxN
set_option linter.unusedVariables false
set_option linter.unusedSimpArgs false
set_option maxRecDepth 100000
namespace Go.Proofs.YtlacdincnpbpdaaDoor
open Go.Sx Go.RowKit

abbrev F_shiftbellkeep_MatchTurn : FuncId := 3
abbrev F_shiftbellkeep_MatchKonig : FuncId := 4
abbrev F_shiftbellkeep_MatchHall : FuncId := 5
abbrev F_shiftbellkeep_matches : FuncId := 6
abbrev F_match_Pairs : FuncId := 7
abbrev F_shiftbellkeep_pairs : FuncId := 8
abbrev F_slices_Clone_api_Edge_api_Edge : FuncId := 9
abbrev F_match_Cover : FuncId := 10
abbrev F_slices_Contains_int_int : FuncId := 11
abbrev F_match_Lack : FuncId := 12
abbrev F_shiftbellkeep_MatchHall_1 : FuncId := 13
abbrev F_match_Check : FuncId := 14
abbrev F_match_pairs : FuncId := 15
abbrev F_slices_Contains_api_Edge_api_Edge : FuncId := 16
abbrev F_match_alternating : FuncId := 17
abbrev F_match_list : FuncId := 18
abbrev F_slices_Index_int_int : FuncId := 19
abbrev F_match_newTable : FuncId := 20
abbrev F_match_table_find : FuncId := 21
abbrev F_slices_Index_api_Edge_api_Edge : FuncId := 22
abbrev F_math_bits_TrailingZeros64 : FuncId := 23
abbrev T__0 : TypeId := 0
abbrev T_int64 : TypeId := 2
abbrev T_int : TypeId := 3
abbrev T_bool : TypeId := 4
abbrev T_uint8 : TypeId := 5
abbrev T_string : TypeId := 9
abbrev T_uintptr : TypeId := 12
abbrev T_int32 : TypeId := 21
abbrev T_sl_Edge : TypeId := 22
abbrev T_Edge : TypeId := 24
abbrev T_sl_int : TypeId := 26
abbrev T_Errno : TypeId := 27
abbrev T_sl_int_Errno : TypeId := 28
abbrev T_sl_int_sl_int_Errno : TypeId := 33
abbrev T_ptr_match_table : TypeId := 39
abbrev T_ptr_match_table_sl_int : TypeId := 40
abbrev T_uint64 : TypeId := 43
abbrev T_uint64_uint64 : TypeId := 44
abbrev T_sl_uint64 : TypeId := 49
abbrev T_match_table : TypeId := 51
abbrev T_uint : TypeId := 56
abbrev T_uint32 : TypeId := 64
abbrev T_ptr_uint8 : TypeId := 68
abbrev T_unsafe_Pointer : TypeId := 73
theorem elem_sl_Edge : slEl Tryd.prog 22 = some (24, 2, 16, (.agg #[(.int .i64 0), (.int .i64 0)])) := by kernel_rfl
theorem elem_sl_int : slEl Tryd.prog 26 = some (3, 1, 8, (.int .i64 0)) := by kernel_rfl
theorem elem_sl_uint64 : slEl Tryd.prog 49 = some (43, 1, 8, (.int .u64 0)) := by kernel_rfl

-- no function shiftbell/shiftbellkeep.good
-- no function shiftbell/shiftbellkeep.good$1
-- no function slices.ContainsFunc[[]shiftbell/api.Errno,shiftbell/api.Errno]
-- no function slices.IndexFunc[[]shiftbell/api.Errno,shiftbell/api.Errno]
/-- shiftbell/match.Check -/
def wp_match_Check (n : Int) (m : Int) (l : Option Addr) (ll : Nat) (lc : Nat) (w : World) (Q : Value → World → Prop) : Prop :=
  (((((n < 0) ∨ (60 < n)) ∨ (m < 0)) ∨ (60 < m)) →
   ∀ w0, Ext w w0 →
   Q (.int .i64 1) w0) ∧
  (((((0 ≤ n) ∧ (n ≤ 60)) ∧ (0 ≤ m)) ∧ (m ≤ 60)) →
   ((400 < (ll : Int)) →
    ∀ w0, Ext w w0 →
    Q (.int .i64 2) w0) ∧
   (((ll : Int) ≤ 400) →
    ∃ (I0 : Int → World → Prop) (M0 : Int → World → Nat), I0 0 w ∧
    ∀ (k1 : Int) (w2 : World), I0 k1 w2 →
     ((k1 < (ll : Int)) →
      l ≠ none ∧
      (0 : Int) ≤ k1 ∧
      (k1 : Int) < (ll : Int) ∧
      (pIdx l k1 2) ≠ none ∧
      ∃ t3 : Int, cell w2 (pIdx l k1 2) 0 = some (.int .i64 t3) ∧
      ∃ t4 : Int, cell w2 (pIdx l k1 2) 1 = some (.int .i64 t4) ∧
      ∀ b5 : Nat, w2.heap.size ≤ b5 → (((((t3 < 0) ∨ (n ≤ t3)) ∨ (t4 < 0)) ∨ (m ≤ t4)) →
       ∀ w6, Ext w2 w6 →
       Q (.int .i64 4) w6) ∧
      (((((0 ≤ t3) ∧ (t3 < n)) ∧ (0 ≤ t4)) ∧ (t4 < m)) →
       InR .i64 (k1 + 1) ∧
       (I0 (k1 + 1) w2 ∧ M0 (k1 + 1) w2 < M0 k1 w2))) ∧
     (((ll : Int) ≤ k1) →
      ∀ w3, Ext w2 w3 →
      Q (.int .i64 0) w3)))

theorem ok_match_Check (n : Int) (m : Int) (l : Option Addr) (ll : Nat) (lc : Nat) (w : World) (Q : Value → World → Prop) (h : wp_match_Check n m l ll lc w Q) : FnP Tryd.prog F_match_Check #[(.int .i64 n), (.int .i64 m), (.slice l ll lc)] w Q := by
  have e_ : wp_match_Check n m l ll lc w Q = Runs Tryd.prog Q ({ N := 55, wrap := [], pub := [], muts := [] } : Cfg) Tryd.f14 (Tryd.f14.body.getD .skip) [.sc (.int .i64 n), .sc (.int .i64 m), .sc (.slc l ll lc)] w := by kernel_rfl
  rw [e_] at h
  exact runs_fn h Tryd.func14 (by kernel_rfl) (fun args w => Tryd.call14 args w) (by kernel_rfl) (by kernel_rfl) rfl rfl

/-- shiftbell/match.newTable -/
def wp_match_newTable (n : Int) (m : Int) (l : Option Addr) (ll : Nat) (lc : Nat) (w : World) (Q : Value → World → Prop) : Prop :=
  ∃ (J0 : Option Addr → Option Addr → World → Prop), ((∀ w4, Ext w w4 →
   Run Tryd.prog (.makeSlice 49 (.int .i64 n) (.int .i64 n)) w4 fun v5 w5 =>
    Ext w4 w5 ∧
    ∃ t6 : Option Addr, ∃ tl7 : Nat, ∃ tc8 : Nat, v5 = (.slice t6 tl7 tc8) ∧
    ∀ w9, Ext w5 w9 →
    Run Tryd.prog (.makeSlice 26 (.int .i64 m) (.int .i64 m)) w9 fun v10 w10 =>
     Ext w9 w10 ∧
     ∃ t11 : Option Addr, ∃ tl12 : Nat, ∃ tc13 : Nat, v10 = (.slice t11 tl12 tc13) ∧
     ∀ w14, Ext w10 w14 →
     New w14 51 [(.slice t6 tl7 tc8), (.slice t11 tl12 tc13), (.int .u64 0)] fun p15 w15 =>
      J0 p15 p15 w15) ∧
   ∀ w4, Ext w w4 →
   Run Tryd.prog (.makeSlice 26 (.int .i64 m) (.int .i64 m)) w4 fun v5 w5 =>
    Ext w4 w5 ∧
    ∃ t6 : Option Addr, ∃ tl7 : Nat, ∃ tc8 : Nat, v5 = (.slice t6 tl7 tc8) ∧
    ∀ w9, Ext w5 w9 →
    Run Tryd.prog (.makeSlice 49 (.int .i64 n) (.int .i64 n)) w9 fun v10 w10 =>
     Ext w9 w10 ∧
     ∃ t11 : Option Addr, ∃ tl12 : Nat, ∃ tc13 : Nat, v10 = (.slice t11 tl12 tc13) ∧
     ∀ w14, Ext w10 w14 →
     New w14 51 [(.slice t11 tl12 tc13), (.slice t6 tl7 tc8), (.int .u64 0)] fun p15 w15 =>
      J0 p15 p15 w15) ∧
  ∀ (k1 : Option Addr) (t2 : Option Addr) (w3 : World), J0 k1 t2 w3 →
   ∃ (I4 : Int → World → Prop) (M4 : Int → World → Nat), I4 0 w3 ∧
   ∀ (k5 : Int) (w6 : World), I4 k5 w6 →
    ((k5 < (ll : Int)) →
     l ≠ none ∧
     (0 : Int) ≤ k5 ∧
     (k5 : Int) < (ll : Int) ∧
     (pIdx l k5 2) ≠ none ∧
     ∃ t7 : Int, cell w6 (pIdx l k5 2) 0 = some (.int .i64 t7) ∧
     ∃ t8 : Int, cell w6 (pIdx l k5 2) 1 = some (.int .i64 t8) ∧
     ∀ b9 : Nat, w6.heap.size ≤ b9 → t2 ≠ none ∧
     t2 ≠ none ∧
     ∃ t10 : Option Addr, ∃ tl11 : Nat, ∃ tc12 : Nat, cell w6 (pAdd t2 0) 0 = some (.slice t10 tl11 tc12) ∧
     t10 ≠ none ∧
     (0 : Int) ≤ t7 ∧
     (t7 : Int) < (tl11 : Int) ∧
     ∃ t13 : Int, cell w6 (pIdx t10 t7 1) 0 = some (.int .u64 t13) ∧
     0 ≤ (t8 : Int) ∧
     t10 ≠ none ∧
     (0 : Int) ≤ t7 ∧
     (t7 : Int) < (tl11 : Int) ∧
     Store w6 (pIdx t10 t7 1) [(.int .u64 (iBit .or .u64 t13 (iBit .shl .u64 1 t8)))] [b9] fun w14 =>
      InR .i64 (k5 + 1) ∧
      (I4 (k5 + 1) w14 ∧ M4 (k5 + 1) w14 < M4 k5 w6)) ∧
    (((ll : Int) ≤ k5) →
     t2 ≠ none ∧
     t2 ≠ none ∧
     ∃ t7 : Option Addr, ∃ tl8 : Nat, ∃ tc9 : Nat, cell w6 (pAdd t2 1) 0 = some (.slice t7 tl8 tc9) ∧
     ∃ (I10 : Int → World → Prop) (M10 : Int → World → Nat), I10 0 w6 ∧
     ∀ (k11 : Int) (w12 : World), I10 k11 w12 →
      ((k11 < (tl8 : Int)) →
       t2 ≠ none ∧
       t2 ≠ none ∧
       ∃ t13 : Option Addr, ∃ tl14 : Nat, ∃ tc15 : Nat, cell w12 (pAdd t2 1) 0 = some (.slice t13 tl14 tc15) ∧
       t13 ≠ none ∧
       (0 : Int) ≤ k11 ∧
       (k11 : Int) < (tl14 : Int) ∧
       Store w12 (pIdx t13 k11 1) [(.int .i64 (-1))] [] fun w16 =>
        InR .i64 (k11 + 1) ∧
        (I10 (k11 + 1) w16 ∧ M10 (k11 + 1) w16 < M10 k11 w12)) ∧
      (((tl8 : Int) ≤ k11) →
       ∀ w13, Ext w12 w13 →
       Q (.pointer t2) w13))

theorem ok_match_newTable (n : Int) (m : Int) (l : Option Addr) (ll : Nat) (lc : Nat) (w : World) (Q : Value → World → Prop) (h : wp_match_newTable n m l ll lc w Q) : FnP Tryd.prog F_match_newTable #[(.int .i64 n), (.int .i64 m), (.slice l ll lc)] w Q := by
  have e_ : wp_match_newTable n m l ll lc w Q = Runs Tryd.prog Q ({ N := 53, wrap := [], pub := [16], muts := [] } : Cfg) Tryd.f20 (Tryd.f20.body.getD .skip) [.sc (.int .i64 n), .sc (.int .i64 m), .sc (.slc l ll lc)] w := by kernel_rfl
  rw [e_] at h
  exact runs_fn h Tryd.func20 (by kernel_rfl) (fun args w => Tryd.call20 args w) (by kernel_rfl) (by kernel_rfl) rfl rfl

/-- (*shiftbell/match.table).find -/
def wp_match_table_find (t : Option Addr) (i : Int) (w : World) (Q : Value → World → Prop) : Prop :=
  t ≠ none ∧
  t ≠ none ∧
  ∃ t0 : Option Addr, ∃ tl1 : Nat, ∃ tc2 : Nat, cell w (pAdd t 0) 0 = some (.slice t0 tl1 tc2) ∧
  t0 ≠ none ∧
  (0 : Int) ≤ i ∧
  (i : Int) < (tl1 : Int) ∧
  ∃ t3 : Int, cell w (pIdx t0 i 1) 0 = some (.int .u64 t3) ∧
  t ≠ none ∧
  t ≠ none ∧
  ∃ t4 : Int, cell w (pAdd t 2) 0 = some (.int .u64 t4) ∧
  ∃ (I5 : Int → World → Prop) (M5 : Int → World → Nat), I5 (iBit .andNot .u64 t3 t4) w ∧
  ∀ (s6 : Int) (w7 : World), I5 s6 w7 →
   ((s6 ≠ 0) →
    ∀ w8, Ext w7 w8 →
    FnP Tryd.prog F_math_bits_TrailingZeros64 #[(.int .u64 s6)] w8 fun v9 w9 =>
     Ext w8 w9 ∧
     ∃ t10 : Int, v9 = (.int .i64 t10) ∧
     t ≠ none ∧
     t ≠ none ∧
     ∃ t11 : Int, cell w7 (pAdd t 2) 0 = some (.int .u64 t11) ∧
     0 ≤ (t10 : Int) ∧
     t ≠ none ∧
     t ≠ none ∧
     Store w7 (pAdd t 2) [(.int .u64 (iBit .or .u64 t11 (iBit .shl .u64 1 t10)))] [] fun w12 =>
      t ≠ none ∧
      t ≠ none ∧
      ∃ t13 : Option Addr, ∃ tl14 : Nat, ∃ tc15 : Nat, cell w12 (pAdd t 1) 0 = some (.slice t13 tl14 tc15) ∧
      t13 ≠ none ∧
      (0 : Int) ≤ t10 ∧
      (t10 : Int) < (tl14 : Int) ∧
      ∃ t16 : Int, cell w12 (pIdx t13 t10 1) 0 = some (.int .i64 t16) ∧
      ((0 ≤ t16) →
       t ≠ none) ∧
      ((0 ≤ t16) →
       t ≠ none) ∧
      ((t16 < 0) →
       t ≠ none ∧
       t ≠ none ∧
       ∃ t17 : Option Addr, ∃ tl18 : Nat, ∃ tc19 : Nat, cell w12 (pAdd t 1) 0 = some (.slice t17 tl18 tc19) ∧
       t17 ≠ none ∧
       (0 : Int) ≤ t10 ∧
       (t10 : Int) < (tl18 : Int) ∧
       Store w12 (pIdx t17 t10 1) [(.int .i64 i)] [] fun w20 =>
        ∀ w21, Ext w20 w21 →
        Q (.bool true) w21) ∧
      ((0 ≤ t16) →
       ∃ t17 : Option Addr, ∃ tl18 : Nat, ∃ tc19 : Nat, cell w12 (pAdd t 1) 0 = some (.slice t17 tl18 tc19) ∧
       t17 ≠ none ∧
       (0 : Int) ≤ t10 ∧
       (t10 : Int) < (tl18 : Int) ∧
       ∃ t20 : Int, cell w12 (pIdx t17 t10 1) 0 = some (.int .i64 t20) ∧
       ∀ w21, Ext w12 w21 →
       FnP Tryd.prog F_match_table_find #[(.pointer t), (.int .i64 t20)] w21 fun v22 w22 =>
        ∃ t23 : Bool, v22 = (.bool t23) ∧
        ((t23 = true) →
         t ≠ none ∧
         t ≠ none ∧
         ∃ t24 : Option Addr, ∃ tl25 : Nat, ∃ tc26 : Nat, cell w22 (pAdd t 1) 0 = some (.slice t24 tl25 tc26) ∧
         t24 ≠ none ∧
         (0 : Int) ≤ t10 ∧
         (t10 : Int) < (tl25 : Int) ∧
         Store w22 (pIdx t24 t10 1) [(.int .i64 i)] [] fun w27 =>
          ∀ w28, Ext w27 w28 →
          Q (.bool true) w28) ∧
        ((t23 = false) →
         t ≠ none ∧
         t ≠ none ∧
         ∃ t24 : Option Addr, ∃ tl25 : Nat, ∃ tc26 : Nat, cell w22 (pAdd t 0) 0 = some (.slice t24 tl25 tc26) ∧
         t24 ≠ none ∧
         (0 : Int) ≤ i ∧
         (i : Int) < (tl25 : Int) ∧
         ∃ t27 : Int, cell w22 (pIdx t24 i 1) 0 = some (.int .u64 t27) ∧
         t ≠ none ∧
         t ≠ none ∧
         ∃ t28 : Int, cell w22 (pAdd t 2) 0 = some (.int .u64 t28) ∧
         (I5 (iBit .andNot .u64 t27 t28) w22 ∧ M5 (iBit .andNot .u64 t27 t28) w22 < M5 s6 w7)))) ∧
   ((s6 = 0) →
    ∀ w8, Ext w7 w8 →
    Q (.bool false) w8)

theorem ok_match_table_find (t : Option Addr) (i : Int) (w : World) (Q : Value → World → Prop) (h : wp_match_table_find t i w Q) : FnP Tryd.prog F_match_table_find #[(.pointer t), (.int .i64 i)] w Q := by
  have e_ : wp_match_table_find t i w Q = Runs Tryd.prog Q ({ N := 70, wrap := [], pub := [], muts := [21] } : Cfg) Tryd.f21 (Tryd.f21.body.getD .skip) [.sc (.ptr t), .sc (.int .i64 i)] w := by kernel_rfl
  rw [e_] at h
  exact runs_fn h Tryd.func21 (by kernel_rfl) (fun args w => Tryd.call21 args w) (by kernel_rfl) (by kernel_rfl) rfl rfl

/-- shiftbell/match.pairs -/
def wp_match_pairs (n : Int) (m : Int) (l : Option Addr) (ll : Nat) (lc : Nat) (w : World) (Q : Value → World → Prop) : Prop :=
  ∀ w0, Ext w w0 →
  FnP Tryd.prog F_match_newTable #[(.int .i64 n), (.int .i64 m), (.slice l ll lc)] w0 fun v1 w1 =>
   Ext w0 w1 ∧
   ∃ t2 : Option Addr, v1 = (.pointer t2) ∧
   ∃ (I3 : Int → World → Prop) (M3 : Int → World → Nat), I3 0 w1 ∧
   ∀ (k4 : Int) (w5 : World), I3 k4 w5 →
    ((k4 < n) →
     t2 ≠ none ∧
     t2 ≠ none ∧
     Store w5 (pAdd t2 2) [(.int .u64 0)] [] fun w6 =>
      ∀ w7, Ext w6 w7 →
      FnP Tryd.prog F_match_table_find #[(.pointer t2), (.int .i64 k4)] w7 fun v8 w8 =>
       ∃ t9 : Bool, v8 = (.bool t9) ∧
       InR .i64 (k4 + 1) ∧
       (I3 (k4 + 1) w8 ∧ M3 (k4 + 1) w8 < M3 k4 w5)) ∧
    ((n ≤ k4) →
     ∀ w6, Ext w5 w6 →
     Run Tryd.prog (.makeSlice 26 (.int .i64 n) (.int .i64 n)) w6 fun v7 w7 =>
      Ext w6 w7 ∧
      ∃ t8 : Option Addr, ∃ tl9 : Nat, ∃ tc10 : Nat, v7 = (.slice t8 tl9 tc10) ∧
      ∃ (I11 : Int → World → Prop) (M11 : Int → World → Nat), I11 0 w7 ∧
      ∀ (k12 : Int) (w13 : World), I11 k12 w13 →
       ((k12 < (tl9 : Int)) →
        t8 ≠ none ∧
        (0 : Int) ≤ k12 ∧
        (k12 : Int) < (tl9 : Int) ∧
        Store w13 (pIdx t8 k12 1) [(.int .i64 (-1))] [] fun w14 =>
         InR .i64 (k12 + 1) ∧
         (I11 (k12 + 1) w14 ∧ M11 (k12 + 1) w14 < M11 k12 w13)) ∧
       (((tl9 : Int) ≤ k12) →
        t2 ≠ none ∧
        t2 ≠ none ∧
        ∃ t14 : Option Addr, ∃ tl15 : Nat, ∃ tc16 : Nat, cell w13 (pAdd t2 1) 0 = some (.slice t14 tl15 tc16) ∧
        ∃ (I17 : Int → World → Prop) (M17 : Int → World → Nat), I17 0 w13 ∧
        ∀ (k18 : Int) (w19 : World), I17 k18 w19 →
         ((k18 < (tl15 : Int)) →
          t14 ≠ none ∧
          (0 : Int) ≤ k18 ∧
          (k18 : Int) < (tl15 : Int) ∧
          ∃ t20 : Int, cell w19 (pIdx t14 k18 1) 0 = some (.int .i64 t20) ∧
          ((0 ≤ t20) →
           t8 ≠ none ∧
           (0 : Int) ≤ t20 ∧
           (t20 : Int) < (tl9 : Int) ∧
           Store w19 (pIdx t8 t20 1) [(.int .i64 k18)] [] fun w21 =>
            InR .i64 (k18 + 1) ∧
            (I17 (k18 + 1) w21 ∧ M17 (k18 + 1) w21 < M17 k18 w19)) ∧
          ((t20 < 0) →
           InR .i64 (k18 + 1) ∧
           (I17 (k18 + 1) w19 ∧ M17 (k18 + 1) w19 < M17 k18 w19))) ∧
         (((tl15 : Int) ≤ k18) →
          ∀ w20, Ext w19 w20 →
          Q (.tuple #[(.pointer t2), (.slice t8 tl9 tc10)]) w20)))

theorem ok_match_pairs (n : Int) (m : Int) (l : Option Addr) (ll : Nat) (lc : Nat) (w : World) (Q : Value → World → Prop) (h : wp_match_pairs n m l ll lc w Q) : FnP Tryd.prog F_match_pairs #[(.int .i64 n), (.int .i64 m), (.slice l ll lc)] w Q := by
  have e_ : wp_match_pairs n m l ll lc w Q = Runs Tryd.prog Q ({ N := 59, wrap := [], pub := [], muts := [21] } : Cfg) Tryd.f15 (Tryd.f15.body.getD .skip) [.sc (.int .i64 n), .sc (.int .i64 m), .sc (.slc l ll lc)] w := by kernel_rfl
  rw [e_] at h
  exact runs_fn h Tryd.func15 (by kernel_rfl) (fun args w => Tryd.call15 args w) (by kernel_rfl) (by kernel_rfl) rfl rfl

/-- shiftbell/match.Pairs -/
def wp_match_Pairs (n : Int) (m : Int) (l : Option Addr) (ll : Nat) (lc : Nat) (w : World) (Q : Value → World → Prop) : Prop :=
  ∀ w0, Ext w w0 →
  FnP Tryd.prog F_match_Check #[(.int .i64 n), (.int .i64 m), (.slice l ll lc)] w0 fun v1 w1 =>
   Ext w0 w1 ∧
   ∃ t2 : Int, v1 = (.int .i64 t2) ∧
   ((t2 ≠ 0) →
    ∀ w3, Ext w w3 →
    Q (.tuple #[(.slice none 0 0), (.int .i64 t2)]) w3) ∧
   ((t2 = 0) →
    ∀ w3, Ext w w3 →
    FnP Tryd.prog F_match_pairs #[(.int .i64 n), (.int .i64 m), (.slice l ll lc)] w3 fun v4 w4 =>
     Ext w3 w4 ∧
     ∃ t5 : Option Addr, ∃ t6 : Option Addr, ∃ tl7 : Nat, ∃ tc8 : Nat, v4 = (.tuple #[(.pointer t5), (.slice t6 tl7 tc8)]) ∧
     ∀ w9, Ext w4 w9 →
     Q (.tuple #[(.slice t6 tl7 tc8), (.int .i64 0)]) w9)

theorem ok_match_Pairs (n : Int) (m : Int) (l : Option Addr) (ll : Nat) (lc : Nat) (w : World) (Q : Value → World → Prop) (h : wp_match_Pairs n m l ll lc w Q) : FnP Tryd.prog F_match_Pairs #[(.int .i64 n), (.int .i64 m), (.slice l ll lc)] w Q := by
  have e_ : wp_match_Pairs n m l ll lc w Q = Runs Tryd.prog Q ({ N := 26, wrap := [], pub := [], muts := [] } : Cfg) Tryd.f7 (Tryd.f7.body.getD .skip) [.sc (.int .i64 n), .sc (.int .i64 m), .sc (.slc l ll lc)] w := by kernel_rfl
  rw [e_] at h
  exact runs_fn h Tryd.func7 (by kernel_rfl) (fun args w => Tryd.call7 args w) (by kernel_rfl) (by kernel_rfl) rfl rfl

/-- shiftbell/match.alternating -/
def wp_match_alternating (n : Int) (m : Int) (l : Option Addr) (ll : Nat) (lc : Nat) (w : World) (Q : Value → World → Prop) : Prop :=
  ∀ w0, Ext w w0 →
  FnP Tryd.prog F_match_pairs #[(.int .i64 n), (.int .i64 m), (.slice l ll lc)] w0 fun v1 w1 =>
   Ext w0 w1 ∧
   ∃ t2 : Option Addr, ∃ t3 : Option Addr, ∃ tl4 : Nat, ∃ tc5 : Nat, v1 = (.tuple #[(.pointer t2), (.slice t3 tl4 tc5)]) ∧
   ∃ (I6 : Int → Int → World → Prop) (M6 : Int → Int → World → Nat), I6 0 0 w1 ∧
   ∀ (left7 : Int) (k8 : Int) (w9 : World), I6 left7 k8 w9 →
    ((k8 < (tl4 : Int)) →
     t3 ≠ none ∧
     (0 : Int) ≤ k8 ∧
     (k8 : Int) < (tl4 : Int) ∧
     ∃ t10 : Int, cell w9 (pIdx t3 k8 1) 0 = some (.int .i64 t10) ∧
     ((t10 < 0) →
      0 ≤ (k8 : Int) ∧
      InR .i64 (k8 + 1) ∧
      (I6 (iBit .or .u64 left7 (iBit .shl .u64 1 k8)) (k8 + 1) w9 ∧ M6 (iBit .or .u64 left7 (iBit .shl .u64 1 k8)) (k8 + 1) w9 < M6 left7 k8 w9)) ∧
     ((0 ≤ t10) →
      InR .i64 (k8 + 1) ∧
      (I6 left7 (k8 + 1) w9 ∧ M6 left7 (k8 + 1) w9 < M6 left7 k8 w9))) ∧
    (((tl4 : Int) ≤ k8) →
     ∃ (I10 : Int → Int → Bool → World → Prop) (M10 : Int → Int → Bool → World → Nat), I10 0 left7 true w9 ∧
     ∀ (right11 : Int) (left12 : Int) (again13 : Bool) (w14 : World), I10 right11 left12 again13 w14 →
      ((again13 = true) →
       ∃ (I15 : Int → Int → Bool → Int → World → Prop) (M15 : Int → Int → Bool → Int → World → Nat), I15 right11 left12 false 0 w14 ∧
       ∀ (right16 : Int) (left17 : Int) (again18 : Bool) (k19 : Int) (w20 : World), I15 right16 left17 again18 k19 w20 →
        ((k19 < n) →
         0 ≤ (k19 : Int) ∧
         (((iBit .and .u64 (iBit .shr .u64 left17 k19) 1) = 0) →
          InR .i64 (k19 + 1) ∧
          (I15 right16 left17 again18 (k19 + 1) w20 ∧ M15 right16 left17 again18 (k19 + 1) w20 < M15 right16 left17 again18 k19 w20)) ∧
         (((iBit .and .u64 (iBit .shr .u64 left17 k19) 1) ≠ 0) →
          t2 ≠ none ∧
          t2 ≠ none ∧
          ∃ t21 : Option Addr, ∃ tl22 : Nat, ∃ tc23 : Nat, cell w20 (pAdd t2 0) 0 = some (.slice t21 tl22 tc23) ∧
          t21 ≠ none ∧
          (0 : Int) ≤ k19 ∧
          (k19 : Int) < (tl22 : Int) ∧
          ∃ t24 : Int, cell w20 (pIdx t21 k19 1) 0 = some (.int .u64 t24) ∧
          ∃ (I25 : Int → Int → Bool → Int → World → Prop) (M25 : Int → Int → Bool → Int → World → Nat), I25 right16 left17 again18 (iBit .andNot .u64 t24 right16) w20 ∧
          ∀ (right26 : Int) (left27 : Int) (again28 : Bool) (s29 : Int) (w30 : World), I25 right26 left27 again28 s29 w30 →
           ((s29 ≠ 0) →
            ∀ w31, Ext w30 w31 →
            FnP Tryd.prog F_math_bits_TrailingZeros64 #[(.int .u64 s29)] w31 fun v32 w32 =>
             Ext w31 w32 ∧
             ∃ t33 : Int, v32 = (.int .i64 t33) ∧
             0 ≤ (t33 : Int) ∧
             t2 ≠ none ∧
             t2 ≠ none ∧
             ∃ t34 : Option Addr, ∃ tl35 : Nat, ∃ tc36 : Nat, cell w30 (pAdd t2 1) 0 = some (.slice t34 tl35 tc36) ∧
             t34 ≠ none ∧
             (0 : Int) ≤ t33 ∧
             (t33 : Int) < (tl35 : Int) ∧
             ∃ t37 : Int, cell w30 (pIdx t34 t33 1) 0 = some (.int .i64 t37) ∧
             0 ≤ (t37 : Int) ∧
             InR .u64 (s29 - 1) ∧
             (I25 (iBit .or .u64 right26 (iBit .shl .u64 1 t33)) (iBit .or .u64 left27 (iBit .shl .u64 1 t37)) true (iBit .and .u64 s29 (s29 - 1)) w30 ∧ M25 (iBit .or .u64 right26 (iBit .shl .u64 1 t33)) (iBit .or .u64 left27 (iBit .shl .u64 1 t37)) true (iBit .and .u64 s29 (s29 - 1)) w30 < M25 right26 left27 again28 s29 w30)) ∧
           ((s29 = 0) →
            InR .i64 (k19 + 1) ∧
            (I15 right26 left27 again28 (k19 + 1) w30 ∧ M15 right26 left27 again28 (k19 + 1) w30 < M15 right16 left17 again18 k19 w20)))) ∧
        ((n ≤ k19) →
         (I10 right16 left17 again18 w20 ∧ M10 right16 left17 again18 w20 < M10 right11 left12 again13 w14))) ∧
      ((again13 = false) →
       ∀ w15, Ext w14 w15 →
       Q (.tuple #[(.int .u64 left12), (.int .u64 right11)]) w15))

theorem ok_match_alternating (n : Int) (m : Int) (l : Option Addr) (ll : Nat) (lc : Nat) (w : World) (Q : Value → World → Prop) (h : wp_match_alternating n m l ll lc w Q) : FnP Tryd.prog F_match_alternating #[(.int .i64 n), (.int .i64 m), (.slice l ll lc)] w Q := by
  have e_ : wp_match_alternating n m l ll lc w Q = Runs Tryd.prog Q ({ N := 81, wrap := [], pub := [], muts := [] } : Cfg) Tryd.f17 (Tryd.f17.body.getD .skip) [.sc (.int .i64 n), .sc (.int .i64 m), .sc (.slc l ll lc)] w := by kernel_rfl
  rw [e_] at h
  exact runs_fn h Tryd.func17 (by kernel_rfl) (fun args w => Tryd.call17 args w) (by kernel_rfl) (by kernel_rfl) rfl rfl

/-- shiftbell/match.list -/
def wp_match_list (s : Int) (w : World) (Q : Value → World → Prop) : Prop :=
  ∃ (I0 : Option Addr → Nat → Nat → Int → World → Prop) (M0 : Option Addr → Nat → Nat → Int → World → Nat), I0 none 0 0 s w ∧
  ∀ (out1 : Option Addr) (outl1 : Nat) (outc1 : Nat) (s2 : Int) (w3 : World), I0 out1 outl1 outc1 s2 w3 →
   ((s2 ≠ 0) →
    ∀ w4, Ext w3 w4 →
    FnP Tryd.prog F_math_bits_TrailingZeros64 #[(.int .u64 s2)] w4 fun v5 w5 =>
     Ext w4 w5 ∧
     ∃ t6 : Int, v5 = (.int .i64 t6) ∧
     ∀ w7, Ext w3 w7 →
     Run Tryd.prog (.buildSlice 26 1 [(0, (.int .i64 t6))]) w7 fun v8 w8 =>
      Ext w7 w8 ∧
      ∃ t9 : Option Addr, ∃ tl10 : Nat, ∃ tc11 : Nat, v8 = (.slice t9 tl10 tc11) ∧
      ∀ w12, Ext w8 w12 →
      Run Tryd.prog (.append #[26, 26] 26 [(.slice out1 outl1 outc1), (.slice t9 tl10 tc11)]) w12 fun v13 w13 =>
       ∃ t14 : Option Addr, ∃ tl15 : Nat, ∃ tc16 : Nat, v13 = (.slice t14 tl15 tc16) ∧
       InR .u64 (s2 - 1) ∧
       (I0 t14 tl15 tc16 (iBit .and .u64 s2 (s2 - 1)) w13 ∧ M0 t14 tl15 tc16 (iBit .and .u64 s2 (s2 - 1)) w13 < M0 out1 outl1 outc1 s2 w3)) ∧
   ((s2 = 0) →
    ∀ w4, Ext w3 w4 →
    Q (.slice out1 outl1 outc1) w4)

theorem ok_match_list (s : Int) (w : World) (Q : Value → World → Prop) (h : wp_match_list s w Q) : FnP Tryd.prog F_match_list #[(.int .u64 s)] w Q := by
  have e_ : wp_match_list s w Q = Runs Tryd.prog Q ({ N := 16, wrap := [], pub := [], muts := [] } : Cfg) Tryd.f18 (Tryd.f18.body.getD .skip) [.sc (.int .u64 s)] w := by kernel_rfl
  rw [e_] at h
  exact runs_fn h Tryd.func18 (by kernel_rfl) (fun args w => Tryd.call18 args w) (by kernel_rfl) (by kernel_rfl) rfl rfl

/-- shiftbell/match.Cover -/
def wp_match_Cover (n : Int) (m : Int) (l : Option Addr) (ll : Nat) (lc : Nat) (w : World) (Q : Value → World → Prop) : Prop :=
  ∀ w0, Ext w w0 →
  FnP Tryd.prog F_match_Check #[(.int .i64 n), (.int .i64 m), (.slice l ll lc)] w0 fun v1 w1 =>
   Ext w0 w1 ∧
   ∃ t2 : Int, v1 = (.int .i64 t2) ∧
   ((t2 ≠ 0) →
    ∀ w3, Ext w w3 →
    Q (.tuple #[(.slice none 0 0), (.slice none 0 0), (.int .i64 t2)]) w3) ∧
   ((t2 = 0) →
    ∀ w3, Ext w w3 →
    FnP Tryd.prog F_match_alternating #[(.int .i64 n), (.int .i64 m), (.slice l ll lc)] w3 fun v4 w4 =>
     Ext w3 w4 ∧
     ∃ t5 : Int, ∃ t6 : Int, v4 = (.tuple #[(.int .u64 t5), (.int .u64 t6)]) ∧
     0 ≤ (n : Int) ∧
     InR .u64 ((iBit .shl .u64 1 n) - 1) ∧
     ∀ w7, Ext w w7 →
     FnP Tryd.prog F_match_list #[(.int .u64 (iBit .andNot .u64 ((iBit .shl .u64 1 n) - 1) t5))] w7 fun v8 w8 =>
      Ext w7 w8 ∧
      ∃ t9 : Option Addr, ∃ tl10 : Nat, ∃ tc11 : Nat, v8 = (.slice t9 tl10 tc11) ∧
      ∀ w12, Ext w8 w12 →
      FnP Tryd.prog F_match_list #[(.int .u64 t6)] w12 fun v13 w13 =>
       Ext w12 w13 ∧
       ∃ t14 : Option Addr, ∃ tl15 : Nat, ∃ tc16 : Nat, v13 = (.slice t14 tl15 tc16) ∧
       ∀ w17, Ext w13 w17 →
       Q (.tuple #[(.slice t9 tl10 tc11), (.slice t14 tl15 tc16), (.int .i64 0)]) w17)

theorem ok_match_Cover (n : Int) (m : Int) (l : Option Addr) (ll : Nat) (lc : Nat) (w : World) (Q : Value → World → Prop) (h : wp_match_Cover n m l ll lc w Q) : FnP Tryd.prog F_match_Cover #[(.int .i64 n), (.int .i64 m), (.slice l ll lc)] w Q := by
  have e_ : wp_match_Cover n m l ll lc w Q = Runs Tryd.prog Q ({ N := 34, wrap := [], pub := [], muts := [] } : Cfg) Tryd.f10 (Tryd.f10.body.getD .skip) [.sc (.int .i64 n), .sc (.int .i64 m), .sc (.slc l ll lc)] w := by kernel_rfl
  rw [e_] at h
  exact runs_fn h Tryd.func10 (by kernel_rfl) (fun args w => Tryd.call10 args w) (by kernel_rfl) (by kernel_rfl) rfl rfl

/-- shiftbell/match.Lack -/
def wp_match_Lack (n : Int) (m : Int) (l : Option Addr) (ll : Nat) (lc : Nat) (w : World) (Q : Value → World → Prop) : Prop :=
  ∀ w0, Ext w w0 →
  FnP Tryd.prog F_match_Check #[(.int .i64 n), (.int .i64 m), (.slice l ll lc)] w0 fun v1 w1 =>
   Ext w0 w1 ∧
   ∃ t2 : Int, v1 = (.int .i64 t2) ∧
   ((t2 ≠ 0) →
    ∀ w3, Ext w w3 →
    Q (.tuple #[(.slice none 0 0), (.int .i64 t2)]) w3) ∧
   ((t2 = 0) →
    ∀ w3, Ext w w3 →
    FnP Tryd.prog F_match_alternating #[(.int .i64 n), (.int .i64 m), (.slice l ll lc)] w3 fun v4 w4 =>
     Ext w3 w4 ∧
     ∃ t5 : Int, ∃ t6 : Int, v4 = (.tuple #[(.int .u64 t5), (.int .u64 t6)]) ∧
     ∀ w7, Ext w w7 →
     FnP Tryd.prog F_match_list #[(.int .u64 t5)] w7 fun v8 w8 =>
      Ext w7 w8 ∧
      ∃ t9 : Option Addr, ∃ tl10 : Nat, ∃ tc11 : Nat, v8 = (.slice t9 tl10 tc11) ∧
      ∀ w12, Ext w8 w12 →
      Q (.tuple #[(.slice t9 tl10 tc11), (.int .i64 0)]) w12)

theorem ok_match_Lack (n : Int) (m : Int) (l : Option Addr) (ll : Nat) (lc : Nat) (w : World) (Q : Value → World → Prop) (h : wp_match_Lack n m l ll lc w Q) : FnP Tryd.prog F_match_Lack #[(.int .i64 n), (.int .i64 m), (.slice l ll lc)] w Q := by
  have e_ : wp_match_Lack n m l ll lc w Q = Runs Tryd.prog Q ({ N := 27, wrap := [], pub := [], muts := [] } : Cfg) Tryd.f12 (Tryd.f12.body.getD .skip) [.sc (.int .i64 n), .sc (.int .i64 m), .sc (.slc l ll lc)] w := by kernel_rfl
  rw [e_] at h
  exact runs_fn h Tryd.func12 (by kernel_rfl) (fun args w => Tryd.call12 args w) (by kernel_rfl) (by kernel_rfl) rfl rfl

/-- math/bits.TrailingZeros64 -/
def wp_math_bits_TrailingZeros64 (x : Int) (w : World) (Q : Value → World → Prop) : Prop :=
  ((x = 0) →
   ∀ w0, Ext w w0 →
   Q (.int .i64 64) w0) ∧
  ((x ≠ 0) →
   (some (⟨0, 0, none⟩ : Addr)) ≠ none ∧
   (0 : Int) ≤ (iBit .shr .u64 (IntKind.wrap .u64 ((iBit .and .u64 x (IntKind.wrap .u64 (0 - x))) * 285870213051353865)) 58) ∧
   ((iBit .shr .u64 (IntKind.wrap .u64 ((iBit .and .u64 x (IntKind.wrap .u64 (0 - x))) * 285870213051353865)) 58) : Int) < 64 ∧
   ∃ t0 : Int, cell w (pIdx (some (⟨0, 0, none⟩ : Addr)) (iBit .shr .u64 (IntKind.wrap .u64 ((iBit .and .u64 x (IntKind.wrap .u64 (0 - x))) * 285870213051353865)) 58) 1) 0 = some (.int .u8 t0) ∧
   InR .i64 t0 ∧
   ∀ w1, Ext w w1 →
   Q (.int .i64 t0) w1)

theorem ok_math_bits_TrailingZeros64 (x : Int) (w : World) (Q : Value → World → Prop) (h : wp_math_bits_TrailingZeros64 x w Q) : FnP Tryd.prog F_math_bits_TrailingZeros64 #[(.int .u64 x)] w Q := by
  have e_ : wp_math_bits_TrailingZeros64 x w Q = Runs Tryd.prog Q ({ N := 14, wrap := [7, 9], pub := [], muts := [] } : Cfg) Tryd.f23 (Tryd.f23.body.getD .skip) [.sc (.int .u64 x)] w := by kernel_rfl
  rw [e_] at h
  exact runs_fn h Tryd.func23 (by kernel_rfl) (fun args w => Tryd.call23 args w) (by kernel_rfl) (by kernel_rfl) rfl rfl

/-- shiftbell/shiftbellkeep.pairs -/
def wp_shiftbellkeep_pairs (n : Int) (m : Int) (l : Option Addr) (ll : Nat) (lc : Nat) (to : Option Addr) (tol : Nat) (toc : Nat) (w : World) (Q : Value → World → Prop) : Prop :=
  (((tol : Int) ≠ n) →
   ∀ w0, Ext w w0 →
   Q (.int .i64 (-1)) w0) ∧
  (((tol : Int) = n) →
   ∃ (I0 : Int → Int → World → Prop) (M0 : Int → Int → World → Nat), I0 0 0 w ∧
   ∀ (many1 : Int) (k2 : Int) (w3 : World), I0 many1 k2 w3 →
    ((k2 < (tol : Int)) →
     to ≠ none ∧
     (0 : Int) ≤ k2 ∧
     (k2 : Int) < (tol : Int) ∧
     ∃ t4 : Int, cell w3 (pIdx to k2 1) 0 = some (.int .i64 t4) ∧
     ((t4 = (-1)) →
      InR .i64 (k2 + 1) ∧
      (I0 many1 (k2 + 1) w3 ∧ M0 many1 (k2 + 1) w3 < M0 many1 k2 w3)) ∧
     ((t4 ≠ (-1)) →
      (((t4 < 0) ∨ (m ≤ t4)) →
       ∀ w5, Ext w3 w5 →
       Q (.int .i64 (-1)) w5) ∧
      (((0 ≤ t4) ∧ (t4 < m)) →
       ∀ w5, Ext w3 w5 →
       FnP Tryd.prog F_slices_Contains_api_Edge_api_Edge #[(.slice l ll lc), (.agg #[(.int .i64 k2), (.int .i64 t4)])] w5 fun v6 w6 =>
        Ext w5 w6 ∧
        ∃ t7 : Bool, v6 = (.bool t7) ∧
        ((t7 = true) →
         (0 : Int) ≤ 0) ∧
        ((t7 = true) →
         (0 : Int) ≤ k2) ∧
        ((t7 = true) →
         (k2 : Int) ≤ (toc : Int)) ∧
        ((t7 = false) →
         ∀ w8, Ext w3 w8 →
         Q (.int .i64 (-1)) w8) ∧
        ((t7 = true) →
         ∀ w8, Ext w3 w8 →
         FnP Tryd.prog F_slices_Contains_int_int #[(.slice (pCut to toc 0 1) (k2 - 0).toNat (toc - (0 : Int).toNat)), (.int .i64 t4)] w8 fun v9 w9 =>
          Ext w8 w9 ∧
          ∃ t10 : Bool, v9 = (.bool t10) ∧
          ((t10 = true) →
           ∀ w11, Ext w3 w11 →
           Q (.int .i64 (-1)) w11) ∧
          ((t10 = false) →
           InR .i64 (many1 + 1) ∧
           InR .i64 (k2 + 1) ∧
           (I0 (many1 + 1) (k2 + 1) w3 ∧ M0 (many1 + 1) (k2 + 1) w3 < M0 many1 k2 w3)))))) ∧
    (((tol : Int) ≤ k2) →
     ∀ w4, Ext w3 w4 →
     Q (.int .i64 many1) w4))

theorem ok_shiftbellkeep_pairs (n : Int) (m : Int) (l : Option Addr) (ll : Nat) (lc : Nat) (to : Option Addr) (tol : Nat) (toc : Nat) (w : World) (Q : Value → World → Prop) (h : wp_shiftbellkeep_pairs n m l ll lc to tol toc w Q) : FnP Tryd.prog F_shiftbellkeep_pairs #[(.int .i64 n), (.int .i64 m), (.slice l ll lc), (.slice to tol toc)] w Q := by
  have e_ : wp_shiftbellkeep_pairs n m l ll lc to tol toc w Q = Runs Tryd.prog Q ({ N := 51, wrap := [], pub := [], muts := [] } : Cfg) Tryd.f8 (Tryd.f8.body.getD .skip) [.sc (.int .i64 n), .sc (.int .i64 m), .sc (.slc l ll lc), .sc (.slc to tol toc)] w := by kernel_rfl
  rw [e_] at h
  exact runs_fn h Tryd.func8 (by kernel_rfl) (fun args w => Tryd.call8 args w) (by kernel_rfl) (by kernel_rfl) rfl rfl

/-- shiftbell/shiftbellkeep.matches -/
def wp_shiftbellkeep_matches  (w : World) (Q : Value → World → Prop) : Prop :=
  ∀ w0, Ext w w0 →
  Run Tryd.prog (.buildSlice 22 1 [(0, (.agg #[(.int .i64 0), (.int .i64 0)]))]) w0 fun v1 w1 =>
   Ext w0 w1 ∧
   ∃ t2 : Option Addr, ∃ tl3 : Nat, ∃ tc4 : Nat, v1 = (.slice t2 tl3 tc4) ∧
   ∀ w5, Ext w1 w5 →
   FnP Tryd.prog F_match_Pairs #[(.int .i64 1), (.int .i64 1), (.slice t2 tl3 tc4)] w5 fun v6 w6 =>
    Ext w5 w6 ∧
    ∃ t7 : Option Addr, ∃ tl8 : Nat, ∃ tc9 : Nat, ∃ t10 : Int, v6 = (.tuple #[(.slice t7 tl8 tc9), (.int .i64 t10)]) ∧
    (((t10 = 0) ∧ ((tl8 : Int) = 1)) →
     t7 ≠ none) ∧
    (((t10 = 0) ∧ ((tl8 : Int) = 1)) →
     (0 : Int) ≤ 0) ∧
    (((t10 = 0) ∧ ((tl8 : Int) = 1)) →
     (0 : Int) < (tl8 : Int)) ∧
    (((t10 = 0) ∧ ((tl8 : Int) = 1)) →
     ∃ t11 : Int, cell w6 (pIdx t7 0 1) 0 = some (.int .i64 t11) ∧
     ∀ w12, Ext w6 w12 →
     Q (.bool (decide (t11 = 0))) w12) ∧
    (((t10 ≠ 0) ∨ ((tl8 : Int) ≠ 1)) →
     ∀ w11, Ext w6 w11 →
     Q (.bool false) w11)

theorem ok_shiftbellkeep_matches  (w : World) (Q : Value → World → Prop) (h : wp_shiftbellkeep_matches  w Q) : FnP Tryd.prog F_shiftbellkeep_matches #[] w Q := by
  have e_ : wp_shiftbellkeep_matches  w Q = Runs Tryd.prog Q ({ N := 22, wrap := [], pub := [], muts := [] } : Cfg) Tryd.f6 (Tryd.f6.body.getD .skip) [] w := by kernel_rfl
  rw [e_] at h
  exact runs_fn h Tryd.func6 (by kernel_rfl) (fun args w => Tryd.call6 args w) (by kernel_rfl) (by kernel_rfl) rfl rfl

/-- slices.Contains[[]int,int] -/
def wp_slices_Contains_int_int (s : Option Addr) (sl : Nat) (sc : Nat) (v : Int) (w : World) (Q : Value → World → Prop) : Prop :=
  ∀ w0, Ext w w0 →
  FnP Tryd.prog F_slices_Index_int_int #[(.slice s sl sc), (.int .i64 v)] w0 fun v1 w1 =>
   Ext w0 w1 ∧
   ∃ t2 : Int, v1 = (.int .i64 t2) ∧
   ∀ w3, Ext w w3 →
   Q (.bool (decide (0 ≤ t2))) w3

theorem ok_slices_Contains_int_int (s : Option Addr) (sl : Nat) (sc : Nat) (v : Int) (w : World) (Q : Value → World → Prop) (h : wp_slices_Contains_int_int s sl sc v w Q) : FnP Tryd.prog F_slices_Contains_int_int #[(.slice s sl sc), (.int .i64 v)] w Q := by
  have e_ : wp_slices_Contains_int_int s sl sc v w Q = Runs Tryd.prog Q ({ N := 9, wrap := [], pub := [], muts := [] } : Cfg) Tryd.f11 (Tryd.f11.body.getD .skip) [.sc (.slc s sl sc), .sc (.int .i64 v)] w := by kernel_rfl
  rw [e_] at h
  exact runs_fn h Tryd.func11 (by kernel_rfl) (fun args w => Tryd.call11 args w) (by kernel_rfl) (by kernel_rfl) rfl rfl

/-- slices.Index[[]int,int] -/
def wp_slices_Index_int_int (s : Option Addr) (sl : Nat) (sc : Nat) (v : Int) (w : World) (Q : Value → World → Prop) : Prop :=
  ∃ (I0 : Int → World → Prop) (M0 : Int → World → Nat), I0 0 w ∧
  ∀ (k1 : Int) (w2 : World), I0 k1 w2 →
   ((k1 < (sl : Int)) →
    s ≠ none ∧
    (0 : Int) ≤ k1 ∧
    (k1 : Int) < (sl : Int) ∧
    ∃ t3 : Int, cell w2 (pIdx s k1 1) 0 = some (.int .i64 t3) ∧
    ((v = t3) →
     ∀ w4, Ext w2 w4 →
     Q (.int .i64 k1) w4) ∧
    ((v ≠ t3) →
     InR .i64 (k1 + 1) ∧
     (I0 (k1 + 1) w2 ∧ M0 (k1 + 1) w2 < M0 k1 w2))) ∧
   (((sl : Int) ≤ k1) →
    ∀ w3, Ext w2 w3 →
    Q (.int .i64 (-1)) w3)

theorem ok_slices_Index_int_int (s : Option Addr) (sl : Nat) (sc : Nat) (v : Int) (w : World) (Q : Value → World → Prop) (h : wp_slices_Index_int_int s sl sc v w Q) : FnP Tryd.prog F_slices_Index_int_int #[(.slice s sl sc), (.int .i64 v)] w Q := by
  have e_ : wp_slices_Index_int_int s sl sc v w Q = Runs Tryd.prog Q ({ N := 19, wrap := [], pub := [], muts := [] } : Cfg) Tryd.f19 (Tryd.f19.body.getD .skip) [.sc (.slc s sl sc), .sc (.int .i64 v)] w := by kernel_rfl
  rw [e_] at h
  exact runs_fn h Tryd.func19 (by kernel_rfl) (fun args w => Tryd.call19 args w) (by kernel_rfl) (by kernel_rfl) rfl rfl

/-- slices.Contains[[]shiftbell/api.Edge,shiftbell/api.Edge] -/
def wp_slices_Contains_api_Edge_api_Edge (s : Option Addr) (sl : Nat) (sc : Nat) (v_0 : Int) (v_1 : Int) (w : World) (Q : Value → World → Prop) : Prop :=
  ∀ b0 : Nat, w.heap.size ≤ b0 → ∀ w1, Ext w w1 →
  FnP Tryd.prog F_slices_Index_api_Edge_api_Edge #[(.slice s sl sc), (.agg #[(.int .i64 v_0), (.int .i64 v_1)])] w1 fun v2 w2 =>
   Ext w1 w2 ∧
   ∃ t3 : Int, v2 = (.int .i64 t3) ∧
   ∀ w4, Ext w w4 →
   Q (.bool (decide (0 ≤ t3))) w4

theorem ok_slices_Contains_api_Edge_api_Edge (s : Option Addr) (sl : Nat) (sc : Nat) (v_0 : Int) (v_1 : Int) (w : World) (Q : Value → World → Prop) (h : wp_slices_Contains_api_Edge_api_Edge s sl sc v_0 v_1 w Q) : FnP Tryd.prog F_slices_Contains_api_Edge_api_Edge #[(.slice s sl sc), (.agg #[(.int .i64 v_0), (.int .i64 v_1)])] w Q := by
  have e_ : wp_slices_Contains_api_Edge_api_Edge s sl sc v_0 v_1 w Q = Runs Tryd.prog Q ({ N := 9, wrap := [], pub := [], muts := [] } : Cfg) Tryd.f16 (Tryd.f16.body.getD .skip) [.sc (.slc s sl sc), .agg [.int .i64 v_0, .int .i64 v_1]] w := by kernel_rfl
  rw [e_] at h
  exact runs_fn h Tryd.func16 (by kernel_rfl) (fun args w => Tryd.call16 args w) (by kernel_rfl) (by kernel_rfl) rfl rfl

/-- slices.Index[[]shiftbell/api.Edge,shiftbell/api.Edge] -/
def wp_slices_Index_api_Edge_api_Edge (s : Option Addr) (sl : Nat) (sc : Nat) (v_0 : Int) (v_1 : Int) (w : World) (Q : Value → World → Prop) : Prop :=
  ∀ b0 : Nat, w.heap.size ≤ b0 → ∃ (I1 : Int → World → Prop) (M1 : Int → World → Nat), I1 0 w ∧
  ∀ (k2 : Int) (w3 : World), I1 k2 w3 →
   ((k2 < (sl : Int)) →
    s ≠ none ∧
    (0 : Int) ≤ k2 ∧
    (k2 : Int) < (sl : Int) ∧
    (pIdx s k2 2) ≠ none ∧
    ∃ t4 : Int, cell w3 (pIdx s k2 2) 0 = some (.int .i64 t4) ∧
    ∃ t5 : Int, cell w3 (pIdx s k2 2) 1 = some (.int .i64 t5) ∧
    ∀ w6, Ext w3 w6 →
    Run Tryd.prog (.eq .eql 24 false false (.agg #[(.int .i64 v_0), (.int .i64 v_1)]) (.agg #[(.int .i64 t4), (.int .i64 t5)])) w6 fun v7 w7 =>
     Ext w6 w7 ∧
     ∃ t8 : Bool, v7 = (.bool t8) ∧
     ((t8 = true) →
      ∀ w9, Ext w3 w9 →
      Q (.int .i64 k2) w9) ∧
     ((t8 = false) →
      InR .i64 (k2 + 1) ∧
      (I1 (k2 + 1) w3 ∧ M1 (k2 + 1) w3 < M1 k2 w3))) ∧
   (((sl : Int) ≤ k2) →
    ∀ w4, Ext w3 w4 →
    Q (.int .i64 (-1)) w4)

theorem ok_slices_Index_api_Edge_api_Edge (s : Option Addr) (sl : Nat) (sc : Nat) (v_0 : Int) (v_1 : Int) (w : World) (Q : Value → World → Prop) (h : wp_slices_Index_api_Edge_api_Edge s sl sc v_0 v_1 w Q) : FnP Tryd.prog F_slices_Index_api_Edge_api_Edge #[(.slice s sl sc), (.agg #[(.int .i64 v_0), (.int .i64 v_1)])] w Q := by
  have e_ : wp_slices_Index_api_Edge_api_Edge s sl sc v_0 v_1 w Q = Runs Tryd.prog Q ({ N := 19, wrap := [], pub := [], muts := [] } : Cfg) Tryd.f22 (Tryd.f22.body.getD .skip) [.sc (.slc s sl sc), .agg [.int .i64 v_0, .int .i64 v_1]] w := by kernel_rfl
  rw [e_] at h
  exact runs_fn h Tryd.func22 (by kernel_rfl) (fun args w => Tryd.call22 args w) (by kernel_rfl) (by kernel_rfl) rfl rfl

/-- slices.Clone[[]shiftbell/api.Edge,shiftbell/api.Edge] -/
def wp_slices_Clone_api_Edge_api_Edge (s : Option Addr) (sl : Nat) (sc : Nat) (w : World) (Q : Value → World → Prop) : Prop :=
  ((s = none) →
   ∀ w0, Ext w w0 →
   Q (.slice none 0 0) w0) ∧
  ((s ≠ none) →
   ∀ w0, Ext w w0 →
   Run Tryd.prog (.buildSlice 22 0 []) w0 fun v1 w1 =>
    Ext w0 w1 ∧
    ∃ t2 : Option Addr, ∃ tl3 : Nat, ∃ tc4 : Nat, v1 = (.slice t2 tl3 tc4) ∧
    ∀ w5, Ext w1 w5 →
    Run Tryd.prog (.append #[22, 22] 22 [(.slice t2 tl3 tc4), (.slice s sl sc)]) w5 fun v6 w6 =>
     ∃ t7 : Option Addr, ∃ tl8 : Nat, ∃ tc9 : Nat, v6 = (.slice t7 tl8 tc9) ∧
     ∀ w10, Ext w6 w10 →
     Q (.slice t7 tl8 tc9) w10)

theorem ok_slices_Clone_api_Edge_api_Edge (s : Option Addr) (sl : Nat) (sc : Nat) (w : World) (Q : Value → World → Prop) (h : wp_slices_Clone_api_Edge_api_Edge s sl sc w Q) : FnP Tryd.prog F_slices_Clone_api_Edge_api_Edge #[(.slice s sl sc)] w Q := by
  have e_ : wp_slices_Clone_api_Edge_api_Edge s sl sc w Q = Runs Tryd.prog Q ({ N := 8, wrap := [], pub := [], muts := [] } : Cfg) Tryd.f9 (Tryd.f9.body.getD .skip) [.sc (.slc s sl sc)] w := by kernel_rfl
  rw [e_] at h
  exact runs_fn h Tryd.func9 (by kernel_rfl) (fun args w => Tryd.call9 args w) (by kernel_rfl) (by kernel_rfl) rfl rfl

/-- shiftbell/shiftbellkeep.MatchHall$1 -/
def wp_shiftbellkeep_MatchHall_1 (who : Option Addr) (whol : Nat) (whoc : Nat) (c0 : Option Addr) (c1 : Option Addr) (w : World) (Q : Value → World → Prop) : Prop :=
  ∃ t0 : Int, cell w c0 0 = some (.int .i64 t0) ∧
  ∃ (I1 : Int → Int → World → Prop) (M1 : Int → Int → World → Nat), I1 0 0 w ∧
  ∀ (many2 : Int) (k3 : Int) (w4 : World), I1 many2 k3 w4 →
   ((k3 < t0) →
    ∀ w5, Ext w4 w5 →
    FnP Tryd.prog F_slices_Contains_int_int #[(.slice who whol whoc), (.int .i64 k3)] w5 fun v6 w6 =>
     Ext w5 w6 ∧
     ∃ t7 : Bool, v6 = (.bool t7) ∧
     ((t7 = true) →
      InR .i64 (many2 + 1) ∧
      InR .i64 (k3 + 1) ∧
      (I1 (many2 + 1) (k3 + 1) w4 ∧ M1 (many2 + 1) (k3 + 1) w4 < M1 many2 k3 w4)) ∧
     ((t7 = false) →
      InR .i64 (k3 + 1) ∧
      (I1 many2 (k3 + 1) w4 ∧ M1 many2 (k3 + 1) w4 < M1 many2 k3 w4))) ∧
   ((t0 ≤ k3) →
    ∃ t5 : Option Addr, ∃ tl6 : Nat, ∃ tc7 : Nat, cell w4 c1 0 = some (.slice t5 tl6 tc7) ∧
    ∃ (I8 : Option Addr → Nat → Nat → Int → World → Prop) (M8 : Option Addr → Nat → Nat → Int → World → Nat), I8 none 0 0 0 w4 ∧
    ∀ (may9 : Option Addr) (mayl9 : Nat) (mayc9 : Nat) (k10 : Int) (w11 : World), I8 may9 mayl9 mayc9 k10 w11 →
     ((k10 < (tl6 : Int)) →
      t5 ≠ none ∧
      (0 : Int) ≤ k10 ∧
      (k10 : Int) < (tl6 : Int) ∧
      (pIdx t5 k10 2) ≠ none ∧
      ∃ t12 : Int, cell w11 (pIdx t5 k10 2) 0 = some (.int .i64 t12) ∧
      ∃ t13 : Int, cell w11 (pIdx t5 k10 2) 1 = some (.int .i64 t13) ∧
      ∀ b14 : Nat, w11.heap.size ≤ b14 → ∀ w15, Ext w11 w15 →
      FnP Tryd.prog F_slices_Contains_int_int #[(.slice who whol whoc), (.int .i64 t12)] w15 fun v16 w16 =>
       Ext w15 w16 ∧
       ∃ t17 : Bool, v16 = (.bool t17) ∧
       ((t17 = true) →
        ∀ w18, Ext w11 w18 →
        FnP Tryd.prog F_slices_Contains_int_int #[(.slice may9 mayl9 mayc9), (.int .i64 t13)] w18 fun v19 w19 =>
         Ext w18 w19 ∧
         ∃ t20 : Bool, v19 = (.bool t20) ∧
         ((t20 = false) →
          ∀ w21, ExtB [] [b14] w11 w21 →
          Run Tryd.prog (.buildSlice 26 1 [(0, (.int .i64 t13))]) w21 fun v22 w22 =>
           Ext w21 w22 ∧
           ∃ t23 : Option Addr, ∃ tl24 : Nat, ∃ tc25 : Nat, v22 = (.slice t23 tl24 tc25) ∧
           ∀ w26, ExtB [] [b14] w22 w26 →
           Run Tryd.prog (.append #[26, 26] 26 [(.slice may9 mayl9 mayc9), (.slice t23 tl24 tc25)]) w26 fun v27 w27 =>
            Kept [b14] w26 w27 ∧
            ∃ t28 : Option Addr, ∃ tl29 : Nat, ∃ tc30 : Nat, v27 = (.slice t28 tl29 tc30) ∧
            InR .i64 (k10 + 1) ∧
            (I8 t28 tl29 tc30 (k10 + 1) w27 ∧ M8 t28 tl29 tc30 (k10 + 1) w27 < M8 may9 mayl9 mayc9 k10 w11)) ∧
         ((t20 = true) →
          InR .i64 (k10 + 1) ∧
          (I8 may9 mayl9 mayc9 (k10 + 1) w11 ∧ M8 may9 mayl9 mayc9 (k10 + 1) w11 < M8 may9 mayl9 mayc9 k10 w11))) ∧
       ((t17 = false) →
        InR .i64 (k10 + 1) ∧
        (I8 may9 mayl9 mayc9 (k10 + 1) w11 ∧ M8 may9 mayl9 mayc9 (k10 + 1) w11 < M8 may9 mayl9 mayc9 k10 w11))) ∧
     (((tl6 : Int) ≤ k10) →
      ∀ w12, Ext w11 w12 →
      Q (.bool (decide ((mayl9 : Int) < many2))) w12))

theorem ok_shiftbellkeep_MatchHall_1 (who : Option Addr) (whol : Nat) (whoc : Nat) (c0 : Option Addr) (c1 : Option Addr) (w : World) (Q : Value → World → Prop) (h : wp_shiftbellkeep_MatchHall_1 who whol whoc c0 c1 w Q) : FnP Tryd.prog F_shiftbellkeep_MatchHall_1 #[(.slice who whol whoc), (.pointer c0), (.pointer c1)] w Q := by
  have e_ : wp_shiftbellkeep_MatchHall_1 who whol whoc c0 c1 w Q = Runs Tryd.prog Q ({ N := 47, wrap := [], pub := [], muts := [] } : Cfg) Tryd.f13 (Tryd.f13.body.getD .skip) [.sc (.slc who whol whoc), .sc (.ptr c0), .sc (.ptr c1)] w := by kernel_rfl
  rw [e_] at h
  exact runs_fn h Tryd.func13 (by kernel_rfl) (fun args w => Tryd.call13 args w) (by kernel_rfl) (by kernel_rfl) rfl rfl

/-- shiftbell/shiftbellkeep.MatchTurn -/
def wp_shiftbellkeep_MatchTurn (n : Int) (m : Int) (l : Option Addr) (ll : Nat) (lc : Nat) (x_0 : Int) (x_1 : Int) (w : World) (Q : Value → World → Prop) : Prop :=
  ∀ b0 : Nat, w.heap.size ≤ b0 → ∀ w1, Ext w w1 →
  FnP Tryd.prog F_shiftbellkeep_matches #[] w1 fun v2 w2 =>
   Ext w1 w2 ∧
   ∃ t3 : Bool, v2 = (.bool t3) ∧
   ((t3 = false) →
    ∀ w4, Ext w w4 →
    Q (.bool false) w4) ∧
   ((t3 = true) →
    ∀ w4, ExtB [] [b0] w w4 →
    FnP Tryd.prog F_match_Pairs #[(.int .i64 n), (.int .i64 m), (.slice l ll lc)] w4 fun v5 w5 =>
     Ext w4 w5 ∧
     ∃ t6 : Option Addr, ∃ tl7 : Nat, ∃ tc8 : Nat, ∃ t9 : Int, v5 = (.tuple #[(.slice t6 tl7 tc8), (.int .i64 t9)]) ∧
     ((t9 ≠ 0) →
      ∀ w10, Ext w5 w10 →
      Q (.bool (decide ((tl7 : Int) = 0))) w10) ∧
     ((t9 = 0) →
      ∃ (I10 : Option Addr → Nat → Nat → Int → World → Prop) (M10 : Option Addr → Nat → Nat → Int → World → Nat), I10 none 0 0 0 w5 ∧
      ∀ (turned11 : Option Addr) (turnedl11 : Nat) (turnedc11 : Nat) (k12 : Int) (w13 : World), I10 turned11 turnedl11 turnedc11 k12 w13 →
       ((k12 < (ll : Int)) →
        l ≠ none ∧
        (0 : Int) ≤ k12 ∧
        (k12 : Int) < (ll : Int) ∧
        (pIdx l k12 2) ≠ none ∧
        ∃ t14 : Int, cell w13 (pIdx l k12 2) 0 = some (.int .i64 t14) ∧
        ∃ t15 : Int, cell w13 (pIdx l k12 2) 1 = some (.int .i64 t15) ∧
        ∀ b16 : Nat, w13.heap.size ≤ b16 → ∀ w17, ExtB [] [b0, b16] w13 w17 →
        Run Tryd.prog (.buildSlice 22 1 [(0, (.agg #[(.int .i64 t15), (.int .i64 t14)]))]) w17 fun v18 w18 =>
         Ext w17 w18 ∧
         ∃ t19 : Option Addr, ∃ tl20 : Nat, ∃ tc21 : Nat, v18 = (.slice t19 tl20 tc21) ∧
         ∀ w22, ExtB [] [b0, b16] w18 w22 →
         Run Tryd.prog (.append #[22, 22] 22 [(.slice turned11 turnedl11 turnedc11), (.slice t19 tl20 tc21)]) w22 fun v23 w23 =>
          Kept [b0, b16] w22 w23 ∧
          ∃ t24 : Option Addr, ∃ tl25 : Nat, ∃ tc26 : Nat, v23 = (.slice t24 tl25 tc26) ∧
          InR .i64 (k12 + 1) ∧
          (I10 t24 tl25 tc26 (k12 + 1) w23 ∧ M10 t24 tl25 tc26 (k12 + 1) w23 < M10 turned11 turnedl11 turnedc11 k12 w13)) ∧
       (((ll : Int) ≤ k12) →
        ∀ w14, ExtB [] [b0] w13 w14 →
        FnP Tryd.prog F_match_Pairs #[(.int .i64 m), (.int .i64 n), (.slice turned11 turnedl11 turnedc11)] w14 fun v15 w15 =>
         Ext w14 w15 ∧
         ∃ t16 : Option Addr, ∃ tl17 : Nat, ∃ tc18 : Nat, ∃ t19 : Int, v15 = (.tuple #[(.slice t16 tl17 tc18), (.int .i64 t19)]) ∧
         ∀ w20, Ext w15 w20 →
         FnP Tryd.prog F_shiftbellkeep_pairs #[(.int .i64 n), (.int .i64 m), (.slice l ll lc), (.slice t6 tl7 tc8)] w20 fun v21 w21 =>
          Ext w20 w21 ∧
          ∃ t22 : Int, v21 = (.int .i64 t22) ∧
          (((t19 ≠ 0) ∨ (t22 < 0)) →
           ∀ w23, Ext w15 w23 →
           Q (.bool false) w23) ∧
          (((t19 = 0) ∧ (0 ≤ t22)) →
           ∀ w23, Ext w15 w23 →
           FnP Tryd.prog F_shiftbellkeep_pairs #[(.int .i64 m), (.int .i64 n), (.slice turned11 turnedl11 turnedc11), (.slice t16 tl17 tc18)] w23 fun v24 w24 =>
            Ext w23 w24 ∧
            ∃ t25 : Int, v24 = (.int .i64 t25) ∧
            ((t25 ≠ t22) →
             ∀ w26, Ext w15 w26 →
             Q (.bool false) w26) ∧
            ((t25 = t22) →
             ∃ (J26 : Option Addr → Nat → Nat → World → Prop), ((∀ w29, ExtB [] [b0] w15 w29 →
              FnP Tryd.prog F_slices_Clone_api_Edge_api_Edge #[(.slice l ll lc)] w29 fun v30 w30 =>
               Ext w29 w30 ∧
               ∃ t31 : Option Addr, ∃ tl32 : Nat, ∃ tc33 : Nat, v30 = (.slice t31 tl32 tc33) ∧
               ∀ w34, ExtB [] [b0] w30 w34 →
               Run Tryd.prog (.buildSlice 22 1 [(0, (.agg #[(.int .i64 x_0), (.int .i64 x_1)]))]) w34 fun v35 w35 =>
                Ext w34 w35 ∧
                ∃ t36 : Option Addr, ∃ tl37 : Nat, ∃ tc38 : Nat, v35 = (.slice t36 tl37 tc38) ∧
                ∀ w39, ExtB [] [b0] w35 w39 →
                Run Tryd.prog (.append #[22, 22] 22 [(.slice t31 tl32 tc33), (.slice t36 tl37 tc38)]) w39 fun v40 w40 =>
                 Kept [b0] w39 w40 ∧
                 ∃ t41 : Option Addr, ∃ tl42 : Nat, ∃ tc43 : Nat, v40 = (.slice t41 tl42 tc43) ∧
                 J26 t41 tl42 tc43 w40) ∧
              ∀ w29, ExtB [] [b0] w15 w29 →
              Run Tryd.prog (.buildSlice 22 1 [(0, (.agg #[(.int .i64 x_0), (.int .i64 x_1)]))]) w29 fun v30 w30 =>
               Ext w29 w30 ∧
               ∃ t31 : Option Addr, ∃ tl32 : Nat, ∃ tc33 : Nat, v30 = (.slice t31 tl32 tc33) ∧
               ∀ w34, ExtB [] [b0] w30 w34 →
               FnP Tryd.prog F_slices_Clone_api_Edge_api_Edge #[(.slice l ll lc)] w34 fun v35 w35 =>
                Ext w34 w35 ∧
                ∃ t36 : Option Addr, ∃ tl37 : Nat, ∃ tc38 : Nat, v35 = (.slice t36 tl37 tc38) ∧
                ∀ w39, ExtB [] [b0] w35 w39 →
                Run Tryd.prog (.append #[22, 22] 22 [(.slice t36 tl37 tc38), (.slice t31 tl32 tc33)]) w39 fun v40 w40 =>
                 Kept [b0] w39 w40 ∧
                 ∃ t41 : Option Addr, ∃ tl42 : Nat, ∃ tc43 : Nat, v40 = (.slice t41 tl42 tc43) ∧
                 J26 t41 tl42 tc43 w40) ∧
             ∀ (more27 : Option Addr) (morel27 : Nat) (morec27 : Nat) (w28 : World), J26 more27 morel27 morec27 w28 →
              ∀ w29, ExtB [] [b0] w28 w29 →
              FnP Tryd.prog F_match_Pairs #[(.int .i64 n), (.int .i64 m), (.slice more27 morel27 morec27)] w29 fun v30 w30 =>
               Ext w29 w30 ∧
               ∃ t31 : Option Addr, ∃ tl32 : Nat, ∃ tc33 : Nat, ∃ t34 : Int, v30 = (.tuple #[(.slice t31 tl32 tc33), (.int .i64 t34)]) ∧
               ((t34 ≠ 0) →
                ∀ w35, Ext w30 w35 →
                Q (.bool (decide ((tl32 : Int) = 0))) w35) ∧
               ((t34 = 0) →
                ∀ w35, Ext w30 w35 →
                FnP Tryd.prog F_shiftbellkeep_pairs #[(.int .i64 n), (.int .i64 m), (.slice more27 morel27 morec27), (.slice t31 tl32 tc33)] w35 fun v36 w36 =>
                 Ext w35 w36 ∧
                 ∃ t37 : Int, v36 = (.int .i64 t37) ∧
                 ((t37 ≠ t22) →
                  InR .i64 (t22 + 1)) ∧
                 ∀ w38, Ext w30 w38 →
                 Q (.bool ((decide (t37 = t22)) || (decide (t37 = (t22 + 1))))) w38))))))

theorem ok_shiftbellkeep_MatchTurn (n : Int) (m : Int) (l : Option Addr) (ll : Nat) (lc : Nat) (x_0 : Int) (x_1 : Int) (w : World) (Q : Value → World → Prop) (h : wp_shiftbellkeep_MatchTurn n m l ll lc x_0 x_1 w Q) : FnP Tryd.prog F_shiftbellkeep_MatchTurn #[(.int .i64 n), (.int .i64 m), (.slice l ll lc), (.agg #[(.int .i64 x_0), (.int .i64 x_1)])] w Q := by
  have e_ : wp_shiftbellkeep_MatchTurn n m l ll lc x_0 x_1 w Q = Runs Tryd.prog Q ({ N := 108, wrap := [], pub := [], muts := [] } : Cfg) Tryd.f3 (Tryd.f3.body.getD .skip) [.sc (.int .i64 n), .sc (.int .i64 m), .sc (.slc l ll lc), .agg [.int .i64 x_0, .int .i64 x_1]] w := by kernel_rfl
  rw [e_] at h
  exact runs_fn h Tryd.func3 (by kernel_rfl) (fun args w => Tryd.call3 args w) (by kernel_rfl) (by kernel_rfl) rfl rfl

theorem open_shiftbellkeep_MatchTurn (W : World) (R : Array Value → Prop) (h : ∀ n : Int, InR .i64 n → ∀ m : Int, InR .i64 m → ∀ l : Option Addr, ∀ ll : Nat, ∀ lc : Nat, SlcArg Tryd.prog W 24 l ll lc → ∀ x_0 : Int, InR .i64 x_0 → ∀ x_1 : Int, InR .i64 x_1 → R #[(.int .i64 n), (.int .i64 m), (.slice l ll lc), (.agg #[(.int .i64 x_0), (.int .i64 x_1)])]) (args : Array Value) (hg : GoodAll Tryd.prog W Tryd.f3.params.toList args.toList) : R args := by
  have e_ : (ArgsAll Tryd.prog W Tryd.f3.params.toList fun l => R l.toArray) = (∀ n : Int, InR .i64 n → ∀ m : Int, InR .i64 m → ∀ l : Option Addr, ∀ ll : Nat, ∀ lc : Nat, SlcArg Tryd.prog W 24 l ll lc → ∀ x_0 : Int, InR .i64 x_0 → ∀ x_1 : Int, InR .i64 x_1 → R #[(.int .i64 n), (.int .i64 m), (.slice l ll lc), (.agg #[(.int .i64 x_0), (.int .i64 x_1)])]) := by kernel_rfl
  exact args_open (by rw [e_]; exact h) args hg
-- wit 3 #[(.int .i64 0), (.int .i64 0), (.slice none 0 0), (.agg #[(.int .i64 0), (.int .i64 0)])]

/-- shiftbell/shiftbellkeep.MatchKonig -/
def wp_shiftbellkeep_MatchKonig (n : Int) (m : Int) (l : Option Addr) (ll : Nat) (lc : Nat) (other : Option Addr) (otherl : Nat) (otherc : Nat) (w : World) (Q : Value → World → Prop) : Prop :=
  ∀ w0, Ext w w0 →
  FnP Tryd.prog F_shiftbellkeep_matches #[] w0 fun v1 w1 =>
   Ext w0 w1 ∧
   ∃ t2 : Bool, v1 = (.bool t2) ∧
   ((t2 = false) →
    ∀ w3, Ext w w3 →
    Q (.bool false) w3) ∧
   ((t2 = true) →
    ∀ w3, Ext w w3 →
    FnP Tryd.prog F_match_Pairs #[(.int .i64 n), (.int .i64 m), (.slice l ll lc)] w3 fun v4 w4 =>
     Ext w3 w4 ∧
     ∃ t5 : Option Addr, ∃ tl6 : Nat, ∃ tc7 : Nat, ∃ t8 : Int, v4 = (.tuple #[(.slice t5 tl6 tc7), (.int .i64 t8)]) ∧
     ∀ w9, Ext w4 w9 →
     FnP Tryd.prog F_match_Cover #[(.int .i64 n), (.int .i64 m), (.slice l ll lc)] w9 fun v10 w10 =>
      Ext w9 w10 ∧
      ∃ t11 : Option Addr, ∃ tl12 : Nat, ∃ tc13 : Nat, ∃ t14 : Option Addr, ∃ tl15 : Nat, ∃ tc16 : Nat, ∃ t17 : Int, v10 = (.tuple #[(.slice t11 tl12 tc13), (.slice t14 tl15 tc16), (.int .i64 t17)]) ∧
      ((t8 ≠ 0) →
       ((t8 = t17) →
        InR .i64 ((tl6 : Int) + (tl12 : Int))) ∧
       ((t8 = t17) →
        InR .i64 (((tl6 : Int) + (tl12 : Int)) + (tl15 : Int))) ∧
       ∀ w18, Ext w10 w18 →
       Q (.bool ((decide (t8 = t17)) && (decide ((((tl6 : Int) + (tl12 : Int)) + (tl15 : Int)) = 0)))) w18) ∧
      ((t8 = 0) →
       ∀ w18, Ext w10 w18 →
       FnP Tryd.prog F_shiftbellkeep_pairs #[(.int .i64 n), (.int .i64 m), (.slice l ll lc), (.slice t5 tl6 tc7)] w18 fun v19 w19 =>
        Ext w18 w19 ∧
        ∃ t20 : Int, v19 = (.int .i64 t20) ∧
        ∃ (I21 : Int → World → Prop) (M21 : Int → World → Nat), I21 0 w10 ∧
        ∀ (k22 : Int) (w23 : World), I21 k22 w23 →
         ((k22 < (ll : Int)) →
          l ≠ none ∧
          (0 : Int) ≤ k22 ∧
          (k22 : Int) < (ll : Int) ∧
          (pIdx l k22 2) ≠ none ∧
          ∃ t24 : Int, cell w23 (pIdx l k22 2) 0 = some (.int .i64 t24) ∧
          ∃ t25 : Int, cell w23 (pIdx l k22 2) 1 = some (.int .i64 t25) ∧
          ∀ b26 : Nat, w23.heap.size ≤ b26 → ∀ w27, Ext w23 w27 →
          FnP Tryd.prog F_slices_Contains_int_int #[(.slice t11 tl12 tc13), (.int .i64 t24)] w27 fun v28 w28 =>
           Ext w27 w28 ∧
           ∃ t29 : Bool, v28 = (.bool t29) ∧
           ((t29 = false) →
            ∀ w30, Ext w23 w30 →
            FnP Tryd.prog F_slices_Contains_int_int #[(.slice t14 tl15 tc16), (.int .i64 t25)] w30 fun v31 w31 =>
             Ext w30 w31 ∧
             ∃ t32 : Bool, v31 = (.bool t32) ∧
             ((t32 = false) →
              ∀ w33, Ext w23 w33 →
              Q (.bool false) w33) ∧
             ((t32 = true) →
              InR .i64 (k22 + 1) ∧
              (I21 (k22 + 1) w23 ∧ M21 (k22 + 1) w23 < M21 k22 w23))) ∧
           ((t29 = true) →
            InR .i64 (k22 + 1) ∧
            (I21 (k22 + 1) w23 ∧ M21 (k22 + 1) w23 < M21 k22 w23))) ∧
         (((ll : Int) ≤ k22) →
          (((t17 = 0) ∧ (0 ≤ t20)) →
           InR .i64 ((tl12 : Int) + (tl15 : Int))) ∧
          ((((t17 = 0) ∧ (0 ≤ t20)) ∧ (t20 = ((tl12 : Int) + (tl15 : Int)))) →
           ∀ w24, Ext w23 w24 →
           FnP Tryd.prog F_shiftbellkeep_pairs #[(.int .i64 n), (.int .i64 m), (.slice l ll lc), (.slice other otherl otherc)] w24 fun v25 w25 =>
            Ext w24 w25 ∧
            ∃ t26 : Int, v25 = (.int .i64 t26) ∧
            ∀ w27, Ext w23 w27 →
            Q (.bool (decide (t26 ≤ t20))) w27) ∧
          ((((t17 ≠ 0) ∨ (t20 < 0)) ∨ (t20 ≠ ((tl12 : Int) + (tl15 : Int)))) →
           ∀ w24, Ext w23 w24 →
           Q (.bool false) w24))))

theorem ok_shiftbellkeep_MatchKonig (n : Int) (m : Int) (l : Option Addr) (ll : Nat) (lc : Nat) (other : Option Addr) (otherl : Nat) (otherc : Nat) (w : World) (Q : Value → World → Prop) (h : wp_shiftbellkeep_MatchKonig n m l ll lc other otherl otherc w Q) : FnP Tryd.prog F_shiftbellkeep_MatchKonig #[(.int .i64 n), (.int .i64 m), (.slice l ll lc), (.slice other otherl otherc)] w Q := by
  have e_ : wp_shiftbellkeep_MatchKonig n m l ll lc other otherl otherc w Q = Runs Tryd.prog Q ({ N := 98, wrap := [], pub := [], muts := [] } : Cfg) Tryd.f4 (Tryd.f4.body.getD .skip) [.sc (.int .i64 n), .sc (.int .i64 m), .sc (.slc l ll lc), .sc (.slc other otherl otherc)] w := by kernel_rfl
  rw [e_] at h
  exact runs_fn h Tryd.func4 (by kernel_rfl) (fun args w => Tryd.call4 args w) (by kernel_rfl) (by kernel_rfl) rfl rfl

theorem open_shiftbellkeep_MatchKonig (W : World) (R : Array Value → Prop) (h : ∀ n : Int, InR .i64 n → ∀ m : Int, InR .i64 m → ∀ l : Option Addr, ∀ ll : Nat, ∀ lc : Nat, SlcArg Tryd.prog W 24 l ll lc → ∀ other : Option Addr, ∀ otherl : Nat, ∀ otherc : Nat, SlcArg Tryd.prog W 3 other otherl otherc → R #[(.int .i64 n), (.int .i64 m), (.slice l ll lc), (.slice other otherl otherc)]) (args : Array Value) (hg : GoodAll Tryd.prog W Tryd.f4.params.toList args.toList) : R args := by
  have e_ : (ArgsAll Tryd.prog W Tryd.f4.params.toList fun l => R l.toArray) = (∀ n : Int, InR .i64 n → ∀ m : Int, InR .i64 m → ∀ l : Option Addr, ∀ ll : Nat, ∀ lc : Nat, SlcArg Tryd.prog W 24 l ll lc → ∀ other : Option Addr, ∀ otherl : Nat, ∀ otherc : Nat, SlcArg Tryd.prog W 3 other otherl otherc → R #[(.int .i64 n), (.int .i64 m), (.slice l ll lc), (.slice other otherl otherc)]) := by kernel_rfl
  exact args_open (by rw [e_]; exact h) args hg
-- wit 4 #[(.int .i64 0), (.int .i64 0), (.slice none 0 0), (.slice none 0 0)]

/-- shiftbell/shiftbellkeep.MatchHall -/
def wp_shiftbellkeep_MatchHall (n : Int) (m : Int) (l : Option Addr) (ll : Nat) (lc : Nat) (some_v : Option Addr) (some_vl : Nat) (some_vc : Nat) (w : World) (Q : Value → World → Prop) : Prop :=
  ∀ w0, Ext w w0 →
  New w0 3 [(.int .i64 n)] fun p1 w1 =>
   ∀ w2, Ext w1 w2 →
   New w2 22 [(.slice l ll lc)] fun p3 w3 =>
    ∀ w4, Ext w3 w4 →
    FnP Tryd.prog F_shiftbellkeep_matches #[] w4 fun v5 w5 =>
     Ext w4 w5 ∧
     ∃ t6 : Bool, v5 = (.bool t6) ∧
     ((t6 = false) →
      ∀ w7, Ext w3 w7 →
      Q (.bool false) w7) ∧
     ((t6 = true) →
      ∃ t7 : Int, cell w3 p1 0 = some (.int .i64 t7) ∧
      ∃ t8 : Option Addr, ∃ tl9 : Nat, ∃ tc10 : Nat, cell w3 p3 0 = some (.slice t8 tl9 tc10) ∧
      ∀ w11, Ext w3 w11 →
      FnP Tryd.prog F_match_Pairs #[(.int .i64 t7), (.int .i64 m), (.slice t8 tl9 tc10)] w11 fun v12 w12 =>
       Ext w11 w12 ∧
       ∃ t13 : Option Addr, ∃ tl14 : Nat, ∃ tc15 : Nat, ∃ t16 : Int, v12 = (.tuple #[(.slice t13 tl14 tc15), (.int .i64 t16)]) ∧
       ∃ t17 : Int, cell w12 p1 0 = some (.int .i64 t17) ∧
       ∃ t18 : Option Addr, ∃ tl19 : Nat, ∃ tc20 : Nat, cell w12 p3 0 = some (.slice t18 tl19 tc20) ∧
       ∀ w21, Ext w12 w21 →
       FnP Tryd.prog F_match_Lack #[(.int .i64 t17), (.int .i64 m), (.slice t18 tl19 tc20)] w21 fun v22 w22 =>
        Ext w21 w22 ∧
        ∃ t23 : Option Addr, ∃ tl24 : Nat, ∃ tc25 : Nat, ∃ t26 : Int, v22 = (.tuple #[(.slice t23 tl24 tc25), (.int .i64 t26)]) ∧
        ((t16 ≠ 0) →
         ((t16 = t26) →
          InR .i64 ((tl14 : Int) + (tl24 : Int))) ∧
         ∀ w27, Ext w22 w27 →
         Q (.bool ((decide (t16 = t26)) && (decide (((tl14 : Int) + (tl24 : Int)) = 0)))) w27) ∧
        ((t16 = 0) →
         ∃ t27 : Int, cell w22 p1 0 = some (.int .i64 t27) ∧
         ∃ t28 : Option Addr, ∃ tl29 : Nat, ∃ tc30 : Nat, cell w22 p3 0 = some (.slice t28 tl29 tc30) ∧
         ∃ t31 : Int, cell w22 p1 0 = some (.int .i64 t31) ∧
         ∀ w32, Ext w22 w32 →
         FnP Tryd.prog F_shiftbellkeep_pairs #[(.int .i64 t27), (.int .i64 m), (.slice t28 tl29 tc30), (.slice t13 tl14 tc15)] w32 fun v33 w33 =>
          Ext w32 w33 ∧
          ∃ t34 : Int, v33 = (.int .i64 t34) ∧
          (((t26 = 0) ∧ (((t34 = t31) ∧ ((tl24 : Int) = 0)) ∨ ((t34 ≠ t31) ∧ ((tl24 : Int) ≠ 0)))) →
           ((t34 = t31) →
            ((t34 ≠ t31) →
             ∀ w35, Ext w22 w35 →
             Q (.bool true) w35) ∧
            ((t34 = t31) →
             ∀ w35, Ext w22 w35 →
             FnP Tryd.prog F_shiftbellkeep_MatchHall_1 #[(.slice some_v some_vl some_vc), (.pointer p1), (.pointer p3)] w35 fun v36 w36 =>
              Ext w35 w36 ∧
              ∃ t37 : Bool, v36 = (.bool t37) ∧
              ∀ w38, Ext w22 w38 →
              Q (.bool (!t37)) w38)) ∧
           ((t34 ≠ t31) →
            ∀ w35, Ext w22 w35 →
            FnP Tryd.prog F_shiftbellkeep_MatchHall_1 #[(.slice t23 tl24 tc25), (.pointer p1), (.pointer p3)] w35 fun v36 w36 =>
             Ext w35 w36 ∧
             ∃ t37 : Bool, v36 = (.bool t37) ∧
             ((t37 = true) →
              ((t34 ≠ t31) →
               ∀ w38, Ext w22 w38 →
               Q (.bool true) w38) ∧
              ((t34 = t31) →
               ∀ w38, Ext w22 w38 →
               FnP Tryd.prog F_shiftbellkeep_MatchHall_1 #[(.slice some_v some_vl some_vc), (.pointer p1), (.pointer p3)] w38 fun v39 w39 =>
                Ext w38 w39 ∧
                ∃ t40 : Bool, v39 = (.bool t40) ∧
                ∀ w41, Ext w22 w41 →
                Q (.bool (!t40)) w41)) ∧
             ((t37 = false) →
              ∀ w38, Ext w22 w38 →
              Q (.bool false) w38))) ∧
          (((t26 ≠ 0) ∨ (((t34 ≠ t31) ∨ ((tl24 : Int) ≠ 0)) ∧ ((t34 = t31) ∨ ((tl24 : Int) = 0)))) →
           ∀ w35, Ext w22 w35 →
           Q (.bool false) w35)))

theorem ok_shiftbellkeep_MatchHall (n : Int) (m : Int) (l : Option Addr) (ll : Nat) (lc : Nat) (some_v : Option Addr) (some_vl : Nat) (some_vc : Nat) (w : World) (Q : Value → World → Prop) (h : wp_shiftbellkeep_MatchHall n m l ll lc some_v some_vl some_vc w Q) : FnP Tryd.prog F_shiftbellkeep_MatchHall #[(.int .i64 n), (.int .i64 m), (.slice l ll lc), (.slice some_v some_vl some_vc)] w Q := by
  have e_ : wp_shiftbellkeep_MatchHall n m l ll lc some_v some_vl some_vc w Q = Runs Tryd.prog Q ({ N := 79, wrap := [], pub := [4, 6], muts := [] } : Cfg) Tryd.f5 (Tryd.f5.body.getD .skip) [.sc (.int .i64 n), .sc (.int .i64 m), .sc (.slc l ll lc), .sc (.slc some_v some_vl some_vc)] w := by kernel_rfl
  rw [e_] at h
  exact runs_fn h Tryd.func5 (by kernel_rfl) (fun args w => Tryd.call5 args w) (by kernel_rfl) (by kernel_rfl) rfl rfl

theorem open_shiftbellkeep_MatchHall (W : World) (R : Array Value → Prop) (h : ∀ n : Int, InR .i64 n → ∀ m : Int, InR .i64 m → ∀ l : Option Addr, ∀ ll : Nat, ∀ lc : Nat, SlcArg Tryd.prog W 24 l ll lc → ∀ some_v : Option Addr, ∀ some_vl : Nat, ∀ some_vc : Nat, SlcArg Tryd.prog W 3 some_v some_vl some_vc → R #[(.int .i64 n), (.int .i64 m), (.slice l ll lc), (.slice some_v some_vl some_vc)]) (args : Array Value) (hg : GoodAll Tryd.prog W Tryd.f5.params.toList args.toList) : R args := by
  have e_ : (ArgsAll Tryd.prog W Tryd.f5.params.toList fun l => R l.toArray) = (∀ n : Int, InR .i64 n → ∀ m : Int, InR .i64 m → ∀ l : Option Addr, ∀ ll : Nat, ∀ lc : Nat, SlcArg Tryd.prog W 24 l ll lc → ∀ some_v : Option Addr, ∀ some_vl : Nat, ∀ some_vc : Nat, SlcArg Tryd.prog W 3 some_v some_vl some_vc → R #[(.int .i64 n), (.int .i64 m), (.slice l ll lc), (.slice some_v some_vl some_vc)]) := by kernel_rfl
  exact args_open (by rw [e_]; exact h) args hg
-- wit 5 #[(.int .i64 0), (.int .i64 0), (.slice none 0 0), (.slice none 0 0)]

end Go.Proofs.YtlacdincnpbpdaaDoor
