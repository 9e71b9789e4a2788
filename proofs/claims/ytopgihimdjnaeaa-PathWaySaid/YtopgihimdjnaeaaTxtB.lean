/- The texts of this seat's functions: what each computes, as its symbolic run says it. -/
import Derived.Test.YtopgihimdjnaeaaRows
import Derived.Test.YtopgihimdjnaeaaSxD
import Derived.Test.YtopgihimdjnaeaaSxN
import Derived.Test.YtopgihimdjnaeaaTxt
set_option linter.unusedVariables false
set_option linter.unusedSimpArgs false
set_option maxRecDepth 100000
namespace Go.Proofs.Ytopgihimdjnaeaa
open Go.Sx Go.RowKit

abbrev F_shiftbellkeep_PathLeast : FuncId := 4
abbrev F_shiftbellkeep_PathScale : FuncId := 5
abbrev F_shiftbellkeep_PathChain : FuncId := 6
abbrev F_shiftbellkeep_paths : FuncId := 12
abbrev F_path_Times : FuncId := 13
abbrev F_slices_Contains_api_Edge_api_Edge : FuncId := 14
abbrev F_slices_Clone_int64_int64 : FuncId := 15
abbrev F_path_Critical : FuncId := 18
abbrev F_path_check : FuncId := 23
abbrev F_slices_Index_api_Edge_api_Edge : FuncId := 24

/-- shiftbell/path.check -/
def wp_path_check (n : Int) (l : Option Addr) (ll : Nat) (lc : Nat) (d : Option Addr) (dl : Nat) (dc : Nat) (w : World) (Q : Value → World → Prop) : Prop :=
  ∀ w0, Ext w w0 →
  FnP Try.prog F_graph_Check #[(.int .i64 n), (.slice l ll lc)] w0 fun v1 w1 =>
   Ext w0 w1 ∧
   ∃ t2 : Int, v1 = (.int .i64 t2) ∧
   ((t2 ≠ 0) →
    ∀ w3, Ext w w3 →
    Q (.tuple #[(.slice none 0 0), (.int .i64 t2)]) w3) ∧
   ((t2 = 0) →
    (((dl : Int) ≠ n) →
     ∀ w3, Ext w w3 →
     Q (.tuple #[(.slice none 0 0), (.int .i64 1)]) w3) ∧
    (((dl : Int) = n) →
     ∃ (I3 : Int → World → Prop) (M3 : Int → World → Nat), I3 0 w ∧
     ∀ (k4 : Int) (w5 : World), I3 k4 w5 →
      ((k4 < (dl : Int)) →
       d ≠ none ∧
       (0 : Int) ≤ k4 ∧
       (k4 : Int) < (dl : Int) ∧
       ∃ t6 : Int, cell w5 (pIdx d k4 1) 0 = some (.int .i64 t6) ∧
       (((t6 < 0) ∨ (1000000000 < t6)) →
        ∀ w7, Ext w5 w7 →
        Q (.tuple #[(.slice none 0 0), (.int .i64 1)]) w7) ∧
       (((0 ≤ t6) ∧ (t6 ≤ 1000000000)) →
        InR .i64 (k4 + 1) ∧
        (I3 (k4 + 1) w5 ∧ M3 (k4 + 1) w5 < M3 k4 w5))) ∧
      (((dl : Int) ≤ k4) →
       ∀ w6, Ext w5 w6 →
       FnP Try.prog F_graph_Order #[(.int .i64 n), (.slice l ll lc)] w6 fun v7 w7 =>
        Ext w6 w7 ∧
        ∃ t8 : Option Addr, ∃ tl9 : Nat, ∃ tc10 : Nat, ∃ t11 : Int, v7 = (.tuple #[(.slice t8 tl9 tc10), (.int .i64 t11)]) ∧
        ∀ w12, Ext w7 w12 →
        Q (.tuple #[(.slice t8 tl9 tc10), (.int .i64 t11)]) w12)))

theorem ok_path_check (n : Int) (l : Option Addr) (ll : Nat) (lc : Nat) (d : Option Addr) (dl : Nat) (dc : Nat) (w : World) (Q : Value → World → Prop) (h : wp_path_check n l ll lc d dl dc w Q) : FnP Try.prog F_path_check #[(.int .i64 n), (.slice l ll lc), (.slice d dl dc)] w Q := by
  have e_ : wp_path_check n l ll lc d dl dc w Q = Runs Try.prog Q ({ N := 39, wrap := [], pub := [], muts := [] } : Cfg) Try.f23 (Try.f23.body.getD .skip) [.sc (.int .i64 n), .sc (.slc l ll lc), .sc (.slc d dl dc)] w := by kernel_rfl
  rw [e_] at h
  exact runs_fn h Try.func23 (by kernel_rfl) (fun args w => Try.call23 args w) (by kernel_rfl) (by kernel_rfl) rfl rfl

/-- shiftbell/path.Times -/
def wp_path_Times (n : Int) (l : Option Addr) (ll : Nat) (lc : Nat) (d : Option Addr) (dl : Nat) (dc : Nat) (w : World) (Q : Value → World → Prop) : Prop :=
  ∀ b0 : Nat, w.heap.size ≤ b0 → ∀ w1, ExtB [] [b0] w w1 →
  FnP Try.prog F_path_check #[(.int .i64 n), (.slice l ll lc), (.slice d dl dc)] w1 fun v2 w2 =>
   Ext w1 w2 ∧
   ∃ t3 : Option Addr, ∃ tl4 : Nat, ∃ tc5 : Nat, ∃ t6 : Int, v2 = (.tuple #[(.slice t3 tl4 tc5), (.int .i64 t6)]) ∧
   ((t6 ≠ 0) →
    ∀ w7, ExtB [b0] [] w2 w7 →
    Q (.tuple #[(.agg #[(.slice none 0 0), (.slice none 0 0), (.int .i64 0)]), (.int .i64 t6)]) w7) ∧
   ((t6 = 0) →
    ∃ (J7 : Option Addr → World → Prop), ((∀ w10, ExtB [] [b0] w2 w10 →
     Run Try.prog (.makeSlice 31 (.int .i64 n) (.int .i64 n)) w10 fun v11 w11 =>
      Ext w10 w11 ∧
      ∃ t12 : Option Addr, ∃ tl13 : Nat, ∃ tc14 : Nat, v11 = (.slice t12 tl13 tc14) ∧
      (∀ w15, ExtB [] [b0] w11 w15 →
      Run Try.prog (.makeSlice 31 (.int .i64 n) (.int .i64 n)) w15 fun v16 w16 =>
       Ext w15 w16 ∧
       ∃ t17 : Option Addr, ∃ tl18 : Nat, ∃ tc19 : Nat, v16 = (.slice t17 tl18 tc19) ∧
       ∀ w20, ExtB [] [b0] w16 w20 →
       New w20 33 [(.slice none 0 0), (.slice none 0 0), (.int .i64 0)] fun p21 w21 =>
        Store w21 p21 [(.slice t12 tl13 tc14), (.slice t17 tl18 tc19), (.int .i64 0)] [b0] fun w22 =>
         J7 p21 w22) ∧
      ∀ w15, ExtB [] [b0] w11 w15 →
      New w15 33 [(.slice none 0 0), (.slice none 0 0), (.int .i64 0)] fun p16 w16 =>
       ∀ w17, ExtB [] [b0] w16 w17 →
       Run Try.prog (.makeSlice 31 (.int .i64 n) (.int .i64 n)) w17 fun v18 w18 =>
        Ext w17 w18 ∧
        ∃ t19 : Option Addr, ∃ tl20 : Nat, ∃ tc21 : Nat, v18 = (.slice t19 tl20 tc21) ∧
        Store w18 p16 [(.slice t12 tl13 tc14), (.slice t19 tl20 tc21), (.int .i64 0)] [b0] fun w22 =>
         J7 p16 w22) ∧
     (∀ w10, ExtB [] [b0] w2 w10 →
     Run Try.prog (.makeSlice 31 (.int .i64 n) (.int .i64 n)) w10 fun v11 w11 =>
      Ext w10 w11 ∧
      ∃ t12 : Option Addr, ∃ tl13 : Nat, ∃ tc14 : Nat, v11 = (.slice t12 tl13 tc14) ∧
      (∀ w15, ExtB [] [b0] w11 w15 →
      Run Try.prog (.makeSlice 31 (.int .i64 n) (.int .i64 n)) w15 fun v16 w16 =>
       Ext w15 w16 ∧
       ∃ t17 : Option Addr, ∃ tl18 : Nat, ∃ tc19 : Nat, v16 = (.slice t17 tl18 tc19) ∧
       ∀ w20, ExtB [] [b0] w16 w20 →
       New w20 33 [(.slice none 0 0), (.slice none 0 0), (.int .i64 0)] fun p21 w21 =>
        Store w21 p21 [(.slice t17 tl18 tc19), (.slice t12 tl13 tc14), (.int .i64 0)] [b0] fun w22 =>
         J7 p21 w22) ∧
      ∀ w15, ExtB [] [b0] w11 w15 →
      New w15 33 [(.slice none 0 0), (.slice none 0 0), (.int .i64 0)] fun p16 w16 =>
       ∀ w17, ExtB [] [b0] w16 w17 →
       Run Try.prog (.makeSlice 31 (.int .i64 n) (.int .i64 n)) w17 fun v18 w18 =>
        Ext w17 w18 ∧
        ∃ t19 : Option Addr, ∃ tl20 : Nat, ∃ tc21 : Nat, v18 = (.slice t19 tl20 tc21) ∧
        Store w18 p16 [(.slice t19 tl20 tc21), (.slice t12 tl13 tc14), (.int .i64 0)] [b0] fun w22 =>
         J7 p16 w22) ∧
     ∀ w10, ExtB [] [b0] w2 w10 →
     New w10 33 [(.slice none 0 0), (.slice none 0 0), (.int .i64 0)] fun p11 w11 =>
      (∀ w12, ExtB [] [b0] w11 w12 →
      Run Try.prog (.makeSlice 31 (.int .i64 n) (.int .i64 n)) w12 fun v13 w13 =>
       Ext w12 w13 ∧
       ∃ t14 : Option Addr, ∃ tl15 : Nat, ∃ tc16 : Nat, v13 = (.slice t14 tl15 tc16) ∧
       ∀ w17, ExtB [] [b0] w13 w17 →
       Run Try.prog (.makeSlice 31 (.int .i64 n) (.int .i64 n)) w17 fun v18 w18 =>
        Ext w17 w18 ∧
        ∃ t19 : Option Addr, ∃ tl20 : Nat, ∃ tc21 : Nat, v18 = (.slice t19 tl20 tc21) ∧
        Store w18 p11 [(.slice t14 tl15 tc16), (.slice t19 tl20 tc21), (.int .i64 0)] [b0] fun w22 =>
         J7 p11 w22) ∧
      ∀ w12, ExtB [] [b0] w11 w12 →
      Run Try.prog (.makeSlice 31 (.int .i64 n) (.int .i64 n)) w12 fun v13 w13 =>
       Ext w12 w13 ∧
       ∃ t14 : Option Addr, ∃ tl15 : Nat, ∃ tc16 : Nat, v13 = (.slice t14 tl15 tc16) ∧
       ∀ w17, ExtB [] [b0] w13 w17 →
       Run Try.prog (.makeSlice 31 (.int .i64 n) (.int .i64 n)) w17 fun v18 w18 =>
        Ext w17 w18 ∧
        ∃ t19 : Option Addr, ∃ tl20 : Nat, ∃ tc21 : Nat, v18 = (.slice t19 tl20 tc21) ∧
        Store w18 p11 [(.slice t19 tl20 tc21), (.slice t14 tl15 tc16), (.int .i64 0)] [b0] fun w22 =>
         J7 p11 w22) ∧
    ∀ (p8 : Option Addr) (w9 : World), J7 p8 w9 →
     ∃ (I10 : Int → World → Prop) (M10 : Int → World → Nat), I10 0 w9 ∧
     ∀ (k11 : Int) (w12 : World), I10 k11 w12 →
      ((k11 < (tl4 : Int)) →
       t3 ≠ none ∧
       (0 : Int) ≤ k11 ∧
       (k11 : Int) < (tl4 : Int) ∧
       ∃ t13 : Int, cell w12 (pIdx t3 k11 1) 0 = some (.int .i64 t13) ∧
       ∃ (I14 : Int → World → Prop) (M14 : Int → World → Nat), I14 0 w12 ∧
       ∀ (k15 : Int) (w16 : World), I14 k15 w16 →
        ((k15 < (ll : Int)) →
         l ≠ none ∧
         (0 : Int) ≤ k15 ∧
         (k15 : Int) < (ll : Int) ∧
         (pIdx l k15 2) ≠ none ∧
         ∃ t17 : Int, cell w16 (pIdx l k15 2) 0 = some (.int .i64 t17) ∧
         ∃ t18 : Int, cell w16 (pIdx l k15 2) 1 = some (.int .i64 t18) ∧
         ∀ b19 : Nat, w16.heap.size ≤ b19 → ((t18 = t13) →
          p8 ≠ none ∧
          ∃ t20 : Option Addr, ∃ tl21 : Nat, ∃ tc22 : Nat, cell w16 (pAdd p8 0) 0 = some (.slice t20 tl21 tc22) ∧
          p8 ≠ none ∧
          ∃ t23 : Option Addr, ∃ tl24 : Nat, ∃ tc25 : Nat, cell w16 (pAdd p8 0) 0 = some (.slice t23 tl24 tc25) ∧
          t23 ≠ none ∧
          (0 : Int) ≤ t13 ∧
          (t13 : Int) < (tl24 : Int) ∧
          ∃ t26 : Int, cell w16 (pIdx t23 t13 1) 0 = some (.int .i64 t26) ∧
          p8 ≠ none ∧
          ∃ t27 : Option Addr, ∃ tl28 : Nat, ∃ tc29 : Nat, cell w16 (pAdd p8 0) 0 = some (.slice t27 tl28 tc29) ∧
          t27 ≠ none ∧
          (0 : Int) ≤ t17 ∧
          (t17 : Int) < (tl28 : Int) ∧
          ∃ t30 : Int, cell w16 (pIdx t27 t17 1) 0 = some (.int .i64 t30) ∧
          d ≠ none ∧
          (0 : Int) ≤ t17 ∧
          (t17 : Int) < (dl : Int) ∧
          ∃ t31 : Int, cell w16 (pIdx d t17 1) 0 = some (.int .i64 t31) ∧
          InR .i64 (t30 + t31) ∧
          t20 ≠ none ∧
          (0 : Int) ≤ t13 ∧
          (t13 : Int) < (tl21 : Int) ∧
          Store w16 (pIdx t20 t13 1) [(.int .i64 (max t26 (t30 + t31)))] [b0, b19] fun w32 =>
           InR .i64 (k15 + 1) ∧
           (I14 (k15 + 1) w32 ∧ M14 (k15 + 1) w32 < M14 k15 w16)) ∧
         ((t18 ≠ t13) →
          InR .i64 (k15 + 1) ∧
          (I14 (k15 + 1) w16 ∧ M14 (k15 + 1) w16 < M14 k15 w16))) ∧
        (((ll : Int) ≤ k15) →
         p8 ≠ none ∧
         ∃ t17 : Int, cell w16 (pAdd p8 2) 0 = some (.int .i64 t17) ∧
         p8 ≠ none ∧
         ∃ t18 : Option Addr, ∃ tl19 : Nat, ∃ tc20 : Nat, cell w16 (pAdd p8 0) 0 = some (.slice t18 tl19 tc20) ∧
         t18 ≠ none ∧
         (0 : Int) ≤ t13 ∧
         (t13 : Int) < (tl19 : Int) ∧
         ∃ t21 : Int, cell w16 (pIdx t18 t13 1) 0 = some (.int .i64 t21) ∧
         d ≠ none ∧
         (0 : Int) ≤ t13 ∧
         (t13 : Int) < (dl : Int) ∧
         ∃ t22 : Int, cell w16 (pIdx d t13 1) 0 = some (.int .i64 t22) ∧
         InR .i64 (t21 + t22) ∧
         p8 ≠ none ∧
         Store w16 (pAdd p8 2) [(.int .i64 (max t17 (t21 + t22)))] [b0] fun w23 =>
          InR .i64 (k11 + 1) ∧
          (I10 (k11 + 1) w23 ∧ M10 (k11 + 1) w23 < M10 k11 w12))) ∧
      (((tl4 : Int) ≤ k11) →
       ∃ (I13 : Int → World → Prop) (M13 : Int → World → Nat), I13 0 w12 ∧
       ∀ (k14 : Int) (w15 : World), I13 k14 w15 →
        ((k14 < (tl4 : Int)) →
         InR .i64 ((tl4 : Int) - 1) ∧
         InR .i64 (((tl4 : Int) - 1) - k14) ∧
         t3 ≠ none ∧
         (0 : Int) ≤ (((tl4 : Int) - 1) - k14) ∧
         ((((tl4 : Int) - 1) - k14) : Int) < (tl4 : Int) ∧
         ∃ t16 : Int, cell w15 (pIdx t3 (((tl4 : Int) - 1) - k14) 1) 0 = some (.int .i64 t16) ∧
         p8 ≠ none ∧
         ∃ t17 : Int, cell w15 (pAdd p8 2) 0 = some (.int .i64 t17) ∧
         ∃ (I18 : Int → Int → World → Prop) (M18 : Int → Int → World → Nat), I18 t17 0 w15 ∧
         ∀ (end19 : Int) (k20 : Int) (w21 : World), I18 end19 k20 w21 →
          ((k20 < (ll : Int)) →
           l ≠ none ∧
           (0 : Int) ≤ k20 ∧
           (k20 : Int) < (ll : Int) ∧
           (pIdx l k20 2) ≠ none ∧
           ∃ t22 : Int, cell w21 (pIdx l k20 2) 0 = some (.int .i64 t22) ∧
           ∃ t23 : Int, cell w21 (pIdx l k20 2) 1 = some (.int .i64 t23) ∧
           ∀ b24 : Nat, w21.heap.size ≤ b24 → ((t22 = t16) →
            p8 ≠ none ∧
            ∃ t25 : Option Addr, ∃ tl26 : Nat, ∃ tc27 : Nat, cell w21 (pAdd p8 1) 0 = some (.slice t25 tl26 tc27) ∧
            t25 ≠ none ∧
            (0 : Int) ≤ t23 ∧
            (t23 : Int) < (tl26 : Int) ∧
            ∃ t28 : Int, cell w21 (pIdx t25 t23 1) 0 = some (.int .i64 t28) ∧
            InR .i64 (k20 + 1) ∧
            (I18 (min end19 t28) (k20 + 1) w21 ∧ M18 (min end19 t28) (k20 + 1) w21 < M18 end19 k20 w21)) ∧
           ((t22 ≠ t16) →
            InR .i64 (k20 + 1) ∧
            (I18 end19 (k20 + 1) w21 ∧ M18 end19 (k20 + 1) w21 < M18 end19 k20 w21))) ∧
          (((ll : Int) ≤ k20) →
           p8 ≠ none ∧
           ∃ t22 : Option Addr, ∃ tl23 : Nat, ∃ tc24 : Nat, cell w21 (pAdd p8 1) 0 = some (.slice t22 tl23 tc24) ∧
           d ≠ none ∧
           (0 : Int) ≤ t16 ∧
           (t16 : Int) < (dl : Int) ∧
           ∃ t25 : Int, cell w21 (pIdx d t16 1) 0 = some (.int .i64 t25) ∧
           InR .i64 (end19 - t25) ∧
           t22 ≠ none ∧
           (0 : Int) ≤ t16 ∧
           (t16 : Int) < (tl23 : Int) ∧
           Store w21 (pIdx t22 t16 1) [(.int .i64 (end19 - t25))] [b0] fun w26 =>
            InR .i64 (k14 + 1) ∧
            (I13 (k14 + 1) w26 ∧ M13 (k14 + 1) w26 < M13 k14 w15))) ∧
        (((tl4 : Int) ≤ k14) →
         p8 ≠ none ∧
         ∃ t16 : Option Addr, ∃ tl17 : Nat, ∃ tc18 : Nat, cell w15 p8 0 = some (.slice t16 tl17 tc18) ∧
         ∃ t19 : Option Addr, ∃ tl20 : Nat, ∃ tc21 : Nat, cell w15 p8 1 = some (.slice t19 tl20 tc21) ∧
         ∃ t22 : Int, cell w15 p8 2 = some (.int .i64 t22) ∧
         ∀ w23, ExtB [b0] [] w15 w23 →
         Q (.tuple #[(.agg #[(.slice t16 tl17 tc18), (.slice t19 tl20 tc21), (.int .i64 t22)]), (.int .i64 0)]) w23)))

theorem ok_path_Times (n : Int) (l : Option Addr) (ll : Nat) (lc : Nat) (d : Option Addr) (dl : Nat) (dc : Nat) (w : World) (Q : Value → World → Prop) (h : wp_path_Times n l ll lc d dl dc w Q) : FnP Try.prog F_path_Times #[(.int .i64 n), (.slice l ll lc), (.slice d dl dc)] w Q := by
  have e_ : wp_path_Times n l ll lc d dl dc w Q = Runs Try.prog Q ({ N := 136, wrap := [], pub := [10], muts := [] } : Cfg) Try.f13 (Try.f13.body.getD .skip) [.sc (.int .i64 n), .sc (.slc l ll lc), .sc (.slc d dl dc)] w := by kernel_rfl
  rw [e_] at h
  exact runs_fn h Try.func13 (by kernel_rfl) (fun args w => Try.call13 args w) (by kernel_rfl) (by kernel_rfl) rfl rfl

/-- slices.Contains[[]shiftbell/api.Edge,shiftbell/api.Edge] -/
def wp_slices_Contains_api_Edge_api_Edge (s : Option Addr) (sl : Nat) (sc : Nat) (v_0 : Int) (v_1 : Int) (w : World) (Q : Value → World → Prop) : Prop :=
  ∀ b0 : Nat, w.heap.size ≤ b0 → ∀ w1, Ext w w1 →
  FnP Try.prog F_slices_Index_api_Edge_api_Edge #[(.slice s sl sc), (.agg #[(.int .i64 v_0), (.int .i64 v_1)])] w1 fun v2 w2 =>
   Ext w1 w2 ∧
   ∃ t3 : Int, v2 = (.int .i64 t3) ∧
   ∀ w4, Ext w w4 →
   Q (.bool (decide (0 ≤ t3))) w4

theorem ok_slices_Contains_api_Edge_api_Edge (s : Option Addr) (sl : Nat) (sc : Nat) (v_0 : Int) (v_1 : Int) (w : World) (Q : Value → World → Prop) (h : wp_slices_Contains_api_Edge_api_Edge s sl sc v_0 v_1 w Q) : FnP Try.prog F_slices_Contains_api_Edge_api_Edge #[(.slice s sl sc), (.agg #[(.int .i64 v_0), (.int .i64 v_1)])] w Q := by
  have e_ : wp_slices_Contains_api_Edge_api_Edge s sl sc v_0 v_1 w Q = Runs Try.prog Q ({ N := 9, wrap := [], pub := [], muts := [] } : Cfg) Try.f14 (Try.f14.body.getD .skip) [.sc (.slc s sl sc), .agg [.int .i64 v_0, .int .i64 v_1]] w := by kernel_rfl
  rw [e_] at h
  exact runs_fn h Try.func14 (by kernel_rfl) (fun args w => Try.call14 args w) (by kernel_rfl) (by kernel_rfl) rfl rfl

/-- slices.Clone[[]int64,int64] -/
def wp_slices_Clone_int64_int64 (s : Option Addr) (sl : Nat) (sc : Nat) (w : World) (Q : Value → World → Prop) : Prop :=
  ((s = none) →
   ∀ w0, Ext w w0 →
   Q (.slice none 0 0) w0) ∧
  ((s ≠ none) →
   ∀ w0, Ext w w0 →
   Run Try.prog (.buildSlice 31 0 []) w0 fun v1 w1 =>
    Ext w0 w1 ∧
    ∃ t2 : Option Addr, ∃ tl3 : Nat, ∃ tc4 : Nat, v1 = (.slice t2 tl3 tc4) ∧
    ∀ w5, Ext w1 w5 →
    Run Try.prog (.append #[31, 31] 31 [(.slice t2 tl3 tc4), (.slice s sl sc)]) w5 fun v6 w6 =>
     ∃ t7 : Option Addr, ∃ tl8 : Nat, ∃ tc9 : Nat, v6 = (.slice t7 tl8 tc9) ∧
     ∀ w10, Ext w6 w10 →
     Q (.slice t7 tl8 tc9) w10)

theorem ok_slices_Clone_int64_int64 (s : Option Addr) (sl : Nat) (sc : Nat) (w : World) (Q : Value → World → Prop) (h : wp_slices_Clone_int64_int64 s sl sc w Q) : FnP Try.prog F_slices_Clone_int64_int64 #[(.slice s sl sc)] w Q := by
  have e_ : wp_slices_Clone_int64_int64 s sl sc w Q = Runs Try.prog Q ({ N := 8, wrap := [], pub := [], muts := [] } : Cfg) Try.f15 (Try.f15.body.getD .skip) [.sc (.slc s sl sc)] w := by kernel_rfl
  rw [e_] at h
  exact runs_fn h Try.func15 (by kernel_rfl) (fun args w => Try.call15 args w) (by kernel_rfl) (by kernel_rfl) rfl rfl

/-- shiftbell/path.Critical -/
def wp_path_Critical (n : Int) (l : Option Addr) (ll : Nat) (lc : Nat) (d : Option Addr) (dl : Nat) (dc : Nat) (w : World) (Q : Value → World → Prop) : Prop :=
  ∀ w0, Ext w w0 →
  FnP Try.prog F_path_Times #[(.int .i64 n), (.slice l ll lc), (.slice d dl dc)] w0 fun v1 w1 =>
   Ext w0 w1 ∧
   ∃ t_02 : Option Addr, ∃ t_0l3 : Nat, ∃ t_0c4 : Nat, ∃ t_15 : Option Addr, ∃ t_1l6 : Nat, ∃ t_1c7 : Nat, ∃ t_28 : Int, ∃ t9 : Int, v1 = (.tuple #[(.agg #[(.slice t_02 t_0l3 t_0c4), (.slice t_15 t_1l6 t_1c7), (.int .i64 t_28)]), (.int .i64 t9)]) ∧
   ∀ b10 : Nat, w1.heap.size ≤ b10 → ((t9 ≠ 0) →
    ∀ w11, Ext w1 w11 →
    Q (.tuple #[(.slice none 0 0), (.int .i64 t9)]) w11) ∧
   ((t9 = 0) →
    ∃ (I11 : Option Addr → Nat → Nat → Int → World → Prop) (M11 : Option Addr → Nat → Nat → Int → World → Nat), I11 none 0 0 0 w1 ∧
    ∀ (out12 : Option Addr) (outl12 : Nat) (outc12 : Nat) (k13 : Int) (w14 : World), I11 out12 outl12 outc12 k13 w14 →
     ((k13 < n) →
      t_02 ≠ none ∧
      (0 : Int) ≤ k13 ∧
      (k13 : Int) < (t_0l3 : Int) ∧
      ∃ t15 : Int, cell w14 (pIdx t_02 k13 1) 0 = some (.int .i64 t15) ∧
      t_15 ≠ none ∧
      (0 : Int) ≤ k13 ∧
      (k13 : Int) < (t_1l6 : Int) ∧
      ∃ t16 : Int, cell w14 (pIdx t_15 k13 1) 0 = some (.int .i64 t16) ∧
      ((t15 = t16) →
       ∀ w17, ExtB [] [b10] w14 w17 →
       Run Try.prog (.buildSlice 24 1 [(0, (.int .i64 k13))]) w17 fun v18 w18 =>
        Ext w17 w18 ∧
        ∃ t19 : Option Addr, ∃ tl20 : Nat, ∃ tc21 : Nat, v18 = (.slice t19 tl20 tc21) ∧
        ∀ w22, ExtB [] [b10] w18 w22 →
        Run Try.prog (.append #[24, 24] 24 [(.slice out12 outl12 outc12), (.slice t19 tl20 tc21)]) w22 fun v23 w23 =>
         Kept [b10] w22 w23 ∧
         ∃ t24 : Option Addr, ∃ tl25 : Nat, ∃ tc26 : Nat, v23 = (.slice t24 tl25 tc26) ∧
         InR .i64 (k13 + 1) ∧
         (I11 t24 tl25 tc26 (k13 + 1) w23 ∧ M11 t24 tl25 tc26 (k13 + 1) w23 < M11 out12 outl12 outc12 k13 w14)) ∧
      ((t15 ≠ t16) →
       InR .i64 (k13 + 1) ∧
       (I11 out12 outl12 outc12 (k13 + 1) w14 ∧ M11 out12 outl12 outc12 (k13 + 1) w14 < M11 out12 outl12 outc12 k13 w14))) ∧
     ((n ≤ k13) →
      ∀ w15, Ext w14 w15 →
      Q (.tuple #[(.slice out12 outl12 outc12), (.int .i64 0)]) w15))

theorem ok_path_Critical (n : Int) (l : Option Addr) (ll : Nat) (lc : Nat) (d : Option Addr) (dl : Nat) (dc : Nat) (w : World) (Q : Value → World → Prop) (h : wp_path_Critical n l ll lc d dl dc w Q) : FnP Try.prog F_path_Critical #[(.int .i64 n), (.slice l ll lc), (.slice d dl dc)] w Q := by
  have e_ : wp_path_Critical n l ll lc d dl dc w Q = Runs Try.prog Q ({ N := 43, wrap := [], pub := [], muts := [] } : Cfg) Try.f18 (Try.f18.body.getD .skip) [.sc (.int .i64 n), .sc (.slc l ll lc), .sc (.slc d dl dc)] w := by kernel_rfl
  rw [e_] at h
  exact runs_fn h Try.func18 (by kernel_rfl) (fun args w => Try.call18 args w) (by kernel_rfl) (by kernel_rfl) rfl rfl

/-- slices.Index[[]shiftbell/api.Edge,shiftbell/api.Edge] -/
def wp_slices_Index_api_Edge_api_Edge (s : Option Addr) (sl : Nat) (sc : Nat) (v_0 : Int) (v_1 : Int) (w : World) (Q : Value → World → Prop) : Prop :=
  ∀ b0 : Nat, w.heap.size ≤ b0 → ∃ (I1 : Int → World → Prop) (M1 : Int → World → Nat), I1 0 w ∧
  ∀ (k2 : Int) (w3 : World), I1 k2 w3 →
   ((k2 < (sl : Int)) →
    s ≠ none ∧
    (0 : Int) ≤ k2 ∧
    (k2 : Int) < (sl : Int) ∧
    (pIdx s k2 2) ≠ none ∧
    ∃ t4 : Int, cell w3 (pIdx s k2 2) 0 = some (.int .i64 t4) ∧
    ∃ t5 : Int, cell w3 (pIdx s k2 2) 1 = some (.int .i64 t5) ∧
    ∀ w6, Ext w3 w6 →
    Run Try.prog (.eq .eql 29 false false (.agg #[(.int .i64 v_0), (.int .i64 v_1)]) (.agg #[(.int .i64 t4), (.int .i64 t5)])) w6 fun v7 w7 =>
     Ext w6 w7 ∧
     ∃ t8 : Bool, v7 = (.bool t8) ∧
     ((t8 = true) →
      ∀ w9, Ext w3 w9 →
      Q (.int .i64 k2) w9) ∧
     ((t8 = false) →
      InR .i64 (k2 + 1) ∧
      (I1 (k2 + 1) w3 ∧ M1 (k2 + 1) w3 < M1 k2 w3))) ∧
   (((sl : Int) ≤ k2) →
    ∀ w4, Ext w3 w4 →
    Q (.int .i64 (-1)) w4)

theorem ok_slices_Index_api_Edge_api_Edge (s : Option Addr) (sl : Nat) (sc : Nat) (v_0 : Int) (v_1 : Int) (w : World) (Q : Value → World → Prop) (h : wp_slices_Index_api_Edge_api_Edge s sl sc v_0 v_1 w Q) : FnP Try.prog F_slices_Index_api_Edge_api_Edge #[(.slice s sl sc), (.agg #[(.int .i64 v_0), (.int .i64 v_1)])] w Q := by
  have e_ : wp_slices_Index_api_Edge_api_Edge s sl sc v_0 v_1 w Q = Runs Try.prog Q ({ N := 19, wrap := [], pub := [], muts := [] } : Cfg) Try.f24 (Try.f24.body.getD .skip) [.sc (.slc s sl sc), .agg [.int .i64 v_0, .int .i64 v_1]] w := by kernel_rfl
  rw [e_] at h
  exact runs_fn h Try.func24 (by kernel_rfl) (fun args w => Try.call24 args w) (by kernel_rfl) (by kernel_rfl) rfl rfl

/-- shiftbell/shiftbellkeep.paths -/
def wp_shiftbellkeep_paths  (w : World) (Q : Value → World → Prop) : Prop :=
  ∀ w0, Ext w w0 →
  Run Try.prog (.buildSlice 31 1 [(0, (.int .i64 5))]) w0 fun v1 w1 =>
   Ext w0 w1 ∧
   ∃ t2 : Option Addr, ∃ tl3 : Nat, ∃ tc4 : Nat, v1 = (.slice t2 tl3 tc4) ∧
   ∀ w5, Ext w1 w5 →
   FnP Try.prog F_path_Times #[(.int .i64 1), (.slice none 0 0), (.slice t2 tl3 tc4)] w5 fun v6 w6 =>
    Ext w5 w6 ∧
    ∃ t_07 : Option Addr, ∃ t_0l8 : Nat, ∃ t_0c9 : Nat, ∃ t_110 : Option Addr, ∃ t_1l11 : Nat, ∃ t_1c12 : Nat, ∃ t_213 : Int, ∃ t14 : Int, v6 = (.tuple #[(.agg #[(.slice t_07 t_0l8 t_0c9), (.slice t_110 t_1l11 t_1c12), (.int .i64 t_213)]), (.int .i64 t14)]) ∧
    ∀ b15 : Nat, w6.heap.size ≤ b15 → ∀ w16, Ext w6 w16 →
    Q (.bool ((decide (t14 = 0)) && (decide (t_213 = 5)))) w16

theorem ok_shiftbellkeep_paths  (w : World) (Q : Value → World → Prop) (h : wp_shiftbellkeep_paths  w Q) : FnP Try.prog F_shiftbellkeep_paths #[] w Q := by
  have e_ : wp_shiftbellkeep_paths  w Q = Runs Try.prog Q ({ N := 15, wrap := [], pub := [], muts := [] } : Cfg) Try.f12 (Try.f12.body.getD .skip) [] w := by kernel_rfl
  rw [e_] at h
  exact runs_fn h Try.func12 (by kernel_rfl) (fun args w => Try.call12 args w) (by kernel_rfl) (by kernel_rfl) rfl rfl

/-- shiftbell/shiftbellkeep.PathLeast -/
def wp_shiftbellkeep_PathLeast (n : Int) (l : Option Addr) (ll : Nat) (lc : Nat) (d : Option Addr) (dl : Nat) (dc : Nat) (t : Option Addr) (tl : Nat) (tc : Nat) (w : World) (Q : Value → World → Prop) : Prop :=
  ∀ w0, Ext w w0 →
  FnP Try.prog F_shiftbellkeep_paths #[] w0 fun v1 w1 =>
   Ext w0 w1 ∧
   ∃ t2 : Bool, v1 = (.bool t2) ∧
   ((t2 = false) →
    ∀ w3, Ext w w3 →
    Q (.bool false) w3) ∧
   ((t2 = true) →
    ∀ w3, Ext w w3 →
    FnP Try.prog F_path_Times #[(.int .i64 n), (.slice l ll lc), (.slice d dl dc)] w3 fun v4 w4 =>
     Ext w3 w4 ∧
     ∃ t_05 : Option Addr, ∃ t_0l6 : Nat, ∃ t_0c7 : Nat, ∃ t_18 : Option Addr, ∃ t_1l9 : Nat, ∃ t_1c10 : Nat, ∃ t_211 : Int, ∃ t12 : Int, v4 = (.tuple #[(.agg #[(.slice t_05 t_0l6 t_0c7), (.slice t_18 t_1l9 t_1c10), (.int .i64 t_211)]), (.int .i64 t12)]) ∧
     ∀ b13 : Nat, w4.heap.size ≤ b13 → (((t12 ≠ 0) ∨ ((tl : Int) ≠ n)) →
      ∀ w14, Ext w4 w14 →
      Q (.bool ((decide (t12 = 0)) || (decide (t_211 = 0)))) w14) ∧
     (((t12 = 0) ∧ ((tl : Int) = n)) →
      ∃ (I14 : Int → Int → World → Prop) (M14 : Int → Int → World → Nat), I14 0 0 w4 ∧
      ∀ (end15 : Int) (k16 : Int) (w17 : World), I14 end15 k16 w17 →
       ((k16 < (tl : Int)) →
        t ≠ none ∧
        (0 : Int) ≤ k16 ∧
        (k16 : Int) < (tl : Int) ∧
        ∃ t18 : Int, cell w17 (pIdx t k16 1) 0 = some (.int .i64 t18) ∧
        (((t18 < 0) ∨ (1099511627776 < t18)) →
         ∀ w19, Ext w17 w19 →
         Q (.bool true) w19) ∧
        (((0 ≤ t18) ∧ (t18 ≤ 1099511627776)) →
         d ≠ none ∧
         (0 : Int) ≤ k16 ∧
         (k16 : Int) < (dl : Int) ∧
         ∃ t19 : Int, cell w17 (pIdx d k16 1) 0 = some (.int .i64 t19) ∧
         InR .i64 (t18 + t19) ∧
         InR .i64 (k16 + 1) ∧
         (I14 (max end15 (t18 + t19)) (k16 + 1) w17 ∧ M14 (max end15 (t18 + t19)) (k16 + 1) w17 < M14 end15 k16 w17))) ∧
       (((tl : Int) ≤ k16) →
        ∃ (I18 : Int → World → Prop) (M18 : Int → World → Nat), I18 0 w17 ∧
        ∀ (k19 : Int) (w20 : World), I18 k19 w20 →
         ((k19 < (ll : Int)) →
          l ≠ none ∧
          (0 : Int) ≤ k19 ∧
          (k19 : Int) < (ll : Int) ∧
          (pIdx l k19 2) ≠ none ∧
          ∃ t21 : Int, cell w20 (pIdx l k19 2) 0 = some (.int .i64 t21) ∧
          ∃ t22 : Int, cell w20 (pIdx l k19 2) 1 = some (.int .i64 t22) ∧
          ∀ b23 : Nat, w20.heap.size ≤ b23 → t ≠ none ∧
          (0 : Int) ≤ t22 ∧
          (t22 : Int) < (tl : Int) ∧
          ∃ t24 : Int, cell w20 (pIdx t t22 1) 0 = some (.int .i64 t24) ∧
          t ≠ none ∧
          (0 : Int) ≤ t21 ∧
          (t21 : Int) < (tl : Int) ∧
          ∃ t25 : Int, cell w20 (pIdx t t21 1) 0 = some (.int .i64 t25) ∧
          d ≠ none ∧
          (0 : Int) ≤ t21 ∧
          (t21 : Int) < (dl : Int) ∧
          ∃ t26 : Int, cell w20 (pIdx d t21 1) 0 = some (.int .i64 t26) ∧
          InR .i64 (t25 + t26) ∧
          ((t24 < (t25 + t26)) →
           ∀ w27, Ext w20 w27 →
           Q (.bool true) w27) ∧
          (((t25 + t26) ≤ t24) →
           InR .i64 (k19 + 1) ∧
           (I18 (k19 + 1) w20 ∧ M18 (k19 + 1) w20 < M18 k19 w20))) ∧
         (((ll : Int) ≤ k19) →
          ∃ (I21 : Int → World → Prop) (M21 : Int → World → Nat), I21 0 w20 ∧
          ∀ (k22 : Int) (w23 : World), I21 k22 w23 →
           ((k22 < (tl : Int)) →
            t_05 ≠ none ∧
            (0 : Int) ≤ k22 ∧
            (k22 : Int) < (t_0l6 : Int) ∧
            ∃ t24 : Int, cell w23 (pIdx t_05 k22 1) 0 = some (.int .i64 t24) ∧
            t ≠ none ∧
            (0 : Int) ≤ k22 ∧
            (k22 : Int) < (tl : Int) ∧
            ∃ t25 : Int, cell w23 (pIdx t k22 1) 0 = some (.int .i64 t25) ∧
            ((t25 < t24) →
             ∀ w26, Ext w23 w26 →
             Q (.bool false) w26) ∧
            ((t24 ≤ t25) →
             InR .i64 (k22 + 1) ∧
             (I21 (k22 + 1) w23 ∧ M21 (k22 + 1) w23 < M21 k22 w23))) ∧
           (((tl : Int) ≤ k22) →
            ∀ w24, Ext w23 w24 →
            Q (.bool (decide (t_211 ≤ end15))) w24)))))

theorem ok_shiftbellkeep_PathLeast (n : Int) (l : Option Addr) (ll : Nat) (lc : Nat) (d : Option Addr) (dl : Nat) (dc : Nat) (t : Option Addr) (tl : Nat) (tc : Nat) (w : World) (Q : Value → World → Prop) (h : wp_shiftbellkeep_PathLeast n l ll lc d dl dc t tl tc w Q) : FnP Try.prog F_shiftbellkeep_PathLeast #[(.int .i64 n), (.slice l ll lc), (.slice d dl dc), (.slice t tl tc)] w Q := by
  have e_ : wp_shiftbellkeep_PathLeast n l ll lc d dl dc t tl tc w Q = Runs Try.prog Q ({ N := 107, wrap := [], pub := [], muts := [] } : Cfg) Try.f4 (Try.f4.body.getD .skip) [.sc (.int .i64 n), .sc (.slc l ll lc), .sc (.slc d dl dc), .sc (.slc t tl tc)] w := by kernel_rfl
  rw [e_] at h
  exact runs_fn h Try.func4 (by kernel_rfl) (fun args w => Try.call4 args w) (by kernel_rfl) (by kernel_rfl) rfl rfl

theorem open_shiftbellkeep_PathLeast (W : World) (R : Array Value → Prop) (h : ∀ n : Int, InR .i64 n → ∀ l : Option Addr, ∀ ll : Nat, ∀ lc : Nat, SlcArg Try.prog W 29 l ll lc → ∀ d : Option Addr, ∀ dl : Nat, ∀ dc : Nat, SlcArg Try.prog W 2 d dl dc → ∀ t : Option Addr, ∀ tl : Nat, ∀ tc : Nat, SlcArg Try.prog W 2 t tl tc → R #[(.int .i64 n), (.slice l ll lc), (.slice d dl dc), (.slice t tl tc)]) (args : Array Value) (hg : GoodAll Try.prog W Try.f4.params.toList args.toList) : R args := by
  have e_ : (ArgsAll Try.prog W Try.f4.params.toList fun l => R l.toArray) = (∀ n : Int, InR .i64 n → ∀ l : Option Addr, ∀ ll : Nat, ∀ lc : Nat, SlcArg Try.prog W 29 l ll lc → ∀ d : Option Addr, ∀ dl : Nat, ∀ dc : Nat, SlcArg Try.prog W 2 d dl dc → ∀ t : Option Addr, ∀ tl : Nat, ∀ tc : Nat, SlcArg Try.prog W 2 t tl tc → R #[(.int .i64 n), (.slice l ll lc), (.slice d dl dc), (.slice t tl tc)]) := by kernel_rfl
  exact args_open (by rw [e_]; exact h) args hg
-- wit 4 #[(.int .i64 0), (.slice none 0 0), (.slice none 0 0), (.slice none 0 0)]

/-- shiftbell/shiftbellkeep.PathScale -/
def wp_shiftbellkeep_PathScale (n : Int) (l : Option Addr) (ll : Nat) (lc : Nat) (d : Option Addr) (dl : Nat) (dc : Nat) (by_v : Int) (w : World) (Q : Value → World → Prop) : Prop :=
  ∀ w0, Ext w w0 →
  FnP Try.prog F_shiftbellkeep_paths #[] w0 fun v1 w1 =>
   Ext w0 w1 ∧
   ∃ t2 : Bool, v1 = (.bool t2) ∧
   ((t2 = false) →
    ∀ w3, Ext w w3 →
    Q (.bool false) w3) ∧
   ((t2 = true) →
    ∀ w3, Ext w w3 →
    FnP Try.prog F_path_Times #[(.int .i64 n), (.slice l ll lc), (.slice d dl dc)] w3 fun v4 w4 =>
     Ext w3 w4 ∧
     ∃ t_05 : Option Addr, ∃ t_0l6 : Nat, ∃ t_0c7 : Nat, ∃ t_18 : Option Addr, ∃ t_1l9 : Nat, ∃ t_1c10 : Nat, ∃ t_211 : Int, ∃ t12 : Int, v4 = (.tuple #[(.agg #[(.slice t_05 t_0l6 t_0c7), (.slice t_18 t_1l9 t_1c10), (.int .i64 t_211)]), (.int .i64 t12)]) ∧
     ∀ b13 : Nat, w4.heap.size ≤ b13 → ((((t12 ≠ 0) ∨ (by_v < 0)) ∨ (1000 < by_v)) →
      ∀ w14, Ext w4 w14 →
      Q (.bool ((decide (t12 = 0)) || (decide (t_211 = 0)))) w14) ∧
     ((((t12 = 0) ∧ (0 ≤ by_v)) ∧ (by_v ≤ 1000)) →
      ∃ (I14 : Option Addr → Nat → Nat → Int → World → Prop) (M14 : Option Addr → Nat → Nat → Int → World → Nat), I14 none 0 0 0 w4 ∧
      ∀ (m15 : Option Addr) (ml15 : Nat) (mc15 : Nat) (k16 : Int) (w17 : World), I14 m15 ml15 mc15 k16 w17 →
       ((k16 < (dl : Int)) →
        d ≠ none ∧
        (0 : Int) ≤ k16 ∧
        (k16 : Int) < (dl : Int) ∧
        ∃ t18 : Int, cell w17 (pIdx d k16 1) 0 = some (.int .i64 t18) ∧
        InR .i64 (t18 * by_v) ∧
        ∀ w19, ExtB [] [b13] w17 w19 →
        Run Try.prog (.buildSlice 31 1 [(0, (.int .i64 (t18 * by_v)))]) w19 fun v20 w20 =>
         Ext w19 w20 ∧
         ∃ t21 : Option Addr, ∃ tl22 : Nat, ∃ tc23 : Nat, v20 = (.slice t21 tl22 tc23) ∧
         ∀ w24, ExtB [] [b13] w20 w24 →
         Run Try.prog (.append #[31, 31] 31 [(.slice m15 ml15 mc15), (.slice t21 tl22 tc23)]) w24 fun v25 w25 =>
          Kept [b13] w24 w25 ∧
          ∃ t26 : Option Addr, ∃ tl27 : Nat, ∃ tc28 : Nat, v25 = (.slice t26 tl27 tc28) ∧
          InR .i64 (k16 + 1) ∧
          (I14 t26 tl27 tc28 (k16 + 1) w25 ∧ M14 t26 tl27 tc28 (k16 + 1) w25 < M14 m15 ml15 mc15 k16 w17)) ∧
       (((dl : Int) ≤ k16) →
        ∀ w18, ExtB [] [b13] w17 w18 →
        FnP Try.prog F_path_Times #[(.int .i64 n), (.slice l ll lc), (.slice m15 ml15 mc15)] w18 fun v19 w19 =>
         Ext w18 w19 ∧
         ∃ t_020 : Option Addr, ∃ t_0l21 : Nat, ∃ t_0c22 : Nat, ∃ t_123 : Option Addr, ∃ t_1l24 : Nat, ∃ t_1c25 : Nat, ∃ t_226 : Int, ∃ t27 : Int, v19 = (.tuple #[(.agg #[(.slice t_020 t_0l21 t_0c22), (.slice t_123 t_1l24 t_1c25), (.int .i64 t_226)]), (.int .i64 t27)]) ∧
         ∀ b28 : Nat, w19.heap.size ≤ b28 → ((t27 ≠ 0) →
          ∀ w29, Ext w19 w29 →
          Q (.bool ((decide (t27 = 1)) && (decide (t_226 = 0)))) w29) ∧
         ((t27 = 0) →
          ∃ (I29 : Int → World → Prop) (M29 : Int → World → Nat), I29 0 w19 ∧
          ∀ (k30 : Int) (w31 : World), I29 k30 w31 →
           ((k30 < (dl : Int)) →
            t_020 ≠ none ∧
            (0 : Int) ≤ k30 ∧
            (k30 : Int) < (t_0l21 : Int) ∧
            ∃ t32 : Int, cell w31 (pIdx t_020 k30 1) 0 = some (.int .i64 t32) ∧
            t_05 ≠ none ∧
            (0 : Int) ≤ k30 ∧
            (k30 : Int) < (t_0l6 : Int) ∧
            ∃ t33 : Int, cell w31 (pIdx t_05 k30 1) 0 = some (.int .i64 t33) ∧
            InR .i64 (t33 * by_v) ∧
            ((t32 = (t33 * by_v)) →
             t_123 ≠ none) ∧
            ((t32 = (t33 * by_v)) →
             (0 : Int) ≤ k30) ∧
            ((t32 = (t33 * by_v)) →
             (k30 : Int) < (t_1l24 : Int)) ∧
            ((t32 ≠ (t33 * by_v)) →
             ∀ w34, Ext w31 w34 →
             Q (.bool false) w34) ∧
            ((t32 = (t33 * by_v)) →
             ∃ t34 : Int, cell w31 (pIdx t_123 k30 1) 0 = some (.int .i64 t34) ∧
             t_18 ≠ none ∧
             (0 : Int) ≤ k30 ∧
             (k30 : Int) < (t_1l9 : Int) ∧
             ∃ t35 : Int, cell w31 (pIdx t_18 k30 1) 0 = some (.int .i64 t35) ∧
             InR .i64 (t35 * by_v) ∧
             ((t34 ≠ (t35 * by_v)) →
              ∀ w36, Ext w31 w36 →
              Q (.bool false) w36) ∧
             ((t34 = (t35 * by_v)) →
              InR .i64 (k30 + 1) ∧
              (I29 (k30 + 1) w31 ∧ M29 (k30 + 1) w31 < M29 k30 w31)))) ∧
           (((dl : Int) ≤ k30) →
            InR .i64 (t_211 * by_v) ∧
            ∀ w32, Ext w31 w32 →
            Q (.bool (decide (t_226 = (t_211 * by_v)))) w32)))))

theorem ok_shiftbellkeep_PathScale (n : Int) (l : Option Addr) (ll : Nat) (lc : Nat) (d : Option Addr) (dl : Nat) (dc : Nat) (by_v : Int) (w : World) (Q : Value → World → Prop) (h : wp_shiftbellkeep_PathScale n l ll lc d dl dc by_v w Q) : FnP Try.prog F_shiftbellkeep_PathScale #[(.int .i64 n), (.slice l ll lc), (.slice d dl dc), (.int .i64 by_v)] w Q := by
  have e_ : wp_shiftbellkeep_PathScale n l ll lc d dl dc by_v w Q = Runs Try.prog Q ({ N := 113, wrap := [], pub := [], muts := [] } : Cfg) Try.f5 (Try.f5.body.getD .skip) [.sc (.int .i64 n), .sc (.slc l ll lc), .sc (.slc d dl dc), .sc (.int .i64 by_v)] w := by kernel_rfl
  rw [e_] at h
  exact runs_fn h Try.func5 (by kernel_rfl) (fun args w => Try.call5 args w) (by kernel_rfl) (by kernel_rfl) rfl rfl

theorem open_shiftbellkeep_PathScale (W : World) (R : Array Value → Prop) (h : ∀ n : Int, InR .i64 n → ∀ l : Option Addr, ∀ ll : Nat, ∀ lc : Nat, SlcArg Try.prog W 29 l ll lc → ∀ d : Option Addr, ∀ dl : Nat, ∀ dc : Nat, SlcArg Try.prog W 2 d dl dc → ∀ by_v : Int, InR .i64 by_v → R #[(.int .i64 n), (.slice l ll lc), (.slice d dl dc), (.int .i64 by_v)]) (args : Array Value) (hg : GoodAll Try.prog W Try.f5.params.toList args.toList) : R args := by
  have e_ : (ArgsAll Try.prog W Try.f5.params.toList fun l => R l.toArray) = (∀ n : Int, InR .i64 n → ∀ l : Option Addr, ∀ ll : Nat, ∀ lc : Nat, SlcArg Try.prog W 29 l ll lc → ∀ d : Option Addr, ∀ dl : Nat, ∀ dc : Nat, SlcArg Try.prog W 2 d dl dc → ∀ by_v : Int, InR .i64 by_v → R #[(.int .i64 n), (.slice l ll lc), (.slice d dl dc), (.int .i64 by_v)]) := by kernel_rfl
  exact args_open (by rw [e_]; exact h) args hg
-- wit 5 #[(.int .i64 0), (.slice none 0 0), (.slice none 0 0), (.int .i64 0)]

/-- shiftbell/shiftbellkeep.PathChain -/
def wp_shiftbellkeep_PathChain (n : Int) (l : Option Addr) (ll : Nat) (lc : Nat) (d : Option Addr) (dl : Nat) (dc : Nat) (row : Option Addr) (rowl : Nat) (rowc : Nat) (w : World) (Q : Value → World → Prop) : Prop :=
  ∀ w0, Ext w w0 →
  FnP Try.prog F_shiftbellkeep_paths #[] w0 fun v1 w1 =>
   Ext w0 w1 ∧
   ∃ t2 : Bool, v1 = (.bool t2) ∧
   ((t2 = false) →
    ∀ w3, Ext w w3 →
    Q (.bool false) w3) ∧
   ((t2 = true) →
    ∀ w3, Ext w w3 →
    FnP Try.prog F_path_Times #[(.int .i64 n), (.slice l ll lc), (.slice d dl dc)] w3 fun v4 w4 =>
     Ext w3 w4 ∧
     ∃ t_05 : Option Addr, ∃ t_0l6 : Nat, ∃ t_0c7 : Nat, ∃ t_18 : Option Addr, ∃ t_1l9 : Nat, ∃ t_1c10 : Nat, ∃ t_211 : Int, ∃ t12 : Int, v4 = (.tuple #[(.agg #[(.slice t_05 t_0l6 t_0c7), (.slice t_18 t_1l9 t_1c10), (.int .i64 t_211)]), (.int .i64 t12)]) ∧
     ∀ b13 : Nat, w4.heap.size ≤ b13 → ((t12 ≠ 0) →
      ∀ w14, Ext w4 w14 →
      Q (.bool (decide (t_211 = 0))) w14) ∧
     ((t12 = 0) →
      ∃ (I14 : Int → Int → World → Prop) (M14 : Int → Int → World → Nat), I14 0 0 w4 ∧
      ∀ (sum15 : Int) (k16 : Int) (w17 : World), I14 sum15 k16 w17 →
       ((k16 < (rowl : Int)) →
        row ≠ none ∧
        (0 : Int) ≤ k16 ∧
        (k16 : Int) < (rowl : Int) ∧
        ∃ t18 : Int, cell w17 (pIdx row k16 1) 0 = some (.int .i64 t18) ∧
        (((0 ≤ t18) ∧ (t18 < n)) →
         ((0 < k16) →
          InR .i64 (k16 - 1))) ∧
        (((0 ≤ t18) ∧ (t18 < n)) →
         ((0 < k16) →
          row ≠ none)) ∧
        (((0 ≤ t18) ∧ (t18 < n)) →
         ((0 < k16) →
          (0 : Int) ≤ (k16 - 1))) ∧
        (((0 ≤ t18) ∧ (t18 < n)) →
         ((0 < k16) →
          ((k16 - 1) : Int) < (rowl : Int))) ∧
        (((t18 < 0) ∨ (n ≤ t18)) →
         ∀ w19, Ext w17 w19 →
         Q (.bool true) w19) ∧
        (((0 ≤ t18) ∧ (t18 < n)) →
         ((0 < k16) →
          ∃ t19 : Int, cell w17 (pIdx row (k16 - 1) 1) 0 = some (.int .i64 t19) ∧
          ∀ w20, Ext w17 w20 →
          FnP Try.prog F_slices_Contains_api_Edge_api_Edge #[(.slice l ll lc), (.agg #[(.int .i64 t19), (.int .i64 t18)])] w20 fun v21 w21 =>
           Ext w20 w21 ∧
           ∃ t22 : Bool, v21 = (.bool t22) ∧
           ((t22 = false) →
            ∀ w23, Ext w17 w23 →
            Q (.bool true) w23) ∧
           ((t22 = true) →
            d ≠ none ∧
            (0 : Int) ≤ t18 ∧
            (t18 : Int) < (dl : Int) ∧
            ∃ t23 : Int, cell w17 (pIdx d t18 1) 0 = some (.int .i64 t23) ∧
            InR .i64 (sum15 + t23) ∧
            InR .i64 (k16 + 1) ∧
            (I14 (sum15 + t23) (k16 + 1) w17 ∧ M14 (sum15 + t23) (k16 + 1) w17 < M14 sum15 k16 w17))) ∧
         ((k16 ≤ 0) →
          d ≠ none ∧
          (0 : Int) ≤ t18 ∧
          (t18 : Int) < (dl : Int) ∧
          ∃ t19 : Int, cell w17 (pIdx d t18 1) 0 = some (.int .i64 t19) ∧
          InR .i64 (sum15 + t19) ∧
          InR .i64 (k16 + 1) ∧
          (I14 (sum15 + t19) (k16 + 1) w17 ∧ M14 (sum15 + t19) (k16 + 1) w17 < M14 sum15 k16 w17)))) ∧
       (((rowl : Int) ≤ k16) →
        ∀ w18, Ext w17 w18 →
        Q (.bool (decide (sum15 ≤ t_211))) w18)))

theorem ok_shiftbellkeep_PathChain (n : Int) (l : Option Addr) (ll : Nat) (lc : Nat) (d : Option Addr) (dl : Nat) (dc : Nat) (row : Option Addr) (rowl : Nat) (rowc : Nat) (w : World) (Q : Value → World → Prop) (h : wp_shiftbellkeep_PathChain n l ll lc d dl dc row rowl rowc w Q) : FnP Try.prog F_shiftbellkeep_PathChain #[(.int .i64 n), (.slice l ll lc), (.slice d dl dc), (.slice row rowl rowc)] w Q := by
  have e_ : wp_shiftbellkeep_PathChain n l ll lc d dl dc row rowl rowc w Q = Runs Try.prog Q ({ N := 69, wrap := [], pub := [], muts := [] } : Cfg) Try.f6 (Try.f6.body.getD .skip) [.sc (.int .i64 n), .sc (.slc l ll lc), .sc (.slc d dl dc), .sc (.slc row rowl rowc)] w := by kernel_rfl
  rw [e_] at h
  exact runs_fn h Try.func6 (by kernel_rfl) (fun args w => Try.call6 args w) (by kernel_rfl) (by kernel_rfl) rfl rfl

theorem open_shiftbellkeep_PathChain (W : World) (R : Array Value → Prop) (h : ∀ n : Int, InR .i64 n → ∀ l : Option Addr, ∀ ll : Nat, ∀ lc : Nat, SlcArg Try.prog W 29 l ll lc → ∀ d : Option Addr, ∀ dl : Nat, ∀ dc : Nat, SlcArg Try.prog W 2 d dl dc → ∀ row : Option Addr, ∀ rowl : Nat, ∀ rowc : Nat, SlcArg Try.prog W 3 row rowl rowc → R #[(.int .i64 n), (.slice l ll lc), (.slice d dl dc), (.slice row rowl rowc)]) (args : Array Value) (hg : GoodAll Try.prog W Try.f6.params.toList args.toList) : R args := by
  have e_ : (ArgsAll Try.prog W Try.f6.params.toList fun l => R l.toArray) = (∀ n : Int, InR .i64 n → ∀ l : Option Addr, ∀ ll : Nat, ∀ lc : Nat, SlcArg Try.prog W 29 l ll lc → ∀ d : Option Addr, ∀ dl : Nat, ∀ dc : Nat, SlcArg Try.prog W 2 d dl dc → ∀ row : Option Addr, ∀ rowl : Nat, ∀ rowc : Nat, SlcArg Try.prog W 3 row rowl rowc → R #[(.int .i64 n), (.slice l ll lc), (.slice d dl dc), (.slice row rowl rowc)]) := by kernel_rfl
  exact args_open (by rw [e_]; exact h) args hg
-- wit 6 #[(.int .i64 0), (.slice none 0 0), (.slice none 0 0), (.slice none 0 0)]

end Go.Proofs.Ytopgihimdjnaeaa
