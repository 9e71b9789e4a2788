/- The texts of this seat's functions: what each computes, as its symbolic run says it. -/
import Derived.Test.YtopgihimdjnaeaaDoorRows
import Derived.Test.YtopgihimdjnaeaaDoorSxD
import Derived.Test.YtopgihimdjnaeaaDoorSxN
import Derived.Test.YtopgihimdjnaeaaDoorTxt
set_option linter.unusedVariables false
set_option linter.unusedSimpArgs false
set_option maxRecDepth 100000
namespace Go.Proofs.YtopgihimdjnaeaaDoor
open Go.Sx Go.RowKit

abbrev F_shiftbellkeep_GraphReach : FuncId := 4
abbrev F_shiftbellkeep_GraphThin : FuncId := 5
abbrev F_graph_Close : FuncId := 11
abbrev F_slices_Equal_api_Edge_api_Edge : FuncId := 12
abbrev F_slices_Contains_api_Edge_api_Edge : FuncId := 13
abbrev F_graph_Thin : FuncId := 14
abbrev F_slices_Delete_api_Edge_api_Edge : FuncId := 15
abbrev F_slices_Clone_api_Edge_api_Edge : FuncId := 16
abbrev F_graph_edges : FuncId := 24
abbrev F_slices_Index_api_Edge_api_Edge : FuncId := 25

/-- shiftbell/graph.edges -/
def wp_graph_edges (r : Option Addr) (rl : Nat) (rc : Nat) (w : World) (Q : Value → World → Prop) : Prop :=
  ∃ (I0 : Option Addr → Nat → Nat → Int → World → Prop) (M0 : Option Addr → Nat → Nat → Int → World → Nat), I0 none 0 0 0 w ∧
  ∀ (out1 : Option Addr) (outl1 : Nat) (outc1 : Nat) (k2 : Int) (w3 : World), I0 out1 outl1 outc1 k2 w3 →
   ((k2 < (rl : Int)) →
    r ≠ none ∧
    (0 : Int) ≤ k2 ∧
    (k2 : Int) < (rl : Int) ∧
    ∃ t4 : Int, cell w3 (pIdx r k2 1) 0 = some (.int .u64 t4) ∧
    ∀ w5, Ext w3 w5 →
    FnP Tryd.prog F_graph_list #[(.int .u64 t4)] w5 fun v6 w6 =>
     Ext w5 w6 ∧
     ∃ t7 : Option Addr, ∃ tl8 : Nat, ∃ tc9 : Nat, v6 = (.slice t7 tl8 tc9) ∧
     ∃ (I10 : Option Addr → Nat → Nat → Int → World → Prop) (M10 : Option Addr → Nat → Nat → Int → World → Nat), I10 out1 outl1 outc1 0 w6 ∧
     ∀ (out11 : Option Addr) (outl11 : Nat) (outc11 : Nat) (k12 : Int) (w13 : World), I10 out11 outl11 outc11 k12 w13 →
      ((k12 < (tl8 : Int)) →
       t7 ≠ none ∧
       (0 : Int) ≤ k12 ∧
       (k12 : Int) < (tl8 : Int) ∧
       ∃ t14 : Int, cell w13 (pIdx t7 k12 1) 0 = some (.int .i64 t14) ∧
       ∀ w15, Ext w13 w15 →
       Run Tryd.prog (.buildSlice 22 1 [(0, (.agg #[(.int .i64 k2), (.int .i64 t14)]))]) w15 fun v16 w16 =>
        Ext w15 w16 ∧
        ∃ t17 : Option Addr, ∃ tl18 : Nat, ∃ tc19 : Nat, v16 = (.slice t17 tl18 tc19) ∧
        ∀ w20, Ext w16 w20 →
        Run Tryd.prog (.append #[22, 22] 22 [(.slice out11 outl11 outc11), (.slice t17 tl18 tc19)]) w20 fun v21 w21 =>
         ∃ t22 : Option Addr, ∃ tl23 : Nat, ∃ tc24 : Nat, v21 = (.slice t22 tl23 tc24) ∧
         InR .i64 (k12 + 1) ∧
         (I10 t22 tl23 tc24 (k12 + 1) w21 ∧ M10 t22 tl23 tc24 (k12 + 1) w21 < M10 out11 outl11 outc11 k12 w13)) ∧
      (((tl8 : Int) ≤ k12) →
       InR .i64 (k2 + 1) ∧
       (I0 out11 outl11 outc11 (k2 + 1) w13 ∧ M0 out11 outl11 outc11 (k2 + 1) w13 < M0 out1 outl1 outc1 k2 w3))) ∧
   (((rl : Int) ≤ k2) →
    ∀ w4, Ext w3 w4 →
    Q (.slice out1 outl1 outc1) w4)

theorem ok_graph_edges (r : Option Addr) (rl : Nat) (rc : Nat) (w : World) (Q : Value → World → Prop) (h : wp_graph_edges r rl rc w Q) : FnP Tryd.prog F_graph_edges #[(.slice r rl rc)] w Q := by
  have e_ : wp_graph_edges r rl rc w Q = Runs Tryd.prog Q ({ N := 31, wrap := [], pub := [], muts := [] } : Cfg) Tryd.f24 (Tryd.f24.body.getD .skip) [.sc (.slc r rl rc)] w := by kernel_rfl
  rw [e_] at h
  exact runs_fn h Tryd.func24 (by kernel_rfl) (fun args w => Tryd.call24 args w) (by kernel_rfl) (by kernel_rfl) rfl rfl

/-- shiftbell/graph.Close -/
def wp_graph_Close (n : Int) (l : Option Addr) (ll : Nat) (lc : Nat) (w : World) (Q : Value → World → Prop) : Prop :=
  ∀ w0, Ext w w0 →
  FnP Tryd.prog F_graph_Check #[(.int .i64 n), (.slice l ll lc)] w0 fun v1 w1 =>
   Ext w0 w1 ∧
   ∃ t2 : Int, v1 = (.int .i64 t2) ∧
   ((t2 ≠ 0) →
    ∀ w3, Ext w w3 →
    Q (.tuple #[(.slice none 0 0), (.int .i64 t2)]) w3) ∧
   ((t2 = 0) →
    ∀ w3, Ext w w3 →
    FnP Tryd.prog F_graph_rows #[(.int .i64 n), (.slice l ll lc)] w3 fun v4 w4 =>
     Ext w3 w4 ∧
     ∃ t5 : Option Addr, ∃ tl6 : Nat, ∃ tc7 : Nat, v4 = (.slice t5 tl6 tc7) ∧
     ∀ w8, Ext w4 w8 →
     FnP Tryd.prog F_graph_closed #[(.slice t5 tl6 tc7)] w8 fun v9 w9 =>
      Ext w8 w9 ∧
      ∃ t10 : Option Addr, ∃ tl11 : Nat, ∃ tc12 : Nat, v9 = (.slice t10 tl11 tc12) ∧
      ∀ w13, Ext w9 w13 →
      FnP Tryd.prog F_graph_edges #[(.slice t10 tl11 tc12)] w13 fun v14 w14 =>
       Ext w13 w14 ∧
       ∃ t15 : Option Addr, ∃ tl16 : Nat, ∃ tc17 : Nat, v14 = (.slice t15 tl16 tc17) ∧
       ((400 < (tl16 : Int)) →
        ∀ w18, Ext w14 w18 →
        Q (.tuple #[(.slice none 0 0), (.int .i64 2)]) w18) ∧
       (((tl16 : Int) ≤ 400) →
        ∀ w18, Ext w14 w18 →
        Q (.tuple #[(.slice t15 tl16 tc17), (.int .i64 0)]) w18))

theorem ok_graph_Close (n : Int) (l : Option Addr) (ll : Nat) (lc : Nat) (w : World) (Q : Value → World → Prop) (h : wp_graph_Close n l ll lc w Q) : FnP Tryd.prog F_graph_Close #[(.int .i64 n), (.slice l ll lc)] w Q := by
  have e_ : wp_graph_Close n l ll lc w Q = Runs Tryd.prog Q ({ N := 23, wrap := [], pub := [], muts := [] } : Cfg) Tryd.f11 (Tryd.f11.body.getD .skip) [.sc (.int .i64 n), .sc (.slc l ll lc)] w := by kernel_rfl
  rw [e_] at h
  exact runs_fn h Tryd.func11 (by kernel_rfl) (fun args w => Tryd.call11 args w) (by kernel_rfl) (by kernel_rfl) rfl rfl

/-- slices.Contains[[]shiftbell/api.Edge,shiftbell/api.Edge] -/
def wp_slices_Contains_api_Edge_api_Edge (s : Option Addr) (sl : Nat) (sc : Nat) (v_0 : Int) (v_1 : Int) (w : World) (Q : Value → World → Prop) : Prop :=
  ∀ b0 : Nat, w.heap.size ≤ b0 → ∀ w1, Ext w w1 →
  FnP Tryd.prog F_slices_Index_api_Edge_api_Edge #[(.slice s sl sc), (.agg #[(.int .i64 v_0), (.int .i64 v_1)])] w1 fun v2 w2 =>
   Ext w1 w2 ∧
   ∃ t3 : Int, v2 = (.int .i64 t3) ∧
   ∀ w4, Ext w w4 →
   Q (.bool (decide (0 ≤ t3))) w4

theorem ok_slices_Contains_api_Edge_api_Edge (s : Option Addr) (sl : Nat) (sc : Nat) (v_0 : Int) (v_1 : Int) (w : World) (Q : Value → World → Prop) (h : wp_slices_Contains_api_Edge_api_Edge s sl sc v_0 v_1 w Q) : FnP Tryd.prog F_slices_Contains_api_Edge_api_Edge #[(.slice s sl sc), (.agg #[(.int .i64 v_0), (.int .i64 v_1)])] w Q := by
  have e_ : wp_slices_Contains_api_Edge_api_Edge s sl sc v_0 v_1 w Q = Runs Tryd.prog Q ({ N := 9, wrap := [], pub := [], muts := [] } : Cfg) Tryd.f13 (Tryd.f13.body.getD .skip) [.sc (.slc s sl sc), .agg [.int .i64 v_0, .int .i64 v_1]] w := by kernel_rfl
  rw [e_] at h
  exact runs_fn h Tryd.func13 (by kernel_rfl) (fun args w => Tryd.call13 args w) (by kernel_rfl) (by kernel_rfl) rfl rfl

/-- slices.Index[[]shiftbell/api.Edge,shiftbell/api.Edge] -/
def wp_slices_Index_api_Edge_api_Edge (s : Option Addr) (sl : Nat) (sc : Nat) (v_0 : Int) (v_1 : Int) (w : World) (Q : Value → World → Prop) : Prop :=
  ∀ b0 : Nat, w.heap.size ≤ b0 → ∃ (I1 : Int → World → Prop) (M1 : Int → World → Nat), I1 0 w ∧
  ∀ (k2 : Int) (w3 : World), I1 k2 w3 →
   ((k2 < (sl : Int)) →
    s ≠ none ∧
    (0 : Int) ≤ k2 ∧
    (k2 : Int) < (sl : Int) ∧
    (pIdx s k2 2) ≠ none ∧
    ∃ t4 : Int, cell w3 (pIdx s k2 2) 0 = some (.int .i64 t4) ∧
    ∃ t5 : Int, cell w3 (pIdx s k2 2) 1 = some (.int .i64 t5) ∧
    ∀ w6, Ext w3 w6 →
    Run Tryd.prog (.eq .eql 25 false false (.agg #[(.int .i64 v_0), (.int .i64 v_1)]) (.agg #[(.int .i64 t4), (.int .i64 t5)])) w6 fun v7 w7 =>
     Ext w6 w7 ∧
     ∃ t8 : Bool, v7 = (.bool t8) ∧
     ((t8 = true) →
      ∀ w9, Ext w3 w9 →
      Q (.int .i64 k2) w9) ∧
     ((t8 = false) →
      InR .i64 (k2 + 1) ∧
      (I1 (k2 + 1) w3 ∧ M1 (k2 + 1) w3 < M1 k2 w3))) ∧
   (((sl : Int) ≤ k2) →
    ∀ w4, Ext w3 w4 →
    Q (.int .i64 (-1)) w4)

theorem ok_slices_Index_api_Edge_api_Edge (s : Option Addr) (sl : Nat) (sc : Nat) (v_0 : Int) (v_1 : Int) (w : World) (Q : Value → World → Prop) (h : wp_slices_Index_api_Edge_api_Edge s sl sc v_0 v_1 w Q) : FnP Tryd.prog F_slices_Index_api_Edge_api_Edge #[(.slice s sl sc), (.agg #[(.int .i64 v_0), (.int .i64 v_1)])] w Q := by
  have e_ : wp_slices_Index_api_Edge_api_Edge s sl sc v_0 v_1 w Q = Runs Tryd.prog Q ({ N := 19, wrap := [], pub := [], muts := [] } : Cfg) Tryd.f25 (Tryd.f25.body.getD .skip) [.sc (.slc s sl sc), .agg [.int .i64 v_0, .int .i64 v_1]] w := by kernel_rfl
  rw [e_] at h
  exact runs_fn h Tryd.func25 (by kernel_rfl) (fun args w => Tryd.call25 args w) (by kernel_rfl) (by kernel_rfl) rfl rfl

/-- slices.Equal[[]shiftbell/api.Edge,shiftbell/api.Edge] -/
def wp_slices_Equal_api_Edge_api_Edge (s1 : Option Addr) (s1l : Nat) (s1c : Nat) (s2 : Option Addr) (s2l : Nat) (s2c : Nat) (w : World) (Q : Value → World → Prop) : Prop :=
  (((s1l : Int) ≠ (s2l : Int)) →
   ∀ w0, Ext w w0 →
   Q (.bool false) w0) ∧
  (((s1l : Int) = (s2l : Int)) →
   ∃ (I0 : Int → World → Prop) (M0 : Int → World → Nat), I0 0 w ∧
   ∀ (k1 : Int) (w2 : World), I0 k1 w2 →
    ((k1 < (s1l : Int)) →
     s1 ≠ none ∧
     (0 : Int) ≤ k1 ∧
     (k1 : Int) < (s1l : Int) ∧
     (pIdx s1 k1 2) ≠ none ∧
     ∃ t3 : Int, cell w2 (pIdx s1 k1 2) 0 = some (.int .i64 t3) ∧
     ∃ t4 : Int, cell w2 (pIdx s1 k1 2) 1 = some (.int .i64 t4) ∧
     s2 ≠ none ∧
     (0 : Int) ≤ k1 ∧
     (k1 : Int) < (s2l : Int) ∧
     (pIdx s2 k1 2) ≠ none ∧
     ∃ t5 : Int, cell w2 (pIdx s2 k1 2) 0 = some (.int .i64 t5) ∧
     ∃ t6 : Int, cell w2 (pIdx s2 k1 2) 1 = some (.int .i64 t6) ∧
     ∀ w7, Ext w2 w7 →
     Run Tryd.prog (.eq .neq 25 false false (.agg #[(.int .i64 t3), (.int .i64 t4)]) (.agg #[(.int .i64 t5), (.int .i64 t6)])) w7 fun v8 w8 =>
      Ext w7 w8 ∧
      ∃ t9 : Bool, v8 = (.bool t9) ∧
      ((t9 = true) →
       ∀ w10, Ext w2 w10 →
       Q (.bool false) w10) ∧
      ((t9 = false) →
       InR .i64 (k1 + 1) ∧
       (I0 (k1 + 1) w2 ∧ M0 (k1 + 1) w2 < M0 k1 w2))) ∧
    (((s1l : Int) ≤ k1) →
     ∀ w3, Ext w2 w3 →
     Q (.bool true) w3))

theorem ok_slices_Equal_api_Edge_api_Edge (s1 : Option Addr) (s1l : Nat) (s1c : Nat) (s2 : Option Addr) (s2l : Nat) (s2c : Nat) (w : World) (Q : Value → World → Prop) (h : wp_slices_Equal_api_Edge_api_Edge s1 s1l s1c s2 s2l s2c w Q) : FnP Tryd.prog F_slices_Equal_api_Edge_api_Edge #[(.slice s1 s1l s1c), (.slice s2 s2l s2c)] w Q := by
  have e_ : wp_slices_Equal_api_Edge_api_Edge s1 s1l s1c s2 s2l s2c w Q = Runs Tryd.prog Q ({ N := 26, wrap := [], pub := [], muts := [] } : Cfg) Tryd.f12 (Tryd.f12.body.getD .skip) [.sc (.slc s1 s1l s1c), .sc (.slc s2 s2l s2c)] w := by kernel_rfl
  rw [e_] at h
  exact runs_fn h Tryd.func12 (by kernel_rfl) (fun args w => Tryd.call12 args w) (by kernel_rfl) (by kernel_rfl) rfl rfl

/-- shiftbell/shiftbellkeep.GraphReach -/
def wp_shiftbellkeep_GraphReach (n : Int) (l : Option Addr) (ll : Nat) (lc : Nat) (i : Int) (k : Int) (w : World) (Q : Value → World → Prop) : Prop :=
  ∀ w0, Ext w w0 →
  FnP Tryd.prog F_shiftbellkeep_graphs #[] w0 fun v1 w1 =>
   Ext w0 w1 ∧
   ∃ t2 : Bool, v1 = (.bool t2) ∧
   ((t2 = false) →
    ∀ w3, Ext w w3 →
    Q (.bool false) w3) ∧
   ((t2 = true) →
    ∀ w3, Ext w w3 →
    FnP Tryd.prog F_graph_Reach #[(.int .i64 n), (.slice l ll lc), (.int .i64 i)] w3 fun v4 w4 =>
     Ext w3 w4 ∧
     ∃ t5 : Option Addr, ∃ tl6 : Nat, ∃ tc7 : Nat, ∃ t8 : Int, v4 = (.tuple #[(.slice t5 tl6 tc7), (.int .i64 t8)]) ∧
     ∀ w9, Ext w4 w9 →
     FnP Tryd.prog F_graph_Reach #[(.int .i64 n), (.slice l ll lc), (.int .i64 k)] w9 fun v10 w10 =>
      Ext w9 w10 ∧
      ∃ t11 : Option Addr, ∃ tl12 : Nat, ∃ tc13 : Nat, ∃ t14 : Int, v10 = (.tuple #[(.slice t11 tl12 tc13), (.int .i64 t14)]) ∧
      ∀ w15, Ext w10 w15 →
      FnP Tryd.prog F_graph_Close #[(.int .i64 n), (.slice l ll lc)] w15 fun v16 w16 =>
       Ext w15 w16 ∧
       ∃ t17 : Option Addr, ∃ tl18 : Nat, ∃ tc19 : Nat, ∃ t20 : Int, v16 = (.tuple #[(.slice t17 tl18 tc19), (.int .i64 t20)]) ∧
       ∀ w21, Ext w16 w21 →
       Run Tryd.prog (.buildSlice 47 2 [(0, (.int .i64 t8)), (1, (.int .i64 t14))]) w21 fun v22 w22 =>
        Ext w21 w22 ∧
        ∃ t23 : Option Addr, ∃ tl24 : Nat, ∃ tc25 : Nat, v22 = (.slice t23 tl24 tc25) ∧
        ∀ w26, Ext w22 w26 →
        FnP Tryd.prog F_shiftbellkeep_good #[(.slice t23 tl24 tc25)] w26 fun v27 w27 =>
         Ext w26 w27 ∧
         ∃ t28 : Bool, v27 = (.bool t28) ∧
         ((t28 = false) →
          ∀ w29, Ext w22 w29 →
          Q (.bool ((decide (t8 = 0)) || (decide ((tl6 : Int) = 0)))) w29) ∧
         ((t28 = true) →
          ∀ w29, Ext w22 w29 →
          FnP Tryd.prog F_slices_Contains_int_int #[(.slice t5 tl6 tc7), (.int .i64 k)] w29 fun v30 w30 =>
           Ext w29 w30 ∧
           ∃ t31 : Bool, v30 = (.bool t31) ∧
           ((t31 = true) →
            ∃ (I32 : Int → World → Prop) (M32 : Int → World → Nat), I32 0 w22 ∧
            ∀ (k33 : Int) (w34 : World), I32 k33 w34 →
             ((k33 < (tl12 : Int)) →
              t11 ≠ none ∧
              (0 : Int) ≤ k33 ∧
              (k33 : Int) < (tl12 : Int) ∧
              ∃ t35 : Int, cell w34 (pIdx t11 k33 1) 0 = some (.int .i64 t35) ∧
              ∀ w36, Ext w34 w36 →
              FnP Tryd.prog F_slices_Contains_int_int #[(.slice t5 tl6 tc7), (.int .i64 t35)] w36 fun v37 w37 =>
               Ext w36 w37 ∧
               ∃ t38 : Bool, v37 = (.bool t38) ∧
               ((t38 = false) →
                ∀ w39, Ext w34 w39 →
                Q (.bool false) w39) ∧
               ((t38 = true) →
                InR .i64 (k33 + 1) ∧
                (I32 (k33 + 1) w34 ∧ M32 (k33 + 1) w34 < M32 k33 w34))) ∧
             (((tl12 : Int) ≤ k33) →
              ((t20 ≠ 0) →
               ∀ w35, Ext w34 w35 →
               Q (.bool (decide ((tl18 : Int) = 0))) w35) ∧
              ((t20 = 0) →
               ∀ w35, Ext w34 w35 →
               FnP Tryd.prog F_graph_Close #[(.int .i64 n), (.slice t17 tl18 tc19)] w35 fun v36 w36 =>
                Ext w35 w36 ∧
                ∃ t37 : Option Addr, ∃ tl38 : Nat, ∃ tc39 : Nat, ∃ t40 : Int, v36 = (.tuple #[(.slice t37 tl38 tc39), (.int .i64 t40)]) ∧
                ((t40 = 0) →
                 ∀ w41, Ext w36 w41 →
                 FnP Tryd.prog F_slices_Equal_api_Edge_api_Edge #[(.slice t17 tl18 tc19), (.slice t37 tl38 tc39)] w41 fun v42 w42 =>
                  Ext w41 w42 ∧
                  ∃ t43 : Bool, v42 = (.bool t43) ∧
                  ((t43 = true) →
                   ∀ w44, Ext w36 w44 →
                   FnP Tryd.prog F_slices_Contains_api_Edge_api_Edge #[(.slice t17 tl18 tc19), (.agg #[(.int .i64 i), (.int .i64 k)])] w44 fun v45 w45 =>
                    Ext w44 w45 ∧
                    ∃ t46 : Bool, v45 = (.bool t46) ∧
                    ∀ w47, Ext w36 w47 →
                    FnP Tryd.prog F_slices_Contains_int_int #[(.slice t5 tl6 tc7), (.int .i64 k)] w47 fun v48 w48 =>
                     Ext w47 w48 ∧
                     ∃ t49 : Bool, v48 = (.bool t49) ∧
                     ∀ w50, Ext w36 w50 →
                     Q (.bool ((t46 && t49) || ((!t46) && (!t49)))) w50) ∧
                  ((t43 = false) →
                   ∀ w44, Ext w36 w44 →
                   Q (.bool false) w44)) ∧
                ((t40 ≠ 0) →
                 ∀ w41, Ext w36 w41 →
                 Q (.bool false) w41)))) ∧
           ((t31 = false) →
            ((t20 ≠ 0) →
             ∀ w32, Ext w22 w32 →
             Q (.bool (decide ((tl18 : Int) = 0))) w32) ∧
            ((t20 = 0) →
             ∀ w32, Ext w22 w32 →
             FnP Tryd.prog F_graph_Close #[(.int .i64 n), (.slice t17 tl18 tc19)] w32 fun v33 w33 =>
              Ext w32 w33 ∧
              ∃ t34 : Option Addr, ∃ tl35 : Nat, ∃ tc36 : Nat, ∃ t37 : Int, v33 = (.tuple #[(.slice t34 tl35 tc36), (.int .i64 t37)]) ∧
              ((t37 = 0) →
               ∀ w38, Ext w33 w38 →
               FnP Tryd.prog F_slices_Equal_api_Edge_api_Edge #[(.slice t17 tl18 tc19), (.slice t34 tl35 tc36)] w38 fun v39 w39 =>
                Ext w38 w39 ∧
                ∃ t40 : Bool, v39 = (.bool t40) ∧
                ((t40 = true) →
                 ∀ w41, Ext w33 w41 →
                 FnP Tryd.prog F_slices_Contains_api_Edge_api_Edge #[(.slice t17 tl18 tc19), (.agg #[(.int .i64 i), (.int .i64 k)])] w41 fun v42 w42 =>
                  Ext w41 w42 ∧
                  ∃ t43 : Bool, v42 = (.bool t43) ∧
                  ∀ w44, Ext w33 w44 →
                  FnP Tryd.prog F_slices_Contains_int_int #[(.slice t5 tl6 tc7), (.int .i64 k)] w44 fun v45 w45 =>
                   Ext w44 w45 ∧
                   ∃ t46 : Bool, v45 = (.bool t46) ∧
                   ∀ w47, Ext w33 w47 →
                   Q (.bool ((t43 && t46) || ((!t43) && (!t46)))) w47) ∧
                ((t40 = false) →
                 ∀ w41, Ext w33 w41 →
                 Q (.bool false) w41)) ∧
              ((t37 ≠ 0) →
               ∀ w38, Ext w33 w38 →
               Q (.bool false) w38)))))

theorem ok_shiftbellkeep_GraphReach (n : Int) (l : Option Addr) (ll : Nat) (lc : Nat) (i : Int) (k : Int) (w : World) (Q : Value → World → Prop) (h : wp_shiftbellkeep_GraphReach n l ll lc i k w Q) : FnP Tryd.prog F_shiftbellkeep_GraphReach #[(.int .i64 n), (.slice l ll lc), (.int .i64 i), (.int .i64 k)] w Q := by
  have e_ : wp_shiftbellkeep_GraphReach n l ll lc i k w Q = Runs Tryd.prog Q ({ N := 96, wrap := [], pub := [], muts := [] } : Cfg) Tryd.f4 (Tryd.f4.body.getD .skip) [.sc (.int .i64 n), .sc (.slc l ll lc), .sc (.int .i64 i), .sc (.int .i64 k)] w := by kernel_rfl
  rw [e_] at h
  exact runs_fn h Tryd.func4 (by kernel_rfl) (fun args w => Tryd.call4 args w) (by kernel_rfl) (by kernel_rfl) rfl rfl

theorem open_shiftbellkeep_GraphReach (W : World) (R : Array Value → Prop) (h : ∀ n : Int, InR .i64 n → ∀ l : Option Addr, ∀ ll : Nat, ∀ lc : Nat, SlcArg Tryd.prog W 25 l ll lc → ∀ i : Int, InR .i64 i → ∀ k : Int, InR .i64 k → R #[(.int .i64 n), (.slice l ll lc), (.int .i64 i), (.int .i64 k)]) (args : Array Value) (hg : GoodAll Tryd.prog W Tryd.f4.params.toList args.toList) : R args := by
  have e_ : (ArgsAll Tryd.prog W Tryd.f4.params.toList fun l => R l.toArray) = (∀ n : Int, InR .i64 n → ∀ l : Option Addr, ∀ ll : Nat, ∀ lc : Nat, SlcArg Tryd.prog W 25 l ll lc → ∀ i : Int, InR .i64 i → ∀ k : Int, InR .i64 k → R #[(.int .i64 n), (.slice l ll lc), (.int .i64 i), (.int .i64 k)]) := by kernel_rfl
  exact args_open (by rw [e_]; exact h) args hg
-- wit 4 #[(.int .i64 0), (.slice none 0 0), (.int .i64 0), (.int .i64 0)]

/-- shiftbell/graph.Thin -/
def wp_graph_Thin (n : Int) (l : Option Addr) (ll : Nat) (lc : Nat) (w : World) (Q : Value → World → Prop) : Prop :=
  ∀ w0, Ext w w0 →
  FnP Tryd.prog F_graph_Order #[(.int .i64 n), (.slice l ll lc)] w0 fun v1 w1 =>
   Ext w0 w1 ∧
   ∃ t2 : Option Addr, ∃ tl3 : Nat, ∃ tc4 : Nat, ∃ t5 : Int, v1 = (.tuple #[(.slice t2 tl3 tc4), (.int .i64 t5)]) ∧
   ((t5 ≠ 0) →
    ∀ w6, Ext w1 w6 →
    Q (.tuple #[(.slice none 0 0), (.int .i64 t5)]) w6) ∧
   ((t5 = 0) →
    ∀ w6, Ext w1 w6 →
    FnP Tryd.prog F_graph_rows #[(.int .i64 n), (.slice l ll lc)] w6 fun v7 w7 =>
     Ext w6 w7 ∧
     ∃ t8 : Option Addr, ∃ tl9 : Nat, ∃ tc10 : Nat, v7 = (.slice t8 tl9 tc10) ∧
     ∀ w11, Ext w7 w11 →
     FnP Tryd.prog F_graph_closed #[(.slice t8 tl9 tc10)] w11 fun v12 w12 =>
      Ext w11 w12 ∧
      ∃ t13 : Option Addr, ∃ tl14 : Nat, ∃ tc15 : Nat, v12 = (.slice t13 tl14 tc15) ∧
      ∃ (I16 : Int → World → Prop) (M16 : Int → World → Nat), I16 0 w12 ∧
      ∀ (k17 : Int) (w18 : World), I16 k17 w18 →
       ((k17 < (tl9 : Int)) →
        t13 ≠ none ∧
        (0 : Int) ≤ k17 ∧
        (k17 : Int) < (tl14 : Int) ∧
        ∃ t19 : Int, cell w18 (pIdx t13 k17 1) 0 = some (.int .u64 t19) ∧
        ∀ w20, Ext w18 w20 →
        FnP Tryd.prog F_graph_list #[(.int .u64 t19)] w20 fun v21 w21 =>
         Ext w20 w21 ∧
         ∃ t22 : Option Addr, ∃ tl23 : Nat, ∃ tc24 : Nat, v21 = (.slice t22 tl23 tc24) ∧
         ∃ (I25 : Int → World → Prop) (M25 : Int → World → Nat), I25 0 w21 ∧
         ∀ (k26 : Int) (w27 : World), I25 k26 w27 →
          ((k26 < (tl23 : Int)) →
           t22 ≠ none ∧
           (0 : Int) ≤ k26 ∧
           (k26 : Int) < (tl23 : Int) ∧
           ∃ t28 : Int, cell w27 (pIdx t22 k26 1) 0 = some (.int .i64 t28) ∧
           t8 ≠ none ∧
           (0 : Int) ≤ k17 ∧
           (k17 : Int) < (tl9 : Int) ∧
           ∃ t29 : Int, cell w27 (pIdx t8 k17 1) 0 = some (.int .u64 t29) ∧
           t13 ≠ none ∧
           (0 : Int) ≤ t28 ∧
           (t28 : Int) < (tl14 : Int) ∧
           ∃ t30 : Int, cell w27 (pIdx t13 t28 1) 0 = some (.int .u64 t30) ∧
           t8 ≠ none ∧
           (0 : Int) ≤ k17 ∧
           (k17 : Int) < (tl9 : Int) ∧
           Store w27 (pIdx t8 k17 1) [(.int .u64 (iBit .andNot .u64 t29 t30))] [] fun w31 =>
            InR .i64 (k26 + 1) ∧
            (I25 (k26 + 1) w31 ∧ M25 (k26 + 1) w31 < M25 k26 w27)) ∧
          (((tl23 : Int) ≤ k26) →
           InR .i64 (k17 + 1) ∧
           (I16 (k17 + 1) w27 ∧ M16 (k17 + 1) w27 < M16 k17 w18))) ∧
       (((tl9 : Int) ≤ k17) →
        ∀ w19, Ext w18 w19 →
        FnP Tryd.prog F_graph_edges #[(.slice t8 tl9 tc10)] w19 fun v20 w20 =>
         Ext w19 w20 ∧
         ∃ t21 : Option Addr, ∃ tl22 : Nat, ∃ tc23 : Nat, v20 = (.slice t21 tl22 tc23) ∧
         ∀ w24, Ext w20 w24 →
         Q (.tuple #[(.slice t21 tl22 tc23), (.int .i64 0)]) w24))

theorem ok_graph_Thin (n : Int) (l : Option Addr) (ll : Nat) (lc : Nat) (w : World) (Q : Value → World → Prop) (h : wp_graph_Thin n l ll lc w Q) : FnP Tryd.prog F_graph_Thin #[(.int .i64 n), (.slice l ll lc)] w Q := by
  have e_ : wp_graph_Thin n l ll lc w Q = Runs Tryd.prog Q ({ N := 56, wrap := [], pub := [], muts := [] } : Cfg) Tryd.f14 (Tryd.f14.body.getD .skip) [.sc (.int .i64 n), .sc (.slc l ll lc)] w := by kernel_rfl
  rw [e_] at h
  exact runs_fn h Tryd.func14 (by kernel_rfl) (fun args w => Tryd.call14 args w) (by kernel_rfl) (by kernel_rfl) rfl rfl

/-- slices.Delete[[]shiftbell/api.Edge,shiftbell/api.Edge] -/
def wp_slices_Delete_api_Edge_api_Edge (s : Option Addr) (sl : Nat) (sc : Nat) (i : Int) (j : Int) (w : World) (Q : Value → World → Prop) : Prop :=
  (0 : Int) ≤ i ∧
  (i : Int) ≤ j ∧
  (j : Int) ≤ (sl : Int) ∧
  ((sl : Int) : Int) ≤ (sc : Int) ∧
  ((i = j) →
   ∀ w0, Ext w w0 →
   Q (.slice s sl sc) w0) ∧
  ((i ≠ j) →
   (0 : Int) ≤ 0 ∧
   (0 : Int) ≤ i ∧
   (i : Int) ≤ (sc : Int) ∧
   (0 : Int) ≤ j ∧
   (j : Int) ≤ (sl : Int) ∧
   ((sl : Int) : Int) ≤ (sc : Int) ∧
   ∀ w0, Ext w w0 →
   Run Tryd.prog (.append #[22, 22] 22 [(.slice (pCut s sc 0 2) (i - 0).toNat (sc - (0 : Int).toNat)), (.slice (pCut s sc j 2) ((sl : Int) - j).toNat (sc - j.toNat))]) w0 fun v1 w1 =>
    ∃ t2 : Option Addr, ∃ tl3 : Nat, ∃ tc4 : Nat, v1 = (.slice t2 tl3 tc4) ∧
    (0 : Int) ≤ (tl3 : Int) ∧
    ((tl3 : Int) : Int) ≤ (sl : Int) ∧
    ((sl : Int) : Int) ≤ (tc4 : Int) ∧
    ∀ w5, Ext w1 w5 →
    Run Tryd.prog (.clear #[22] 0 [(.slice (pCut t2 tc4 (tl3 : Int) 2) ((sl : Int) - (tl3 : Int)).toNat (tc4 - (tl3 : Int).toNat))]) w5 fun v6 w6 =>
     v6 = (.tuple #[]) ∧
     ∀ w7, Ext w6 w7 →
     Q (.slice t2 tl3 tc4) w7)

theorem ok_slices_Delete_api_Edge_api_Edge (s : Option Addr) (sl : Nat) (sc : Nat) (i : Int) (j : Int) (w : World) (Q : Value → World → Prop) (h : wp_slices_Delete_api_Edge_api_Edge s sl sc i j w Q) : FnP Tryd.prog F_slices_Delete_api_Edge_api_Edge #[(.slice s sl sc), (.int .i64 i), (.int .i64 j)] w Q := by
  have e_ : wp_slices_Delete_api_Edge_api_Edge s sl sc i j w Q = Runs Tryd.prog Q ({ N := 33, wrap := [], pub := [], muts := [] } : Cfg) Tryd.f15 (Tryd.f15.body.getD .skip) [.sc (.slc s sl sc), .sc (.int .i64 i), .sc (.int .i64 j)] w := by kernel_rfl
  rw [e_] at h
  exact runs_fn h Tryd.func15 (by kernel_rfl) (fun args w => Tryd.call15 args w) (by kernel_rfl) (by kernel_rfl) rfl rfl

/-- slices.Clone[[]shiftbell/api.Edge,shiftbell/api.Edge] -/
def wp_slices_Clone_api_Edge_api_Edge (s : Option Addr) (sl : Nat) (sc : Nat) (w : World) (Q : Value → World → Prop) : Prop :=
  ((s = none) →
   ∀ w0, Ext w w0 →
   Q (.slice none 0 0) w0) ∧
  ((s ≠ none) →
   ∀ w0, Ext w w0 →
   Run Tryd.prog (.buildSlice 22 0 []) w0 fun v1 w1 =>
    Ext w0 w1 ∧
    ∃ t2 : Option Addr, ∃ tl3 : Nat, ∃ tc4 : Nat, v1 = (.slice t2 tl3 tc4) ∧
    ∀ w5, Ext w1 w5 →
    Run Tryd.prog (.append #[22, 22] 22 [(.slice t2 tl3 tc4), (.slice s sl sc)]) w5 fun v6 w6 =>
     ∃ t7 : Option Addr, ∃ tl8 : Nat, ∃ tc9 : Nat, v6 = (.slice t7 tl8 tc9) ∧
     ∀ w10, Ext w6 w10 →
     Q (.slice t7 tl8 tc9) w10)

theorem ok_slices_Clone_api_Edge_api_Edge (s : Option Addr) (sl : Nat) (sc : Nat) (w : World) (Q : Value → World → Prop) (h : wp_slices_Clone_api_Edge_api_Edge s sl sc w Q) : FnP Tryd.prog F_slices_Clone_api_Edge_api_Edge #[(.slice s sl sc)] w Q := by
  have e_ : wp_slices_Clone_api_Edge_api_Edge s sl sc w Q = Runs Tryd.prog Q ({ N := 8, wrap := [], pub := [], muts := [] } : Cfg) Tryd.f16 (Tryd.f16.body.getD .skip) [.sc (.slc s sl sc)] w := by kernel_rfl
  rw [e_] at h
  exact runs_fn h Tryd.func16 (by kernel_rfl) (fun args w => Tryd.call16 args w) (by kernel_rfl) (by kernel_rfl) rfl rfl

/-- shiftbell/shiftbellkeep.GraphThin -/
def wp_shiftbellkeep_GraphThin (n : Int) (l : Option Addr) (ll : Nat) (lc : Nat) (at_v : Int) (w : World) (Q : Value → World → Prop) : Prop :=
  ∀ w0, Ext w w0 →
  FnP Tryd.prog F_shiftbellkeep_graphs #[] w0 fun v1 w1 =>
   Ext w0 w1 ∧
   ∃ t2 : Bool, v1 = (.bool t2) ∧
   ((t2 = false) →
    ∀ w3, Ext w w3 →
    Q (.bool false) w3) ∧
   ((t2 = true) →
    ∀ w3, Ext w w3 →
    FnP Tryd.prog F_graph_Thin #[(.int .i64 n), (.slice l ll lc)] w3 fun v4 w4 =>
     Ext w3 w4 ∧
     ∃ t5 : Option Addr, ∃ tl6 : Nat, ∃ tc7 : Nat, ∃ t8 : Int, v4 = (.tuple #[(.slice t5 tl6 tc7), (.int .i64 t8)]) ∧
     ((t8 ≠ 0) →
      ∀ w9, Ext w4 w9 →
      Q (.bool (decide ((tl6 : Int) = 0))) w9) ∧
     ((t8 = 0) →
      ∀ w9, Ext w4 w9 →
      FnP Tryd.prog F_graph_Close #[(.int .i64 n), (.slice l ll lc)] w9 fun v10 w10 =>
       Ext w9 w10 ∧
       ∃ t11 : Option Addr, ∃ tl12 : Nat, ∃ tc13 : Nat, ∃ t14 : Int, v10 = (.tuple #[(.slice t11 tl12 tc13), (.int .i64 t14)]) ∧
       ∀ w15, Ext w10 w15 →
       FnP Tryd.prog F_graph_Close #[(.int .i64 n), (.slice t5 tl6 tc7)] w15 fun v16 w16 =>
        Ext w15 w16 ∧
        ∃ t17 : Option Addr, ∃ tl18 : Nat, ∃ tc19 : Nat, ∃ t20 : Int, v16 = (.tuple #[(.slice t17 tl18 tc19), (.int .i64 t20)]) ∧
        ((t14 ≠ t20) →
         ∀ w21, Ext w16 w21 →
         Q (.bool false) w21) ∧
        ((t14 = t20) →
         ∀ w21, Ext w16 w21 →
         FnP Tryd.prog F_slices_Equal_api_Edge_api_Edge #[(.slice t11 tl12 tc13), (.slice t17 tl18 tc19)] w21 fun v22 w22 =>
          Ext w21 w22 ∧
          ∃ t23 : Bool, v22 = (.bool t23) ∧
          (((t23 = false) ∨ ((ll : Int) < (tl6 : Int))) →
           ∀ w24, Ext w16 w24 →
           Q (.bool false) w24) ∧
          (((t23 = true) ∧ ((tl6 : Int) ≤ (ll : Int))) →
           ∃ (I24 : Int → World → Prop) (M24 : Int → World → Nat), I24 0 w16 ∧
           ∀ (k25 : Int) (w26 : World), I24 k25 w26 →
            ((k25 < (tl6 : Int)) →
             t5 ≠ none ∧
             (0 : Int) ≤ k25 ∧
             (k25 : Int) < (tl6 : Int) ∧
             (pIdx t5 k25 2) ≠ none ∧
             ∃ t27 : Int, cell w26 (pIdx t5 k25 2) 0 = some (.int .i64 t27) ∧
             ∃ t28 : Int, cell w26 (pIdx t5 k25 2) 1 = some (.int .i64 t28) ∧
             ∀ b29 : Nat, w26.heap.size ≤ b29 → ∀ w30, Ext w26 w30 →
             FnP Tryd.prog F_slices_Contains_api_Edge_api_Edge #[(.slice l ll lc), (.agg #[(.int .i64 t27), (.int .i64 t28)])] w30 fun v31 w31 =>
              Ext w30 w31 ∧
              ∃ t32 : Bool, v31 = (.bool t32) ∧
              ((t32 = false) →
               ∀ w33, Ext w26 w33 →
               Q (.bool false) w33) ∧
              ((t32 = true) →
               InR .i64 (k25 + 1) ∧
               (I24 (k25 + 1) w26 ∧ M24 (k25 + 1) w26 < M24 k25 w26))) ∧
            (((tl6 : Int) ≤ k25) →
             ((((at_v < 0) ∨ ((tl6 : Int) ≤ at_v)) ∨ (t14 ≠ 0)) →
              ∀ w27, Ext w26 w27 →
              Q (.bool true) w27) ∧
             ((((0 ≤ at_v) ∧ (at_v < (tl6 : Int))) ∧ (t14 = 0)) →
              ∀ w27, Ext w26 w27 →
              FnP Tryd.prog F_slices_Clone_api_Edge_api_Edge #[(.slice t5 tl6 tc7)] w27 fun v28 w28 =>
               Ext w27 w28 ∧
               ∃ t29 : Option Addr, ∃ tl30 : Nat, ∃ tc31 : Nat, v28 = (.slice t29 tl30 tc31) ∧
               InR .i64 (at_v + 1) ∧
               ∀ w32, Ext w28 w32 →
               FnP Tryd.prog F_slices_Delete_api_Edge_api_Edge #[(.slice t29 tl30 tc31), (.int .i64 at_v), (.int .i64 (at_v + 1))] w32 fun v33 w33 =>
                ∃ t34 : Option Addr, ∃ tl35 : Nat, ∃ tc36 : Nat, v33 = (.slice t34 tl35 tc36) ∧
                ∀ w37, Ext w33 w37 →
                FnP Tryd.prog F_graph_Close #[(.int .i64 n), (.slice t34 tl35 tc36)] w37 fun v38 w38 =>
                 Ext w37 w38 ∧
                 ∃ t39 : Option Addr, ∃ tl40 : Nat, ∃ tc41 : Nat, ∃ t42 : Int, v38 = (.tuple #[(.slice t39 tl40 tc41), (.int .i64 t42)]) ∧
                 ∀ w43, Ext w38 w43 →
                 Q (.bool ((decide (t42 = 0)) && (decide ((tl40 : Int) < (tl12 : Int))))) w43))))))

theorem ok_shiftbellkeep_GraphThin (n : Int) (l : Option Addr) (ll : Nat) (lc : Nat) (at_v : Int) (w : World) (Q : Value → World → Prop) (h : wp_shiftbellkeep_GraphThin n l ll lc at_v w Q) : FnP Tryd.prog F_shiftbellkeep_GraphThin #[(.int .i64 n), (.slice l ll lc), (.int .i64 at_v)] w Q := by
  have e_ : wp_shiftbellkeep_GraphThin n l ll lc at_v w Q = Runs Tryd.prog Q ({ N := 101, wrap := [], pub := [], muts := [15] } : Cfg) Tryd.f5 (Tryd.f5.body.getD .skip) [.sc (.int .i64 n), .sc (.slc l ll lc), .sc (.int .i64 at_v)] w := by kernel_rfl
  rw [e_] at h
  exact runs_fn h Tryd.func5 (by kernel_rfl) (fun args w => Tryd.call5 args w) (by kernel_rfl) (by kernel_rfl) rfl rfl

theorem open_shiftbellkeep_GraphThin (W : World) (R : Array Value → Prop) (h : ∀ n : Int, InR .i64 n → ∀ l : Option Addr, ∀ ll : Nat, ∀ lc : Nat, SlcArg Tryd.prog W 25 l ll lc → ∀ at_v : Int, InR .i64 at_v → R #[(.int .i64 n), (.slice l ll lc), (.int .i64 at_v)]) (args : Array Value) (hg : GoodAll Tryd.prog W Tryd.f5.params.toList args.toList) : R args := by
  have e_ : (ArgsAll Tryd.prog W Tryd.f5.params.toList fun l => R l.toArray) = (∀ n : Int, InR .i64 n → ∀ l : Option Addr, ∀ ll : Nat, ∀ lc : Nat, SlcArg Tryd.prog W 25 l ll lc → ∀ at_v : Int, InR .i64 at_v → R #[(.int .i64 n), (.slice l ll lc), (.int .i64 at_v)]) := by kernel_rfl
  exact args_open (by rw [e_]; exact h) args hg
-- wit 5 #[(.int .i64 0), (.slice none 0 0), (.int .i64 0)]

end Go.Proofs.YtopgihimdjnaeaaDoor
