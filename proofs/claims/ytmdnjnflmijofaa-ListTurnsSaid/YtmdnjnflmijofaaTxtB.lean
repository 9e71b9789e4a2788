/- The texts of this seat's functions: what each computes, as its symbolic run says it. -/
import Derived.Test.YtmdnjnflmijofaaRows
import Derived.Test.YtmdnjnflmijofaaSxD
import Derived.Test.YtmdnjnflmijofaaSxN
import Derived.Test.YtmdnjnflmijofaaTxt
set_option linter.unusedVariables false
set_option linter.unusedSimpArgs false
set_option maxRecDepth 100000
namespace Go.Proofs.Ytmdnjnflmijofaa
open Go.Sx Go.RowKit

abbrev F_shiftbellkeep_ListGraph : FuncId := 5
abbrev F_shiftbellkeep_ListTurns : FuncId := 6
abbrev F_list_Graph : FuncId := 19
abbrev F_path_Times : FuncId := 20
abbrev F_slices_IndexFunc_int64_int64 : FuncId := 32
abbrev F_list_Graph_1 : FuncId := 33
abbrev F_list_table_ready : FuncId := 34
abbrev F_list_table_next : FuncId := 35
abbrev F_path_check : FuncId := 36
abbrev F_slices_IndexFunc_int_int : FuncId := 49
abbrev F_list_table_ready_1 : FuncId := 50
abbrev F_slices_ContainsFunc_api_Edge_api_Edge : FuncId := 51
abbrev F_list_table_ready_1_1 : FuncId := 52
abbrev F_list_table_ended : FuncId := 53
abbrev F_graph_Check : FuncId := 54
abbrev F_graph_Order : FuncId := 55
abbrev F_slices_IndexFunc_api_Edge_api_Edge : FuncId := 59

/-- shiftbell/list.Graph -/
def wp_list_Graph (m : Int) (n : Int) (l : Option Addr) (ll : Nat) (lc : Nat) (d : Option Addr) (dl : Nat) (dc : Nat) (w : World) (Q : Value → World → Prop) : Prop :=
  (((m < 1) ∨ (20 < m)) →
   ∀ w0, Ext w w0 →
   Q (.tuple #[(.slice none 0 0), (.int .i64 0), (.int .i64 1)]) w0) ∧
  (((1 ≤ m) ∧ (m ≤ 20)) →
   ∀ w0, Ext w w0 →
   FnP Try.prog F_path_Times #[(.int .i64 n), (.slice l ll lc), (.slice d dl dc)] w0 fun v1 w1 =>
    Ext w0 w1 ∧
    ∃ t_02 : Option Addr, ∃ t_0l3 : Nat, ∃ t_0c4 : Nat, ∃ t_15 : Option Addr, ∃ t_1l6 : Nat, ∃ t_1c7 : Nat, ∃ t_28 : Int, ∃ t9 : Int, v1 = (.tuple #[(.agg #[(.slice t_02 t_0l3 t_0c4), (.slice t_15 t_1l6 t_1c7), (.int .i64 t_28)]), (.int .i64 t9)]) ∧
    ∀ b10 : Nat, w1.heap.size ≤ b10 → ((t9 ≠ 0) →
     ∀ w11, Ext w1 w11 →
     Q (.tuple #[(.slice none 0 0), (.int .i64 0), (.int .i64 t9)]) w11) ∧
    ((t9 = 0) →
     ∃ (J11 : Option Addr → Option Addr → World → Prop), ((∀ w15, ExtB [] [b10] w1 w15 →
      Run Try.prog (.makeSlice 37 (.int .i64 n) (.int .i64 n)) w15 fun v16 w16 =>
       Ext w15 w16 ∧
       ∃ t17 : Option Addr, ∃ tl18 : Nat, ∃ tc19 : Nat, v16 = (.slice t17 tl18 tc19) ∧
       (∀ w20, ExtB [] [b10] w16 w20 →
       Run Try.prog (.makeSlice 63 (.int .i64 n) (.int .i64 n)) w20 fun v21 w21 =>
        Ext w20 w21 ∧
        ∃ t22 : Option Addr, ∃ tl23 : Nat, ∃ tc24 : Nat, v21 = (.slice t22 tl23 tc24) ∧
        ∀ w25, ExtB [] [b10] w21 w25 →
        Run Try.prog (.makeSlice 22 (.int .i64 m) (.int .i64 m)) w25 fun v26 w26 =>
         Ext w25 w26 ∧
         ∃ t27 : Option Addr, ∃ tl28 : Nat, ∃ tc29 : Nat, v26 = (.slice t27 tl28 tc29) ∧
         ∀ w30, ExtB [] [b10] w26 w30 →
         New w30 65 [(.slice l ll lc), (.slice d dl dc), (.slice t17 tl18 tc19), (.slice t22 tl23 tc24), (.slice t27 tl28 tc29)] fun p31 w31 =>
          J11 p31 p31 w31) ∧
       ∀ w20, ExtB [] [b10] w16 w20 →
       Run Try.prog (.makeSlice 22 (.int .i64 m) (.int .i64 m)) w20 fun v21 w21 =>
        Ext w20 w21 ∧
        ∃ t22 : Option Addr, ∃ tl23 : Nat, ∃ tc24 : Nat, v21 = (.slice t22 tl23 tc24) ∧
        ∀ w25, ExtB [] [b10] w21 w25 →
        Run Try.prog (.makeSlice 63 (.int .i64 n) (.int .i64 n)) w25 fun v26 w26 =>
         Ext w25 w26 ∧
         ∃ t27 : Option Addr, ∃ tl28 : Nat, ∃ tc29 : Nat, v26 = (.slice t27 tl28 tc29) ∧
         ∀ w30, ExtB [] [b10] w26 w30 →
         New w30 65 [(.slice l ll lc), (.slice d dl dc), (.slice t17 tl18 tc19), (.slice t27 tl28 tc29), (.slice t22 tl23 tc24)] fun p31 w31 =>
          J11 p31 p31 w31) ∧
      (∀ w15, ExtB [] [b10] w1 w15 →
      Run Try.prog (.makeSlice 63 (.int .i64 n) (.int .i64 n)) w15 fun v16 w16 =>
       Ext w15 w16 ∧
       ∃ t17 : Option Addr, ∃ tl18 : Nat, ∃ tc19 : Nat, v16 = (.slice t17 tl18 tc19) ∧
       (∀ w20, ExtB [] [b10] w16 w20 →
       Run Try.prog (.makeSlice 37 (.int .i64 n) (.int .i64 n)) w20 fun v21 w21 =>
        Ext w20 w21 ∧
        ∃ t22 : Option Addr, ∃ tl23 : Nat, ∃ tc24 : Nat, v21 = (.slice t22 tl23 tc24) ∧
        ∀ w25, ExtB [] [b10] w21 w25 →
        Run Try.prog (.makeSlice 22 (.int .i64 m) (.int .i64 m)) w25 fun v26 w26 =>
         Ext w25 w26 ∧
         ∃ t27 : Option Addr, ∃ tl28 : Nat, ∃ tc29 : Nat, v26 = (.slice t27 tl28 tc29) ∧
         ∀ w30, ExtB [] [b10] w26 w30 →
         New w30 65 [(.slice l ll lc), (.slice d dl dc), (.slice t22 tl23 tc24), (.slice t17 tl18 tc19), (.slice t27 tl28 tc29)] fun p31 w31 =>
          J11 p31 p31 w31) ∧
       ∀ w20, ExtB [] [b10] w16 w20 →
       Run Try.prog (.makeSlice 22 (.int .i64 m) (.int .i64 m)) w20 fun v21 w21 =>
        Ext w20 w21 ∧
        ∃ t22 : Option Addr, ∃ tl23 : Nat, ∃ tc24 : Nat, v21 = (.slice t22 tl23 tc24) ∧
        ∀ w25, ExtB [] [b10] w21 w25 →
        Run Try.prog (.makeSlice 37 (.int .i64 n) (.int .i64 n)) w25 fun v26 w26 =>
         Ext w25 w26 ∧
         ∃ t27 : Option Addr, ∃ tl28 : Nat, ∃ tc29 : Nat, v26 = (.slice t27 tl28 tc29) ∧
         ∀ w30, ExtB [] [b10] w26 w30 →
         New w30 65 [(.slice l ll lc), (.slice d dl dc), (.slice t27 tl28 tc29), (.slice t17 tl18 tc19), (.slice t22 tl23 tc24)] fun p31 w31 =>
          J11 p31 p31 w31) ∧
      ∀ w15, ExtB [] [b10] w1 w15 →
      Run Try.prog (.makeSlice 22 (.int .i64 m) (.int .i64 m)) w15 fun v16 w16 =>
       Ext w15 w16 ∧
       ∃ t17 : Option Addr, ∃ tl18 : Nat, ∃ tc19 : Nat, v16 = (.slice t17 tl18 tc19) ∧
       (∀ w20, ExtB [] [b10] w16 w20 →
       Run Try.prog (.makeSlice 37 (.int .i64 n) (.int .i64 n)) w20 fun v21 w21 =>
        Ext w20 w21 ∧
        ∃ t22 : Option Addr, ∃ tl23 : Nat, ∃ tc24 : Nat, v21 = (.slice t22 tl23 tc24) ∧
        ∀ w25, ExtB [] [b10] w21 w25 →
        Run Try.prog (.makeSlice 63 (.int .i64 n) (.int .i64 n)) w25 fun v26 w26 =>
         Ext w25 w26 ∧
         ∃ t27 : Option Addr, ∃ tl28 : Nat, ∃ tc29 : Nat, v26 = (.slice t27 tl28 tc29) ∧
         ∀ w30, ExtB [] [b10] w26 w30 →
         New w30 65 [(.slice l ll lc), (.slice d dl dc), (.slice t22 tl23 tc24), (.slice t27 tl28 tc29), (.slice t17 tl18 tc19)] fun p31 w31 =>
          J11 p31 p31 w31) ∧
       ∀ w20, ExtB [] [b10] w16 w20 →
       Run Try.prog (.makeSlice 63 (.int .i64 n) (.int .i64 n)) w20 fun v21 w21 =>
        Ext w20 w21 ∧
        ∃ t22 : Option Addr, ∃ tl23 : Nat, ∃ tc24 : Nat, v21 = (.slice t22 tl23 tc24) ∧
        ∀ w25, ExtB [] [b10] w21 w25 →
        Run Try.prog (.makeSlice 37 (.int .i64 n) (.int .i64 n)) w25 fun v26 w26 =>
         Ext w25 w26 ∧
         ∃ t27 : Option Addr, ∃ tl28 : Nat, ∃ tc29 : Nat, v26 = (.slice t27 tl28 tc29) ∧
         ∀ w30, ExtB [] [b10] w26 w30 →
         New w30 65 [(.slice l ll lc), (.slice d dl dc), (.slice t27 tl28 tc29), (.slice t22 tl23 tc24), (.slice t17 tl18 tc19)] fun p31 w31 =>
          J11 p31 p31 w31) ∧
     ∀ (k12 : Option Addr) (t13 : Option Addr) (w14 : World), J11 k12 t13 w14 →
      ∀ w15, ExtB [] [b10] w14 w15 →
      New w15 2 [(.int .i64 0)] fun p16 w16 =>
       Store w16 p16 [(.int .i64 0)] [b10] fun w17 =>
        ∃ (I18 : Int → Int → World → Prop) (M18 : Int → Int → World → Nat), I18 0 n w17 ∧
        ∀ (end19 : Int) (left20 : Int) (w21 : World), I18 end19 left20 w21 →
         ((0 < left20) →
          t13 ≠ none ∧
          t13 ≠ none ∧
          ∃ t22 : Option Addr, ∃ tl23 : Nat, ∃ tc24 : Nat, cell w21 (pAdd t13 4) 0 = some (.slice t22 tl23 tc24) ∧
          ∀ w25, Ext w21 w25 →
          FnP Try.prog F_slices_IndexFunc_int64_int64 #[(.slice t22 tl23 tc24), (.func (.func 33) #[] #[(.pointer p16)])] w25 fun v26 w26 =>
           Ext w25 w26 ∧
           ∃ t27 : Int, v26 = (.int .i64 t27) ∧
           ((0 ≤ t27) →
            ∃ t28 : Int, cell w21 p16 0 = some (.int .i64 t28) ∧
            ∀ w29, Ext w21 w29 →
            FnP Try.prog F_list_table_ready #[(.pointer t13), (.int .i64 t28)] w29 fun v30 w30 =>
             Ext w29 w30 ∧
             ∃ t31 : Int, v30 = (.int .i64 t31) ∧
             ((t31 < 0) →
              ∃ t32 : Int, cell w21 p16 0 = some (.int .i64 t32) ∧
              ∀ w33, Ext w21 w33 →
              FnP Try.prog F_list_table_next #[(.pointer t13), (.int .i64 t32)] w33 fun v34 w34 =>
               Ext w33 w34 ∧
               ∃ t35 : Int, v34 = (.int .i64 t35) ∧
               Store w21 p16 [(.int .i64 t35)] [b10] fun w36 =>
                (I18 end19 left20 w36 ∧ M18 end19 left20 w36 < M18 end19 left20 w21)) ∧
             ((0 ≤ t31) →
              t13 ≠ none ∧
              t13 ≠ none ∧
              ∃ t32 : Option Addr, ∃ tl33 : Nat, ∃ tc34 : Nat, cell w21 (pAdd t13 2) 0 = some (.slice t32 tl33 tc34) ∧
              t13 ≠ none ∧
              t13 ≠ none ∧
              ∃ t35 : Option Addr, ∃ tl36 : Nat, ∃ tc37 : Nat, cell w21 (pAdd t13 3) 0 = some (.slice t35 tl36 tc37) ∧
              ∃ t38 : Int, cell w21 p16 0 = some (.int .i64 t38) ∧
              t32 ≠ none ∧
              (0 : Int) ≤ t31 ∧
              (t31 : Int) < (tl33 : Int) ∧
              Store w21 (pIdx t32 t31 2) [(.int .i64 t38), (.int .i64 t27)] [b10] fun w39 =>
               t35 ≠ none ∧
               (0 : Int) ≤ t31 ∧
               (t31 : Int) < (tl36 : Int) ∧
               Store w39 (pIdx t35 t31 1) [(.bool true)] [b10] fun w40 =>
                t13 ≠ none ∧
                t13 ≠ none ∧
                ∃ t41 : Option Addr, ∃ tl42 : Nat, ∃ tc43 : Nat, cell w40 (pAdd t13 4) 0 = some (.slice t41 tl42 tc43) ∧
                ∃ t44 : Int, cell w40 p16 0 = some (.int .i64 t44) ∧
                d ≠ none ∧
                (0 : Int) ≤ t31 ∧
                (t31 : Int) < (dl : Int) ∧
                ∃ t45 : Int, cell w40 (pIdx d t31 1) 0 = some (.int .i64 t45) ∧
                InR .i64 (t44 + t45) ∧
                t41 ≠ none ∧
                (0 : Int) ≤ t27 ∧
                (t27 : Int) < (tl42 : Int) ∧
                Store w40 (pIdx t41 t27 1) [(.int .i64 (t44 + t45))] [b10] fun w46 =>
                 ∃ t47 : Int, cell w46 p16 0 = some (.int .i64 t47) ∧
                 d ≠ none ∧
                 (0 : Int) ≤ t31 ∧
                 (t31 : Int) < (dl : Int) ∧
                 ∃ t48 : Int, cell w46 (pIdx d t31 1) 0 = some (.int .i64 t48) ∧
                 InR .i64 (t47 + t48) ∧
                 InR .i64 (left20 - 1) ∧
                 (I18 (max end19 (t47 + t48)) (left20 - 1) w46 ∧ M18 (max end19 (t47 + t48)) (left20 - 1) w46 < M18 end19 left20 w21))) ∧
           ((t27 < 0) →
            ∃ t28 : Int, cell w21 p16 0 = some (.int .i64 t28) ∧
            ∀ w29, Ext w21 w29 →
            FnP Try.prog F_list_table_next #[(.pointer t13), (.int .i64 t28)] w29 fun v30 w30 =>
             Ext w29 w30 ∧
             ∃ t31 : Int, v30 = (.int .i64 t31) ∧
             Store w21 p16 [(.int .i64 t31)] [b10] fun w32 =>
              (I18 end19 left20 w32 ∧ M18 end19 left20 w32 < M18 end19 left20 w21))) ∧
         ((left20 ≤ 0) →
          t13 ≠ none ∧
          t13 ≠ none ∧
          ∃ t22 : Option Addr, ∃ tl23 : Nat, ∃ tc24 : Nat, cell w21 (pAdd t13 2) 0 = some (.slice t22 tl23 tc24) ∧
          ∀ w25, Ext w21 w25 →
          Q (.tuple #[(.slice t22 tl23 tc24), (.int .i64 end19), (.int .i64 0)]) w25)))

theorem ok_list_Graph (m : Int) (n : Int) (l : Option Addr) (ll : Nat) (lc : Nat) (d : Option Addr) (dl : Nat) (dc : Nat) (w : World) (Q : Value → World → Prop) (h : wp_list_Graph m n l ll lc d dl dc w Q) : FnP Try.prog F_list_Graph #[(.int .i64 m), (.int .i64 n), (.slice l ll lc), (.slice d dl dc)] w Q := by
  have e_ : wp_list_Graph m n l ll lc d dl dc w Q = Runs Try.prog Q ({ N := 106, wrap := [], pub := [14, 44], muts := [] } : Cfg) Try.f19 (Try.f19.body.getD .skip) [.sc (.int .i64 m), .sc (.int .i64 n), .sc (.slc l ll lc), .sc (.slc d dl dc)] w := by kernel_rfl
  rw [e_] at h
  exact runs_fn h Try.func19 (by kernel_rfl) (fun args w => Try.call19 args w) (by kernel_rfl) (by kernel_rfl) rfl rfl

/-- shiftbell/list.Graph$1 -/
def wp_list_Graph_1 (at_v : Int) (c0 : Option Addr) (w : World) (Q : Value → World → Prop) : Prop :=
  ∃ t0 : Int, cell w c0 0 = some (.int .i64 t0) ∧
  ∀ w1, Ext w w1 →
  Q (.bool (decide (at_v ≤ t0))) w1

theorem ok_list_Graph_1 (at_v : Int) (c0 : Option Addr) (w : World) (Q : Value → World → Prop) (h : wp_list_Graph_1 at_v c0 w Q) : FnP Try.prog F_list_Graph_1 #[(.int .i64 at_v), (.pointer c0)] w Q := by
  have e_ : wp_list_Graph_1 at_v c0 w Q = Runs Try.prog Q ({ N := 7, wrap := [], pub := [], muts := [] } : Cfg) Try.f33 (Try.f33.body.getD .skip) [.sc (.int .i64 at_v), .sc (.ptr c0)] w := by kernel_rfl
  rw [e_] at h
  exact runs_fn h Try.func33 (by kernel_rfl) (fun args w => Try.call33 args w) (by kernel_rfl) (by kernel_rfl) rfl rfl

/-- (*shiftbell/list.table).ready -/
def wp_list_table_ready (t : Option Addr) (now : Int) (w : World) (Q : Value → World → Prop) : Prop :=
  ∀ w0, Ext w w0 →
  New w0 62 [(.pointer t)] fun p1 w1 =>
   ∀ w2, Ext w1 w2 →
   New w2 2 [(.int .i64 now)] fun p3 w3 =>
    ∃ t4 : Option Addr, cell w3 p1 0 = some (.pointer t4) ∧
    t4 ≠ none ∧
    t4 ≠ none ∧
    ∃ t5 : Option Addr, ∃ tl6 : Nat, ∃ tc7 : Nat, cell w3 (pAdd t4 1) 0 = some (.slice t5 tl6 tc7) ∧
    ∀ w8, Ext w3 w8 →
    FnP Try.prog F_list_numbers #[(.int .i64 (tl6 : Int))] w8 fun v9 w9 =>
     Ext w8 w9 ∧
     ∃ t10 : Option Addr, ∃ tl11 : Nat, ∃ tc12 : Nat, v9 = (.slice t10 tl11 tc12) ∧
     ∀ w13, Ext w9 w13 →
     FnP Try.prog F_slices_IndexFunc_int_int #[(.slice t10 tl11 tc12), (.func (.func 50) #[] #[(.pointer p1), (.pointer p3)])] w13 fun v14 w14 =>
      Ext w13 w14 ∧
      ∃ t15 : Int, v14 = (.int .i64 t15) ∧
      ∀ w16, Ext w9 w16 →
      Q (.int .i64 t15) w16

theorem ok_list_table_ready (t : Option Addr) (now : Int) (w : World) (Q : Value → World → Prop) (h : wp_list_table_ready t now w Q) : FnP Try.prog F_list_table_ready #[(.pointer t), (.int .i64 now)] w Q := by
  have e_ : wp_list_table_ready t now w Q = Runs Try.prog Q ({ N := 13, wrap := [], pub := [2, 3], muts := [] } : Cfg) Try.f34 (Try.f34.body.getD .skip) [.sc (.ptr t), .sc (.int .i64 now)] w := by kernel_rfl
  rw [e_] at h
  exact runs_fn h Try.func34 (by kernel_rfl) (fun args w => Try.call34 args w) (by kernel_rfl) (by kernel_rfl) rfl rfl

/-- (*shiftbell/list.table).ready$1 -/
def wp_list_table_ready_1 (i : Int) (c0 : Option Addr) (c1 : Option Addr) (w : World) (Q : Value → World → Prop) : Prop :=
  ∀ w0, Ext w w0 →
  New w0 3 [(.int .i64 i)] fun p1 w1 =>
   ∃ t2 : Option Addr, cell w1 c0 0 = some (.pointer t2) ∧
   t2 ≠ none ∧
   t2 ≠ none ∧
   ∃ t3 : Option Addr, ∃ tl4 : Nat, ∃ tc5 : Nat, cell w1 (pAdd t2 3) 0 = some (.slice t3 tl4 tc5) ∧
   ∃ t6 : Int, cell w1 p1 0 = some (.int .i64 t6) ∧
   t3 ≠ none ∧
   (0 : Int) ≤ t6 ∧
   (t6 : Int) < (tl4 : Int) ∧
   ∃ t7 : Bool, cell w1 (pIdx t3 t6 1) 0 = some (.bool t7) ∧
   ((t7 = false) →
    ∃ t8 : Option Addr, cell w1 c0 0 = some (.pointer t8) ∧
    t8 ≠ none ∧
    t8 ≠ none ∧
    ∃ t9 : Option Addr, ∃ tl10 : Nat, ∃ tc11 : Nat, cell w1 (pAdd t8 0) 0 = some (.slice t9 tl10 tc11) ∧
    ∀ w12, Ext w1 w12 →
    FnP Try.prog F_slices_ContainsFunc_api_Edge_api_Edge #[(.slice t9 tl10 tc11), (.func (.func 52) #[] #[(.pointer p1), (.pointer c0), (.pointer c1)])] w12 fun v13 w13 =>
     Ext w12 w13 ∧
     ∃ t14 : Bool, v13 = (.bool t14) ∧
     ∀ w15, Ext w1 w15 →
     Q (.bool (!t14)) w15) ∧
   ((t7 = true) →
    ∀ w8, Ext w1 w8 →
    Q (.bool false) w8)

theorem ok_list_table_ready_1 (i : Int) (c0 : Option Addr) (c1 : Option Addr) (w : World) (Q : Value → World → Prop) (h : wp_list_table_ready_1 i c0 c1 w Q) : FnP Try.prog F_list_table_ready_1 #[(.int .i64 i), (.pointer c0), (.pointer c1)] w Q := by
  have e_ : wp_list_table_ready_1 i c0 c1 w Q = Runs Try.prog Q ({ N := 22, wrap := [], pub := [3], muts := [] } : Cfg) Try.f50 (Try.f50.body.getD .skip) [.sc (.int .i64 i), .sc (.ptr c0), .sc (.ptr c1)] w := by kernel_rfl
  rw [e_] at h
  exact runs_fn h Try.func50 (by kernel_rfl) (fun args w => Try.call50 args w) (by kernel_rfl) (by kernel_rfl) rfl rfl

/-- (*shiftbell/list.table).ready$1$1 -/
def wp_list_table_ready_1_1 (x_0 : Int) (x_1 : Int) (c0 : Option Addr) (c1 : Option Addr) (c2 : Option Addr) (w : World) (Q : Value → World → Prop) : Prop :=
  ∀ b0 : Nat, w.heap.size ≤ b0 → ∃ t1 : Int, cell w c0 0 = some (.int .i64 t1) ∧
  ((x_1 = t1) →
   ∃ t2 : Option Addr, cell w c1 0 = some (.pointer t2) ∧
   ∃ t3 : Int, cell w c2 0 = some (.int .i64 t3) ∧
   ∀ w4, Ext w w4 →
   FnP Try.prog F_list_table_ended #[(.pointer t2), (.int .i64 x_0), (.int .i64 t3)] w4 fun v5 w5 =>
    Ext w4 w5 ∧
    ∃ t6 : Bool, v5 = (.bool t6) ∧
    ∀ w7, Ext w w7 →
    Q (.bool (!t6)) w7) ∧
  ((x_1 ≠ t1) →
   ∀ w2, Ext w w2 →
   Q (.bool false) w2)

theorem ok_list_table_ready_1_1 (x_0 : Int) (x_1 : Int) (c0 : Option Addr) (c1 : Option Addr) (c2 : Option Addr) (w : World) (Q : Value → World → Prop) (h : wp_list_table_ready_1_1 x_0 x_1 c0 c1 c2 w Q) : FnP Try.prog F_list_table_ready_1_1 #[(.agg #[(.int .i64 x_0), (.int .i64 x_1)]), (.pointer c0), (.pointer c1), (.pointer c2)] w Q := by
  have e_ : wp_list_table_ready_1_1 x_0 x_1 c0 c1 c2 w Q = Runs Try.prog Q ({ N := 18, wrap := [], pub := [], muts := [] } : Cfg) Try.f52 (Try.f52.body.getD .skip) [.agg [.int .i64 x_0, .int .i64 x_1], .sc (.ptr c0), .sc (.ptr c1), .sc (.ptr c2)] w := by kernel_rfl
  rw [e_] at h
  exact runs_fn h Try.func52 (by kernel_rfl) (fun args w => Try.call52 args w) (by kernel_rfl) (by kernel_rfl) rfl rfl

/-- (*shiftbell/list.table).ended -/
def wp_list_table_ended (t : Option Addr) (i : Int) (now : Int) (w : World) (Q : Value → World → Prop) : Prop :=
  t ≠ none ∧
  t ≠ none ∧
  ∃ t0 : Option Addr, ∃ tl1 : Nat, ∃ tc2 : Nat, cell w (pAdd t 3) 0 = some (.slice t0 tl1 tc2) ∧
  t0 ≠ none ∧
  (0 : Int) ≤ i ∧
  (i : Int) < (tl1 : Int) ∧
  ∃ t3 : Bool, cell w (pIdx t0 i 1) 0 = some (.bool t3) ∧
  ((t3 = true) →
   t ≠ none) ∧
  ((t3 = true) →
   t ≠ none) ∧
  ((t3 = true) →
   ∃ t4 : Option Addr, ∃ tl5 : Nat, ∃ tc6 : Nat, cell w (pAdd t 2) 0 = some (.slice t4 tl5 tc6) ∧
   t4 ≠ none ∧
   (0 : Int) ≤ i ∧
   (i : Int) < (tl5 : Int) ∧
   (pIdx t4 i 2) ≠ none ∧
   ∃ t7 : Int, cell w (pAdd (pIdx t4 i 2) 0) 0 = some (.int .i64 t7) ∧
   t ≠ none ∧
   t ≠ none ∧
   ∃ t8 : Option Addr, ∃ tl9 : Nat, ∃ tc10 : Nat, cell w (pAdd t 1) 0 = some (.slice t8 tl9 tc10) ∧
   t8 ≠ none ∧
   (0 : Int) ≤ i ∧
   (i : Int) < (tl9 : Int) ∧
   ∃ t11 : Int, cell w (pIdx t8 i 1) 0 = some (.int .i64 t11) ∧
   InR .i64 (t7 + t11) ∧
   ∀ w12, Ext w w12 →
   Q (.bool (decide ((t7 + t11) ≤ now))) w12) ∧
  ((t3 = false) →
   ∀ w4, Ext w w4 →
   Q (.bool false) w4)

theorem ok_list_table_ended (t : Option Addr) (i : Int) (now : Int) (w : World) (Q : Value → World → Prop) (h : wp_list_table_ended t i now w Q) : FnP Try.prog F_list_table_ended #[(.pointer t), (.int .i64 i), (.int .i64 now)] w Q := by
  have e_ : wp_list_table_ended t i now w Q = Runs Try.prog Q ({ N := 34, wrap := [], pub := [], muts := [] } : Cfg) Try.f53 (Try.f53.body.getD .skip) [.sc (.ptr t), .sc (.int .i64 i), .sc (.int .i64 now)] w := by kernel_rfl
  rw [e_] at h
  exact runs_fn h Try.func53 (by kernel_rfl) (fun args w => Try.call53 args w) (by kernel_rfl) (by kernel_rfl) rfl rfl

/-- (*shiftbell/list.table).next -/
def wp_list_table_next (t : Option Addr) (now : Int) (w : World) (Q : Value → World → Prop) : Prop :=
  t ≠ none ∧
  t ≠ none ∧
  ∃ t0 : Option Addr, ∃ tl1 : Nat, ∃ tc2 : Nat, cell w (pAdd t 4) 0 = some (.slice t0 tl1 tc2) ∧
  ∃ (I3 : Int → Int → World → Prop) (M3 : Int → Int → World → Nat), I3 (-1) 0 w ∧
  ∀ (least4 : Int) (k5 : Int) (w6 : World), I3 least4 k5 w6 →
   ((k5 < (tl1 : Int)) →
    t0 ≠ none ∧
    (0 : Int) ≤ k5 ∧
    (k5 : Int) < (tl1 : Int) ∧
    ∃ t7 : Int, cell w6 (pIdx t0 k5 1) 0 = some (.int .i64 t7) ∧
    (((now < t7) ∧ ((least4 < 0) ∨ (t7 < least4))) →
     InR .i64 (k5 + 1) ∧
     (I3 t7 (k5 + 1) w6 ∧ M3 t7 (k5 + 1) w6 < M3 least4 k5 w6)) ∧
    (((t7 ≤ now) ∨ ((0 ≤ least4) ∧ (least4 ≤ t7))) →
     InR .i64 (k5 + 1) ∧
     (I3 least4 (k5 + 1) w6 ∧ M3 least4 (k5 + 1) w6 < M3 least4 k5 w6))) ∧
   (((tl1 : Int) ≤ k5) →
    ∀ w7, Ext w6 w7 →
    Q (.int .i64 least4) w7)

theorem ok_list_table_next (t : Option Addr) (now : Int) (w : World) (Q : Value → World → Prop) (h : wp_list_table_next t now w Q) : FnP Try.prog F_list_table_next #[(.pointer t), (.int .i64 now)] w Q := by
  have e_ : wp_list_table_next t now w Q = Runs Try.prog Q ({ N := 32, wrap := [], pub := [], muts := [] } : Cfg) Try.f35 (Try.f35.body.getD .skip) [.sc (.ptr t), .sc (.int .i64 now)] w := by kernel_rfl
  rw [e_] at h
  exact runs_fn h Try.func35 (by kernel_rfl) (fun args w => Try.call35 args w) (by kernel_rfl) (by kernel_rfl) rfl rfl

/-- slices.IndexFunc[[]int64,int64] -/
def wp_slices_IndexFunc_int64_int64 (s : Option Addr) (sl : Nat) (sc : Nat) (f : Value) (w : World) (Q : Value → World → Prop) : Prop :=
  ∃ (I0 : Int → World → Prop) (M0 : Int → World → Nat), I0 0 w ∧
  ∀ (k1 : Int) (w2 : World), I0 k1 w2 →
   ((k1 < (sl : Int)) →
    s ≠ none ∧
    (0 : Int) ≤ k1 ∧
    (k1 : Int) < (sl : Int) ∧
    ∃ t3 : Int, cell w2 (pIdx s k1 1) 0 = some (.int .i64 t3) ∧
    ∀ w4, Ext w2 w4 →
    FnVP Try.prog f [(.int .i64 t3)] w4 fun v5 w5 =>
     Ext w4 w5 ∧
     ∃ t6 : Bool, v5 = (.bool t6) ∧
     ((t6 = true) →
      ∀ w7, Ext w2 w7 →
      Q (.int .i64 k1) w7) ∧
     ((t6 = false) →
      InR .i64 (k1 + 1) ∧
      (I0 (k1 + 1) w2 ∧ M0 (k1 + 1) w2 < M0 k1 w2))) ∧
   (((sl : Int) ≤ k1) →
    ∀ w3, Ext w2 w3 →
    Q (.int .i64 (-1)) w3)

theorem ok_slices_IndexFunc_int64_int64 (s : Option Addr) (sl : Nat) (sc : Nat) (f : Value) (w : World) (Q : Value → World → Prop) (h : wp_slices_IndexFunc_int64_int64 s sl sc f w Q) : FnP Try.prog F_slices_IndexFunc_int64_int64 #[(.slice s sl sc), f] w Q := by
  have e_ : wp_slices_IndexFunc_int64_int64 s sl sc f w Q = Runs Try.prog Q ({ N := 19, wrap := [], pub := [], muts := [] } : Cfg) Try.f32 (Try.f32.body.getD .skip) [.sc (.slc s sl sc), .sc (.val f)] w := by kernel_rfl
  rw [e_] at h
  exact runs_fn h Try.func32 (by kernel_rfl) (fun args w => Try.call32 args w) (by kernel_rfl) (by kernel_rfl) rfl rfl

/-- slices.IndexFunc[[]int,int] -/
def wp_slices_IndexFunc_int_int (s : Option Addr) (sl : Nat) (sc : Nat) (f : Value) (w : World) (Q : Value → World → Prop) : Prop :=
  ∃ (I0 : Int → World → Prop) (M0 : Int → World → Nat), I0 0 w ∧
  ∀ (k1 : Int) (w2 : World), I0 k1 w2 →
   ((k1 < (sl : Int)) →
    s ≠ none ∧
    (0 : Int) ≤ k1 ∧
    (k1 : Int) < (sl : Int) ∧
    ∃ t3 : Int, cell w2 (pIdx s k1 1) 0 = some (.int .i64 t3) ∧
    ∀ w4, Ext w2 w4 →
    FnVP Try.prog f [(.int .i64 t3)] w4 fun v5 w5 =>
     Ext w4 w5 ∧
     ∃ t6 : Bool, v5 = (.bool t6) ∧
     ((t6 = true) →
      ∀ w7, Ext w2 w7 →
      Q (.int .i64 k1) w7) ∧
     ((t6 = false) →
      InR .i64 (k1 + 1) ∧
      (I0 (k1 + 1) w2 ∧ M0 (k1 + 1) w2 < M0 k1 w2))) ∧
   (((sl : Int) ≤ k1) →
    ∀ w3, Ext w2 w3 →
    Q (.int .i64 (-1)) w3)

theorem ok_slices_IndexFunc_int_int (s : Option Addr) (sl : Nat) (sc : Nat) (f : Value) (w : World) (Q : Value → World → Prop) (h : wp_slices_IndexFunc_int_int s sl sc f w Q) : FnP Try.prog F_slices_IndexFunc_int_int #[(.slice s sl sc), f] w Q := by
  have e_ : wp_slices_IndexFunc_int_int s sl sc f w Q = Runs Try.prog Q ({ N := 19, wrap := [], pub := [], muts := [] } : Cfg) Try.f49 (Try.f49.body.getD .skip) [.sc (.slc s sl sc), .sc (.val f)] w := by kernel_rfl
  rw [e_] at h
  exact runs_fn h Try.func49 (by kernel_rfl) (fun args w => Try.call49 args w) (by kernel_rfl) (by kernel_rfl) rfl rfl

/-- slices.ContainsFunc[[]shiftbell/api.Edge,shiftbell/api.Edge] -/
def wp_slices_ContainsFunc_api_Edge_api_Edge (s : Option Addr) (sl : Nat) (sc : Nat) (f : Value) (w : World) (Q : Value → World → Prop) : Prop :=
  ∀ w0, Ext w w0 →
  FnP Try.prog F_slices_IndexFunc_api_Edge_api_Edge #[(.slice s sl sc), f] w0 fun v1 w1 =>
   Ext w0 w1 ∧
   ∃ t2 : Int, v1 = (.int .i64 t2) ∧
   ∀ w3, Ext w w3 →
   Q (.bool (decide (0 ≤ t2))) w3

theorem ok_slices_ContainsFunc_api_Edge_api_Edge (s : Option Addr) (sl : Nat) (sc : Nat) (f : Value) (w : World) (Q : Value → World → Prop) (h : wp_slices_ContainsFunc_api_Edge_api_Edge s sl sc f w Q) : FnP Try.prog F_slices_ContainsFunc_api_Edge_api_Edge #[(.slice s sl sc), f] w Q := by
  have e_ : wp_slices_ContainsFunc_api_Edge_api_Edge s sl sc f w Q = Runs Try.prog Q ({ N := 9, wrap := [], pub := [], muts := [] } : Cfg) Try.f51 (Try.f51.body.getD .skip) [.sc (.slc s sl sc), .sc (.val f)] w := by kernel_rfl
  rw [e_] at h
  exact runs_fn h Try.func51 (by kernel_rfl) (fun args w => Try.call51 args w) (by kernel_rfl) (by kernel_rfl) rfl rfl

/-- slices.IndexFunc[[]shiftbell/api.Edge,shiftbell/api.Edge] -/
def wp_slices_IndexFunc_api_Edge_api_Edge (s : Option Addr) (sl : Nat) (sc : Nat) (f : Value) (w : World) (Q : Value → World → Prop) : Prop :=
  ∃ (I0 : Int → World → Prop) (M0 : Int → World → Nat), I0 0 w ∧
  ∀ (k1 : Int) (w2 : World), I0 k1 w2 →
   ((k1 < (sl : Int)) →
    s ≠ none ∧
    (0 : Int) ≤ k1 ∧
    (k1 : Int) < (sl : Int) ∧
    (pIdx s k1 2) ≠ none ∧
    ∃ t3 : Int, cell w2 (pIdx s k1 2) 0 = some (.int .i64 t3) ∧
    ∃ t4 : Int, cell w2 (pIdx s k1 2) 1 = some (.int .i64 t4) ∧
    ∀ w5, Ext w2 w5 →
    FnVP Try.prog f [(.agg #[(.int .i64 t3), (.int .i64 t4)])] w5 fun v6 w6 =>
     Ext w5 w6 ∧
     ∃ t7 : Bool, v6 = (.bool t7) ∧
     ((t7 = true) →
      ∀ w8, Ext w2 w8 →
      Q (.int .i64 k1) w8) ∧
     ((t7 = false) →
      InR .i64 (k1 + 1) ∧
      (I0 (k1 + 1) w2 ∧ M0 (k1 + 1) w2 < M0 k1 w2))) ∧
   (((sl : Int) ≤ k1) →
    ∀ w3, Ext w2 w3 →
    Q (.int .i64 (-1)) w3)

theorem ok_slices_IndexFunc_api_Edge_api_Edge (s : Option Addr) (sl : Nat) (sc : Nat) (f : Value) (w : World) (Q : Value → World → Prop) (h : wp_slices_IndexFunc_api_Edge_api_Edge s sl sc f w Q) : FnP Try.prog F_slices_IndexFunc_api_Edge_api_Edge #[(.slice s sl sc), f] w Q := by
  have e_ : wp_slices_IndexFunc_api_Edge_api_Edge s sl sc f w Q = Runs Try.prog Q ({ N := 19, wrap := [], pub := [], muts := [] } : Cfg) Try.f59 (Try.f59.body.getD .skip) [.sc (.slc s sl sc), .sc (.val f)] w := by kernel_rfl
  rw [e_] at h
  exact runs_fn h Try.func59 (by kernel_rfl) (fun args w => Try.call59 args w) (by kernel_rfl) (by kernel_rfl) rfl rfl

/-- shiftbell/graph.Check -/
def wp_graph_Check (n : Int) (l : Option Addr) (ll : Nat) (lc : Nat) (w : World) (Q : Value → World → Prop) : Prop :=
  (((n < 0) ∨ (60 < n)) →
   ∀ w0, Ext w w0 →
   Q (.int .i64 1) w0) ∧
  (((0 ≤ n) ∧ (n ≤ 60)) →
   ((400 < (ll : Int)) →
    ∀ w0, Ext w w0 →
    Q (.int .i64 2) w0) ∧
   (((ll : Int) ≤ 400) →
    ∃ (I0 : Int → World → Prop) (M0 : Int → World → Nat), I0 0 w ∧
    ∀ (k1 : Int) (w2 : World), I0 k1 w2 →
     ((k1 < (ll : Int)) →
      l ≠ none ∧
      (0 : Int) ≤ k1 ∧
      (k1 : Int) < (ll : Int) ∧
      (pIdx l k1 2) ≠ none ∧
      ∃ t3 : Int, cell w2 (pIdx l k1 2) 0 = some (.int .i64 t3) ∧
      ∃ t4 : Int, cell w2 (pIdx l k1 2) 1 = some (.int .i64 t4) ∧
      ∀ b5 : Nat, w2.heap.size ≤ b5 → (((((t3 < 0) ∨ (n ≤ t3)) ∨ (t4 < 0)) ∨ (n ≤ t4)) →
       ∀ w6, Ext w2 w6 →
       Q (.int .i64 4) w6) ∧
      (((((0 ≤ t3) ∧ (t3 < n)) ∧ (0 ≤ t4)) ∧ (t4 < n)) →
       InR .i64 (k1 + 1) ∧
       (I0 (k1 + 1) w2 ∧ M0 (k1 + 1) w2 < M0 k1 w2))) ∧
     (((ll : Int) ≤ k1) →
      ∀ w3, Ext w2 w3 →
      Q (.int .i64 0) w3)))

theorem ok_graph_Check (n : Int) (l : Option Addr) (ll : Nat) (lc : Nat) (w : World) (Q : Value → World → Prop) (h : wp_graph_Check n l ll lc w Q) : FnP Try.prog F_graph_Check #[(.int .i64 n), (.slice l ll lc)] w Q := by
  have e_ : wp_graph_Check n l ll lc w Q = Runs Try.prog Q ({ N := 45, wrap := [], pub := [], muts := [] } : Cfg) Try.f54 (Try.f54.body.getD .skip) [.sc (.int .i64 n), .sc (.slc l ll lc)] w := by kernel_rfl
  rw [e_] at h
  exact runs_fn h Try.func54 (by kernel_rfl) (fun args w => Try.call54 args w) (by kernel_rfl) (by kernel_rfl) rfl rfl

/-- shiftbell/graph.Order -/
def wp_graph_Order (n : Int) (l : Option Addr) (ll : Nat) (lc : Nat) (w : World) (Q : Value → World → Prop) : Prop :=
  ∀ w0, Ext w w0 →
  FnP Try.prog F_graph_Check #[(.int .i64 n), (.slice l ll lc)] w0 fun v1 w1 =>
   Ext w0 w1 ∧
   ∃ t2 : Int, v1 = (.int .i64 t2) ∧
   ((t2 ≠ 0) →
    ∀ w3, Ext w w3 →
    Q (.tuple #[(.slice none 0 0), (.int .i64 t2)]) w3) ∧
   ((t2 = 0) →
    ∀ w3, Ext w w3 →
    Run Try.prog (.makeSlice 93 (.int .i64 n) (.int .i64 n)) w3 fun v4 w4 =>
     Ext w3 w4 ∧
     ∃ t5 : Option Addr, ∃ tl6 : Nat, ∃ tc7 : Nat, v4 = (.slice t5 tl6 tc7) ∧
     ∃ (I8 : Int → World → Prop) (M8 : Int → World → Nat), I8 0 w4 ∧
     ∀ (k9 : Int) (w10 : World), I8 k9 w10 →
      ((k9 < (ll : Int)) →
       l ≠ none ∧
       (0 : Int) ≤ k9 ∧
       (k9 : Int) < (ll : Int) ∧
       (pIdx l k9 2) ≠ none ∧
       ∃ t11 : Int, cell w10 (pIdx l k9 2) 0 = some (.int .i64 t11) ∧
       ∃ t12 : Int, cell w10 (pIdx l k9 2) 1 = some (.int .i64 t12) ∧
       ∀ b13 : Nat, w10.heap.size ≤ b13 → t5 ≠ none ∧
       (0 : Int) ≤ t12 ∧
       (t12 : Int) < (tl6 : Int) ∧
       ∃ t14 : Int, cell w10 (pIdx t5 t12 1) 0 = some (.int .u64 t14) ∧
       0 ≤ (t11 : Int) ∧
       t5 ≠ none ∧
       (0 : Int) ≤ t12 ∧
       (t12 : Int) < (tl6 : Int) ∧
       Store w10 (pIdx t5 t12 1) [(.int .u64 (iBit .or .u64 t14 (iBit .shl .u64 1 t11)))] [b13] fun w15 =>
        InR .i64 (k9 + 1) ∧
        (I8 (k9 + 1) w15 ∧ M8 (k9 + 1) w15 < M8 k9 w10)) ∧
      (((ll : Int) ≤ k9) →
       0 ≤ (n : Int) ∧
       InR .u64 ((iBit .shl .u64 1 n) - 1) ∧
       ∃ (I11 : Option Addr → Nat → Nat → Int → World → Prop) (M11 : Option Addr → Nat → Nat → Int → World → Nat), I11 none 0 0 ((iBit .shl .u64 1 n) - 1) w10 ∧
       ∀ (out12 : Option Addr) (outl12 : Nat) (outc12 : Nat) (left13 : Int) (w14 : World), I11 out12 outl12 outc12 left13 w14 →
        ((left13 ≠ 0) →
         ∃ (I15 : Int → World → Prop) (M15 : Int → World → Nat), I15 0 w14 ∧
         ∀ (i16 : Int) (w17 : World), I15 i16 w17 →
          ((i16 < n) →
           0 ≤ (i16 : Int)) ∧
          ((i16 < n) →
           (((iBit .and .u64 (iBit .shr .u64 left13 i16) 1) ≠ 0) →
            t5 ≠ none)) ∧
          ((i16 < n) →
           (((iBit .and .u64 (iBit .shr .u64 left13 i16) 1) ≠ 0) →
            (0 : Int) ≤ i16)) ∧
          ((i16 < n) →
           (((iBit .and .u64 (iBit .shr .u64 left13 i16) 1) ≠ 0) →
            (i16 : Int) < (tl6 : Int))) ∧
          ((i16 < n) →
           (((iBit .and .u64 (iBit .shr .u64 left13 i16) 1) = 0) →
            InR .i64 (i16 + 1) ∧
            (I15 (i16 + 1) w17 ∧ M15 (i16 + 1) w17 < M15 i16 w17)) ∧
           (((iBit .and .u64 (iBit .shr .u64 left13 i16) 1) ≠ 0) →
            ∃ t18 : Int, cell w17 (pIdx t5 i16 1) 0 = some (.int .u64 t18) ∧
            (((iBit .and .u64 t18 left13) ≠ 0) →
             InR .i64 (i16 + 1) ∧
             (I15 (i16 + 1) w17 ∧ M15 (i16 + 1) w17 < M15 i16 w17)) ∧
            (((iBit .and .u64 t18 left13) = 0) →
             ((i16 = n) →
              ∀ w19, Ext w17 w19 →
              Q (.tuple #[(.slice none 0 0), (.int .i64 8)]) w19) ∧
             ((i16 ≠ n) →
              ∀ w19, Ext w17 w19 →
              Run Try.prog (.buildSlice 24 1 [(0, (.int .i64 i16))]) w19 fun v20 w20 =>
               Ext w19 w20 ∧
               ∃ t21 : Option Addr, ∃ tl22 : Nat, ∃ tc23 : Nat, v20 = (.slice t21 tl22 tc23) ∧
               ∀ w24, Ext w20 w24 →
               Run Try.prog (.append #[24, 24] 24 [(.slice out12 outl12 outc12), (.slice t21 tl22 tc23)]) w24 fun v25 w25 =>
                ∃ t26 : Option Addr, ∃ tl27 : Nat, ∃ tc28 : Nat, v25 = (.slice t26 tl27 tc28) ∧
                0 ≤ (i16 : Int) ∧
                (I11 t26 tl27 tc28 (iBit .andNot .u64 left13 (iBit .shl .u64 1 i16)) w25 ∧ M11 t26 tl27 tc28 (iBit .andNot .u64 left13 (iBit .shl .u64 1 i16)) w25 < M11 out12 outl12 outc12 left13 w14))))) ∧
          ((n ≤ i16) →
           ((i16 = n) →
            ∀ w18, Ext w17 w18 →
            Q (.tuple #[(.slice none 0 0), (.int .i64 8)]) w18) ∧
           ((i16 ≠ n) →
            ∀ w18, Ext w17 w18 →
            Run Try.prog (.buildSlice 24 1 [(0, (.int .i64 i16))]) w18 fun v19 w19 =>
             Ext w18 w19 ∧
             ∃ t20 : Option Addr, ∃ tl21 : Nat, ∃ tc22 : Nat, v19 = (.slice t20 tl21 tc22) ∧
             ∀ w23, Ext w19 w23 →
             Run Try.prog (.append #[24, 24] 24 [(.slice out12 outl12 outc12), (.slice t20 tl21 tc22)]) w23 fun v24 w24 =>
              ∃ t25 : Option Addr, ∃ tl26 : Nat, ∃ tc27 : Nat, v24 = (.slice t25 tl26 tc27) ∧
              0 ≤ (i16 : Int) ∧
              (I11 t25 tl26 tc27 (iBit .andNot .u64 left13 (iBit .shl .u64 1 i16)) w24 ∧ M11 t25 tl26 tc27 (iBit .andNot .u64 left13 (iBit .shl .u64 1 i16)) w24 < M11 out12 outl12 outc12 left13 w14)))) ∧
        ((left13 = 0) →
         ∀ w15, Ext w14 w15 →
         Q (.tuple #[(.slice out12 outl12 outc12), (.int .i64 0)]) w15)))

theorem ok_graph_Order (n : Int) (l : Option Addr) (ll : Nat) (lc : Nat) (w : World) (Q : Value → World → Prop) (h : wp_graph_Order n l ll lc w Q) : FnP Try.prog F_graph_Order #[(.int .i64 n), (.slice l ll lc)] w Q := by
  have e_ : wp_graph_Order n l ll lc w Q = Runs Try.prog Q ({ N := 76, wrap := [], pub := [], muts := [] } : Cfg) Try.f55 (Try.f55.body.getD .skip) [.sc (.int .i64 n), .sc (.slc l ll lc)] w := by kernel_rfl
  rw [e_] at h
  exact runs_fn h Try.func55 (by kernel_rfl) (fun args w => Try.call55 args w) (by kernel_rfl) (by kernel_rfl) rfl rfl

/-- shiftbell/path.check -/
def wp_path_check (n : Int) (l : Option Addr) (ll : Nat) (lc : Nat) (d : Option Addr) (dl : Nat) (dc : Nat) (w : World) (Q : Value → World → Prop) : Prop :=
  ∀ w0, Ext w w0 →
  FnP Try.prog F_graph_Check #[(.int .i64 n), (.slice l ll lc)] w0 fun v1 w1 =>
   Ext w0 w1 ∧
   ∃ t2 : Int, v1 = (.int .i64 t2) ∧
   ((t2 ≠ 0) →
    ∀ w3, Ext w w3 →
    Q (.tuple #[(.slice none 0 0), (.int .i64 t2)]) w3) ∧
   ((t2 = 0) →
    (((dl : Int) ≠ n) →
     ∀ w3, Ext w w3 →
     Q (.tuple #[(.slice none 0 0), (.int .i64 1)]) w3) ∧
    (((dl : Int) = n) →
     ∃ (I3 : Int → World → Prop) (M3 : Int → World → Nat), I3 0 w ∧
     ∀ (k4 : Int) (w5 : World), I3 k4 w5 →
      ((k4 < (dl : Int)) →
       d ≠ none ∧
       (0 : Int) ≤ k4 ∧
       (k4 : Int) < (dl : Int) ∧
       ∃ t6 : Int, cell w5 (pIdx d k4 1) 0 = some (.int .i64 t6) ∧
       (((t6 < 0) ∨ (1000000000 < t6)) →
        ∀ w7, Ext w5 w7 →
        Q (.tuple #[(.slice none 0 0), (.int .i64 1)]) w7) ∧
       (((0 ≤ t6) ∧ (t6 ≤ 1000000000)) →
        InR .i64 (k4 + 1) ∧
        (I3 (k4 + 1) w5 ∧ M3 (k4 + 1) w5 < M3 k4 w5))) ∧
      (((dl : Int) ≤ k4) →
       ∀ w6, Ext w5 w6 →
       FnP Try.prog F_graph_Order #[(.int .i64 n), (.slice l ll lc)] w6 fun v7 w7 =>
        Ext w6 w7 ∧
        ∃ t8 : Option Addr, ∃ tl9 : Nat, ∃ tc10 : Nat, ∃ t11 : Int, v7 = (.tuple #[(.slice t8 tl9 tc10), (.int .i64 t11)]) ∧
        ∀ w12, Ext w7 w12 →
        Q (.tuple #[(.slice t8 tl9 tc10), (.int .i64 t11)]) w12)))

theorem ok_path_check (n : Int) (l : Option Addr) (ll : Nat) (lc : Nat) (d : Option Addr) (dl : Nat) (dc : Nat) (w : World) (Q : Value → World → Prop) (h : wp_path_check n l ll lc d dl dc w Q) : FnP Try.prog F_path_check #[(.int .i64 n), (.slice l ll lc), (.slice d dl dc)] w Q := by
  have e_ : wp_path_check n l ll lc d dl dc w Q = Runs Try.prog Q ({ N := 39, wrap := [], pub := [], muts := [] } : Cfg) Try.f36 (Try.f36.body.getD .skip) [.sc (.int .i64 n), .sc (.slc l ll lc), .sc (.slc d dl dc)] w := by kernel_rfl
  rw [e_] at h
  exact runs_fn h Try.func36 (by kernel_rfl) (fun args w => Try.call36 args w) (by kernel_rfl) (by kernel_rfl) rfl rfl

/-- shiftbell/path.Times -/
def wp_path_Times (n : Int) (l : Option Addr) (ll : Nat) (lc : Nat) (d : Option Addr) (dl : Nat) (dc : Nat) (w : World) (Q : Value → World → Prop) : Prop :=
  ∀ b0 : Nat, w.heap.size ≤ b0 → ∀ w1, ExtB [] [b0] w w1 →
  FnP Try.prog F_path_check #[(.int .i64 n), (.slice l ll lc), (.slice d dl dc)] w1 fun v2 w2 =>
   Ext w1 w2 ∧
   ∃ t3 : Option Addr, ∃ tl4 : Nat, ∃ tc5 : Nat, ∃ t6 : Int, v2 = (.tuple #[(.slice t3 tl4 tc5), (.int .i64 t6)]) ∧
   ((t6 ≠ 0) →
    ∀ w7, ExtB [b0] [] w2 w7 →
    Q (.tuple #[(.agg #[(.slice none 0 0), (.slice none 0 0), (.int .i64 0)]), (.int .i64 t6)]) w7) ∧
   ((t6 = 0) →
    ∃ (J7 : Option Addr → World → Prop), ((∀ w10, ExtB [] [b0] w2 w10 →
     Run Try.prog (.makeSlice 22 (.int .i64 n) (.int .i64 n)) w10 fun v11 w11 =>
      Ext w10 w11 ∧
      ∃ t12 : Option Addr, ∃ tl13 : Nat, ∃ tc14 : Nat, v11 = (.slice t12 tl13 tc14) ∧
      (∀ w15, ExtB [] [b0] w11 w15 →
      Run Try.prog (.makeSlice 22 (.int .i64 n) (.int .i64 n)) w15 fun v16 w16 =>
       Ext w15 w16 ∧
       ∃ t17 : Option Addr, ∃ tl18 : Nat, ∃ tc19 : Nat, v16 = (.slice t17 tl18 tc19) ∧
       ∀ w20, ExtB [] [b0] w16 w20 →
       New w20 41 [(.slice none 0 0), (.slice none 0 0), (.int .i64 0)] fun p21 w21 =>
        Store w21 p21 [(.slice t12 tl13 tc14), (.slice t17 tl18 tc19), (.int .i64 0)] [b0] fun w22 =>
         J7 p21 w22) ∧
      ∀ w15, ExtB [] [b0] w11 w15 →
      New w15 41 [(.slice none 0 0), (.slice none 0 0), (.int .i64 0)] fun p16 w16 =>
       ∀ w17, ExtB [] [b0] w16 w17 →
       Run Try.prog (.makeSlice 22 (.int .i64 n) (.int .i64 n)) w17 fun v18 w18 =>
        Ext w17 w18 ∧
        ∃ t19 : Option Addr, ∃ tl20 : Nat, ∃ tc21 : Nat, v18 = (.slice t19 tl20 tc21) ∧
        Store w18 p16 [(.slice t12 tl13 tc14), (.slice t19 tl20 tc21), (.int .i64 0)] [b0] fun w22 =>
         J7 p16 w22) ∧
     (∀ w10, ExtB [] [b0] w2 w10 →
     Run Try.prog (.makeSlice 22 (.int .i64 n) (.int .i64 n)) w10 fun v11 w11 =>
      Ext w10 w11 ∧
      ∃ t12 : Option Addr, ∃ tl13 : Nat, ∃ tc14 : Nat, v11 = (.slice t12 tl13 tc14) ∧
      (∀ w15, ExtB [] [b0] w11 w15 →
      Run Try.prog (.makeSlice 22 (.int .i64 n) (.int .i64 n)) w15 fun v16 w16 =>
       Ext w15 w16 ∧
       ∃ t17 : Option Addr, ∃ tl18 : Nat, ∃ tc19 : Nat, v16 = (.slice t17 tl18 tc19) ∧
       ∀ w20, ExtB [] [b0] w16 w20 →
       New w20 41 [(.slice none 0 0), (.slice none 0 0), (.int .i64 0)] fun p21 w21 =>
        Store w21 p21 [(.slice t17 tl18 tc19), (.slice t12 tl13 tc14), (.int .i64 0)] [b0] fun w22 =>
         J7 p21 w22) ∧
      ∀ w15, ExtB [] [b0] w11 w15 →
      New w15 41 [(.slice none 0 0), (.slice none 0 0), (.int .i64 0)] fun p16 w16 =>
       ∀ w17, ExtB [] [b0] w16 w17 →
       Run Try.prog (.makeSlice 22 (.int .i64 n) (.int .i64 n)) w17 fun v18 w18 =>
        Ext w17 w18 ∧
        ∃ t19 : Option Addr, ∃ tl20 : Nat, ∃ tc21 : Nat, v18 = (.slice t19 tl20 tc21) ∧
        Store w18 p16 [(.slice t19 tl20 tc21), (.slice t12 tl13 tc14), (.int .i64 0)] [b0] fun w22 =>
         J7 p16 w22) ∧
     ∀ w10, ExtB [] [b0] w2 w10 →
     New w10 41 [(.slice none 0 0), (.slice none 0 0), (.int .i64 0)] fun p11 w11 =>
      (∀ w12, ExtB [] [b0] w11 w12 →
      Run Try.prog (.makeSlice 22 (.int .i64 n) (.int .i64 n)) w12 fun v13 w13 =>
       Ext w12 w13 ∧
       ∃ t14 : Option Addr, ∃ tl15 : Nat, ∃ tc16 : Nat, v13 = (.slice t14 tl15 tc16) ∧
       ∀ w17, ExtB [] [b0] w13 w17 →
       Run Try.prog (.makeSlice 22 (.int .i64 n) (.int .i64 n)) w17 fun v18 w18 =>
        Ext w17 w18 ∧
        ∃ t19 : Option Addr, ∃ tl20 : Nat, ∃ tc21 : Nat, v18 = (.slice t19 tl20 tc21) ∧
        Store w18 p11 [(.slice t14 tl15 tc16), (.slice t19 tl20 tc21), (.int .i64 0)] [b0] fun w22 =>
         J7 p11 w22) ∧
      ∀ w12, ExtB [] [b0] w11 w12 →
      Run Try.prog (.makeSlice 22 (.int .i64 n) (.int .i64 n)) w12 fun v13 w13 =>
       Ext w12 w13 ∧
       ∃ t14 : Option Addr, ∃ tl15 : Nat, ∃ tc16 : Nat, v13 = (.slice t14 tl15 tc16) ∧
       ∀ w17, ExtB [] [b0] w13 w17 →
       Run Try.prog (.makeSlice 22 (.int .i64 n) (.int .i64 n)) w17 fun v18 w18 =>
        Ext w17 w18 ∧
        ∃ t19 : Option Addr, ∃ tl20 : Nat, ∃ tc21 : Nat, v18 = (.slice t19 tl20 tc21) ∧
        Store w18 p11 [(.slice t19 tl20 tc21), (.slice t14 tl15 tc16), (.int .i64 0)] [b0] fun w22 =>
         J7 p11 w22) ∧
    ∀ (p8 : Option Addr) (w9 : World), J7 p8 w9 →
     ∃ (I10 : Int → World → Prop) (M10 : Int → World → Nat), I10 0 w9 ∧
     ∀ (k11 : Int) (w12 : World), I10 k11 w12 →
      ((k11 < (tl4 : Int)) →
       t3 ≠ none ∧
       (0 : Int) ≤ k11 ∧
       (k11 : Int) < (tl4 : Int) ∧
       ∃ t13 : Int, cell w12 (pIdx t3 k11 1) 0 = some (.int .i64 t13) ∧
       ∃ (I14 : Int → World → Prop) (M14 : Int → World → Nat), I14 0 w12 ∧
       ∀ (k15 : Int) (w16 : World), I14 k15 w16 →
        ((k15 < (ll : Int)) →
         l ≠ none ∧
         (0 : Int) ≤ k15 ∧
         (k15 : Int) < (ll : Int) ∧
         (pIdx l k15 2) ≠ none ∧
         ∃ t17 : Int, cell w16 (pIdx l k15 2) 0 = some (.int .i64 t17) ∧
         ∃ t18 : Int, cell w16 (pIdx l k15 2) 1 = some (.int .i64 t18) ∧
         ∀ b19 : Nat, w16.heap.size ≤ b19 → ((t18 = t13) →
          p8 ≠ none ∧
          ∃ t20 : Option Addr, ∃ tl21 : Nat, ∃ tc22 : Nat, cell w16 (pAdd p8 0) 0 = some (.slice t20 tl21 tc22) ∧
          p8 ≠ none ∧
          ∃ t23 : Option Addr, ∃ tl24 : Nat, ∃ tc25 : Nat, cell w16 (pAdd p8 0) 0 = some (.slice t23 tl24 tc25) ∧
          t23 ≠ none ∧
          (0 : Int) ≤ t13 ∧
          (t13 : Int) < (tl24 : Int) ∧
          ∃ t26 : Int, cell w16 (pIdx t23 t13 1) 0 = some (.int .i64 t26) ∧
          p8 ≠ none ∧
          ∃ t27 : Option Addr, ∃ tl28 : Nat, ∃ tc29 : Nat, cell w16 (pAdd p8 0) 0 = some (.slice t27 tl28 tc29) ∧
          t27 ≠ none ∧
          (0 : Int) ≤ t17 ∧
          (t17 : Int) < (tl28 : Int) ∧
          ∃ t30 : Int, cell w16 (pIdx t27 t17 1) 0 = some (.int .i64 t30) ∧
          d ≠ none ∧
          (0 : Int) ≤ t17 ∧
          (t17 : Int) < (dl : Int) ∧
          ∃ t31 : Int, cell w16 (pIdx d t17 1) 0 = some (.int .i64 t31) ∧
          InR .i64 (t30 + t31) ∧
          t20 ≠ none ∧
          (0 : Int) ≤ t13 ∧
          (t13 : Int) < (tl21 : Int) ∧
          Store w16 (pIdx t20 t13 1) [(.int .i64 (max t26 (t30 + t31)))] [b0, b19] fun w32 =>
           InR .i64 (k15 + 1) ∧
           (I14 (k15 + 1) w32 ∧ M14 (k15 + 1) w32 < M14 k15 w16)) ∧
         ((t18 ≠ t13) →
          InR .i64 (k15 + 1) ∧
          (I14 (k15 + 1) w16 ∧ M14 (k15 + 1) w16 < M14 k15 w16))) ∧
        (((ll : Int) ≤ k15) →
         p8 ≠ none ∧
         ∃ t17 : Int, cell w16 (pAdd p8 2) 0 = some (.int .i64 t17) ∧
         p8 ≠ none ∧
         ∃ t18 : Option Addr, ∃ tl19 : Nat, ∃ tc20 : Nat, cell w16 (pAdd p8 0) 0 = some (.slice t18 tl19 tc20) ∧
         t18 ≠ none ∧
         (0 : Int) ≤ t13 ∧
         (t13 : Int) < (tl19 : Int) ∧
         ∃ t21 : Int, cell w16 (pIdx t18 t13 1) 0 = some (.int .i64 t21) ∧
         d ≠ none ∧
         (0 : Int) ≤ t13 ∧
         (t13 : Int) < (dl : Int) ∧
         ∃ t22 : Int, cell w16 (pIdx d t13 1) 0 = some (.int .i64 t22) ∧
         InR .i64 (t21 + t22) ∧
         p8 ≠ none ∧
         Store w16 (pAdd p8 2) [(.int .i64 (max t17 (t21 + t22)))] [b0] fun w23 =>
          InR .i64 (k11 + 1) ∧
          (I10 (k11 + 1) w23 ∧ M10 (k11 + 1) w23 < M10 k11 w12))) ∧
      (((tl4 : Int) ≤ k11) →
       ∃ (I13 : Int → World → Prop) (M13 : Int → World → Nat), I13 0 w12 ∧
       ∀ (k14 : Int) (w15 : World), I13 k14 w15 →
        ((k14 < (tl4 : Int)) →
         InR .i64 ((tl4 : Int) - 1) ∧
         InR .i64 (((tl4 : Int) - 1) - k14) ∧
         t3 ≠ none ∧
         (0 : Int) ≤ (((tl4 : Int) - 1) - k14) ∧
         ((((tl4 : Int) - 1) - k14) : Int) < (tl4 : Int) ∧
         ∃ t16 : Int, cell w15 (pIdx t3 (((tl4 : Int) - 1) - k14) 1) 0 = some (.int .i64 t16) ∧
         p8 ≠ none ∧
         ∃ t17 : Int, cell w15 (pAdd p8 2) 0 = some (.int .i64 t17) ∧
         ∃ (I18 : Int → Int → World → Prop) (M18 : Int → Int → World → Nat), I18 t17 0 w15 ∧
         ∀ (end19 : Int) (k20 : Int) (w21 : World), I18 end19 k20 w21 →
          ((k20 < (ll : Int)) →
           l ≠ none ∧
           (0 : Int) ≤ k20 ∧
           (k20 : Int) < (ll : Int) ∧
           (pIdx l k20 2) ≠ none ∧
           ∃ t22 : Int, cell w21 (pIdx l k20 2) 0 = some (.int .i64 t22) ∧
           ∃ t23 : Int, cell w21 (pIdx l k20 2) 1 = some (.int .i64 t23) ∧
           ∀ b24 : Nat, w21.heap.size ≤ b24 → ((t22 = t16) →
            p8 ≠ none ∧
            ∃ t25 : Option Addr, ∃ tl26 : Nat, ∃ tc27 : Nat, cell w21 (pAdd p8 1) 0 = some (.slice t25 tl26 tc27) ∧
            t25 ≠ none ∧
            (0 : Int) ≤ t23 ∧
            (t23 : Int) < (tl26 : Int) ∧
            ∃ t28 : Int, cell w21 (pIdx t25 t23 1) 0 = some (.int .i64 t28) ∧
            InR .i64 (k20 + 1) ∧
            (I18 (min end19 t28) (k20 + 1) w21 ∧ M18 (min end19 t28) (k20 + 1) w21 < M18 end19 k20 w21)) ∧
           ((t22 ≠ t16) →
            InR .i64 (k20 + 1) ∧
            (I18 end19 (k20 + 1) w21 ∧ M18 end19 (k20 + 1) w21 < M18 end19 k20 w21))) ∧
          (((ll : Int) ≤ k20) →
           p8 ≠ none ∧
           ∃ t22 : Option Addr, ∃ tl23 : Nat, ∃ tc24 : Nat, cell w21 (pAdd p8 1) 0 = some (.slice t22 tl23 tc24) ∧
           d ≠ none ∧
           (0 : Int) ≤ t16 ∧
           (t16 : Int) < (dl : Int) ∧
           ∃ t25 : Int, cell w21 (pIdx d t16 1) 0 = some (.int .i64 t25) ∧
           InR .i64 (end19 - t25) ∧
           t22 ≠ none ∧
           (0 : Int) ≤ t16 ∧
           (t16 : Int) < (tl23 : Int) ∧
           Store w21 (pIdx t22 t16 1) [(.int .i64 (end19 - t25))] [b0] fun w26 =>
            InR .i64 (k14 + 1) ∧
            (I13 (k14 + 1) w26 ∧ M13 (k14 + 1) w26 < M13 k14 w15))) ∧
        (((tl4 : Int) ≤ k14) →
         p8 ≠ none ∧
         ∃ t16 : Option Addr, ∃ tl17 : Nat, ∃ tc18 : Nat, cell w15 p8 0 = some (.slice t16 tl17 tc18) ∧
         ∃ t19 : Option Addr, ∃ tl20 : Nat, ∃ tc21 : Nat, cell w15 p8 1 = some (.slice t19 tl20 tc21) ∧
         ∃ t22 : Int, cell w15 p8 2 = some (.int .i64 t22) ∧
         ∀ w23, ExtB [b0] [] w15 w23 →
         Q (.tuple #[(.agg #[(.slice t16 tl17 tc18), (.slice t19 tl20 tc21), (.int .i64 t22)]), (.int .i64 0)]) w23)))

theorem ok_path_Times (n : Int) (l : Option Addr) (ll : Nat) (lc : Nat) (d : Option Addr) (dl : Nat) (dc : Nat) (w : World) (Q : Value → World → Prop) (h : wp_path_Times n l ll lc d dl dc w Q) : FnP Try.prog F_path_Times #[(.int .i64 n), (.slice l ll lc), (.slice d dl dc)] w Q := by
  have e_ : wp_path_Times n l ll lc d dl dc w Q = Runs Try.prog Q ({ N := 136, wrap := [], pub := [10], muts := [] } : Cfg) Try.f20 (Try.f20.body.getD .skip) [.sc (.int .i64 n), .sc (.slc l ll lc), .sc (.slc d dl dc)] w := by kernel_rfl
  rw [e_] at h
  exact runs_fn h Try.func20 (by kernel_rfl) (fun args w => Try.call20 args w) (by kernel_rfl) (by kernel_rfl) rfl rfl

/-- shiftbell/shiftbellkeep.ListGraph -/
def wp_shiftbellkeep_ListGraph (m : Int) (n : Int) (l : Option Addr) (ll : Nat) (lc : Nat) (d : Option Addr) (dl : Nat) (dc : Nat) (w : World) (Q : Value → World → Prop) : Prop :=
  ∀ w0, Ext w w0 →
  FnP Try.prog F_shiftbellkeep_lists #[] w0 fun v1 w1 =>
   Ext w0 w1 ∧
   ∃ t2 : Bool, v1 = (.bool t2) ∧
   ((t2 = false) →
    ∀ w3, Ext w w3 →
    Q (.bool false) w3) ∧
   ((t2 = true) →
    ∀ w3, Ext w w3 →
    FnP Try.prog F_list_Graph #[(.int .i64 m), (.int .i64 n), (.slice l ll lc), (.slice d dl dc)] w3 fun v4 w4 =>
     Ext w3 w4 ∧
     ∃ t5 : Option Addr, ∃ tl6 : Nat, ∃ tc7 : Nat, ∃ t8 : Int, ∃ t9 : Int, v4 = (.tuple #[(.slice t5 tl6 tc7), (.int .i64 t8), (.int .i64 t9)]) ∧
     ∀ w10, Ext w4 w10 →
     FnP Try.prog F_path_Times #[(.int .i64 n), (.slice l ll lc), (.slice d dl dc)] w10 fun v11 w11 =>
      Ext w10 w11 ∧
      ∃ t_012 : Option Addr, ∃ t_0l13 : Nat, ∃ t_0c14 : Nat, ∃ t_115 : Option Addr, ∃ t_1l16 : Nat, ∃ t_1c17 : Nat, ∃ t_218 : Int, ∃ t19 : Int, v11 = (.tuple #[(.agg #[(.slice t_012 t_0l13 t_0c14), (.slice t_115 t_1l16 t_1c17), (.int .i64 t_218)]), (.int .i64 t19)]) ∧
      ∀ b20 : Nat, w11.heap.size ≤ b20 → ((t9 ≠ 0) →
       ∀ w21, Ext w11 w21 →
       Q (.bool ((decide ((tl6 : Int) = 0)) && (decide (t8 = 0)))) w21) ∧
      ((t9 = 0) →
       ((t19 = 0) →
        InR .i64 (m * t8)) ∧
       ((t19 = 0) →
        InR .i64 (m - 1)) ∧
       ((t19 = 0) →
        InR .i64 ((m - 1) * t_218)) ∧
       ((t19 = 0) →
        ∀ w21, Ext w11 w21 →
        FnP Try.prog F_shiftbellkeep_sum #[(.slice d dl dc)] w21 fun v22 w22 =>
         Ext w21 w22 ∧
         ∃ t23 : Int, v22 = (.int .i64 t23) ∧
         InR .i64 (t23 + ((m - 1) * t_218)) ∧
         ((((m * t8) ≤ (t23 + ((m - 1) * t_218))) ∧ (t_218 ≤ t8)) →
          InR .i64 (m * t8)) ∧
         ((((m * t8) ≤ (t23 + ((m - 1) * t_218))) ∧ (t_218 ≤ t8)) →
          ∀ w24, Ext w11 w24 →
          FnP Try.prog F_shiftbellkeep_sum #[(.slice d dl dc)] w24 fun v25 w25 =>
           Ext w24 w25 ∧
           ∃ t26 : Int, v25 = (.int .i64 t26) ∧
           ∀ w27, Ext w11 w27 →
           Q (.bool (decide (t26 ≤ (m * t8)))) w27) ∧
         ((((t23 + ((m - 1) * t_218)) < (m * t8)) ∨ (t8 < t_218)) →
          ∀ w24, Ext w11 w24 →
          Q (.bool false) w24)) ∧
       ((t19 ≠ 0) →
        ∀ w21, Ext w11 w21 →
        Q (.bool false) w21)))

theorem ok_shiftbellkeep_ListGraph (m : Int) (n : Int) (l : Option Addr) (ll : Nat) (lc : Nat) (d : Option Addr) (dl : Nat) (dc : Nat) (w : World) (Q : Value → World → Prop) (h : wp_shiftbellkeep_ListGraph m n l ll lc d dl dc w Q) : FnP Try.prog F_shiftbellkeep_ListGraph #[(.int .i64 m), (.int .i64 n), (.slice l ll lc), (.slice d dl dc)] w Q := by
  have e_ : wp_shiftbellkeep_ListGraph m n l ll lc d dl dc w Q = Runs Try.prog Q ({ N := 71, wrap := [], pub := [], muts := [] } : Cfg) Try.f5 (Try.f5.body.getD .skip) [.sc (.int .i64 m), .sc (.int .i64 n), .sc (.slc l ll lc), .sc (.slc d dl dc)] w := by kernel_rfl
  rw [e_] at h
  exact runs_fn h Try.func5 (by kernel_rfl) (fun args w => Try.call5 args w) (by kernel_rfl) (by kernel_rfl) rfl rfl

theorem open_shiftbellkeep_ListGraph (W : World) (R : Array Value → Prop) (h : ∀ m : Int, InR .i64 m → ∀ n : Int, InR .i64 n → ∀ l : Option Addr, ∀ ll : Nat, ∀ lc : Nat, SlcArg Try.prog W 48 l ll lc → ∀ d : Option Addr, ∀ dl : Nat, ∀ dc : Nat, SlcArg Try.prog W 2 d dl dc → R #[(.int .i64 m), (.int .i64 n), (.slice l ll lc), (.slice d dl dc)]) (args : Array Value) (hg : GoodAll Try.prog W Try.f5.params.toList args.toList) : R args := by
  have e_ : (ArgsAll Try.prog W Try.f5.params.toList fun l => R l.toArray) = (∀ m : Int, InR .i64 m → ∀ n : Int, InR .i64 n → ∀ l : Option Addr, ∀ ll : Nat, ∀ lc : Nat, SlcArg Try.prog W 48 l ll lc → ∀ d : Option Addr, ∀ dl : Nat, ∀ dc : Nat, SlcArg Try.prog W 2 d dl dc → R #[(.int .i64 m), (.int .i64 n), (.slice l ll lc), (.slice d dl dc)]) := by kernel_rfl
  exact args_open (by rw [e_]; exact h) args hg
-- wit 5 #[(.int .i64 0), (.int .i64 0), (.slice none 0 0), (.slice none 0 0)]

/-- shiftbell/shiftbellkeep.ListTurns -/
def wp_shiftbellkeep_ListTurns (m : Int) (n : Int) (l : Option Addr) (ll : Nat) (lc : Nat) (d : Option Addr) (dl : Nat) (dc : Nat) (w : World) (Q : Value → World → Prop) : Prop :=
  ∀ w0, Ext w w0 →
  FnP Try.prog F_shiftbellkeep_lists #[] w0 fun v1 w1 =>
   Ext w0 w1 ∧
   ∃ t2 : Bool, v1 = (.bool t2) ∧
   ((t2 = false) →
    ∀ w3, Ext w w3 →
    Q (.bool false) w3) ∧
   ((t2 = true) →
    ∀ w3, Ext w w3 →
    FnP Try.prog F_list_Graph #[(.int .i64 m), (.int .i64 n), (.slice l ll lc), (.slice d dl dc)] w3 fun v4 w4 =>
     Ext w3 w4 ∧
     ∃ t5 : Option Addr, ∃ tl6 : Nat, ∃ tc7 : Nat, ∃ t8 : Int, ∃ t9 : Int, v4 = (.tuple #[(.slice t5 tl6 tc7), (.int .i64 t8), (.int .i64 t9)]) ∧
     (((t9 ≠ 0) ∨ ((tl6 : Int) ≠ n)) →
      ∀ w10, Ext w4 w10 →
      Q (.bool ((decide ((tl6 : Int) = 0)) && (decide (t8 = 0)))) w10) ∧
     (((t9 = 0) ∧ ((tl6 : Int) = n)) →
      ∃ (I10 : Int → World → Prop) (M10 : Int → World → Nat), I10 0 w4 ∧
      ∀ (k11 : Int) (w12 : World), I10 k11 w12 →
       ((k11 < (tl6 : Int)) →
        t5 ≠ none ∧
        (0 : Int) ≤ k11 ∧
        (k11 : Int) < (tl6 : Int) ∧
        (pIdx t5 k11 2) ≠ none ∧
        ∃ t13 : Int, cell w12 (pIdx t5 k11 2) 0 = some (.int .i64 t13) ∧
        ∃ t14 : Int, cell w12 (pIdx t5 k11 2) 1 = some (.int .i64 t14) ∧
        ∀ b15 : Nat, w12.heap.size ≤ b15 → ((0 ≤ t13) →
         d ≠ none) ∧
        ((0 ≤ t13) →
         (0 : Int) ≤ k11) ∧
        ((0 ≤ t13) →
         (k11 : Int) < (dl : Int)) ∧
        ((t13 < 0) →
         ∀ w16, Ext w12 w16 →
         Q (.bool false) w16) ∧
        ((0 ≤ t13) →
         ∃ t16 : Int, cell w12 (pIdx d k11 1) 0 = some (.int .i64 t16) ∧
         InR .i64 (t13 + t16) ∧
         ((((t8 < (t13 + t16)) ∨ (t14 < 0)) ∨ (m ≤ t14)) →
          ∀ w17, Ext w12 w17 →
          Q (.bool false) w17) ∧
         (((((t13 + t16) ≤ t8) ∧ (0 ≤ t14)) ∧ (t14 < m)) →
          (0 : Int) ≤ 0 ∧
          (0 : Int) ≤ k11 ∧
          (k11 : Int) ≤ (tc7 : Int) ∧
          ∃ (I17 : Int → World → Prop) (M17 : Int → World → Nat), I17 0 w12 ∧
          ∀ (k18 : Int) (w19 : World), I17 k18 w19 →
           ((k18 < ((k11 - 0).toNat : Int)) →
            (pCut t5 tc7 0 2) ≠ none ∧
            (0 : Int) ≤ k18 ∧
            (k18 : Int) < ((k11 - 0).toNat : Int) ∧
            (pIdx (pCut t5 tc7 0 2) k18 2) ≠ none ∧
            ∃ t20 : Int, cell w19 (pIdx (pCut t5 tc7 0 2) k18 2) 0 = some (.int .i64 t20) ∧
            ∃ t21 : Int, cell w19 (pIdx (pCut t5 tc7 0 2) k18 2) 1 = some (.int .i64 t21) ∧
            ∀ b22 : Nat, w19.heap.size ≤ b22 → ((t14 = t21) →
             d ≠ none) ∧
            ((t14 = t21) →
             (0 : Int) ≤ k18) ∧
            ((t14 = t21) →
             (k18 : Int) < (dl : Int)) ∧
            ((t14 = t21) →
             ∃ t23 : Int, cell w19 (pIdx d k18 1) 0 = some (.int .i64 t23) ∧
             InR .i64 (t20 + t23) ∧
             ((t13 < (t20 + t23)) →
              d ≠ none) ∧
             ((t13 < (t20 + t23)) →
              (0 : Int) ≤ k11) ∧
             ((t13 < (t20 + t23)) →
              (k11 : Int) < (dl : Int)) ∧
             ((t13 < (t20 + t23)) →
              ∃ t24 : Int, cell w19 (pIdx d k11 1) 0 = some (.int .i64 t24) ∧
              InR .i64 (t13 + t24) ∧
              ((t20 < (t13 + t24)) →
               ∀ w25, Ext w19 w25 →
               Q (.bool false) w25) ∧
              (((t13 + t24) ≤ t20) →
               InR .i64 (k18 + 1) ∧
               (I17 (k18 + 1) w19 ∧ M17 (k18 + 1) w19 < M17 k18 w19))) ∧
             (((t20 + t23) ≤ t13) →
              InR .i64 (k18 + 1) ∧
              (I17 (k18 + 1) w19 ∧ M17 (k18 + 1) w19 < M17 k18 w19))) ∧
            ((t14 ≠ t21) →
             InR .i64 (k18 + 1) ∧
             (I17 (k18 + 1) w19 ∧ M17 (k18 + 1) w19 < M17 k18 w19))) ∧
           ((((k11 - 0).toNat : Int) ≤ k18) →
            InR .i64 (k11 + 1) ∧
            (I10 (k11 + 1) w19 ∧ M10 (k11 + 1) w19 < M10 k11 w12))))) ∧
       (((tl6 : Int) ≤ k11) →
        ∃ (I13 : Int → World → Prop) (M13 : Int → World → Nat), I13 0 w12 ∧
        ∀ (k14 : Int) (w15 : World), I13 k14 w15 →
         ((k14 < (ll : Int)) →
          l ≠ none ∧
          (0 : Int) ≤ k14 ∧
          (k14 : Int) < (ll : Int) ∧
          (pIdx l k14 2) ≠ none ∧
          ∃ t16 : Int, cell w15 (pIdx l k14 2) 0 = some (.int .i64 t16) ∧
          ∃ t17 : Int, cell w15 (pIdx l k14 2) 1 = some (.int .i64 t17) ∧
          ∀ b18 : Nat, w15.heap.size ≤ b18 → t5 ≠ none ∧
          (0 : Int) ≤ t17 ∧
          (t17 : Int) < (tl6 : Int) ∧
          (pIdx t5 t17 2) ≠ none ∧
          ∃ t19 : Int, cell w15 (pAdd (pIdx t5 t17 2) 0) 0 = some (.int .i64 t19) ∧
          t5 ≠ none ∧
          (0 : Int) ≤ t16 ∧
          (t16 : Int) < (tl6 : Int) ∧
          (pIdx t5 t16 2) ≠ none ∧
          ∃ t20 : Int, cell w15 (pAdd (pIdx t5 t16 2) 0) 0 = some (.int .i64 t20) ∧
          d ≠ none ∧
          (0 : Int) ≤ t16 ∧
          (t16 : Int) < (dl : Int) ∧
          ∃ t21 : Int, cell w15 (pIdx d t16 1) 0 = some (.int .i64 t21) ∧
          InR .i64 (t20 + t21) ∧
          ((t19 < (t20 + t21)) →
           ∀ w22, Ext w15 w22 →
           Q (.bool false) w22) ∧
          (((t20 + t21) ≤ t19) →
           InR .i64 (k14 + 1) ∧
           (I13 (k14 + 1) w15 ∧ M13 (k14 + 1) w15 < M13 k14 w15))) ∧
         (((ll : Int) ≤ k14) →
          ∀ w16, Ext w15 w16 →
          Q (.bool true) w16))))

theorem ok_shiftbellkeep_ListTurns (m : Int) (n : Int) (l : Option Addr) (ll : Nat) (lc : Nat) (d : Option Addr) (dl : Nat) (dc : Nat) (w : World) (Q : Value → World → Prop) (h : wp_shiftbellkeep_ListTurns m n l ll lc d dl dc w Q) : FnP Try.prog F_shiftbellkeep_ListTurns #[(.int .i64 m), (.int .i64 n), (.slice l ll lc), (.slice d dl dc)] w Q := by
  have e_ : wp_shiftbellkeep_ListTurns m n l ll lc d dl dc w Q = Runs Try.prog Q ({ N := 142, wrap := [], pub := [], muts := [] } : Cfg) Try.f6 (Try.f6.body.getD .skip) [.sc (.int .i64 m), .sc (.int .i64 n), .sc (.slc l ll lc), .sc (.slc d dl dc)] w := by kernel_rfl
  rw [e_] at h
  exact runs_fn h Try.func6 (by kernel_rfl) (fun args w => Try.call6 args w) (by kernel_rfl) (by kernel_rfl) rfl rfl

theorem open_shiftbellkeep_ListTurns (W : World) (R : Array Value → Prop) (h : ∀ m : Int, InR .i64 m → ∀ n : Int, InR .i64 n → ∀ l : Option Addr, ∀ ll : Nat, ∀ lc : Nat, SlcArg Try.prog W 48 l ll lc → ∀ d : Option Addr, ∀ dl : Nat, ∀ dc : Nat, SlcArg Try.prog W 2 d dl dc → R #[(.int .i64 m), (.int .i64 n), (.slice l ll lc), (.slice d dl dc)]) (args : Array Value) (hg : GoodAll Try.prog W Try.f6.params.toList args.toList) : R args := by
  have e_ : (ArgsAll Try.prog W Try.f6.params.toList fun l => R l.toArray) = (∀ m : Int, InR .i64 m → ∀ n : Int, InR .i64 n → ∀ l : Option Addr, ∀ ll : Nat, ∀ lc : Nat, SlcArg Try.prog W 48 l ll lc → ∀ d : Option Addr, ∀ dl : Nat, ∀ dc : Nat, SlcArg Try.prog W 2 d dl dc → R #[(.int .i64 m), (.int .i64 n), (.slice l ll lc), (.slice d dl dc)]) := by kernel_rfl
  exact args_open (by rw [e_]; exact h) args hg
-- wit 6 #[(.int .i64 0), (.int .i64 0), (.slice none 0 0), (.slice none 0 0)]

end Go.Proofs.Ytmdnjnflmijofaa
