/- The texts of this seat's functions: what each computes, as its symbolic run says it. -/
import Derived.Test.YtblafknmfblgfaaRows
import Derived.Test.YtblafknmfblgfaaSxD
import Derived.Test.YtblafknmfblgfaaSxN
import Derived.Test.YtblafknmfblgfaaTxt
import Derived.Test.YtblafknmfblgfaaTxtB
set_option linter.unusedVariables false
set_option linter.unusedSimpArgs false
set_option maxRecDepth 100000
namespace Go.Proofs.Ytblafknmfblgfaa
open Go.Sx Go.RowKit

abbrev F_host_Check : FuncId := 16
abbrev F_host_Best : FuncId := 21
abbrev F_host_Take : FuncId := 22
abbrev F_shiftbellkeep_sameHosts : FuncId := 23
abbrev F_host_Fit : FuncId := 48
abbrev F_host_Best_1 : FuncId := 49
abbrev F_slices_MinFunc_int_int : FuncId := 51
abbrev F_host_Best_2 : FuncId := 52
abbrev F_cmp_Or_int : FuncId := 53
abbrev F_cmp_Compare_int64 : FuncId := 54
abbrev F_host_change : FuncId := 55
abbrev F_host_Take_1 : FuncId := 56
abbrev F_slices_EqualFunc_api_Host_api_Host_api_Host_api_Host : FuncId := 57
abbrev F_shiftbellkeep_sameHosts_1 : FuncId := 58
abbrev F_slices_Equal_api_Label_api_Label : FuncId := 59
abbrev F_slices_Clone_api_Host_api_Host : FuncId := 71
abbrev F_slices_Clone_api_Label_api_Label : FuncId := 72
abbrev F_slices_ContainsFunc_int_int : FuncId := 75
abbrev F_cmp_isNaN_int64 : FuncId := 82
abbrev F_host_own : FuncId := 83
abbrev F_slices_IndexFunc_int_int : FuncId := 89
abbrev F_host_Give : FuncId := 99
abbrev F_host_Give_1 : FuncId := 103

/-- shiftbell/host.Check -/
def wp_host_Check (l : Option Addr) (ll : Nat) (lc : Nat) (w : World) (Q : Value → World → Prop) : Prop :=
  ((30 < (ll : Int)) →
   ∀ w0, Ext w w0 →
   Q (.int .i64 2) w0) ∧
  (((ll : Int) ≤ 30) →
   ∀ w0, Ext w w0 →
   Run Try.prog (.makeMap 88) w0 fun v1 w1 =>
    Ext w0 w1 ∧
    ∃ t2 : Value, v1 = t2 ∧
    ∃ (I3 : Int → World → Prop) (M3 : Int → World → Nat), I3 0 w1 ∧
    ∀ (k4 : Int) (w5 : World), I3 k4 w5 →
     (((k4 < (ll : Int)) →
      l ≠ none ∧
      (0 : Int) ≤ k4 ∧
      (k4 : Int) < (ll : Int) ∧
      (pIdx l k4 8) ≠ none ∧
      ∃ t6 : ByteArray, cell w5 (pIdx l k4 8) 0 = some (.string t6) ∧
      ∃ t7 : Option Addr, ∃ tl8 : Nat, ∃ tc9 : Nat, cell w5 (pIdx l k4 8) 1 = some (.slice t7 tl8 tc9) ∧
      ∃ t10 : Int, cell w5 (pIdx l k4 8) 2 = some (.int .i64 t10) ∧
      ∃ t11 : Int, cell w5 (pIdx l k4 8) 3 = some (.int .i64 t11) ∧
      ∃ t12 : Int, cell w5 (pIdx l k4 8) 4 = some (.int .i64 t12) ∧
      ∃ t13 : Int, cell w5 (pIdx l k4 8) 5 = some (.int .i64 t13) ∧
      ∃ t14 : Int, cell w5 (pIdx l k4 8) 6 = some (.int .i64 t14) ∧
      ∃ t15 : Int, cell w5 (pIdx l k4 8) 7 = some (.int .i64 t15) ∧
      ∀ b16 : Nat, w5.heap.size ≤ b16 → ∃ (J17 : World → Prop), (∀ w19, Ext w5 w19 →
       FnP Try.prog F_ask_Label #[(.string t6)] w19 fun v20 w20 =>
        Ext w19 w20 ∧
        ∃ t21 : Bool, v20 = (.bool t21) ∧
        ((t21 = false) →
         ∀ w22, Ext w5 w22 →
         Q (.int .i64 3) w22) ∧
        ((t21 = true) →
         ∀ w22, Ext w5 w22 →
         Run Try.prog (.lookup 88 t2 (.string t6) false) w22 fun v23 w23 =>
          Ext w22 w23 ∧
          ∃ t24 : Bool, v23 = (.bool t24) ∧
          ((t24 = true) →
           ∀ w25, Ext w5 w25 →
           Q (.int .i64 6) w25) ∧
          ((t24 = false) →
           ((8 < (tl8 : Int)) →
            ∀ w25, Ext w5 w25 →
            Q (.int .i64 2) w25) ∧
           (((tl8 : Int) ≤ 8) →
            J17  w5)))) ∧
      ∀  (w18 : World), J17  w18 →
       ∀ w19, ExtB [] [b16] w18 w19 →
       Run Try.prog (.mapUpdate 88 t2 (.string t6) (.bool true)) w19 fun v20 w20 =>
        Kept [b16] w19 w20 ∧
        ∀ w21, ExtB [] [b16] w20 w21 →
        Run Try.prog (.makeMap 88) w21 fun v22 w22 =>
         Ext w21 w22 ∧
         ∃ t23 : Value, v22 = t23 ∧
         ∃ (I24 : Int → World → Prop) (M24 : Int → World → Nat), I24 0 w22 ∧
         ∀ (k25 : Int) (w26 : World), I24 k25 w26 →
          (((k25 < (tl8 : Int)) →
           t7 ≠ none ∧
           (0 : Int) ≤ k25 ∧
           (k25 : Int) < (tl8 : Int) ∧
           (pIdx t7 k25 2) ≠ none ∧
           ∃ t27 : ByteArray, cell w26 (pIdx t7 k25 2) 0 = some (.string t27) ∧
           ∃ t28 : ByteArray, cell w26 (pIdx t7 k25 2) 1 = some (.string t28) ∧
           ∀ b29 : Nat, w26.heap.size ≤ b29 → ∃ (J30 : World → Prop), (∀ w32, Ext w26 w32 →
            FnP Try.prog F_ask_Label #[(.string t27)] w32 fun v33 w33 =>
             Ext w32 w33 ∧
             ∃ t34 : Bool, v33 = (.bool t34) ∧
             ((t34 = false) →
              ∀ w35, Ext w26 w35 →
              Q (.int .i64 3) w35) ∧
             ((t34 = true) →
              ∀ w35, Ext w26 w35 →
              FnP Try.prog F_ask_Label #[(.string t28)] w35 fun v36 w36 =>
               Ext w35 w36 ∧
               ∃ t37 : Bool, v36 = (.bool t37) ∧
               ((t37 = false) →
                ∀ w38, Ext w26 w38 →
                Q (.int .i64 3) w38) ∧
               ((t37 = true) →
                ∀ w38, Ext w26 w38 →
                Run Try.prog (.lookup 88 t23 (.string t27) false) w38 fun v39 w39 =>
                 Ext w38 w39 ∧
                 ∃ t40 : Bool, v39 = (.bool t40) ∧
                 ((t40 = true) →
                  ∀ w41, Ext w26 w41 →
                  Q (.int .i64 6) w41) ∧
                 ((t40 = false) →
                  J30  w26)))) ∧
           ∀  (w31 : World), J30  w31 →
            ∀ w32, ExtB [] [b16, b29] w31 w32 →
            Run Try.prog (.mapUpdate 88 t23 (.string t27) (.bool true)) w32 fun v33 w33 =>
             Kept [b16, b29] w32 w33 ∧
             InR .i64 (k25 + 1) ∧
             (I24 (k25 + 1) w33 ∧ M24 (k25 + 1) w33 < M24 k25 w26))) ∧
          (((tl8 : Int) ≤ k25) →
           ∀ w27, Ext w26 w27 →
           FnP Try.prog F_need_Fits #[(.agg #[(.int .i64 t13), (.int .i64 t14), (.int .i64 t15)]), (.agg #[(.int .i64 t10), (.int .i64 t11), (.int .i64 t12)])] w27 fun v28 w28 =>
            Ext w27 w28 ∧
            ∃ t29 : Bool, ∃ t30 : Int, v28 = (.tuple #[(.bool t29), (.int .i64 t30)]) ∧
            ∀ w31, Ext w26 w31 →
            FnP Try.prog F_need_Check #[(.agg #[(.int .i64 t10), (.int .i64 t11), (.int .i64 t12)])] w31 fun v32 w32 =>
             Ext w31 w32 ∧
             ∃ t33 : Int, v32 = (.int .i64 t33) ∧
             ∃ (J34 : World → Prop), (((t33 ≠ 0) →
               ∀ w36, Ext w26 w36 →
               Q (.int .i64 t33) w36) ∧
              ((t33 = 0) →
               ((t30 ≠ 0) →
                ∀ w36, Ext w26 w36 →
                Q (.int .i64 t30) w36) ∧
               ((t30 = 0) →
                ((t29 = false) →
                 ∀ w36, Ext w26 w36 →
                 Q (.int .i64 10) w36) ∧
                ((t29 = true) →
                 J34  w26)))) ∧
             ∀  (w35 : World), J34  w35 →
              InR .i64 (k4 + 1) ∧
              (I3 (k4 + 1) w35 ∧ M3 (k4 + 1) w35 < M3 k4 w5)))) ∧
     (((ll : Int) ≤ k4) →
      ∀ w6, Ext w5 w6 →
      Q (.int .i64 0) w6))

theorem ok_host_Check (l : Option Addr) (ll : Nat) (lc : Nat) (w : World) (Q : Value → World → Prop) (h : wp_host_Check l ll lc w Q) : FnP Try.prog F_host_Check #[(.slice l ll lc)] w Q := by
  have e_ : wp_host_Check l ll lc w Q = Runs Try.prog Q ({ N := 91, wrap := [], pub := [], muts := [], joins := [(2, []), (5, []), (6, [])] } : Cfg) Try.f16 (Try.f16.body.getD .skip) [.sc (.slc l ll lc)] w := by kernel_rfl
  rw [e_] at h
  exact runs_fn h Try.func16 (by kernel_rfl) (fun args w => Try.call16 args w) (by kernel_rfl) (by kernel_rfl) rfl rfl

/-- shiftbell/host.own -/
def wp_host_own (l : Option Addr) (ll : Nat) (lc : Nat) (w : World) (Q : Value → World → Prop) : Prop :=
  ∀ w0, Ext w w0 →
  FnP Try.prog F_slices_Clone_api_Host_api_Host #[(.slice l ll lc)] w0 fun v1 w1 =>
   Ext w0 w1 ∧
   ∃ t2 : Option Addr, ∃ tl3 : Nat, ∃ tc4 : Nat, v1 = (.slice t2 tl3 tc4) ∧
   ∃ (I5 : Int → World → Prop) (M5 : Int → World → Nat), I5 0 w1 ∧
   ∀ (k6 : Int) (w7 : World), I5 k6 w7 →
    (((k6 < (tl3 : Int)) →
     t2 ≠ none ∧
     (0 : Int) ≤ k6 ∧
     (k6 : Int) < (tl3 : Int) ∧
     (pIdx t2 k6 8) ≠ none ∧
     ∃ t8 : Option Addr, ∃ tl9 : Nat, ∃ tc10 : Nat, cell w7 (pAdd (pIdx t2 k6 8) 1) 0 = some (.slice t8 tl9 tc10) ∧
     ∀ w11, Ext w7 w11 →
     FnP Try.prog F_slices_Clone_api_Label_api_Label #[(.slice t8 tl9 tc10)] w11 fun v12 w12 =>
      Ext w11 w12 ∧
      ∃ t13 : Option Addr, ∃ tl14 : Nat, ∃ tc15 : Nat, v12 = (.slice t13 tl14 tc15) ∧
      t2 ≠ none ∧
      (0 : Int) ≤ k6 ∧
      (k6 : Int) < (tl3 : Int) ∧
      (pIdx t2 k6 8) ≠ none ∧
      Store w12 (pAdd (pIdx t2 k6 8) 1) [(.slice t13 tl14 tc15)] [] fun w16 =>
       InR .i64 (k6 + 1) ∧
       (I5 (k6 + 1) w16 ∧ M5 (k6 + 1) w16 < M5 k6 w7))) ∧
    (((tl3 : Int) ≤ k6) →
     ∀ w8, Ext w7 w8 →
     Q (.slice t2 tl3 tc4) w8)

theorem ok_host_own (l : Option Addr) (ll : Nat) (lc : Nat) (w : World) (Q : Value → World → Prop) (h : wp_host_own l ll lc w Q) : FnP Try.prog F_host_own #[(.slice l ll lc)] w Q := by
  have e_ : wp_host_own l ll lc w Q = Runs Try.prog Q ({ N := 23, wrap := [], pub := [], muts := [], joins := [] } : Cfg) Try.f83 (Try.f83.body.getD .skip) [.sc (.slc l ll lc)] w := by kernel_rfl
  rw [e_] at h
  exact runs_fn h Try.func83 (by kernel_rfl) (fun args w => Try.call83 args w) (by kernel_rfl) (by kernel_rfl) rfl rfl

/-- shiftbell/host.change -/
def wp_host_change (l : Option Addr) (ll : Nat) (lc : Nat) (i : Int) (f : Value) (w : World) (Q : Value → World → Prop) : Prop :=
  ∀ w0, Ext w w0 →
  FnP Try.prog F_host_Check #[(.slice l ll lc)] w0 fun v1 w1 =>
   Ext w0 w1 ∧
   ∃ t2 : Int, v1 = (.int .i64 t2) ∧
   ((t2 ≠ 0) →
    ∀ w3, Ext w w3 →
    Q (.tuple #[(.slice none 0 0), (.int .i64 t2)]) w3) ∧
   ((t2 = 0) →
    (((i < 0) ∨ ((ll : Int) ≤ i)) →
     ∀ w3, Ext w w3 →
     Q (.tuple #[(.slice none 0 0), (.int .i64 5)]) w3) ∧
    (((0 ≤ i) ∧ (i < (ll : Int))) →
     l ≠ none ∧
     (0 : Int) ≤ i ∧
     (i : Int) < (ll : Int) ∧
     (pIdx l i 8) ≠ none ∧
     ∃ t3 : ByteArray, cell w (pIdx l i 8) 0 = some (.string t3) ∧
     ∃ t4 : Option Addr, ∃ tl5 : Nat, ∃ tc6 : Nat, cell w (pIdx l i 8) 1 = some (.slice t4 tl5 tc6) ∧
     ∃ t7 : Int, cell w (pIdx l i 8) 2 = some (.int .i64 t7) ∧
     ∃ t8 : Int, cell w (pIdx l i 8) 3 = some (.int .i64 t8) ∧
     ∃ t9 : Int, cell w (pIdx l i 8) 4 = some (.int .i64 t9) ∧
     ∃ t10 : Int, cell w (pIdx l i 8) 5 = some (.int .i64 t10) ∧
     ∃ t11 : Int, cell w (pIdx l i 8) 6 = some (.int .i64 t11) ∧
     ∃ t12 : Int, cell w (pIdx l i 8) 7 = some (.int .i64 t12) ∧
     ∀ w13, Ext w w13 →
     FnVP Try.prog f [(.agg #[(.string t3), (.slice t4 tl5 tc6), (.int .i64 t7), (.int .i64 t8), (.int .i64 t9), (.int .i64 t10), (.int .i64 t11), (.int .i64 t12)])] w13 fun v14 w14 =>
      Ext w13 w14 ∧
      ∃ t_015 : Int, ∃ t_116 : Int, ∃ t_217 : Int, ∃ t18 : Int, v14 = (.tuple #[(.agg #[(.int .i64 t_015), (.int .i64 t_116), (.int .i64 t_217)]), (.int .i64 t18)]) ∧
      ∀ b19 : Nat, w.heap.size ≤ b19 → ((t18 ≠ 0) →
       ∀ w20, Ext w w20 →
       Q (.tuple #[(.slice none 0 0), (.int .i64 t18)]) w20) ∧
      ((t18 = 0) →
       ∀ w20, ExtB [] [b19] w w20 →
       FnP Try.prog F_host_own #[(.slice l ll lc)] w20 fun v21 w21 =>
        Ext w20 w21 ∧
        ∃ t22 : Option Addr, ∃ tl23 : Nat, ∃ tc24 : Nat, v21 = (.slice t22 tl23 tc24) ∧
        t22 ≠ none ∧
        (0 : Int) ≤ i ∧
        (i : Int) < (tl23 : Int) ∧
        (pIdx t22 i 8) ≠ none ∧
        Store w21 (pAdd (pIdx t22 i 8) 5) [(.int .i64 t_015), (.int .i64 t_116), (.int .i64 t_217)] [b19] fun w25 =>
         ∀ w26, Ext w25 w26 →
         Q (.tuple #[(.slice t22 tl23 tc24), (.int .i64 0)]) w26)))

theorem ok_host_change (l : Option Addr) (ll : Nat) (lc : Nat) (i : Int) (f : Value) (w : World) (Q : Value → World → Prop) (h : wp_host_change l ll lc i f w Q) : FnP Try.prog F_host_change #[(.slice l ll lc), (.int .i64 i), f] w Q := by
  have e_ : wp_host_change l ll lc i f w Q = Runs Try.prog Q ({ N := 44, wrap := [], pub := [], muts := [], joins := [] } : Cfg) Try.f55 (Try.f55.body.getD .skip) [.sc (.slc l ll lc), .sc (.int .i64 i), .sc (.val f)] w := by kernel_rfl
  rw [e_] at h
  exact runs_fn h Try.func55 (by kernel_rfl) (fun args w => Try.call55 args w) (by kernel_rfl) (by kernel_rfl) rfl rfl

/-- shiftbell/host.Take -/
def wp_host_Take (l : Option Addr) (ll : Nat) (lc : Nat) (i : Int) (a_0 : Int) (a_1 : Int) (a_2 : Int) (w : World) (Q : Value → World → Prop) : Prop :=
  ∀ w0, Ext w w0 →
  New w0 34 [(.int .i64 a_0), (.int .i64 a_1), (.int .i64 a_2)] fun p1 w1 =>
   ∀ w2, Ext w1 w2 →
   FnP Try.prog F_host_change #[(.slice l ll lc), (.int .i64 i), (.func (.func 56) #[] #[(.pointer p1)])] w2 fun v3 w3 =>
    Ext w2 w3 ∧
    ∃ t4 : Option Addr, ∃ tl5 : Nat, ∃ tc6 : Nat, ∃ t7 : Int, v3 = (.tuple #[(.slice t4 tl5 tc6), (.int .i64 t7)]) ∧
    ∀ w8, Ext w3 w8 →
    Q (.tuple #[(.slice t4 tl5 tc6), (.int .i64 t7)]) w8

theorem ok_host_Take (l : Option Addr) (ll : Nat) (lc : Nat) (i : Int) (a_0 : Int) (a_1 : Int) (a_2 : Int) (w : World) (Q : Value → World → Prop) (h : wp_host_Take l ll lc i a_0 a_1 a_2 w Q) : FnP Try.prog F_host_Take #[(.slice l ll lc), (.int .i64 i), (.agg #[(.int .i64 a_0), (.int .i64 a_1), (.int .i64 a_2)])] w Q := by
  have e_ : wp_host_Take l ll lc i a_0 a_1 a_2 w Q = Runs Try.prog Q ({ N := 14, wrap := [], pub := [5], muts := [], joins := [] } : Cfg) Try.f22 (Try.f22.body.getD .skip) [.sc (.slc l ll lc), .sc (.int .i64 i), .agg [.int .i64 a_0, .int .i64 a_1, .int .i64 a_2]] w := by kernel_rfl
  rw [e_] at h
  exact runs_fn h Try.func22 (by kernel_rfl) (fun args w => Try.call22 args w) (by kernel_rfl) (by kernel_rfl) rfl rfl

/-- shiftbell/host.Take$1 -/
def wp_host_Take_1 (h_v_0 : ByteArray) (h_v_1 : Option Addr) (h_v_1l : Nat) (h_v_1c : Nat) (h_v_2 : Int) (h_v_3 : Int) (h_v_4 : Int) (h_v_5 : Int) (h_v_6 : Int) (h_v_7 : Int) (c0 : Option Addr) (w : World) (Q : Value → World → Prop) : Prop :=
  ∀ b0 : Nat, w.heap.size ≤ b0 → ∀ b1 : Nat, w.heap.size ≤ b1 → ∀ w2, Ext w w2 →
  FnP Try.prog F_need_Sub #[(.agg #[(.int .i64 h_v_2), (.int .i64 h_v_3), (.int .i64 h_v_4)]), (.agg #[(.int .i64 h_v_5), (.int .i64 h_v_6), (.int .i64 h_v_7)])] w2 fun v3 w3 =>
   Ext w2 w3 ∧
   ∃ t_04 : Int, ∃ t_15 : Int, ∃ t_26 : Int, ∃ t7 : Int, v3 = (.tuple #[(.agg #[(.int .i64 t_04), (.int .i64 t_15), (.int .i64 t_26)]), (.int .i64 t7)]) ∧
   ∀ b8 : Nat, w.heap.size ≤ b8 → c0 ≠ none ∧
   ∃ t9 : Int, cell w c0 0 = some (.int .i64 t9) ∧
   ∃ t10 : Int, cell w c0 1 = some (.int .i64 t10) ∧
   ∃ t11 : Int, cell w c0 2 = some (.int .i64 t11) ∧
   ∀ w12, Ext w w12 →
   FnP Try.prog F_need_Sub #[(.agg #[(.int .i64 t_04), (.int .i64 t_15), (.int .i64 t_26)]), (.agg #[(.int .i64 t9), (.int .i64 t10), (.int .i64 t11)])] w12 fun v13 w13 =>
    Ext w12 w13 ∧
    ∃ t_014 : Int, ∃ t_115 : Int, ∃ t_216 : Int, ∃ t17 : Int, v13 = (.tuple #[(.agg #[(.int .i64 t_014), (.int .i64 t_115), (.int .i64 t_216)]), (.int .i64 t17)]) ∧
    ∀ b18 : Nat, w.heap.size ≤ b18 → ((t17 ≠ 0) →
     ∀ w19, Ext w w19 →
     Q (.tuple #[(.agg #[(.int .i64 0), (.int .i64 0), (.int .i64 0)]), (.int .i64 t17)]) w19) ∧
    ((t17 = 0) →
     c0 ≠ none ∧
     ∃ t19 : Int, cell w c0 0 = some (.int .i64 t19) ∧
     ∃ t20 : Int, cell w c0 1 = some (.int .i64 t20) ∧
     ∃ t21 : Int, cell w c0 2 = some (.int .i64 t21) ∧
     ∀ w22, Ext w w22 →
     FnP Try.prog F_need_Add #[(.agg #[(.int .i64 h_v_5), (.int .i64 h_v_6), (.int .i64 h_v_7)]), (.agg #[(.int .i64 t19), (.int .i64 t20), (.int .i64 t21)])] w22 fun v23 w23 =>
      Ext w22 w23 ∧
      ∃ t_024 : Int, ∃ t_125 : Int, ∃ t_226 : Int, ∃ t27 : Int, v23 = (.tuple #[(.agg #[(.int .i64 t_024), (.int .i64 t_125), (.int .i64 t_226)]), (.int .i64 t27)]) ∧
      ∀ w28, Ext w w28 →
      Q (.tuple #[(.agg #[(.int .i64 t_024), (.int .i64 t_125), (.int .i64 t_226)]), (.int .i64 t27)]) w28)

theorem ok_host_Take_1 (h_v_0 : ByteArray) (h_v_1 : Option Addr) (h_v_1l : Nat) (h_v_1c : Nat) (h_v_2 : Int) (h_v_3 : Int) (h_v_4 : Int) (h_v_5 : Int) (h_v_6 : Int) (h_v_7 : Int) (c0 : Option Addr) (w : World) (Q : Value → World → Prop) (h : wp_host_Take_1 h_v_0 h_v_1 h_v_1l h_v_1c h_v_2 h_v_3 h_v_4 h_v_5 h_v_6 h_v_7 c0 w Q) : FnP Try.prog F_host_Take_1 #[(.agg #[(.string h_v_0), (.slice h_v_1 h_v_1l h_v_1c), (.int .i64 h_v_2), (.int .i64 h_v_3), (.int .i64 h_v_4), (.int .i64 h_v_5), (.int .i64 h_v_6), (.int .i64 h_v_7)]), (.pointer c0)] w Q := by
  have e_ : wp_host_Take_1 h_v_0 h_v_1 h_v_1l h_v_1c h_v_2 h_v_3 h_v_4 h_v_5 h_v_6 h_v_7 c0 w Q = Runs Try.prog Q ({ N := 33, wrap := [], pub := [], muts := [], joins := [] } : Cfg) Try.f56 (Try.f56.body.getD .skip) [.agg [.str h_v_0, .slc h_v_1 h_v_1l h_v_1c, .int .i64 h_v_2, .int .i64 h_v_3, .int .i64 h_v_4, .int .i64 h_v_5, .int .i64 h_v_6, .int .i64 h_v_7], .sc (.ptr c0)] w := by kernel_rfl
  rw [e_] at h
  exact runs_fn h Try.func56 (by kernel_rfl) (fun args w => Try.call56 args w) (by kernel_rfl) (by kernel_rfl) rfl rfl

/-- shiftbell/host.Give -/
def wp_host_Give (l : Option Addr) (ll : Nat) (lc : Nat) (i : Int) (a_0 : Int) (a_1 : Int) (a_2 : Int) (w : World) (Q : Value → World → Prop) : Prop :=
  ∀ w0, Ext w w0 →
  New w0 34 [(.int .i64 a_0), (.int .i64 a_1), (.int .i64 a_2)] fun p1 w1 =>
   ∀ w2, Ext w1 w2 →
   FnP Try.prog F_host_change #[(.slice l ll lc), (.int .i64 i), (.func (.func 103) #[] #[(.pointer p1)])] w2 fun v3 w3 =>
    Ext w2 w3 ∧
    ∃ t4 : Option Addr, ∃ tl5 : Nat, ∃ tc6 : Nat, ∃ t7 : Int, v3 = (.tuple #[(.slice t4 tl5 tc6), (.int .i64 t7)]) ∧
    ∀ w8, Ext w3 w8 →
    Q (.tuple #[(.slice t4 tl5 tc6), (.int .i64 t7)]) w8

theorem ok_host_Give (l : Option Addr) (ll : Nat) (lc : Nat) (i : Int) (a_0 : Int) (a_1 : Int) (a_2 : Int) (w : World) (Q : Value → World → Prop) (h : wp_host_Give l ll lc i a_0 a_1 a_2 w Q) : FnP Try.prog F_host_Give #[(.slice l ll lc), (.int .i64 i), (.agg #[(.int .i64 a_0), (.int .i64 a_1), (.int .i64 a_2)])] w Q := by
  have e_ : wp_host_Give l ll lc i a_0 a_1 a_2 w Q = Runs Try.prog Q ({ N := 14, wrap := [], pub := [5], muts := [], joins := [] } : Cfg) Try.f99 (Try.f99.body.getD .skip) [.sc (.slc l ll lc), .sc (.int .i64 i), .agg [.int .i64 a_0, .int .i64 a_1, .int .i64 a_2]] w := by kernel_rfl
  rw [e_] at h
  exact runs_fn h Try.func99 (by kernel_rfl) (fun args w => Try.call99 args w) (by kernel_rfl) (by kernel_rfl) rfl rfl

/-- shiftbell/host.Give$1 -/
def wp_host_Give_1 (h_v_0 : ByteArray) (h_v_1 : Option Addr) (h_v_1l : Nat) (h_v_1c : Nat) (h_v_2 : Int) (h_v_3 : Int) (h_v_4 : Int) (h_v_5 : Int) (h_v_6 : Int) (h_v_7 : Int) (c0 : Option Addr) (w : World) (Q : Value → World → Prop) : Prop :=
  ∀ b0 : Nat, w.heap.size ≤ b0 → ∀ b1 : Nat, w.heap.size ≤ b1 → c0 ≠ none ∧
  ∃ t2 : Int, cell w c0 0 = some (.int .i64 t2) ∧
  ∃ t3 : Int, cell w c0 1 = some (.int .i64 t3) ∧
  ∃ t4 : Int, cell w c0 2 = some (.int .i64 t4) ∧
  ∀ w5, Ext w w5 →
  FnP Try.prog F_need_Sub #[(.agg #[(.int .i64 h_v_5), (.int .i64 h_v_6), (.int .i64 h_v_7)]), (.agg #[(.int .i64 t2), (.int .i64 t3), (.int .i64 t4)])] w5 fun v6 w6 =>
   Ext w5 w6 ∧
   ∃ t_07 : Int, ∃ t_18 : Int, ∃ t_29 : Int, ∃ t10 : Int, v6 = (.tuple #[(.agg #[(.int .i64 t_07), (.int .i64 t_18), (.int .i64 t_29)]), (.int .i64 t10)]) ∧
   ∀ w11, Ext w w11 →
   Q (.tuple #[(.agg #[(.int .i64 t_07), (.int .i64 t_18), (.int .i64 t_29)]), (.int .i64 t10)]) w11

theorem ok_host_Give_1 (h_v_0 : ByteArray) (h_v_1 : Option Addr) (h_v_1l : Nat) (h_v_1c : Nat) (h_v_2 : Int) (h_v_3 : Int) (h_v_4 : Int) (h_v_5 : Int) (h_v_6 : Int) (h_v_7 : Int) (c0 : Option Addr) (w : World) (Q : Value → World → Prop) (h : wp_host_Give_1 h_v_0 h_v_1 h_v_1l h_v_1c h_v_2 h_v_3 h_v_4 h_v_5 h_v_6 h_v_7 c0 w Q) : FnP Try.prog F_host_Give_1 #[(.agg #[(.string h_v_0), (.slice h_v_1 h_v_1l h_v_1c), (.int .i64 h_v_2), (.int .i64 h_v_3), (.int .i64 h_v_4), (.int .i64 h_v_5), (.int .i64 h_v_6), (.int .i64 h_v_7)]), (.pointer c0)] w Q := by
  have e_ : wp_host_Give_1 h_v_0 h_v_1 h_v_1l h_v_1c h_v_2 h_v_3 h_v_4 h_v_5 h_v_6 h_v_7 c0 w Q = Runs Try.prog Q ({ N := 11, wrap := [], pub := [], muts := [], joins := [] } : Cfg) Try.f103 (Try.f103.body.getD .skip) [.agg [.str h_v_0, .slc h_v_1 h_v_1l h_v_1c, .int .i64 h_v_2, .int .i64 h_v_3, .int .i64 h_v_4, .int .i64 h_v_5, .int .i64 h_v_6, .int .i64 h_v_7], .sc (.ptr c0)] w := by kernel_rfl
  rw [e_] at h
  exact runs_fn h Try.func103 (by kernel_rfl) (fun args w => Try.call103 args w) (by kernel_rfl) (by kernel_rfl) rfl rfl

/-- shiftbell/host.Fit -/
def wp_host_Fit (l : Option Addr) (ll : Nat) (lc : Nat) (x_0 : Int) (x_1 : ByteArray) (x_2 : ByteArray) (x_3 : Int) (x_4 : Option Addr) (x_4l : Nat) (x_4c : Nat) (a_0 : Int) (a_1 : Int) (a_2 : Int) (w : World) (Q : Value → World → Prop) : Prop :=
  ∀ b0 : Nat, w.heap.size ≤ b0 → ∀ b1 : Nat, w.heap.size ≤ b1 → ∀ w2, Ext w w2 →
  FnP Try.prog F_host_Check #[(.slice l ll lc)] w2 fun v3 w3 =>
   Ext w2 w3 ∧
   ∃ t4 : Int, v3 = (.int .i64 t4) ∧
   ((t4 ≠ 0) →
    ∀ w5, Ext w w5 →
    Q (.tuple #[(.slice none 0 0), (.int .i64 t4)]) w5) ∧
   ((t4 = 0) →
    ∀ w5, Ext w w5 →
    FnP Try.prog F_ask_Check #[(.agg #[(.int .i64 x_0), (.string x_1), (.string x_2), (.int .i64 x_3), (.slice x_4 x_4l x_4c)])] w5 fun v6 w6 =>
     Ext w5 w6 ∧
     ∃ t7 : Int, v6 = (.int .i64 t7) ∧
     ((t7 ≠ 0) →
      ∀ w8, Ext w w8 →
      Q (.tuple #[(.slice none 0 0), (.int .i64 t7)]) w8) ∧
     ((t7 = 0) →
      ∀ w8, Ext w w8 →
      FnP Try.prog F_need_Check #[(.agg #[(.int .i64 a_0), (.int .i64 a_1), (.int .i64 a_2)])] w8 fun v9 w9 =>
       Ext w8 w9 ∧
       ∃ t10 : Int, v9 = (.int .i64 t10) ∧
       ((t10 ≠ 0) →
        ∀ w11, Ext w w11 →
        Q (.tuple #[(.slice none 0 0), (.int .i64 t10)]) w11) ∧
       ((t10 = 0) →
        ∃ (I11 : Option Addr → Nat → Nat → Int → World → Prop) (M11 : Option Addr → Nat → Nat → Int → World → Nat), I11 none 0 0 0 w ∧
        ∀ (out12 : Option Addr) (outl12 : Nat) (outc12 : Nat) (k13 : Int) (w14 : World), I11 out12 outl12 outc12 k13 w14 →
         (((k13 < (ll : Int)) →
          l ≠ none ∧
          (0 : Int) ≤ k13 ∧
          (k13 : Int) < (ll : Int) ∧
          (pIdx l k13 8) ≠ none ∧
          ∃ t15 : ByteArray, cell w14 (pIdx l k13 8) 0 = some (.string t15) ∧
          ∃ t16 : Option Addr, ∃ tl17 : Nat, ∃ tc18 : Nat, cell w14 (pIdx l k13 8) 1 = some (.slice t16 tl17 tc18) ∧
          ∃ t19 : Int, cell w14 (pIdx l k13 8) 2 = some (.int .i64 t19) ∧
          ∃ t20 : Int, cell w14 (pIdx l k13 8) 3 = some (.int .i64 t20) ∧
          ∃ t21 : Int, cell w14 (pIdx l k13 8) 4 = some (.int .i64 t21) ∧
          ∃ t22 : Int, cell w14 (pIdx l k13 8) 5 = some (.int .i64 t22) ∧
          ∃ t23 : Int, cell w14 (pIdx l k13 8) 6 = some (.int .i64 t23) ∧
          ∃ t24 : Int, cell w14 (pIdx l k13 8) 7 = some (.int .i64 t24) ∧
          ∀ b25 : Nat, w14.heap.size ≤ b25 → ∀ w26, Ext w14 w26 →
          FnP Try.prog F_need_Sub #[(.agg #[(.int .i64 t19), (.int .i64 t20), (.int .i64 t21)]), (.agg #[(.int .i64 t22), (.int .i64 t23), (.int .i64 t24)])] w26 fun v27 w27 =>
           Ext w26 w27 ∧
           ∃ t_028 : Int, ∃ t_129 : Int, ∃ t_230 : Int, ∃ t31 : Int, v27 = (.tuple #[(.agg #[(.int .i64 t_028), (.int .i64 t_129), (.int .i64 t_230)]), (.int .i64 t31)]) ∧
           ∀ b32 : Nat, w14.heap.size ≤ b32 → ∀ w33, Ext w14 w33 →
           FnP Try.prog F_ask_Holds #[(.agg #[(.int .i64 x_0), (.string x_1), (.string x_2), (.int .i64 x_3), (.slice x_4 x_4l x_4c)]), (.agg #[(.string t15), (.slice t16 tl17 tc18), (.int .i64 t19), (.int .i64 t20), (.int .i64 t21), (.int .i64 t22), (.int .i64 t23), (.int .i64 t24)])] w33 fun v34 w34 =>
            Ext w33 w34 ∧
            ∃ t35 : Bool, ∃ t36 : Int, v34 = (.tuple #[(.bool t35), (.int .i64 t36)]) ∧
            ∀ w37, Ext w14 w37 →
            FnP Try.prog F_need_Fits #[(.agg #[(.int .i64 a_0), (.int .i64 a_1), (.int .i64 a_2)]), (.agg #[(.int .i64 t_028), (.int .i64 t_129), (.int .i64 t_230)])] w37 fun v38 w38 =>
             Ext w37 w38 ∧
             ∃ t39 : Bool, ∃ t40 : Int, v38 = (.tuple #[(.bool t39), (.int .i64 t40)]) ∧
             ((((t35 = true) ∧ (t39 = true)) →
              ∀ w41, ExtB [] [b0, b1, b25, b32] w14 w41 →
              Run Try.prog (.buildSlice 38 1 [(0, (.int .i64 k13))]) w41 fun v42 w42 =>
               Ext w41 w42 ∧
               ∃ t43 : Option Addr, ∃ tl44 : Nat, ∃ tc45 : Nat, v42 = (.slice t43 tl44 tc45) ∧
               ∀ w46, ExtB [] [b0, b1, b25, b32] w42 w46 →
               Run Try.prog (.append #[38, 38] 38 [(.slice out12 outl12 outc12), (.slice t43 tl44 tc45)]) w46 fun v47 w47 =>
                Kept [b0, b1, b25, b32] w46 w47 ∧
                ∃ t48 : Option Addr, ∃ tl49 : Nat, ∃ tc50 : Nat, v47 = (.slice t48 tl49 tc50) ∧
                InR .i64 (k13 + 1) ∧
                (I11 t48 tl49 tc50 (k13 + 1) w47 ∧ M11 t48 tl49 tc50 (k13 + 1) w47 < M11 out12 outl12 outc12 k13 w14))) ∧
             (((t35 = false) ∨ (t39 = false)) →
              InR .i64 (k13 + 1) ∧
              (I11 out12 outl12 outc12 (k13 + 1) w14 ∧ M11 out12 outl12 outc12 (k13 + 1) w14 < M11 out12 outl12 outc12 k13 w14)))) ∧
         (((ll : Int) ≤ k13) →
          ∀ w15, Ext w14 w15 →
          Q (.tuple #[(.slice out12 outl12 outc12), (.int .i64 0)]) w15))))

theorem ok_host_Fit (l : Option Addr) (ll : Nat) (lc : Nat) (x_0 : Int) (x_1 : ByteArray) (x_2 : ByteArray) (x_3 : Int) (x_4 : Option Addr) (x_4l : Nat) (x_4c : Nat) (a_0 : Int) (a_1 : Int) (a_2 : Int) (w : World) (Q : Value → World → Prop) (h : wp_host_Fit l ll lc x_0 x_1 x_2 x_3 x_4 x_4l x_4c a_0 a_1 a_2 w Q) : FnP Try.prog F_host_Fit #[(.slice l ll lc), (.agg #[(.int .i64 x_0), (.string x_1), (.string x_2), (.int .i64 x_3), (.slice x_4 x_4l x_4c)]), (.agg #[(.int .i64 a_0), (.int .i64 a_1), (.int .i64 a_2)])] w Q := by
  have e_ : wp_host_Fit l ll lc x_0 x_1 x_2 x_3 x_4 x_4l x_4c a_0 a_1 a_2 w Q = Runs Try.prog Q ({ N := 72, wrap := [], pub := [], muts := [], joins := [] } : Cfg) Try.f48 (Try.f48.body.getD .skip) [.sc (.slc l ll lc), .agg [.int .i64 x_0, .str x_1, .str x_2, .int .i64 x_3, .slc x_4 x_4l x_4c], .agg [.int .i64 a_0, .int .i64 a_1, .int .i64 a_2]] w := by kernel_rfl
  rw [e_] at h
  exact runs_fn h Try.func48 (by kernel_rfl) (fun args w => Try.call48 args w) (by kernel_rfl) (by kernel_rfl) rfl rfl

/-- shiftbell/host.Best -/
def wp_host_Best (l : Option Addr) (ll : Nat) (lc : Nat) (x_0 : Int) (x_1 : ByteArray) (x_2 : ByteArray) (x_3 : Int) (x_4 : Option Addr) (x_4l : Nat) (x_4c : Nat) (a_0 : Int) (a_1 : Int) (a_2 : Int) (w : World) (Q : Value → World → Prop) : Prop :=
  ∀ w0, Ext w w0 →
  New w0 22 [(.slice l ll lc)] fun p1 w1 =>
   ∀ b2 : Nat, w1.heap.size ≤ b2 → ∀ b3 : Nat, w1.heap.size ≤ b3 → ∃ t4 : Option Addr, ∃ tl5 : Nat, ∃ tc6 : Nat, cell w1 p1 0 = some (.slice t4 tl5 tc6) ∧
   ∀ w7, ExtB [] [b2, b3] w1 w7 →
   FnP Try.prog F_host_Fit #[(.slice t4 tl5 tc6), (.agg #[(.int .i64 x_0), (.string x_1), (.string x_2), (.int .i64 x_3), (.slice x_4 x_4l x_4c)]), (.agg #[(.int .i64 a_0), (.int .i64 a_1), (.int .i64 a_2)])] w7 fun v8 w8 =>
    Ext w7 w8 ∧
    ∃ t9 : Option Addr, ∃ tl10 : Nat, ∃ tc11 : Nat, ∃ t12 : Int, v8 = (.tuple #[(.slice t9 tl10 tc11), (.int .i64 t12)]) ∧
    ((t12 ≠ 0) →
     ∀ w13, Ext w8 w13 →
     Q (.tuple #[(.int .i64 0), (.int .i64 t12)]) w13) ∧
    ((t12 = 0) →
     (((tl10 : Int) = 0) →
      ∀ w13, Ext w8 w13 →
      Q (.tuple #[(.int .i64 0), (.int .i64 5)]) w13) ∧
     (((tl10 : Int) ≠ 0) →
      ∀ w13, ExtB [] [b2, b3] w8 w13 →
      New w13 112 [.nilFunc] fun p14 w14 =>
       Store w14 p14 [(.func (.func 49) #[] #[(.pointer p1)])] [b2, b3] fun w15 =>
        ∀ w16, Ext w15 w16 →
        FnP Try.prog F_slices_MinFunc_int_int #[(.slice t9 tl10 tc11), (.func (.func 52) #[] #[(.pointer p14)])] w16 fun v17 w17 =>
         Ext w16 w17 ∧
         ∃ t18 : Int, v17 = (.int .i64 t18) ∧
         ∀ w19, Ext w15 w19 →
         Q (.tuple #[(.int .i64 t18), (.int .i64 0)]) w19))

theorem ok_host_Best (l : Option Addr) (ll : Nat) (lc : Nat) (x_0 : Int) (x_1 : ByteArray) (x_2 : ByteArray) (x_3 : Int) (x_4 : Option Addr) (x_4l : Nat) (x_4c : Nat) (a_0 : Int) (a_1 : Int) (a_2 : Int) (w : World) (Q : Value → World → Prop) (h : wp_host_Best l ll lc x_0 x_1 x_2 x_3 x_4 x_4l x_4c a_0 a_1 a_2 w Q) : FnP Try.prog F_host_Best #[(.slice l ll lc), (.agg #[(.int .i64 x_0), (.string x_1), (.string x_2), (.int .i64 x_3), (.slice x_4 x_4l x_4c)]), (.agg #[(.int .i64 a_0), (.int .i64 a_1), (.int .i64 a_2)])] w Q := by
  have e_ : wp_host_Best l ll lc x_0 x_1 x_2 x_3 x_4 x_4l x_4c a_0 a_1 a_2 w Q = Runs Try.prog Q ({ N := 30, wrap := [], pub := [3, 10], muts := [], joins := [] } : Cfg) Try.f21 (Try.f21.body.getD .skip) [.sc (.slc l ll lc), .agg [.int .i64 x_0, .str x_1, .str x_2, .int .i64 x_3, .slc x_4 x_4l x_4c], .agg [.int .i64 a_0, .int .i64 a_1, .int .i64 a_2]] w := by kernel_rfl
  rw [e_] at h
  exact runs_fn h Try.func21 (by kernel_rfl) (fun args w => Try.call21 args w) (by kernel_rfl) (by kernel_rfl) rfl rfl

/-- shiftbell/host.Best$1 -/
def wp_host_Best_1 (i : Int) (c0 : Option Addr) (w : World) (Q : Value → World → Prop) : Prop :=
  ∀ b0 : Nat, w.heap.size ≤ b0 → ∃ (J1 : Option Addr → Int → World → Prop), (∃ t5 : Option Addr, ∃ tl6 : Nat, ∃ tc7 : Nat, cell w c0 0 = some (.slice t5 tl6 tc7) ∧
   t5 ≠ none ∧
   (0 : Int) ≤ i ∧
   (i : Int) < (tl6 : Int) ∧
   (pIdx t5 i 8) ≠ none ∧
   (pAdd (pIdx t5 i 8) 2) ≠ none ∧
   ∃ t8 : Int, cell w (pAdd (pIdx t5 i 8) 2) 0 = some (.int .i64 t8) ∧
   ∃ t9 : Int, cell w (pAdd (pIdx t5 i 8) 2) 1 = some (.int .i64 t9) ∧
   ∃ t10 : Int, cell w (pAdd (pIdx t5 i 8) 2) 2 = some (.int .i64 t10) ∧
   ∃ t11 : Option Addr, ∃ tl12 : Nat, ∃ tc13 : Nat, cell w c0 0 = some (.slice t11 tl12 tc13) ∧
   t11 ≠ none ∧
   (0 : Int) ≤ i ∧
   (i : Int) < (tl12 : Int) ∧
   (pIdx t11 i 8) ≠ none ∧
   (pAdd (pIdx t11 i 8) 5) ≠ none ∧
   ∃ t14 : Int, cell w (pAdd (pIdx t11 i 8) 5) 0 = some (.int .i64 t14) ∧
   ∃ t15 : Int, cell w (pAdd (pIdx t11 i 8) 5) 1 = some (.int .i64 t15) ∧
   ∃ t16 : Int, cell w (pAdd (pIdx t11 i 8) 5) 2 = some (.int .i64 t16) ∧
   (∀ w17, Ext w w17 →
   FnP Try.prog F_need_Sub #[(.agg #[(.int .i64 t8), (.int .i64 t9), (.int .i64 t10)]), (.agg #[(.int .i64 t14), (.int .i64 t15), (.int .i64 t16)])] w17 fun v18 w18 =>
    Ext w17 w18 ∧
    ∃ t_019 : Int, ∃ t_120 : Int, ∃ t_221 : Int, ∃ t22 : Int, v18 = (.tuple #[(.agg #[(.int .i64 t_019), (.int .i64 t_120), (.int .i64 t_221)]), (.int .i64 t22)]) ∧
    ∀ w23, ExtB [] [b0] w w23 →
    New w23 34 [(.int .i64 0), (.int .i64 0), (.int .i64 0)] fun p24 w24 =>
     Store w24 p24 [(.int .i64 t_019), (.int .i64 t_120), (.int .i64 t_221)] [b0] fun w25 =>
      J1 p24 t22 w25) ∧
   ∀ w17, ExtB [] [b0] w w17 →
   New w17 34 [(.int .i64 0), (.int .i64 0), (.int .i64 0)] fun p18 w18 =>
    ∀ w19, Ext w18 w19 →
    FnP Try.prog F_need_Sub #[(.agg #[(.int .i64 t8), (.int .i64 t9), (.int .i64 t10)]), (.agg #[(.int .i64 t14), (.int .i64 t15), (.int .i64 t16)])] w19 fun v20 w20 =>
     Ext w19 w20 ∧
     ∃ t_021 : Int, ∃ t_122 : Int, ∃ t_223 : Int, ∃ t24 : Int, v20 = (.tuple #[(.agg #[(.int .i64 t_021), (.int .i64 t_122), (.int .i64 t_223)]), (.int .i64 t24)]) ∧
     Store w18 p18 [(.int .i64 t_021), (.int .i64 t_122), (.int .i64 t_223)] [b0] fun w25 =>
      J1 p18 t24 w25) ∧
  ∀ (n2 : Option Addr) (_3 : Int) (w4 : World), J1 n2 _3 w4 →
   n2 ≠ none ∧
   ∃ t5 : Int, cell w4 n2 0 = some (.int .i64 t5) ∧
   ∃ t6 : Int, cell w4 n2 1 = some (.int .i64 t6) ∧
   ∃ t7 : Int, cell w4 n2 2 = some (.int .i64 t7) ∧
   ∀ w8, ExtB [b0] [] w4 w8 →
   Q (.agg #[(.int .i64 t5), (.int .i64 t6), (.int .i64 t7)]) w8

theorem ok_host_Best_1 (i : Int) (c0 : Option Addr) (w : World) (Q : Value → World → Prop) (h : wp_host_Best_1 i c0 w Q) : FnP Try.prog F_host_Best_1 #[(.int .i64 i), (.pointer c0)] w Q := by
  have e_ : wp_host_Best_1 i c0 w Q = Runs Try.prog Q ({ N := 21, wrap := [], pub := [4], muts := [], joins := [] } : Cfg) Try.f49 (Try.f49.body.getD .skip) [.sc (.int .i64 i), .sc (.ptr c0)] w := by kernel_rfl
  rw [e_] at h
  exact runs_fn h Try.func49 (by kernel_rfl) (fun args w => Try.call49 args w) (by kernel_rfl) (by kernel_rfl) rfl rfl

/-- shiftbell/host.Best$2 -/
def wp_host_Best_2 (i : Int) (k : Int) (c0 : Option Addr) (w : World) (Q : Value → World → Prop) : Prop :=
  ∃ (J0 : Option Addr → Option Addr → World → Prop), (∃ t4 : Value, cell w c0 0 = some t4 ∧
   ∃ t5 : Value, cell w c0 0 = some t5 ∧
   (∀ w6, Ext w w6 →
   FnVP Try.prog t4 [(.int .i64 i)] w6 fun v7 w7 =>
    Ext w6 w7 ∧
    ∃ t_08 : Int, ∃ t_19 : Int, ∃ t_210 : Int, v7 = (.agg #[(.int .i64 t_08), (.int .i64 t_19), (.int .i64 t_210)]) ∧
    (∀ w11, Ext w w11 →
    FnVP Try.prog t5 [(.int .i64 k)] w11 fun v12 w12 =>
     Ext w11 w12 ∧
     ∃ t_013 : Int, ∃ t_114 : Int, ∃ t_215 : Int, v12 = (.agg #[(.int .i64 t_013), (.int .i64 t_114), (.int .i64 t_215)]) ∧
     (∀ w16, Ext w w16 →
     New w16 34 [(.int .i64 0), (.int .i64 0), (.int .i64 0)] fun p17 w17 =>
      ∀ w18, Ext w17 w18 →
      New w18 34 [(.int .i64 0), (.int .i64 0), (.int .i64 0)] fun p19 w19 =>
       Store w19 p17 [(.int .i64 t_08), (.int .i64 t_19), (.int .i64 t_210)] [] fun w20 =>
        Store w20 p19 [(.int .i64 t_013), (.int .i64 t_114), (.int .i64 t_215)] [] fun w21 =>
         J0 p17 p19 w21) ∧
     ∀ w16, Ext w w16 →
     New w16 34 [(.int .i64 0), (.int .i64 0), (.int .i64 0)] fun p17 w17 =>
      ∀ w18, Ext w17 w18 →
      New w18 34 [(.int .i64 0), (.int .i64 0), (.int .i64 0)] fun p19 w19 =>
       Store w19 p19 [(.int .i64 t_08), (.int .i64 t_19), (.int .i64 t_210)] [] fun w20 =>
        Store w20 p17 [(.int .i64 t_013), (.int .i64 t_114), (.int .i64 t_215)] [] fun w21 =>
         J0 p19 p17 w21) ∧
    (∀ w11, Ext w w11 →
    New w11 34 [(.int .i64 0), (.int .i64 0), (.int .i64 0)] fun p12 w12 =>
     (∀ w13, Ext w12 w13 →
     FnVP Try.prog t5 [(.int .i64 k)] w13 fun v14 w14 =>
      Ext w13 w14 ∧
      ∃ t_015 : Int, ∃ t_116 : Int, ∃ t_217 : Int, v14 = (.agg #[(.int .i64 t_015), (.int .i64 t_116), (.int .i64 t_217)]) ∧
      ∀ w18, Ext w12 w18 →
      New w18 34 [(.int .i64 0), (.int .i64 0), (.int .i64 0)] fun p19 w19 =>
       Store w19 p12 [(.int .i64 t_08), (.int .i64 t_19), (.int .i64 t_210)] [] fun w20 =>
        Store w20 p19 [(.int .i64 t_015), (.int .i64 t_116), (.int .i64 t_217)] [] fun w21 =>
         J0 p12 p19 w21) ∧
     ∀ w13, Ext w12 w13 →
     New w13 34 [(.int .i64 0), (.int .i64 0), (.int .i64 0)] fun p14 w14 =>
      ∀ w15, Ext w14 w15 →
      FnVP Try.prog t5 [(.int .i64 k)] w15 fun v16 w16 =>
       Ext w15 w16 ∧
       ∃ t_017 : Int, ∃ t_118 : Int, ∃ t_219 : Int, v16 = (.agg #[(.int .i64 t_017), (.int .i64 t_118), (.int .i64 t_219)]) ∧
       Store w14 p12 [(.int .i64 t_08), (.int .i64 t_19), (.int .i64 t_210)] [] fun w20 =>
        Store w20 p14 [(.int .i64 t_017), (.int .i64 t_118), (.int .i64 t_219)] [] fun w21 =>
         J0 p12 p14 w21) ∧
    ∀ w11, Ext w w11 →
    New w11 34 [(.int .i64 0), (.int .i64 0), (.int .i64 0)] fun p12 w12 =>
     (∀ w13, Ext w12 w13 →
     FnVP Try.prog t5 [(.int .i64 k)] w13 fun v14 w14 =>
      Ext w13 w14 ∧
      ∃ t_015 : Int, ∃ t_116 : Int, ∃ t_217 : Int, v14 = (.agg #[(.int .i64 t_015), (.int .i64 t_116), (.int .i64 t_217)]) ∧
      ∀ w18, Ext w12 w18 →
      New w18 34 [(.int .i64 0), (.int .i64 0), (.int .i64 0)] fun p19 w19 =>
       Store w19 p19 [(.int .i64 t_08), (.int .i64 t_19), (.int .i64 t_210)] [] fun w20 =>
        Store w20 p12 [(.int .i64 t_015), (.int .i64 t_116), (.int .i64 t_217)] [] fun w21 =>
         J0 p19 p12 w21) ∧
     ∀ w13, Ext w12 w13 →
     New w13 34 [(.int .i64 0), (.int .i64 0), (.int .i64 0)] fun p14 w14 =>
      ∀ w15, Ext w14 w15 →
      FnVP Try.prog t5 [(.int .i64 k)] w15 fun v16 w16 =>
       Ext w15 w16 ∧
       ∃ t_017 : Int, ∃ t_118 : Int, ∃ t_219 : Int, v16 = (.agg #[(.int .i64 t_017), (.int .i64 t_118), (.int .i64 t_219)]) ∧
       Store w14 p14 [(.int .i64 t_08), (.int .i64 t_19), (.int .i64 t_210)] [] fun w20 =>
        Store w20 p12 [(.int .i64 t_017), (.int .i64 t_118), (.int .i64 t_219)] [] fun w21 =>
         J0 p14 p12 w21) ∧
   (∀ w6, Ext w w6 →
   New w6 34 [(.int .i64 0), (.int .i64 0), (.int .i64 0)] fun p7 w7 =>
    (∀ w8, Ext w7 w8 →
    FnVP Try.prog t4 [(.int .i64 i)] w8 fun v9 w9 =>
     Ext w8 w9 ∧
     ∃ t_010 : Int, ∃ t_111 : Int, ∃ t_212 : Int, v9 = (.agg #[(.int .i64 t_010), (.int .i64 t_111), (.int .i64 t_212)]) ∧
     (∀ w13, Ext w7 w13 →
     FnVP Try.prog t5 [(.int .i64 k)] w13 fun v14 w14 =>
      Ext w13 w14 ∧
      ∃ t_015 : Int, ∃ t_116 : Int, ∃ t_217 : Int, v14 = (.agg #[(.int .i64 t_015), (.int .i64 t_116), (.int .i64 t_217)]) ∧
      ∀ w18, Ext w7 w18 →
      New w18 34 [(.int .i64 0), (.int .i64 0), (.int .i64 0)] fun p19 w19 =>
       Store w19 p7 [(.int .i64 t_010), (.int .i64 t_111), (.int .i64 t_212)] [] fun w20 =>
        Store w20 p19 [(.int .i64 t_015), (.int .i64 t_116), (.int .i64 t_217)] [] fun w21 =>
         J0 p7 p19 w21) ∧
     ∀ w13, Ext w7 w13 →
     New w13 34 [(.int .i64 0), (.int .i64 0), (.int .i64 0)] fun p14 w14 =>
      ∀ w15, Ext w14 w15 →
      FnVP Try.prog t5 [(.int .i64 k)] w15 fun v16 w16 =>
       Ext w15 w16 ∧
       ∃ t_017 : Int, ∃ t_118 : Int, ∃ t_219 : Int, v16 = (.agg #[(.int .i64 t_017), (.int .i64 t_118), (.int .i64 t_219)]) ∧
       Store w14 p7 [(.int .i64 t_010), (.int .i64 t_111), (.int .i64 t_212)] [] fun w20 =>
        Store w20 p14 [(.int .i64 t_017), (.int .i64 t_118), (.int .i64 t_219)] [] fun w21 =>
         J0 p7 p14 w21) ∧
    ∀ w8, Ext w7 w8 →
    New w8 34 [(.int .i64 0), (.int .i64 0), (.int .i64 0)] fun p9 w9 =>
     ∀ w10, Ext w9 w10 →
     FnVP Try.prog t4 [(.int .i64 i)] w10 fun v11 w11 =>
      Ext w10 w11 ∧
      ∃ t_012 : Int, ∃ t_113 : Int, ∃ t_214 : Int, v11 = (.agg #[(.int .i64 t_012), (.int .i64 t_113), (.int .i64 t_214)]) ∧
      ∀ w15, Ext w9 w15 →
      FnVP Try.prog t5 [(.int .i64 k)] w15 fun v16 w16 =>
       Ext w15 w16 ∧
       ∃ t_017 : Int, ∃ t_118 : Int, ∃ t_219 : Int, v16 = (.agg #[(.int .i64 t_017), (.int .i64 t_118), (.int .i64 t_219)]) ∧
       Store w9 p7 [(.int .i64 t_012), (.int .i64 t_113), (.int .i64 t_214)] [] fun w20 =>
        Store w20 p9 [(.int .i64 t_017), (.int .i64 t_118), (.int .i64 t_219)] [] fun w21 =>
         J0 p7 p9 w21) ∧
   ∀ w6, Ext w w6 →
   New w6 34 [(.int .i64 0), (.int .i64 0), (.int .i64 0)] fun p7 w7 =>
    (∀ w8, Ext w7 w8 →
    FnVP Try.prog t4 [(.int .i64 i)] w8 fun v9 w9 =>
     Ext w8 w9 ∧
     ∃ t_010 : Int, ∃ t_111 : Int, ∃ t_212 : Int, v9 = (.agg #[(.int .i64 t_010), (.int .i64 t_111), (.int .i64 t_212)]) ∧
     (∀ w13, Ext w7 w13 →
     FnVP Try.prog t5 [(.int .i64 k)] w13 fun v14 w14 =>
      Ext w13 w14 ∧
      ∃ t_015 : Int, ∃ t_116 : Int, ∃ t_217 : Int, v14 = (.agg #[(.int .i64 t_015), (.int .i64 t_116), (.int .i64 t_217)]) ∧
      ∀ w18, Ext w7 w18 →
      New w18 34 [(.int .i64 0), (.int .i64 0), (.int .i64 0)] fun p19 w19 =>
       Store w19 p19 [(.int .i64 t_010), (.int .i64 t_111), (.int .i64 t_212)] [] fun w20 =>
        Store w20 p7 [(.int .i64 t_015), (.int .i64 t_116), (.int .i64 t_217)] [] fun w21 =>
         J0 p19 p7 w21) ∧
     ∀ w13, Ext w7 w13 →
     New w13 34 [(.int .i64 0), (.int .i64 0), (.int .i64 0)] fun p14 w14 =>
      ∀ w15, Ext w14 w15 →
      FnVP Try.prog t5 [(.int .i64 k)] w15 fun v16 w16 =>
       Ext w15 w16 ∧
       ∃ t_017 : Int, ∃ t_118 : Int, ∃ t_219 : Int, v16 = (.agg #[(.int .i64 t_017), (.int .i64 t_118), (.int .i64 t_219)]) ∧
       Store w14 p14 [(.int .i64 t_010), (.int .i64 t_111), (.int .i64 t_212)] [] fun w20 =>
        Store w20 p7 [(.int .i64 t_017), (.int .i64 t_118), (.int .i64 t_219)] [] fun w21 =>
         J0 p14 p7 w21) ∧
    ∀ w8, Ext w7 w8 →
    New w8 34 [(.int .i64 0), (.int .i64 0), (.int .i64 0)] fun p9 w9 =>
     ∀ w10, Ext w9 w10 →
     FnVP Try.prog t4 [(.int .i64 i)] w10 fun v11 w11 =>
      Ext w10 w11 ∧
      ∃ t_012 : Int, ∃ t_113 : Int, ∃ t_214 : Int, v11 = (.agg #[(.int .i64 t_012), (.int .i64 t_113), (.int .i64 t_214)]) ∧
      ∀ w15, Ext w9 w15 →
      FnVP Try.prog t5 [(.int .i64 k)] w15 fun v16 w16 =>
       Ext w15 w16 ∧
       ∃ t_017 : Int, ∃ t_118 : Int, ∃ t_219 : Int, v16 = (.agg #[(.int .i64 t_017), (.int .i64 t_118), (.int .i64 t_219)]) ∧
       Store w9 p9 [(.int .i64 t_012), (.int .i64 t_113), (.int .i64 t_214)] [] fun w20 =>
        Store w20 p7 [(.int .i64 t_017), (.int .i64 t_118), (.int .i64 t_219)] [] fun w21 =>
         J0 p9 p7 w21) ∧
  ∀ (a1 : Option Addr) (b2 : Option Addr) (w3 : World), J0 a1 b2 w3 →
   a1 ≠ none ∧
   ∃ t4 : Int, cell w3 (pAdd a1 0) 0 = some (.int .i64 t4) ∧
   b2 ≠ none ∧
   ∃ t5 : Int, cell w3 (pAdd b2 0) 0 = some (.int .i64 t5) ∧
   a1 ≠ none ∧
   ∃ t6 : Int, cell w3 (pAdd a1 1) 0 = some (.int .i64 t6) ∧
   b2 ≠ none ∧
   ∃ t7 : Int, cell w3 (pAdd b2 1) 0 = some (.int .i64 t7) ∧
   a1 ≠ none ∧
   ∃ t8 : Int, cell w3 (pAdd a1 2) 0 = some (.int .i64 t8) ∧
   b2 ≠ none ∧
   ∃ t9 : Int, cell w3 (pAdd b2 2) 0 = some (.int .i64 t9) ∧
   ∀ w10, Ext w3 w10 →
   FnP Try.prog F_cmp_Compare_int64 #[(.int .i64 t4), (.int .i64 t5)] w10 fun v11 w11 =>
    Ext w10 w11 ∧
    ∃ t12 : Int, v11 = (.int .i64 t12) ∧
    ∀ w13, Ext w3 w13 →
    FnP Try.prog F_cmp_Compare_int64 #[(.int .i64 t6), (.int .i64 t7)] w13 fun v14 w14 =>
     Ext w13 w14 ∧
     ∃ t15 : Int, v14 = (.int .i64 t15) ∧
     ∀ w16, Ext w3 w16 →
     FnP Try.prog F_cmp_Compare_int64 #[(.int .i64 t8), (.int .i64 t9)] w16 fun v17 w17 =>
      Ext w16 w17 ∧
      ∃ t18 : Int, v17 = (.int .i64 t18) ∧
      ∀ w19, Ext w3 w19 →
      Run Try.prog (.buildSlice 38 3 [(0, (.int .i64 t12)), (1, (.int .i64 t15)), (2, (.int .i64 t18))]) w19 fun v20 w20 =>
       Ext w19 w20 ∧
       ∃ t21 : Option Addr, ∃ tl22 : Nat, ∃ tc23 : Nat, v20 = (.slice t21 tl22 tc23) ∧
       ∀ w24, Ext w20 w24 →
       FnP Try.prog F_cmp_Or_int #[(.slice t21 tl22 tc23)] w24 fun v25 w25 =>
        Ext w24 w25 ∧
        ∃ t26 : Int, v25 = (.int .i64 t26) ∧
        ∀ w27, Ext w20 w27 →
        Q (.int .i64 t26) w27

theorem ok_host_Best_2 (i : Int) (k : Int) (c0 : Option Addr) (w : World) (Q : Value → World → Prop) (h : wp_host_Best_2 i k c0 w Q) : FnP Try.prog F_host_Best_2 #[(.int .i64 i), (.int .i64 k), (.pointer c0)] w Q := by
  have e_ : wp_host_Best_2 i k c0 w Q = Runs Try.prog Q ({ N := 31, wrap := [], pub := [6, 7], muts := [], joins := [] } : Cfg) Try.f52 (Try.f52.body.getD .skip) [.sc (.int .i64 i), .sc (.int .i64 k), .sc (.ptr c0)] w := by kernel_rfl
  rw [e_] at h
  exact runs_fn h Try.func52 (by kernel_rfl) (fun args w => Try.call52 args w) (by kernel_rfl) (by kernel_rfl) rfl rfl

/-- slices.MinFunc[[]int,int] -/
def wp_slices_MinFunc_int_int (x : Option Addr) (xl : Nat) (xc : Nat) (cmp : Value) (w : World) (Q : Value → World → Prop) : Prop :=
  ((((xl : Int) < 1) →
   ∀ w0, Ext w w0 →
   Run Try.prog (.makeInterface 9 (.string (⟨#[115, 108, 105, 99, 101, 115, 46, 77, 105, 110, 70, 117, 110, 99, 58, 32, 101, 109, 112, 116, 121, 32, 108, 105, 115, 116]⟩ : ByteArray))) w0 fun v1 w1 =>
    Ext w0 w1 ∧
    ∃ t2 : Value, v1 = t2 ∧
    sxFail)) ∧
  ((1 ≤ (xl : Int)) →
   x ≠ none ∧
   (0 : Int) ≤ 0 ∧
   (0 : Int) < (xl : Int) ∧
   ∃ t0 : Int, cell w (pIdx x 0 1) 0 = some (.int .i64 t0) ∧
   ∃ (I1 : Int → Int → World → Prop) (M1 : Int → Int → World → Nat), I1 t0 1 w ∧
   ∀ (m2 : Int) (i3 : Int) (w4 : World), I1 m2 i3 w4 →
    (((i3 < (xl : Int)) →
     x ≠ none ∧
     (0 : Int) ≤ i3 ∧
     (i3 : Int) < (xl : Int) ∧
     ∃ t5 : Int, cell w4 (pIdx x i3 1) 0 = some (.int .i64 t5) ∧
     ∀ w6, Ext w4 w6 →
     FnVP Try.prog cmp [(.int .i64 t5), (.int .i64 m2)] w6 fun v7 w7 =>
      Ext w6 w7 ∧
      ∃ t8 : Int, v7 = (.int .i64 t8) ∧
      (((t8 < 0) →
       x ≠ none ∧
       (0 : Int) ≤ i3 ∧
       (i3 : Int) < (xl : Int) ∧
       ∃ t9 : Int, cell w4 (pIdx x i3 1) 0 = some (.int .i64 t9) ∧
       InR .i64 (i3 + 1) ∧
       (I1 t9 (i3 + 1) w4 ∧ M1 t9 (i3 + 1) w4 < M1 m2 i3 w4))) ∧
      ((0 ≤ t8) →
       InR .i64 (i3 + 1) ∧
       (I1 m2 (i3 + 1) w4 ∧ M1 m2 (i3 + 1) w4 < M1 m2 i3 w4)))) ∧
    (((xl : Int) ≤ i3) →
     ∀ w5, Ext w4 w5 →
     Q (.int .i64 m2) w5))

theorem ok_slices_MinFunc_int_int (x : Option Addr) (xl : Nat) (xc : Nat) (cmp : Value) (w : World) (Q : Value → World → Prop) (h : wp_slices_MinFunc_int_int x xl xc cmp w Q) : FnP Try.prog F_slices_MinFunc_int_int #[(.slice x xl xc), cmp] w Q := by
  have e_ : wp_slices_MinFunc_int_int x xl xc cmp w Q = Runs Try.prog Q ({ N := 33, wrap := [], pub := [], muts := [], joins := [] } : Cfg) Try.f51 (Try.f51.body.getD .skip) [.sc (.slc x xl xc), .sc (.val cmp)] w := by kernel_rfl
  rw [e_] at h
  exact runs_fn h Try.func51 (by kernel_rfl) (fun args w => Try.call51 args w) (by kernel_rfl) (by kernel_rfl) rfl rfl

/-- cmp.Or[int] -/
def wp_cmp_Or_int (vals : Option Addr) (valsl : Nat) (valsc : Nat) (w : World) (Q : Value → World → Prop) : Prop :=
  ∃ (I0 : Int → World → Prop) (M0 : Int → World → Nat), I0 0 w ∧
  ∀ (k1 : Int) (w2 : World), I0 k1 w2 →
   (((k1 < (valsl : Int)) →
    vals ≠ none ∧
    (0 : Int) ≤ k1 ∧
    (k1 : Int) < (valsl : Int) ∧
    ∃ t3 : Int, cell w2 (pIdx vals k1 1) 0 = some (.int .i64 t3) ∧
    ((t3 ≠ 0) →
     ∀ w4, Ext w2 w4 →
     Q (.int .i64 t3) w4) ∧
    ((t3 = 0) →
     InR .i64 (k1 + 1) ∧
     (I0 (k1 + 1) w2 ∧ M0 (k1 + 1) w2 < M0 k1 w2)))) ∧
   (((valsl : Int) ≤ k1) →
    ∀ w3, Ext w2 w3 →
    Q (.int .i64 0) w3)

theorem ok_cmp_Or_int (vals : Option Addr) (valsl : Nat) (valsc : Nat) (w : World) (Q : Value → World → Prop) (h : wp_cmp_Or_int vals valsl valsc w Q) : FnP Try.prog F_cmp_Or_int #[(.slice vals valsl valsc)] w Q := by
  have e_ : wp_cmp_Or_int vals valsl valsc w Q = Runs Try.prog Q ({ N := 18, wrap := [], pub := [], muts := [], joins := [] } : Cfg) Try.f53 (Try.f53.body.getD .skip) [.sc (.slc vals valsl valsc)] w := by kernel_rfl
  rw [e_] at h
  exact runs_fn h Try.func53 (by kernel_rfl) (fun args w => Try.call53 args w) (by kernel_rfl) (by kernel_rfl) rfl rfl

/-- cmp.Compare[int64] -/
def wp_cmp_Compare_int64 (x : Int) (y : Int) (w : World) (Q : Value → World → Prop) : Prop :=
  ∀ w0, Ext w w0 →
  FnP Try.prog F_cmp_isNaN_int64 #[(.int .i64 x)] w0 fun v1 w1 =>
   Ext w0 w1 ∧
   ∃ t2 : Bool, v1 = (.bool t2) ∧
   ∀ w3, Ext w w3 →
   FnP Try.prog F_cmp_isNaN_int64 #[(.int .i64 y)] w3 fun v4 w4 =>
    Ext w3 w4 ∧
    ∃ t5 : Bool, v4 = (.bool t5) ∧
    (((t2 = true) →
     ((t5 = true) →
      ∀ w6, Ext w w6 →
      Q (.int .i64 0) w6) ∧
     ((t5 = false) →
      ∀ w6, Ext w w6 →
      Q (.int .i64 (-1)) w6))) ∧
    ((t2 = false) →
     ((t5 = true) →
      ∀ w6, Ext w w6 →
      Q (.int .i64 1) w6) ∧
     ((t5 = false) →
      ((x < y) →
       ∀ w6, Ext w w6 →
       Q (.int .i64 (-1)) w6) ∧
      ((y ≤ x) →
       ((y < x) →
        ∀ w6, Ext w w6 →
        Q (.int .i64 1) w6) ∧
       ((x ≤ y) →
        ∀ w6, Ext w w6 →
        Q (.int .i64 0) w6))))

theorem ok_cmp_Compare_int64 (x : Int) (y : Int) (w : World) (Q : Value → World → Prop) (h : wp_cmp_Compare_int64 x y w Q) : FnP Try.prog F_cmp_Compare_int64 #[(.int .i64 x), (.int .i64 y)] w Q := by
  have e_ : wp_cmp_Compare_int64 x y w Q = Runs Try.prog Q ({ N := 20, wrap := [], pub := [], muts := [], joins := [] } : Cfg) Try.f54 (Try.f54.body.getD .skip) [.sc (.int .i64 x), .sc (.int .i64 y)] w := by kernel_rfl
  rw [e_] at h
  exact runs_fn h Try.func54 (by kernel_rfl) (fun args w => Try.call54 args w) (by kernel_rfl) (by kernel_rfl) rfl rfl

/-- cmp.isNaN[int64] -/
def wp_cmp_isNaN_int64 (x : Int) (w : World) (Q : Value → World → Prop) : Prop :=
  ∀ w0, Ext w w0 →
  Q (.bool (decide (x ≠ x))) w0

theorem ok_cmp_isNaN_int64 (x : Int) (w : World) (Q : Value → World → Prop) (h : wp_cmp_isNaN_int64 x w Q) : FnP Try.prog F_cmp_isNaN_int64 #[(.int .i64 x)] w Q := by
  have e_ : wp_cmp_isNaN_int64 x w Q = Runs Try.prog Q ({ N := 6, wrap := [], pub := [], muts := [], joins := [] } : Cfg) Try.f82 (Try.f82.body.getD .skip) [.sc (.int .i64 x)] w := by kernel_rfl
  rw [e_] at h
  exact runs_fn h Try.func82 (by kernel_rfl) (fun args w => Try.call82 args w) (by kernel_rfl) (by kernel_rfl) rfl rfl

/-- slices.ContainsFunc[[]int,int] -/
def wp_slices_ContainsFunc_int_int (s : Option Addr) (sl : Nat) (sc : Nat) (f : Value) (w : World) (Q : Value → World → Prop) : Prop :=
  ∀ w0, Ext w w0 →
  FnP Try.prog F_slices_IndexFunc_int_int #[(.slice s sl sc), f] w0 fun v1 w1 =>
   Ext w0 w1 ∧
   ∃ t2 : Int, v1 = (.int .i64 t2) ∧
   ∀ w3, Ext w w3 →
   Q (.bool (decide (0 ≤ t2))) w3

theorem ok_slices_ContainsFunc_int_int (s : Option Addr) (sl : Nat) (sc : Nat) (f : Value) (w : World) (Q : Value → World → Prop) (h : wp_slices_ContainsFunc_int_int s sl sc f w Q) : FnP Try.prog F_slices_ContainsFunc_int_int #[(.slice s sl sc), f] w Q := by
  have e_ : wp_slices_ContainsFunc_int_int s sl sc f w Q = Runs Try.prog Q ({ N := 9, wrap := [], pub := [], muts := [], joins := [] } : Cfg) Try.f75 (Try.f75.body.getD .skip) [.sc (.slc s sl sc), .sc (.val f)] w := by kernel_rfl
  rw [e_] at h
  exact runs_fn h Try.func75 (by kernel_rfl) (fun args w => Try.call75 args w) (by kernel_rfl) (by kernel_rfl) rfl rfl

/-- slices.IndexFunc[[]int,int] -/
def wp_slices_IndexFunc_int_int (s : Option Addr) (sl : Nat) (sc : Nat) (f : Value) (w : World) (Q : Value → World → Prop) : Prop :=
  ∃ (I0 : Int → World → Prop) (M0 : Int → World → Nat), I0 0 w ∧
  ∀ (k1 : Int) (w2 : World), I0 k1 w2 →
   (((k1 < (sl : Int)) →
    s ≠ none ∧
    (0 : Int) ≤ k1 ∧
    (k1 : Int) < (sl : Int) ∧
    ∃ t3 : Int, cell w2 (pIdx s k1 1) 0 = some (.int .i64 t3) ∧
    ∀ w4, Ext w2 w4 →
    FnVP Try.prog f [(.int .i64 t3)] w4 fun v5 w5 =>
     Ext w4 w5 ∧
     ∃ t6 : Bool, v5 = (.bool t6) ∧
     ((t6 = true) →
      ∀ w7, Ext w2 w7 →
      Q (.int .i64 k1) w7) ∧
     ((t6 = false) →
      InR .i64 (k1 + 1) ∧
      (I0 (k1 + 1) w2 ∧ M0 (k1 + 1) w2 < M0 k1 w2)))) ∧
   (((sl : Int) ≤ k1) →
    ∀ w3, Ext w2 w3 →
    Q (.int .i64 (-1)) w3)

theorem ok_slices_IndexFunc_int_int (s : Option Addr) (sl : Nat) (sc : Nat) (f : Value) (w : World) (Q : Value → World → Prop) (h : wp_slices_IndexFunc_int_int s sl sc f w Q) : FnP Try.prog F_slices_IndexFunc_int_int #[(.slice s sl sc), f] w Q := by
  have e_ : wp_slices_IndexFunc_int_int s sl sc f w Q = Runs Try.prog Q ({ N := 19, wrap := [], pub := [], muts := [], joins := [] } : Cfg) Try.f89 (Try.f89.body.getD .skip) [.sc (.slc s sl sc), .sc (.val f)] w := by kernel_rfl
  rw [e_] at h
  exact runs_fn h Try.func89 (by kernel_rfl) (fun args w => Try.call89 args w) (by kernel_rfl) (by kernel_rfl) rfl rfl

/-- slices.EqualFunc[[]shiftbell/api.Host,[]shiftbell/api.Host,shiftbell/api.Host,shiftbell/api.Host] -/
def wp_slices_EqualFunc_api_Host_api_Host_api_Host_api_Host (s1 : Option Addr) (s1l : Nat) (s1c : Nat) (s2 : Option Addr) (s2l : Nat) (s2c : Nat) (eq : Value) (w : World) (Q : Value → World → Prop) : Prop :=
  (((s1l : Int) ≠ (s2l : Int)) →
   ∀ w0, Ext w w0 →
   Q (.bool false) w0) ∧
  (((s1l : Int) = (s2l : Int)) →
   ∃ (I0 : Int → World → Prop) (M0 : Int → World → Nat), I0 0 w ∧
   ∀ (k1 : Int) (w2 : World), I0 k1 w2 →
    (((k1 < (s1l : Int)) →
     s1 ≠ none ∧
     (0 : Int) ≤ k1 ∧
     (k1 : Int) < (s1l : Int) ∧
     (pIdx s1 k1 8) ≠ none ∧
     ∃ t3 : ByteArray, cell w2 (pIdx s1 k1 8) 0 = some (.string t3) ∧
     ∃ t4 : Option Addr, ∃ tl5 : Nat, ∃ tc6 : Nat, cell w2 (pIdx s1 k1 8) 1 = some (.slice t4 tl5 tc6) ∧
     ∃ t7 : Int, cell w2 (pIdx s1 k1 8) 2 = some (.int .i64 t7) ∧
     ∃ t8 : Int, cell w2 (pIdx s1 k1 8) 3 = some (.int .i64 t8) ∧
     ∃ t9 : Int, cell w2 (pIdx s1 k1 8) 4 = some (.int .i64 t9) ∧
     ∃ t10 : Int, cell w2 (pIdx s1 k1 8) 5 = some (.int .i64 t10) ∧
     ∃ t11 : Int, cell w2 (pIdx s1 k1 8) 6 = some (.int .i64 t11) ∧
     ∃ t12 : Int, cell w2 (pIdx s1 k1 8) 7 = some (.int .i64 t12) ∧
     ∀ b13 : Nat, w2.heap.size ≤ b13 → s2 ≠ none ∧
     (0 : Int) ≤ k1 ∧
     (k1 : Int) < (s2l : Int) ∧
     (pIdx s2 k1 8) ≠ none ∧
     ∃ t14 : ByteArray, cell w2 (pIdx s2 k1 8) 0 = some (.string t14) ∧
     ∃ t15 : Option Addr, ∃ tl16 : Nat, ∃ tc17 : Nat, cell w2 (pIdx s2 k1 8) 1 = some (.slice t15 tl16 tc17) ∧
     ∃ t18 : Int, cell w2 (pIdx s2 k1 8) 2 = some (.int .i64 t18) ∧
     ∃ t19 : Int, cell w2 (pIdx s2 k1 8) 3 = some (.int .i64 t19) ∧
     ∃ t20 : Int, cell w2 (pIdx s2 k1 8) 4 = some (.int .i64 t20) ∧
     ∃ t21 : Int, cell w2 (pIdx s2 k1 8) 5 = some (.int .i64 t21) ∧
     ∃ t22 : Int, cell w2 (pIdx s2 k1 8) 6 = some (.int .i64 t22) ∧
     ∃ t23 : Int, cell w2 (pIdx s2 k1 8) 7 = some (.int .i64 t23) ∧
     ∀ b24 : Nat, w2.heap.size ≤ b24 → ∀ w25, Ext w2 w25 →
     FnVP Try.prog eq [(.agg #[(.string t3), (.slice t4 tl5 tc6), (.int .i64 t7), (.int .i64 t8), (.int .i64 t9), (.int .i64 t10), (.int .i64 t11), (.int .i64 t12)]), (.agg #[(.string t14), (.slice t15 tl16 tc17), (.int .i64 t18), (.int .i64 t19), (.int .i64 t20), (.int .i64 t21), (.int .i64 t22), (.int .i64 t23)])] w25 fun v26 w26 =>
      Ext w25 w26 ∧
      ∃ t27 : Bool, v26 = (.bool t27) ∧
      ((t27 = false) →
       ∀ w28, Ext w2 w28 →
       Q (.bool false) w28) ∧
      ((t27 = true) →
       InR .i64 (k1 + 1) ∧
       (I0 (k1 + 1) w2 ∧ M0 (k1 + 1) w2 < M0 k1 w2)))) ∧
    (((s1l : Int) ≤ k1) →
     ∀ w3, Ext w2 w3 →
     Q (.bool true) w3))

theorem ok_slices_EqualFunc_api_Host_api_Host_api_Host_api_Host (s1 : Option Addr) (s1l : Nat) (s1c : Nat) (s2 : Option Addr) (s2l : Nat) (s2c : Nat) (eq : Value) (w : World) (Q : Value → World → Prop) (h : wp_slices_EqualFunc_api_Host_api_Host_api_Host_api_Host s1 s1l s1c s2 s2l s2c eq w Q) : FnP Try.prog F_slices_EqualFunc_api_Host_api_Host_api_Host_api_Host #[(.slice s1 s1l s1c), (.slice s2 s2l s2c), eq] w Q := by
  have e_ : wp_slices_EqualFunc_api_Host_api_Host_api_Host_api_Host s1 s1l s1c s2 s2l s2c eq w Q = Runs Try.prog Q ({ N := 32, wrap := [], pub := [], muts := [], joins := [] } : Cfg) Try.f57 (Try.f57.body.getD .skip) [.sc (.slc s1 s1l s1c), .sc (.slc s2 s2l s2c), .sc (.val eq)] w := by kernel_rfl
  rw [e_] at h
  exact runs_fn h Try.func57 (by kernel_rfl) (fun args w => Try.call57 args w) (by kernel_rfl) (by kernel_rfl) rfl rfl

/-- slices.Equal[[]shiftbell/api.Label,shiftbell/api.Label] -/
def wp_slices_Equal_api_Label_api_Label (s1 : Option Addr) (s1l : Nat) (s1c : Nat) (s2 : Option Addr) (s2l : Nat) (s2c : Nat) (w : World) (Q : Value → World → Prop) : Prop :=
  (((s1l : Int) ≠ (s2l : Int)) →
   ∀ w0, Ext w w0 →
   Q (.bool false) w0) ∧
  (((s1l : Int) = (s2l : Int)) →
   ∃ (I0 : Int → World → Prop) (M0 : Int → World → Nat), I0 0 w ∧
   ∀ (k1 : Int) (w2 : World), I0 k1 w2 →
    (((k1 < (s1l : Int)) →
     s1 ≠ none ∧
     (0 : Int) ≤ k1 ∧
     (k1 : Int) < (s1l : Int) ∧
     (pIdx s1 k1 2) ≠ none ∧
     ∃ t3 : ByteArray, cell w2 (pIdx s1 k1 2) 0 = some (.string t3) ∧
     ∃ t4 : ByteArray, cell w2 (pIdx s1 k1 2) 1 = some (.string t4) ∧
     s2 ≠ none ∧
     (0 : Int) ≤ k1 ∧
     (k1 : Int) < (s2l : Int) ∧
     (pIdx s2 k1 2) ≠ none ∧
     ∃ t5 : ByteArray, cell w2 (pIdx s2 k1 2) 0 = some (.string t5) ∧
     ∃ t6 : ByteArray, cell w2 (pIdx s2 k1 2) 1 = some (.string t6) ∧
     ∀ w7, Ext w2 w7 →
     Run Try.prog (.eq .neq 91 false false (.agg #[(.string t3), (.string t4)]) (.agg #[(.string t5), (.string t6)])) w7 fun v8 w8 =>
      Ext w7 w8 ∧
      ∃ t9 : Bool, v8 = (.bool t9) ∧
      ((t9 = true) →
       ∀ w10, Ext w2 w10 →
       Q (.bool false) w10) ∧
      ((t9 = false) →
       InR .i64 (k1 + 1) ∧
       (I0 (k1 + 1) w2 ∧ M0 (k1 + 1) w2 < M0 k1 w2)))) ∧
    (((s1l : Int) ≤ k1) →
     ∀ w3, Ext w2 w3 →
     Q (.bool true) w3))

theorem ok_slices_Equal_api_Label_api_Label (s1 : Option Addr) (s1l : Nat) (s1c : Nat) (s2 : Option Addr) (s2l : Nat) (s2c : Nat) (w : World) (Q : Value → World → Prop) (h : wp_slices_Equal_api_Label_api_Label s1 s1l s1c s2 s2l s2c w Q) : FnP Try.prog F_slices_Equal_api_Label_api_Label #[(.slice s1 s1l s1c), (.slice s2 s2l s2c)] w Q := by
  have e_ : wp_slices_Equal_api_Label_api_Label s1 s1l s1c s2 s2l s2c w Q = Runs Try.prog Q ({ N := 26, wrap := [], pub := [], muts := [], joins := [] } : Cfg) Try.f59 (Try.f59.body.getD .skip) [.sc (.slc s1 s1l s1c), .sc (.slc s2 s2l s2c)] w := by kernel_rfl
  rw [e_] at h
  exact runs_fn h Try.func59 (by kernel_rfl) (fun args w => Try.call59 args w) (by kernel_rfl) (by kernel_rfl) rfl rfl

/-- slices.Clone[[]shiftbell/api.Host,shiftbell/api.Host] -/
def wp_slices_Clone_api_Host_api_Host (s : Option Addr) (sl : Nat) (sc : Nat) (w : World) (Q : Value → World → Prop) : Prop :=
  ((s = none) →
   ∀ w0, Ext w w0 →
   Q (.slice none 0 0) w0) ∧
  ((s ≠ none) →
   ∀ w0, Ext w w0 →
   Run Try.prog (.buildSlice 22 0 []) w0 fun v1 w1 =>
    Ext w0 w1 ∧
    ∃ t2 : Option Addr, ∃ tl3 : Nat, ∃ tc4 : Nat, v1 = (.slice t2 tl3 tc4) ∧
    ∀ w5, Ext w1 w5 →
    Run Try.prog (.append #[22, 22] 22 [(.slice t2 tl3 tc4), (.slice s sl sc)]) w5 fun v6 w6 =>
     ∃ t7 : Option Addr, ∃ tl8 : Nat, ∃ tc9 : Nat, v6 = (.slice t7 tl8 tc9) ∧
     ∀ w10, Ext w6 w10 →
     Q (.slice t7 tl8 tc9) w10)

theorem ok_slices_Clone_api_Host_api_Host (s : Option Addr) (sl : Nat) (sc : Nat) (w : World) (Q : Value → World → Prop) (h : wp_slices_Clone_api_Host_api_Host s sl sc w Q) : FnP Try.prog F_slices_Clone_api_Host_api_Host #[(.slice s sl sc)] w Q := by
  have e_ : wp_slices_Clone_api_Host_api_Host s sl sc w Q = Runs Try.prog Q ({ N := 8, wrap := [], pub := [], muts := [], joins := [] } : Cfg) Try.f71 (Try.f71.body.getD .skip) [.sc (.slc s sl sc)] w := by kernel_rfl
  rw [e_] at h
  exact runs_fn h Try.func71 (by kernel_rfl) (fun args w => Try.call71 args w) (by kernel_rfl) (by kernel_rfl) rfl rfl

/-- slices.Clone[[]shiftbell/api.Label,shiftbell/api.Label] -/
def wp_slices_Clone_api_Label_api_Label (s : Option Addr) (sl : Nat) (sc : Nat) (w : World) (Q : Value → World → Prop) : Prop :=
  ((s = none) →
   ∀ w0, Ext w w0 →
   Q (.slice none 0 0) w0) ∧
  ((s ≠ none) →
   ∀ w0, Ext w w0 →
   Run Try.prog (.buildSlice 48 0 []) w0 fun v1 w1 =>
    Ext w0 w1 ∧
    ∃ t2 : Option Addr, ∃ tl3 : Nat, ∃ tc4 : Nat, v1 = (.slice t2 tl3 tc4) ∧
    ∀ w5, Ext w1 w5 →
    Run Try.prog (.append #[48, 48] 48 [(.slice t2 tl3 tc4), (.slice s sl sc)]) w5 fun v6 w6 =>
     ∃ t7 : Option Addr, ∃ tl8 : Nat, ∃ tc9 : Nat, v6 = (.slice t7 tl8 tc9) ∧
     ∀ w10, Ext w6 w10 →
     Q (.slice t7 tl8 tc9) w10)

theorem ok_slices_Clone_api_Label_api_Label (s : Option Addr) (sl : Nat) (sc : Nat) (w : World) (Q : Value → World → Prop) (h : wp_slices_Clone_api_Label_api_Label s sl sc w Q) : FnP Try.prog F_slices_Clone_api_Label_api_Label #[(.slice s sl sc)] w Q := by
  have e_ : wp_slices_Clone_api_Label_api_Label s sl sc w Q = Runs Try.prog Q ({ N := 8, wrap := [], pub := [], muts := [], joins := [] } : Cfg) Try.f72 (Try.f72.body.getD .skip) [.sc (.slc s sl sc)] w := by kernel_rfl
  rw [e_] at h
  exact runs_fn h Try.func72 (by kernel_rfl) (fun args w => Try.call72 args w) (by kernel_rfl) (by kernel_rfl) rfl rfl

/-- shiftbell/shiftbellkeep.sameHosts -/
def wp_shiftbellkeep_sameHosts (a : Option Addr) (al : Nat) (ac : Nat) (b : Option Addr) (bl : Nat) (bc : Nat) (w : World) (Q : Value → World → Prop) : Prop :=
  ∀ w0, Ext w w0 →
  FnP Try.prog F_slices_EqualFunc_api_Host_api_Host_api_Host_api_Host #[(.slice a al ac), (.slice b bl bc), (.func (.func 58) #[] #[])] w0 fun v1 w1 =>
   Ext w0 w1 ∧
   ∃ t2 : Bool, v1 = (.bool t2) ∧
   ∀ w3, Ext w w3 →
   Q (.bool t2) w3

theorem ok_shiftbellkeep_sameHosts (a : Option Addr) (al : Nat) (ac : Nat) (b : Option Addr) (bl : Nat) (bc : Nat) (w : World) (Q : Value → World → Prop) (h : wp_shiftbellkeep_sameHosts a al ac b bl bc w Q) : FnP Try.prog F_shiftbellkeep_sameHosts #[(.slice a al ac), (.slice b bl bc)] w Q := by
  have e_ : wp_shiftbellkeep_sameHosts a al ac b bl bc w Q = Runs Try.prog Q ({ N := 8, wrap := [], pub := [], muts := [], joins := [] } : Cfg) Try.f23 (Try.f23.body.getD .skip) [.sc (.slc a al ac), .sc (.slc b bl bc)] w := by kernel_rfl
  rw [e_] at h
  exact runs_fn h Try.func23 (by kernel_rfl) (fun args w => Try.call23 args w) (by kernel_rfl) (by kernel_rfl) rfl rfl

/-- shiftbell/shiftbellkeep.sameHosts$1 -/
def wp_shiftbellkeep_sameHosts_1 (x_0 : ByteArray) (x_1 : Option Addr) (x_1l : Nat) (x_1c : Nat) (x_2 : Int) (x_3 : Int) (x_4 : Int) (x_5 : Int) (x_6 : Int) (x_7 : Int) (y_0 : ByteArray) (y_1 : Option Addr) (y_1l : Nat) (y_1c : Nat) (y_2 : Int) (y_3 : Int) (y_4 : Int) (y_5 : Int) (y_6 : Int) (y_7 : Int) (w : World) (Q : Value → World → Prop) : Prop :=
  ∀ b0 : Nat, w.heap.size ≤ b0 → ∀ b1 : Nat, w.heap.size ≤ b1 → (((x_0 = y_0) →
   ∀ w2, Ext w w2 →
   Run Try.prog (.eq .eql 34 false false (.agg #[(.int .i64 x_2), (.int .i64 x_3), (.int .i64 x_4)]) (.agg #[(.int .i64 y_2), (.int .i64 y_3), (.int .i64 y_4)])) w2 fun v3 w3 =>
    Ext w2 w3 ∧
    ∃ t4 : Bool, v3 = (.bool t4) ∧
    (((t4 = true) →
     ∀ w5, Ext w w5 →
     Run Try.prog (.eq .eql 34 false false (.agg #[(.int .i64 x_5), (.int .i64 x_6), (.int .i64 x_7)]) (.agg #[(.int .i64 y_5), (.int .i64 y_6), (.int .i64 y_7)])) w5 fun v6 w6 =>
      Ext w5 w6 ∧
      ∃ t7 : Bool, v6 = (.bool t7) ∧
      (((t7 = true) →
       ∀ w8, Ext w w8 →
       FnP Try.prog F_slices_Equal_api_Label_api_Label #[(.slice x_1 x_1l x_1c), (.slice y_1 y_1l y_1c)] w8 fun v9 w9 =>
        Ext w8 w9 ∧
        ∃ t10 : Bool, v9 = (.bool t10) ∧
        ∀ w11, Ext w w11 →
        Q (.bool t10) w11)) ∧
      ((t7 = false) →
       ∀ w8, Ext w w8 →
       Q (.bool false) w8))) ∧
    ((t4 = false) →
     ∀ w5, Ext w w5 →
     Q (.bool false) w5))) ∧
  ((x_0 ≠ y_0) →
   ∀ w2, Ext w w2 →
   Q (.bool false) w2)

theorem ok_shiftbellkeep_sameHosts_1 (x_0 : ByteArray) (x_1 : Option Addr) (x_1l : Nat) (x_1c : Nat) (x_2 : Int) (x_3 : Int) (x_4 : Int) (x_5 : Int) (x_6 : Int) (x_7 : Int) (y_0 : ByteArray) (y_1 : Option Addr) (y_1l : Nat) (y_1c : Nat) (y_2 : Int) (y_3 : Int) (y_4 : Int) (y_5 : Int) (y_6 : Int) (y_7 : Int) (w : World) (Q : Value → World → Prop) (h : wp_shiftbellkeep_sameHosts_1 x_0 x_1 x_1l x_1c x_2 x_3 x_4 x_5 x_6 x_7 y_0 y_1 y_1l y_1c y_2 y_3 y_4 y_5 y_6 y_7 w Q) : FnP Try.prog F_shiftbellkeep_sameHosts_1 #[(.agg #[(.string x_0), (.slice x_1 x_1l x_1c), (.int .i64 x_2), (.int .i64 x_3), (.int .i64 x_4), (.int .i64 x_5), (.int .i64 x_6), (.int .i64 x_7)]), (.agg #[(.string y_0), (.slice y_1 y_1l y_1c), (.int .i64 y_2), (.int .i64 y_3), (.int .i64 y_4), (.int .i64 y_5), (.int .i64 y_6), (.int .i64 y_7)])] w Q := by
  have e_ : wp_shiftbellkeep_sameHosts_1 x_0 x_1 x_1l x_1c x_2 x_3 x_4 x_5 x_6 x_7 y_0 y_1 y_1l y_1c y_2 y_3 y_4 y_5 y_6 y_7 w Q = Runs Try.prog Q ({ N := 31, wrap := [], pub := [], muts := [], joins := [] } : Cfg) Try.f58 (Try.f58.body.getD .skip) [.agg [.str x_0, .slc x_1 x_1l x_1c, .int .i64 x_2, .int .i64 x_3, .int .i64 x_4, .int .i64 x_5, .int .i64 x_6, .int .i64 x_7], .agg [.str y_0, .slc y_1 y_1l y_1c, .int .i64 y_2, .int .i64 y_3, .int .i64 y_4, .int .i64 y_5, .int .i64 y_6, .int .i64 y_7]] w := by kernel_rfl
  rw [e_] at h
  exact runs_fn h Try.func58 (by kernel_rfl) (fun args w => Try.call58 args w) (by kernel_rfl) (by kernel_rfl) rfl rfl

end Go.Proofs.Ytblafknmfblgfaa
