/- The texts of this seat's functions: what each computes, as its symbolic run says it. -/
import Derived.Test.YtopgihimdjnaeaaRows
import Derived.Test.YtopgihimdjnaeaaSxD
import Derived.Test.YtopgihimdjnaeaaSxN
import Derived.Test.YtopgihimdjnaeaaTxt
import Derived.Test.YtopgihimdjnaeaaTxtB
import Derived.Test.YtopgihimdjnaeaaTxtC
set_option linter.unusedVariables false
set_option linter.unusedSimpArgs false
set_option maxRecDepth 100000
namespace Go.Proofs.Ytopgihimdjnaeaa
open Go.Sx Go.RowKit

abbrev F_shiftbellkeep_PathWay : FuncId := 8
abbrev F_path_Way : FuncId := 17
abbrev F_path_Way_1 : FuncId := 27
abbrev F_path_Way_2 : FuncId := 28
abbrev F_path_Way_3 : FuncId := 29
abbrev F_path_Way_4 : FuncId := 30

/-- shiftbell/path.Way$1 -/
def wp_path_Way_1 (i : Int) (at_v : Int) (c0 : Option Addr) (w : World) (Q : Value → World → Prop) : Prop :=
  c0 ≠ none ∧
  ∃ t0 : Option Addr, ∃ tl1 : Nat, ∃ tc2 : Nat, cell w (pAdd c0 0) 0 = some (.slice t0 tl1 tc2) ∧
  t0 ≠ none ∧
  (0 : Int) ≤ i ∧
  (i : Int) < (tl1 : Int) ∧
  ∃ t3 : Int, cell w (pIdx t0 i 1) 0 = some (.int .i64 t3) ∧
  ((t3 = at_v) →
   c0 ≠ none) ∧
  ((t3 = at_v) →
   ∃ t4 : Option Addr, ∃ tl5 : Nat, ∃ tc6 : Nat, cell w (pAdd c0 1) 0 = some (.slice t4 tl5 tc6) ∧
   t4 ≠ none ∧
   (0 : Int) ≤ i ∧
   (i : Int) < (tl5 : Int) ∧
   ∃ t7 : Int, cell w (pIdx t4 i 1) 0 = some (.int .i64 t7) ∧
   ∀ w8, Ext w w8 →
   Q (.bool (decide (t7 = at_v))) w8) ∧
  ((t3 ≠ at_v) →
   ∀ w4, Ext w w4 →
   Q (.bool false) w4)

theorem ok_path_Way_1 (i : Int) (at_v : Int) (c0 : Option Addr) (w : World) (Q : Value → World → Prop) (h : wp_path_Way_1 i at_v c0 w Q) : FnP Try.prog F_path_Way_1 #[(.int .i64 i), (.int .i64 at_v), (.pointer c0)] w Q := by
  have e_ : wp_path_Way_1 i at_v c0 w Q = Runs Try.prog Q ({ N := 22, wrap := [], pub := [], muts := [] } : Cfg) Try.f27 (Try.f27.body.getD .skip) [.sc (.int .i64 i), .sc (.int .i64 at_v), .sc (.ptr c0)] w := by kernel_rfl
  rw [e_] at h
  exact runs_fn h Try.func27 (by kernel_rfl) (fun args w => Try.call27 args w) (by kernel_rfl) (by kernel_rfl) rfl rfl

/-- shiftbell/path.Way$2 -/
def wp_path_Way_2 (ok : Value) (c0 : Option Addr) (w : World) (Q : Value → World → Prop) : Prop :=
  ∃ t0 : Int, cell w c0 0 = some (.int .i64 t0) ∧
  ∃ (I1 : Int → World → Prop) (M1 : Int → World → Nat), I1 0 w ∧
  ∀ (k2 : Int) (w3 : World), I1 k2 w3 →
   ((k2 < t0) →
    ∀ w4, Ext w3 w4 →
    FnVP Try.prog ok [(.int .i64 k2)] w4 fun v5 w5 =>
     Ext w4 w5 ∧
     ∃ t6 : Bool, v5 = (.bool t6) ∧
     ((t6 = true) →
      ∀ w7, Ext w3 w7 →
      Q (.int .i64 k2) w7) ∧
     ((t6 = false) →
      InR .i64 (k2 + 1) ∧
      (I1 (k2 + 1) w3 ∧ M1 (k2 + 1) w3 < M1 k2 w3))) ∧
   ((t0 ≤ k2) →
    ∀ w4, Ext w3 w4 →
    Q (.int .i64 (-1)) w4)

theorem ok_path_Way_2 (ok : Value) (c0 : Option Addr) (w : World) (Q : Value → World → Prop) (h : wp_path_Way_2 ok c0 w Q) : FnP Try.prog F_path_Way_2 #[ok, (.pointer c0)] w Q := by
  have e_ : wp_path_Way_2 ok c0 w Q = Runs Try.prog Q ({ N := 14, wrap := [], pub := [], muts := [] } : Cfg) Try.f28 (Try.f28.body.getD .skip) [.sc (.val ok), .sc (.ptr c0)] w := by kernel_rfl
  rw [e_] at h
  exact runs_fn h Try.func28 (by kernel_rfl) (fun args w => Try.call28 args w) (by kernel_rfl) (by kernel_rfl) rfl rfl

/-- shiftbell/path.Way$3 -/
def wp_path_Way_3 (i : Int) (c0 : Option Addr) (w : World) (Q : Value → World → Prop) : Prop :=
  ∃ t0 : Value, cell w c0 0 = some t0 ∧
  ∀ w1, Ext w w1 →
  FnVP Try.prog t0 [(.int .i64 i), (.int .i64 0)] w1 fun v2 w2 =>
   Ext w1 w2 ∧
   ∃ t3 : Bool, v2 = (.bool t3) ∧
   ∀ w4, Ext w w4 →
   Q (.bool t3) w4

theorem ok_path_Way_3 (i : Int) (c0 : Option Addr) (w : World) (Q : Value → World → Prop) (h : wp_path_Way_3 i c0 w Q) : FnP Try.prog F_path_Way_3 #[(.int .i64 i), (.pointer c0)] w Q := by
  have e_ : wp_path_Way_3 i c0 w Q = Runs Try.prog Q ({ N := 7, wrap := [], pub := [], muts := [] } : Cfg) Try.f29 (Try.f29.body.getD .skip) [.sc (.int .i64 i), .sc (.ptr c0)] w := by kernel_rfl
  rw [e_] at h
  exact runs_fn h Try.func29 (by kernel_rfl) (fun args w => Try.call29 args w) (by kernel_rfl) (by kernel_rfl) rfl rfl

/-- shiftbell/path.Way$4 -/
def wp_path_Way_4 (k : Int) (c0 : Option Addr) (c1 : Option Addr) (c2 : Option Addr) (c3 : Option Addr) (w : World) (Q : Value → World → Prop) : Prop :=
  ∃ t0 : Option Addr, ∃ tl1 : Nat, ∃ tc2 : Nat, cell w c0 0 = some (.slice t0 tl1 tc2) ∧
  ∃ (I3 : Int → World → Prop) (M3 : Int → World → Nat), I3 0 w ∧
  ∀ (k4 : Int) (w5 : World), I3 k4 w5 →
   ((k4 < (tl1 : Int)) →
    t0 ≠ none ∧
    (0 : Int) ≤ k4 ∧
    (k4 : Int) < (tl1 : Int) ∧
    (pIdx t0 k4 2) ≠ none ∧
    ∃ t6 : Int, cell w5 (pIdx t0 k4 2) 0 = some (.int .i64 t6) ∧
    ∃ t7 : Int, cell w5 (pIdx t0 k4 2) 1 = some (.int .i64 t7) ∧
    ∀ b8 : Nat, w5.heap.size ≤ b8 → ∃ t9 : Int, cell w5 c1 0 = some (.int .i64 t9) ∧
    (((t6 = t9) ∧ (t7 = k)) →
     ∃ t10 : Value, cell w5 c2 0 = some t10 ∧
     ∃ t11 : Int, cell w5 c3 0 = some (.int .i64 t11) ∧
     ∀ w12, Ext w5 w12 →
     FnVP Try.prog t10 [(.int .i64 k), (.int .i64 t11)] w12 fun v13 w13 =>
      Ext w12 w13 ∧
      ∃ t14 : Bool, v13 = (.bool t14) ∧
      ((t14 = true) →
       ∀ w15, Ext w5 w15 →
       Q (.bool true) w15) ∧
      ((t14 = false) →
       InR .i64 (k4 + 1) ∧
       (I3 (k4 + 1) w5 ∧ M3 (k4 + 1) w5 < M3 k4 w5))) ∧
    (((t6 ≠ t9) ∨ (t7 ≠ k)) →
     InR .i64 (k4 + 1) ∧
     (I3 (k4 + 1) w5 ∧ M3 (k4 + 1) w5 < M3 k4 w5))) ∧
   (((tl1 : Int) ≤ k4) →
    ∀ w6, Ext w5 w6 →
    Q (.bool false) w6)

theorem ok_path_Way_4 (k : Int) (c0 : Option Addr) (c1 : Option Addr) (c2 : Option Addr) (c3 : Option Addr) (w : World) (Q : Value → World → Prop) (h : wp_path_Way_4 k c0 c1 c2 c3 w Q) : FnP Try.prog F_path_Way_4 #[(.int .i64 k), (.pointer c0), (.pointer c1), (.pointer c2), (.pointer c3)] w Q := by
  have e_ : wp_path_Way_4 k c0 c1 c2 c3 w Q = Runs Try.prog Q ({ N := 32, wrap := [], pub := [], muts := [] } : Cfg) Try.f30 (Try.f30.body.getD .skip) [.sc (.int .i64 k), .sc (.ptr c0), .sc (.ptr c1), .sc (.ptr c2), .sc (.ptr c3)] w := by kernel_rfl
  rw [e_] at h
  exact runs_fn h Try.func30 (by kernel_rfl) (fun args w => Try.call30 args w) (by kernel_rfl) (by kernel_rfl) rfl rfl

/-- shiftbell/path.Way -/
def wp_path_Way (n : Int) (l : Option Addr) (ll : Nat) (lc : Nat) (d : Option Addr) (dl : Nat) (dc : Nat) (w : World) (Q : Value → World → Prop) : Prop :=
  ∀ w0, Ext w w0 →
  New w0 3 [(.int .i64 n)] fun p1 w1 =>
   ∀ w2, Ext w1 w2 →
   New w2 22 [(.slice l ll lc)] fun p3 w3 =>
    ∃ t4 : Int, cell w3 p1 0 = some (.int .i64 t4) ∧
    ∃ t5 : Option Addr, ∃ tl6 : Nat, ∃ tc7 : Nat, cell w3 p3 0 = some (.slice t5 tl6 tc7) ∧
    ∀ w8, Ext w3 w8 →
    FnP Try.prog F_path_Times #[(.int .i64 t4), (.slice t5 tl6 tc7), (.slice d dl dc)] w8 fun v9 w9 =>
     Ext w8 w9 ∧
     ∃ t_010 : Option Addr, ∃ t_0l11 : Nat, ∃ t_0c12 : Nat, ∃ t_113 : Option Addr, ∃ t_1l14 : Nat, ∃ t_1c15 : Nat, ∃ t_216 : Int, ∃ t17 : Int, v9 = (.tuple #[(.agg #[(.slice t_010 t_0l11 t_0c12), (.slice t_113 t_1l14 t_1c15), (.int .i64 t_216)]), (.int .i64 t17)]) ∧
     ∀ w18, Ext w9 w18 →
     New w18 33 [(.slice none 0 0), (.slice none 0 0), (.int .i64 0)] fun p19 w19 =>
      Store w19 p19 [(.slice t_010 t_0l11 t_0c12), (.slice t_113 t_1l14 t_1c15), (.int .i64 t_216)] [] fun w20 =>
       ((t17 ≠ 0) →
        ∀ w21, Ext w20 w21 →
        Q (.tuple #[(.slice none 0 0), (.int .i64 t17)]) w21) ∧
       ((t17 = 0) →
        ∀ w21, Ext w20 w21 →
        New w21 55 [.nilFunc] fun p22 w22 =>
         Store w22 p22 [(.func (.func 27) #[] #[(.pointer p19)])] [] fun w23 =>
          ∀ w24, Ext w23 w24 →
          FnP Try.prog F_path_Way_2 #[(.func (.func 29) #[] #[(.pointer p22)]), (.pointer p1)] w24 fun v25 w25 =>
           Ext w24 w25 ∧
           ∃ t26 : Int, v25 = (.int .i64 t26) ∧
           ∃ (I27 : Option Addr → Nat → Nat → Int → World → Prop) (M27 : Option Addr → Nat → Nat → Int → World → Nat), I27 none 0 0 t26 w23 ∧
           ∀ (out28 : Option Addr) (outl28 : Nat) (outc28 : Nat) (i29 : Int) (w30 : World), I27 out28 outl28 outc28 i29 w30 →
            ((0 ≤ i29) →
             ∀ w31, Ext w30 w31 →
             Run Try.prog (.buildSlice 24 1 [(0, (.int .i64 i29))]) w31 fun v32 w32 =>
              Ext w31 w32 ∧
              ∃ t33 : Option Addr, ∃ tl34 : Nat, ∃ tc35 : Nat, v32 = (.slice t33 tl34 tc35) ∧
              ∀ w36, Ext w32 w36 →
              Run Try.prog (.append #[24, 24] 24 [(.slice out28 outl28 outc28), (.slice t33 tl34 tc35)]) w36 fun v37 w37 =>
               ∃ t38 : Option Addr, ∃ tl39 : Nat, ∃ tc40 : Nat, v37 = (.slice t38 tl39 tc40) ∧
               p19 ≠ none ∧
               ∃ t41 : Option Addr, ∃ tl42 : Nat, ∃ tc43 : Nat, cell w37 (pAdd p19 0) 0 = some (.slice t41 tl42 tc43) ∧
               t41 ≠ none ∧
               (0 : Int) ≤ i29 ∧
               (i29 : Int) < (tl42 : Int) ∧
               ∃ t44 : Int, cell w37 (pIdx t41 i29 1) 0 = some (.int .i64 t44) ∧
               d ≠ none ∧
               (0 : Int) ≤ i29 ∧
               (i29 : Int) < (dl : Int) ∧
               ∃ t45 : Int, cell w37 (pIdx d i29 1) 0 = some (.int .i64 t45) ∧
               InR .i64 (t44 + t45) ∧
               ∀ w46, Ext w37 w46 →
               New w46 2 [(.int .i64 0)] fun p47 w47 =>
                Store w47 p47 [(.int .i64 (t44 + t45))] [] fun w48 =>
                 ∃ t49 : Int, cell w48 p47 0 = some (.int .i64 t49) ∧
                 p19 ≠ none ∧
                 ∃ t50 : Int, cell w48 (pAdd p19 2) 0 = some (.int .i64 t50) ∧
                 ((t49 = t50) →
                  ∀ w51, Ext w48 w51 →
                  Q (.tuple #[(.slice t38 tl39 tc40), (.int .i64 0)]) w51) ∧
                 ((t49 ≠ t50) →
                  ∀ w51, Ext w48 w51 →
                  New w51 3 [(.int .i64 0)] fun p52 w52 =>
                   Store w52 p52 [(.int .i64 i29)] [] fun w53 =>
                    ∀ w54, Ext w53 w54 →
                    FnP Try.prog F_path_Way_2 #[(.func (.func 30) #[] #[(.pointer p3), (.pointer p52), (.pointer p22), (.pointer p47)]), (.pointer p1)] w54 fun v55 w55 =>
                     Ext w54 w55 ∧
                     ∃ t56 : Int, v55 = (.int .i64 t56) ∧
                     (I27 t38 tl39 tc40 t56 w53 ∧ M27 t38 tl39 tc40 t56 w53 < M27 out28 outl28 outc28 i29 w30))) ∧
            ((i29 < 0) →
             ∀ w31, Ext w30 w31 →
             Q (.tuple #[(.slice out28 outl28 outc28), (.int .i64 0)]) w31))

theorem ok_path_Way (n : Int) (l : Option Addr) (ll : Nat) (lc : Nat) (d : Option Addr) (dl : Nat) (dc : Nat) (w : World) (Q : Value → World → Prop) (h : wp_path_Way n l ll lc d dl dc w Q) : FnP Try.prog F_path_Way #[(.int .i64 n), (.slice l ll lc), (.slice d dl dc)] w Q := by
  have e_ : wp_path_Way n l ll lc d dl dc w Q = Runs Try.prog Q ({ N := 56, wrap := [], pub := [3, 4, 8, 10, 14, 15], muts := [] } : Cfg) Try.f17 (Try.f17.body.getD .skip) [.sc (.int .i64 n), .sc (.slc l ll lc), .sc (.slc d dl dc)] w := by kernel_rfl
  rw [e_] at h
  exact runs_fn h Try.func17 (by kernel_rfl) (fun args w => Try.call17 args w) (by kernel_rfl) (by kernel_rfl) rfl rfl

/-- shiftbell/shiftbellkeep.PathWay -/
def wp_shiftbellkeep_PathWay (n : Int) (l : Option Addr) (ll : Nat) (lc : Nat) (d : Option Addr) (dl : Nat) (dc : Nat) (w : World) (Q : Value → World → Prop) : Prop :=
  ∀ w0, Ext w w0 →
  FnP Try.prog F_shiftbellkeep_paths #[] w0 fun v1 w1 =>
   Ext w0 w1 ∧
   ∃ t2 : Bool, v1 = (.bool t2) ∧
   ((t2 = false) →
    ∀ w3, Ext w w3 →
    Q (.bool false) w3) ∧
   ((t2 = true) →
    ∀ w3, Ext w w3 →
    FnP Try.prog F_path_Times #[(.int .i64 n), (.slice l ll lc), (.slice d dl dc)] w3 fun v4 w4 =>
     Ext w3 w4 ∧
     ∃ t_05 : Option Addr, ∃ t_0l6 : Nat, ∃ t_0c7 : Nat, ∃ t_18 : Option Addr, ∃ t_1l9 : Nat, ∃ t_1c10 : Nat, ∃ t_211 : Int, ∃ t12 : Int, v4 = (.tuple #[(.agg #[(.slice t_05 t_0l6 t_0c7), (.slice t_18 t_1l9 t_1c10), (.int .i64 t_211)]), (.int .i64 t12)]) ∧
     ∀ b13 : Nat, w4.heap.size ≤ b13 → ∀ w14, ExtB [] [b13] w4 w14 →
     FnP Try.prog F_path_Way #[(.int .i64 n), (.slice l ll lc), (.slice d dl dc)] w14 fun v15 w15 =>
      Ext w14 w15 ∧
      ∃ t16 : Option Addr, ∃ tl17 : Nat, ∃ tc18 : Nat, ∃ t19 : Int, v15 = (.tuple #[(.slice t16 tl17 tc18), (.int .i64 t19)]) ∧
      ∀ w20, ExtB [] [b13] w15 w20 →
      FnP Try.prog F_path_Critical #[(.int .i64 n), (.slice l ll lc), (.slice d dl dc)] w20 fun v21 w21 =>
       Ext w20 w21 ∧
       ∃ t22 : Option Addr, ∃ tl23 : Nat, ∃ tc24 : Nat, ∃ t25 : Int, v21 = (.tuple #[(.slice t22 tl23 tc24), (.int .i64 t25)]) ∧
       ((t12 ≠ 0) →
        (((t19 = t12) ∧ (t25 = t12)) →
         InR .i64 ((tl17 : Int) + (tl23 : Int))) ∧
        ∀ w26, Ext w21 w26 →
        Q (.bool (((decide (t19 = t12)) && (decide (t25 = t12))) && (decide (((tl17 : Int) + (tl23 : Int)) = 0)))) w26) ∧
       ((t12 = 0) →
        ∃ (I26 : Int → Int → World → Prop) (M26 : Int → Int → World → Nat), I26 0 0 w21 ∧
        ∀ (sum27 : Int) (k28 : Int) (w29 : World), I26 sum27 k28 w29 →
         ((k28 < (tl17 : Int)) →
          t16 ≠ none ∧
          (0 : Int) ≤ k28 ∧
          (k28 : Int) < (tl17 : Int) ∧
          ∃ t30 : Int, cell w29 (pIdx t16 k28 1) 0 = some (.int .i64 t30) ∧
          ∀ w31, Ext w29 w31 →
          FnP Try.prog F_slices_Contains_int_int #[(.slice t22 tl23 tc24), (.int .i64 t30)] w31 fun v32 w32 =>
           Ext w31 w32 ∧
           ∃ t33 : Bool, v32 = (.bool t33) ∧
           ((t33 = true) →
            ((0 < k28) →
             InR .i64 (k28 - 1))) ∧
           ((t33 = true) →
            ((0 < k28) →
             t16 ≠ none)) ∧
           ((t33 = true) →
            ((0 < k28) →
             (0 : Int) ≤ (k28 - 1))) ∧
           ((t33 = true) →
            ((0 < k28) →
             ((k28 - 1) : Int) < (tl17 : Int))) ∧
           ((t33 = false) →
            ∀ w34, Ext w29 w34 →
            Q (.bool false) w34) ∧
           ((t33 = true) →
            ((0 < k28) →
             ∃ t34 : Int, cell w29 (pIdx t16 (k28 - 1) 1) 0 = some (.int .i64 t34) ∧
             ∀ w35, Ext w29 w35 →
             FnP Try.prog F_slices_Contains_api_Edge_api_Edge #[(.slice l ll lc), (.agg #[(.int .i64 t34), (.int .i64 t30)])] w35 fun v36 w36 =>
              Ext w35 w36 ∧
              ∃ t37 : Bool, v36 = (.bool t37) ∧
              ((t37 = false) →
               ∀ w38, Ext w29 w38 →
               Q (.bool false) w38) ∧
              ((t37 = true) →
               d ≠ none ∧
               (0 : Int) ≤ t30 ∧
               (t30 : Int) < (dl : Int) ∧
               ∃ t38 : Int, cell w29 (pIdx d t30 1) 0 = some (.int .i64 t38) ∧
               InR .i64 (sum27 + t38) ∧
               InR .i64 (k28 + 1) ∧
               (I26 (sum27 + t38) (k28 + 1) w29 ∧ M26 (sum27 + t38) (k28 + 1) w29 < M26 sum27 k28 w29))) ∧
            ((k28 ≤ 0) →
             d ≠ none ∧
             (0 : Int) ≤ t30 ∧
             (t30 : Int) < (dl : Int) ∧
             ∃ t34 : Int, cell w29 (pIdx d t30 1) 0 = some (.int .i64 t34) ∧
             InR .i64 (sum27 + t34) ∧
             InR .i64 (k28 + 1) ∧
             (I26 (sum27 + t34) (k28 + 1) w29 ∧ M26 (sum27 + t34) (k28 + 1) w29 < M26 sum27 k28 w29)))) ∧
         (((tl17 : Int) ≤ k28) →
          ∀ w30, ExtB [] [b13] w29 w30 →
          Run Try.prog (.buildSlice 52 2 [(0, (.int .i64 t19)), (1, (.int .i64 t25))]) w30 fun v31 w31 =>
           Ext w30 w31 ∧
           ∃ t32 : Option Addr, ∃ tl33 : Nat, ∃ tc34 : Nat, v31 = (.slice t32 tl33 tc34) ∧
           ∀ w35, Ext w31 w35 →
           FnP Try.prog F_shiftbellkeep_good #[(.slice t32 tl33 tc34)] w35 fun v36 w36 =>
            Ext w35 w36 ∧
            ∃ t37 : Bool, v36 = (.bool t37) ∧
            ∀ w38, Ext w31 w38 →
            Q (.bool ((t37 && (decide (sum27 = t_211))) && (((decide (n = 0)) && (decide ((tl17 : Int) = 0))) || ((decide (n ≠ 0)) && (decide ((tl17 : Int) ≠ 0)))))) w38)))

theorem ok_shiftbellkeep_PathWay (n : Int) (l : Option Addr) (ll : Nat) (lc : Nat) (d : Option Addr) (dl : Nat) (dc : Nat) (w : World) (Q : Value → World → Prop) (h : wp_shiftbellkeep_PathWay n l ll lc d dl dc w Q) : FnP Try.prog F_shiftbellkeep_PathWay #[(.int .i64 n), (.slice l ll lc), (.slice d dl dc)] w Q := by
  have e_ : wp_shiftbellkeep_PathWay n l ll lc d dl dc w Q = Runs Try.prog Q ({ N := 109, wrap := [], pub := [], muts := [] } : Cfg) Try.f8 (Try.f8.body.getD .skip) [.sc (.int .i64 n), .sc (.slc l ll lc), .sc (.slc d dl dc)] w := by kernel_rfl
  rw [e_] at h
  exact runs_fn h Try.func8 (by kernel_rfl) (fun args w => Try.call8 args w) (by kernel_rfl) (by kernel_rfl) rfl rfl

theorem open_shiftbellkeep_PathWay (W : World) (R : Array Value → Prop) (h : ∀ n : Int, InR .i64 n → ∀ l : Option Addr, ∀ ll : Nat, ∀ lc : Nat, SlcArg Try.prog W 29 l ll lc → ∀ d : Option Addr, ∀ dl : Nat, ∀ dc : Nat, SlcArg Try.prog W 2 d dl dc → R #[(.int .i64 n), (.slice l ll lc), (.slice d dl dc)]) (args : Array Value) (hg : GoodAll Try.prog W Try.f8.params.toList args.toList) : R args := by
  have e_ : (ArgsAll Try.prog W Try.f8.params.toList fun l => R l.toArray) = (∀ n : Int, InR .i64 n → ∀ l : Option Addr, ∀ ll : Nat, ∀ lc : Nat, SlcArg Try.prog W 29 l ll lc → ∀ d : Option Addr, ∀ dl : Nat, ∀ dc : Nat, SlcArg Try.prog W 2 d dl dc → R #[(.int .i64 n), (.slice l ll lc), (.slice d dl dc)]) := by kernel_rfl
  exact args_open (by rw [e_]; exact h) args hg
-- wit 8 #[(.int .i64 0), (.slice none 0 0), (.slice none 0 0)]

end Go.Proofs.Ytopgihimdjnaeaa
