/- The texts of this seat's functions: what each computes, as its symbolic run says it. -/
import Derived.Test.YtenppnomdejmlaaGreatDoorRows
import Derived.Test.YtenppnomdejmlaaGreatDoorSxD
import Derived.Test.YtenppnomdejmlaaGreatDoorSxN
import Derived.Test.YtenppnomdejmlaaGreatDoorTxt
import Derived.Test.YtenppnomdejmlaaGreatDoorTxtD
import Derived.Test.YtenppnomdejmlaaGreatDoorTxtE
set_option linter.unusedVariables false
set_option linter.unusedSimpArgs false
set_option maxRecDepth 100000
namespace Go.Proofs.YtenppnomdejmlaaGreatDoor
open Go.Sx Go.RowKit

abbrev F_job_Read : FuncId := 17
abbrev F_shiftbellkeep_sameJob : FuncId := 18
abbrev F_strconv_Itoa : FuncId := 25
abbrev F_job_after : FuncId := 26
abbrev F_strconv_Atoi : FuncId := 28
abbrev F_slices_Equal_int_int : FuncId := 32

/-- shiftbell/job.Check -/
def wp_job_Check (j_0 : ByteArray) (j_1 : Int) (j_2 : Int) (j_3 : Int) (j_4 : Int) (j_5 : Int) (j_6 : ByteArray) (j_7 : ByteArray) (j_8 : Int) (j_9 : Option Addr) (j_9l : Nat) (j_9c : Nat) (j_10 : Option Addr) (j_10l : Nat) (j_10c : Nat) (w : World) (Q : Value → World → Prop) : Prop :=
  ∀ b0 : Nat, w.heap.size ≤ b0 → ∀ w1, Ext w w1 →
  FnP Tryz.prog F_ask_Label #[(.string j_0)] w1 fun v2 w2 =>
   Ext w1 w2 ∧
   ∃ t3 : Bool, v2 = (.bool t3) ∧
   ((t3 = false) →
    ∀ w4, Ext w w4 →
    Q (.int .i64 3) w4) ∧
   ((t3 = true) →
    (((j_1 < (-1000)) ∨ (1000 < j_1)) →
     ∀ w4, Ext w w4 →
     Q (.int .i64 4) w4) ∧
    ((((-1000) ≤ j_1) ∧ (j_1 ≤ 1000)) →
     ∀ w4, Ext w w4 →
     FnP Tryz.prog F_need_Check #[(.agg #[(.int .i64 j_2), (.int .i64 j_3), (.int .i64 j_4)])] w4 fun v5 w5 =>
      Ext w4 w5 ∧
      ∃ t6 : Int, v5 = (.int .i64 t6) ∧
      ((t6 ≠ 0) →
       ∀ w7, Ext w w7 →
       Q (.int .i64 t6) w7) ∧
      ((t6 = 0) →
       ∀ w7, Ext w w7 →
       FnP Tryz.prog F_ask_Check #[(.agg #[(.int .i64 j_5), (.string j_6), (.string j_7), (.int .i64 j_8), (.slice j_9 j_9l j_9c)])] w7 fun v8 w8 =>
        Ext w7 w8 ∧
        ∃ t9 : Int, v8 = (.int .i64 t9) ∧
        ((t9 ≠ 0) →
         ∀ w10, Ext w w10 →
         Q (.int .i64 t9) w10) ∧
        ((t9 = 0) →
         ((8 < (j_10l : Int)) →
          ∀ w10, Ext w w10 →
          Q (.int .i64 2) w10) ∧
         (((j_10l : Int) ≤ 8) →
          ∃ (I10 : Int → Int → World → Prop) (M10 : Int → Int → World → Nat), I10 0 0 w ∧
          ∀ (last11 : Int) (k12 : Int) (w13 : World), I10 last11 k12 w13 →
           (((k12 < (j_10l : Int)) →
            j_10 ≠ none ∧
            (0 : Int) ≤ k12 ∧
            (k12 : Int) < (j_10l : Int) ∧
            ∃ t14 : Int, cell w13 (pIdx j_10 k12 1) 0 = some (.int .i64 t14) ∧
            (((t14 < 1) ∨ (60 < t14)) →
             ∀ w15, Ext w13 w15 →
             Q (.int .i64 4) w15) ∧
            (((1 ≤ t14) ∧ (t14 ≤ 60)) →
             ((t14 ≤ last11) →
              ∀ w15, Ext w13 w15 →
              Q (.int .i64 6) w15) ∧
             ((last11 < t14) →
              InR .i64 (k12 + 1) ∧
              (I10 t14 (k12 + 1) w13 ∧ M10 t14 (k12 + 1) w13 < M10 last11 k12 w13))))) ∧
           (((j_10l : Int) ≤ k12) →
            ∀ w14, Ext w13 w14 →
            Q (.int .i64 0) w14))))))

theorem ok_job_Check (j_0 : ByteArray) (j_1 : Int) (j_2 : Int) (j_3 : Int) (j_4 : Int) (j_5 : Int) (j_6 : ByteArray) (j_7 : ByteArray) (j_8 : Int) (j_9 : Option Addr) (j_9l : Nat) (j_9c : Nat) (j_10 : Option Addr) (j_10l : Nat) (j_10c : Nat) (w : World) (Q : Value → World → Prop) (h : wp_job_Check j_0 j_1 j_2 j_3 j_4 j_5 j_6 j_7 j_8 j_9 j_9l j_9c j_10 j_10l j_10c w Q) : FnP Tryz.prog F_job_Check #[(.agg #[(.string j_0), (.int .i64 j_1), (.int .i64 j_2), (.int .i64 j_3), (.int .i64 j_4), (.int .i64 j_5), (.string j_6), (.string j_7), (.int .i64 j_8), (.slice j_9 j_9l j_9c), (.slice j_10 j_10l j_10c)])] w Q := by
  have e_ : wp_job_Check j_0 j_1 j_2 j_3 j_4 j_5 j_6 j_7 j_8 j_9 j_9l j_9c j_10 j_10l j_10c w Q = Runs Tryz.prog Q ({ N := 58, wrap := [], pub := [], muts := [], joins := [] } : Cfg) Tryz.f20 (Tryz.f20.body.getD .skip) [.agg [.str j_0, .int .i64 j_1, .int .i64 j_2, .int .i64 j_3, .int .i64 j_4, .int .i64 j_5, .str j_6, .str j_7, .int .i64 j_8, .slc j_9 j_9l j_9c, .slc j_10 j_10l j_10c]] w := by kernel_rfl
  rw [e_] at h
  exact runs_fn h Tryz.func20 (by kernel_rfl) (fun args w => Tryz.call20 args w) (by kernel_rfl) (by kernel_rfl) rfl rfl

/-- shiftbell/job.after -/
def wp_job_after (l : Option Addr) (ll : Nat) (lc : Nat) (w : World) (Q : Value → World → Prop) : Prop :=
  (((ll : Int) = 0) →
   ∀ w0, Ext w w0 →
   Q (.string (⟨#[45]⟩ : ByteArray)) w0) ∧
  (((ll : Int) ≠ 0) →
   ∃ (I0 : Option Addr → Nat → Nat → Int → World → Prop) (M0 : Option Addr → Nat → Nat → Int → World → Nat), I0 none 0 0 0 w ∧
   ∀ (out1 : Option Addr) (outl1 : Nat) (outc1 : Nat) (k2 : Int) (w3 : World), I0 out1 outl1 outc1 k2 w3 →
    (((k2 < (ll : Int)) →
     l ≠ none ∧
     (0 : Int) ≤ k2 ∧
     (k2 : Int) < (ll : Int) ∧
     ∃ t4 : Int, cell w3 (pIdx l k2 1) 0 = some (.int .i64 t4) ∧
     ∀ w5, Ext w3 w5 →
     FnP Tryz.prog F_strconv_Itoa #[(.int .i64 t4)] w5 fun v6 w6 =>
      Ext w5 w6 ∧
      ∃ t7 : ByteArray, v6 = (.string t7) ∧
      ∀ w8, Ext w3 w8 →
      Run Tryz.prog (.buildSlice 64 1 [(0, (.string t7))]) w8 fun v9 w9 =>
       Ext w8 w9 ∧
       ∃ t10 : Option Addr, ∃ tl11 : Nat, ∃ tc12 : Nat, v9 = (.slice t10 tl11 tc12) ∧
       ∀ w13, Ext w9 w13 →
       Run Tryz.prog (.append #[64, 64] 64 [(.slice out1 outl1 outc1), (.slice t10 tl11 tc12)]) w13 fun v14 w14 =>
        ∃ t15 : Option Addr, ∃ tl16 : Nat, ∃ tc17 : Nat, v14 = (.slice t15 tl16 tc17) ∧
        InR .i64 (k2 + 1) ∧
        (I0 t15 tl16 tc17 (k2 + 1) w14 ∧ M0 t15 tl16 tc17 (k2 + 1) w14 < M0 out1 outl1 outc1 k2 w3))) ∧
    (((ll : Int) ≤ k2) →
     ∀ w4, Ext w3 w4 →
     FnP Tryz.prog F_strings_Join #[(.slice out1 outl1 outc1), (.string (⟨#[44]⟩ : ByteArray))] w4 fun v5 w5 =>
      Ext w4 w5 ∧
      ∃ t6 : ByteArray, v5 = (.string t6) ∧
      ∀ w7, Ext w3 w7 →
      Q (.string t6) w7))

theorem ok_job_after (l : Option Addr) (ll : Nat) (lc : Nat) (w : World) (Q : Value → World → Prop) (h : wp_job_after l ll lc w Q) : FnP Tryz.prog F_job_after #[(.slice l ll lc)] w Q := by
  have e_ : wp_job_after l ll lc w Q = Runs Tryz.prog Q ({ N := 23, wrap := [], pub := [], muts := [], joins := [] } : Cfg) Tryz.f26 (Tryz.f26.body.getD .skip) [.sc (.slc l ll lc)] w := by kernel_rfl
  rw [e_] at h
  exact runs_fn h Tryz.func26 (by kernel_rfl) (fun args w => Tryz.call26 args w) (by kernel_rfl) (by kernel_rfl) rfl rfl

/-- shiftbell/job.Text -/
def wp_job_Text (j_0 : ByteArray) (j_1 : Int) (j_2 : Int) (j_3 : Int) (j_4 : Int) (j_5 : Int) (j_6 : ByteArray) (j_7 : ByteArray) (j_8 : Int) (j_9 : Option Addr) (j_9l : Nat) (j_9c : Nat) (j_10 : Option Addr) (j_10l : Nat) (j_10c : Nat) (w : World) (Q : Value → World → Prop) : Prop :=
  ∀ b0 : Nat, w.heap.size ≤ b0 → ∀ w1, Ext w w1 →
  FnP Tryz.prog F_job_Check #[(.agg #[(.string j_0), (.int .i64 j_1), (.int .i64 j_2), (.int .i64 j_3), (.int .i64 j_4), (.int .i64 j_5), (.string j_6), (.string j_7), (.int .i64 j_8), (.slice j_9 j_9l j_9c), (.slice j_10 j_10l j_10c)])] w1 fun v2 w2 =>
   Ext w1 w2 ∧
   ∃ t3 : Int, v2 = (.int .i64 t3) ∧
   ((t3 ≠ 0) →
    ∀ w4, Ext w w4 →
    Q (.tuple #[(.string (⟨#[]⟩ : ByteArray)), (.int .i64 t3)]) w4) ∧
   ((t3 = 0) →
    ∀ w4, Ext w w4 →
    FnP Tryz.prog F_need_Text #[(.agg #[(.int .i64 j_2), (.int .i64 j_3), (.int .i64 j_4)])] w4 fun v5 w5 =>
     Ext w4 w5 ∧
     ∃ t6 : ByteArray, ∃ t7 : Int, v5 = (.tuple #[(.string t6), (.int .i64 t7)]) ∧
     ∀ w8, Ext w w8 →
     FnP Tryz.prog F_ask_Text #[(.agg #[(.int .i64 j_5), (.string j_6), (.string j_7), (.int .i64 j_8), (.slice j_9 j_9l j_9c)])] w8 fun v9 w9 =>
      Ext w8 w9 ∧
      ∃ t10 : ByteArray, ∃ t11 : Int, v9 = (.tuple #[(.string t10), (.int .i64 t11)]) ∧
      ∀ w12, Ext w w12 →
      FnP Tryz.prog F_strconv_Itoa #[(.int .i64 j_1)] w12 fun v13 w13 =>
       Ext w12 w13 ∧
       ∃ t14 : ByteArray, v13 = (.string t14) ∧
       ∀ w15, Ext w w15 →
       FnP Tryz.prog F_job_after #[(.slice j_10 j_10l j_10c)] w15 fun v16 w16 =>
        Ext w15 w16 ∧
        ∃ t17 : ByteArray, v16 = (.string t17) ∧
        ∀ w18, ExtB [] [b0] w w18 →
        Run Tryz.prog (.buildSlice 64 5 [(0, (.string j_0)), (1, (.string t14)), (2, (.string t6)), (3, (.string t17)), (4, (.string t10))]) w18 fun v19 w19 =>
         Ext w18 w19 ∧
         ∃ t20 : Option Addr, ∃ tl21 : Nat, ∃ tc22 : Nat, v19 = (.slice t20 tl21 tc22) ∧
         ∀ w23, Ext w19 w23 →
         FnP Tryz.prog F_strings_Join #[(.slice t20 tl21 tc22), (.string (⟨#[32]⟩ : ByteArray))] w23 fun v24 w24 =>
          Ext w23 w24 ∧
          ∃ t25 : ByteArray, v24 = (.string t25) ∧
          ∀ w26, Ext w19 w26 →
          Q (.tuple #[(.string t25), (.int .i64 0)]) w26)

theorem ok_job_Text (j_0 : ByteArray) (j_1 : Int) (j_2 : Int) (j_3 : Int) (j_4 : Int) (j_5 : Int) (j_6 : ByteArray) (j_7 : ByteArray) (j_8 : Int) (j_9 : Option Addr) (j_9l : Nat) (j_9c : Nat) (j_10 : Option Addr) (j_10l : Nat) (j_10c : Nat) (w : World) (Q : Value → World → Prop) (h : wp_job_Text j_0 j_1 j_2 j_3 j_4 j_5 j_6 j_7 j_8 j_9 j_9l j_9c j_10 j_10l j_10c w Q) : FnP Tryz.prog F_job_Text #[(.agg #[(.string j_0), (.int .i64 j_1), (.int .i64 j_2), (.int .i64 j_3), (.int .i64 j_4), (.int .i64 j_5), (.string j_6), (.string j_7), (.int .i64 j_8), (.slice j_9 j_9l j_9c), (.slice j_10 j_10l j_10c)])] w Q := by
  have e_ : wp_job_Text j_0 j_1 j_2 j_3 j_4 j_5 j_6 j_7 j_8 j_9 j_9l j_9c j_10 j_10l j_10c w Q = Runs Tryz.prog Q ({ N := 38, wrap := [], pub := [], muts := [], joins := [] } : Cfg) Tryz.f15 (Tryz.f15.body.getD .skip) [.agg [.str j_0, .int .i64 j_1, .int .i64 j_2, .int .i64 j_3, .int .i64 j_4, .int .i64 j_5, .str j_6, .str j_7, .int .i64 j_8, .slc j_9 j_9l j_9c, .slc j_10 j_10l j_10c]] w := by kernel_rfl
  rw [e_] at h
  exact runs_fn h Tryz.func15 (by kernel_rfl) (fun args w => Tryz.call15 args w) (by kernel_rfl) (by kernel_rfl) rfl rfl

/-- shiftbell/job.Read -/
def wp_job_Read (s : ByteArray) (w : World) (Q : Value → World → Prop) : Prop :=
  ∀ b0 : Nat, w.heap.size ≤ b0 → ((3000 < (s.size : Int)) →
   ∀ w1, Ext w w1 →
   Q (.tuple #[(.agg #[(.string (⟨#[]⟩ : ByteArray)), (.int .i64 0), (.int .i64 0), (.int .i64 0), (.int .i64 0), (.int .i64 0), (.string (⟨#[]⟩ : ByteArray)), (.string (⟨#[]⟩ : ByteArray)), (.int .i64 0), (.slice none 0 0), (.slice none 0 0)]), (.int .i64 2)]) w1) ∧
  (((s.size : Int) ≤ 3000) →
   ∀ w1, ExtB [] [b0] w w1 →
   FnP Tryz.prog F_strings_Split #[(.string s), (.string (⟨#[32]⟩ : ByteArray))] w1 fun v2 w2 =>
    Ext w1 w2 ∧
    ∃ t3 : Option Addr, ∃ tl4 : Nat, ∃ tc5 : Nat, v2 = (.slice t3 tl4 tc5) ∧
    (((tl4 : Int) ≠ 5) →
     ∀ w6, ExtB [b0] [] w2 w6 →
     Q (.tuple #[(.agg #[(.string (⟨#[]⟩ : ByteArray)), (.int .i64 0), (.int .i64 0), (.int .i64 0), (.int .i64 0), (.int .i64 0), (.string (⟨#[]⟩ : ByteArray)), (.string (⟨#[]⟩ : ByteArray)), (.int .i64 0), (.slice none 0 0), (.slice none 0 0)]), (.int .i64 3)]) w6) ∧
    (((tl4 : Int) = 5) →
     t3 ≠ none ∧
     (0 : Int) ≤ 0 ∧
     (0 : Int) < (tl4 : Int) ∧
     ∃ t6 : ByteArray, cell w2 (pIdx t3 0 1) 0 = some (.string t6) ∧
     ∀ b7 : Nat, w2.heap.size ≤ b7 → t3 ≠ none ∧
     (0 : Int) ≤ 1 ∧
     (1 : Int) < (tl4 : Int) ∧
     ∃ t8 : ByteArray, cell w2 (pIdx t3 1 1) 0 = some (.string t8) ∧
     ∀ w9, ExtB [] [b0, b7] w2 w9 →
     FnP Tryz.prog F_strconv_Atoi #[(.string t8)] w9 fun v10 w10 =>
      Ext w9 w10 ∧
      ∃ t11 : Int, ∃ t12 : Value, v10 = (.tuple #[(.int .i64 t11), t12]) ∧
      t3 ≠ none ∧
      (0 : Int) ≤ 2 ∧
      (2 : Int) < (tl4 : Int) ∧
      ∃ t13 : ByteArray, ((cell w10 (pIdx t3 2 1) 0 = some (.string t13) ∧ Free [b7] (pIdx t3 2 1))) ∧
      ∀ w14, ExtB [b7] [] w10 w14 →
      FnP Tryz.prog F_need_Read #[(.string t13)] w14 fun v15 w15 =>
       Ext w14 w15 ∧
       ∃ t_016 : Int, ∃ t_117 : Int, ∃ t_218 : Int, ∃ t19 : Int, v15 = (.tuple #[(.agg #[(.int .i64 t_016), (.int .i64 t_117), (.int .i64 t_218)]), (.int .i64 t19)]) ∧
       t3 ≠ none ∧
       (0 : Int) ≤ 4 ∧
       (4 : Int) < (tl4 : Int) ∧
       ∃ t20 : ByteArray, ((cell w10 (pIdx t3 4 1) 0 = some (.string t20) ∧ Free [b7] (pIdx t3 4 1))) ∧
       ∀ w21, ExtB [b7] [b0, b7] w10 w21 →
       FnP Tryz.prog F_ask_Read #[(.string t20)] w21 fun v22 w22 =>
        Ext w21 w22 ∧
        ∃ t_023 : Int, ∃ t_124 : ByteArray, ∃ t_225 : ByteArray, ∃ t_326 : Int, ∃ t_427 : Option Addr, ∃ t_4l28 : Nat, ∃ t_4c29 : Nat, ∃ t30 : Int, v22 = (.tuple #[(.agg #[(.int .i64 t_023), (.string t_124), (.string t_225), (.int .i64 t_326), (.slice t_427 t_4l28 t_4c29)]), (.int .i64 t30)]) ∧
        ∀ w31, ExtB [b7] [] w22 w31 →
        Run Tryz.prog (.eq .neq 67 false true t12 .nilIface) w31 fun v32 w32 =>
         Ext w31 w32 ∧
         ∃ t33 : Bool, v32 = (.bool t33) ∧
         ((((t33 = true) ∨ (t19 ≠ 0)) ∨ (t30 ≠ 0)) →
          ∀ w34, ExtB [b0, b7] [] w22 w34 →
          Q (.tuple #[(.agg #[(.string (⟨#[]⟩ : ByteArray)), (.int .i64 0), (.int .i64 0), (.int .i64 0), (.int .i64 0), (.int .i64 0), (.string (⟨#[]⟩ : ByteArray)), (.string (⟨#[]⟩ : ByteArray)), (.int .i64 0), (.slice none 0 0), (.slice none 0 0)]), (.int .i64 3)]) w34) ∧
         ((((t33 = false) ∧ (t19 = 0)) ∧ (t30 = 0)) →
          t3 ≠ none ∧
          (0 : Int) ≤ 3 ∧
          (3 : Int) < (tl4 : Int) ∧
          ∃ t34 : ByteArray, ((cell w22 (pIdx t3 3 1) 0 = some (.string t34) ∧ Free [b7] (pIdx t3 3 1))) ∧
          (((t34 ≠ (⟨#[45]⟩ : ByteArray)) →
           t3 ≠ none ∧
           (0 : Int) ≤ 3 ∧
           (3 : Int) < (tl4 : Int) ∧
           ∃ t35 : ByteArray, ((cell w22 (pIdx t3 3 1) 0 = some (.string t35) ∧ Free [b7] (pIdx t3 3 1))) ∧
           ∀ w36, ExtB [b7] [b0, b7] w22 w36 →
           FnP Tryz.prog F_strings_Split #[(.string t35), (.string (⟨#[44]⟩ : ByteArray))] w36 fun v37 w37 =>
            Ext w36 w37 ∧
            ∃ t38 : Option Addr, ∃ tl39 : Nat, ∃ tc40 : Nat, v37 = (.slice t38 tl39 tc40) ∧
            ∃ (I41 : Int → ByteArray → Int → Int → Int → Int → Int → ByteArray → ByteArray → Int → Option Addr → Nat → Nat → Option Addr → Nat → Nat → World → Prop) (M41 : Int → ByteArray → Int → Int → Int → Int → Int → ByteArray → ByteArray → Int → Option Addr → Nat → Nat → Option Addr → Nat → Nat → World → Nat), I41 0 t6 t11 t_016 t_117 t_218 t_023 t_124 t_225 t_326 t_427 t_4l28 t_4c29 none 0 0 w37 ∧
            ∀ (k42 : Int) (c43 : ByteArray) (c44 : Int) (c45 : Int) (c46 : Int) (c47 : Int) (c48 : Int) (c49 : ByteArray) (c50 : ByteArray) (c51 : Int) (c52 : Option Addr) (cl52 : Nat) (cc52 : Nat) (c53 : Option Addr) (cl53 : Nat) (cc53 : Nat) (w54 : World), I41 k42 c43 c44 c45 c46 c47 c48 c49 c50 c51 c52 cl52 cc52 c53 cl53 cc53 w54 →
             (((k42 < (tl39 : Int)) →
              t38 ≠ none ∧
              (0 : Int) ≤ k42 ∧
              (k42 : Int) < (tl39 : Int) ∧
              ∃ t55 : ByteArray, ((cell w54 (pIdx t38 k42 1) 0 = some (.string t55) ∧ Free [b7] (pIdx t38 k42 1))) ∧
              ∀ w56, ExtB [b7] [b0, b7] w54 w56 →
              FnP Tryz.prog F_strconv_Atoi #[(.string t55)] w56 fun v57 w57 =>
               Ext w56 w57 ∧
               ∃ t58 : Int, ∃ t59 : Value, v57 = (.tuple #[(.int .i64 t58), t59]) ∧
               ∀ w60, Ext w57 w60 →
               Run Tryz.prog (.eq .neq 67 false true t59 .nilIface) w60 fun v61 w61 =>
                Ext w60 w61 ∧
                ∃ t62 : Bool, v61 = (.bool t62) ∧
                ((t62 = true) →
                 ∀ w63, ExtB [b0] [] w57 w63 →
                 Q (.tuple #[(.agg #[(.string (⟨#[]⟩ : ByteArray)), (.int .i64 0), (.int .i64 0), (.int .i64 0), (.int .i64 0), (.int .i64 0), (.string (⟨#[]⟩ : ByteArray)), (.string (⟨#[]⟩ : ByteArray)), (.int .i64 0), (.slice none 0 0), (.slice none 0 0)]), (.int .i64 3)]) w63) ∧
                ((t62 = false) →
                 ∀ w63, ExtB [] [b0, b7] w57 w63 →
                 Run Tryz.prog (.buildSlice 27 1 [(0, (.int .i64 t58))]) w63 fun v64 w64 =>
                  Ext w63 w64 ∧
                  ∃ t65 : Option Addr, ∃ tl66 : Nat, ∃ tc67 : Nat, v64 = (.slice t65 tl66 tc67) ∧
                  ∀ w68, ExtB [] [b0, b7] w64 w68 →
                  Run Tryz.prog (.append #[27, 27] 27 [(.slice c53 cl53 cc53), (.slice t65 tl66 tc67)]) w68 fun v69 w69 =>
                   Kept [b0, b7] w68 w69 ∧
                   ∃ t70 : Option Addr, ∃ tl71 : Nat, ∃ tc72 : Nat, v69 = (.slice t70 tl71 tc72) ∧
                   InR .i64 (k42 + 1) ∧
                   (I41 (k42 + 1) c43 c44 c45 c46 c47 c48 c49 c50 c51 c52 cl52 cc52 t70 tl71 tc72 w69 ∧ M41 (k42 + 1) c43 c44 c45 c46 c47 c48 c49 c50 c51 c52 cl52 cc52 t70 tl71 tc72 w69 < M41 k42 c43 c44 c45 c46 c47 c48 c49 c50 c51 c52 cl52 cc52 c53 cl53 cc53 w54)))) ∧
             (((tl39 : Int) ≤ k42) →
              ∀ w55, ExtB [b7] [] w54 w55 →
              FnP Tryz.prog F_job_Text #[(.agg #[(.string c43), (.int .i64 c44), (.int .i64 c45), (.int .i64 c46), (.int .i64 c47), (.int .i64 c48), (.string c49), (.string c50), (.int .i64 c51), (.slice c52 cl52 cc52), (.slice c53 cl53 cc53)])] w55 fun v56 w56 =>
               Ext w55 w56 ∧
               ∃ t57 : ByteArray, ∃ t58 : Int, v56 = (.tuple #[(.string t57), (.int .i64 t58)]) ∧
               (((t58 ≠ 0) ∨ (t57 ≠ s)) →
                ∀ w59, ExtB [b0, b7] [] w54 w59 →
                Q (.tuple #[(.agg #[(.string (⟨#[]⟩ : ByteArray)), (.int .i64 0), (.int .i64 0), (.int .i64 0), (.int .i64 0), (.int .i64 0), (.string (⟨#[]⟩ : ByteArray)), (.string (⟨#[]⟩ : ByteArray)), (.int .i64 0), (.slice none 0 0), (.slice none 0 0)]), (.int .i64 3)]) w59) ∧
               (((t58 = 0) ∧ (t57 = s)) →
                ∀ w59, ExtB [b0, b7] [] w54 w59 →
                Q (.tuple #[(.agg #[(.string c43), (.int .i64 c44), (.int .i64 c45), (.int .i64 c46), (.int .i64 c47), (.int .i64 c48), (.string c49), (.string c50), (.int .i64 c51), (.slice c52 cl52 cc52), (.slice c53 cl53 cc53)]), (.int .i64 0)]) w59)))) ∧
          ((t34 = (⟨#[45]⟩ : ByteArray)) →
           ∀ w35, ExtB [b7] [] w22 w35 →
           FnP Tryz.prog F_job_Text #[(.agg #[(.string t6), (.int .i64 t11), (.int .i64 t_016), (.int .i64 t_117), (.int .i64 t_218), (.int .i64 t_023), (.string t_124), (.string t_225), (.int .i64 t_326), (.slice t_427 t_4l28 t_4c29), (.slice none 0 0)])] w35 fun v36 w36 =>
            Ext w35 w36 ∧
            ∃ t37 : ByteArray, ∃ t38 : Int, v36 = (.tuple #[(.string t37), (.int .i64 t38)]) ∧
            (((t38 ≠ 0) ∨ (t37 ≠ s)) →
             ∀ w39, ExtB [b0, b7] [] w22 w39 →
             Q (.tuple #[(.agg #[(.string (⟨#[]⟩ : ByteArray)), (.int .i64 0), (.int .i64 0), (.int .i64 0), (.int .i64 0), (.int .i64 0), (.string (⟨#[]⟩ : ByteArray)), (.string (⟨#[]⟩ : ByteArray)), (.int .i64 0), (.slice none 0 0), (.slice none 0 0)]), (.int .i64 3)]) w39) ∧
            (((t38 = 0) ∧ (t37 = s)) →
             ∀ w39, ExtB [b0, b7] [] w22 w39 →
             Q (.tuple #[(.agg #[(.string t6), (.int .i64 t11), (.int .i64 t_016), (.int .i64 t_117), (.int .i64 t_218), (.int .i64 t_023), (.string t_124), (.string t_225), (.int .i64 t_326), (.slice t_427 t_4l28 t_4c29), (.slice none 0 0)]), (.int .i64 0)]) w39)))))

theorem ok_job_Read (s : ByteArray) (w : World) (Q : Value → World → Prop) (h : wp_job_Read s w Q) : FnP Tryz.prog F_job_Read #[(.string s)] w Q := by
  have e_ : wp_job_Read s w Q = Runs Tryz.prog Q ({ N := 106, wrap := [], pub := [], muts := [], joins := [] } : Cfg) Tryz.f17 (Tryz.f17.body.getD .skip) [.sc (.str s)] w := by kernel_rfl
  rw [e_] at h
  exact runs_fn h Tryz.func17 (by kernel_rfl) (fun args w => Tryz.call17 args w) (by kernel_rfl) (by kernel_rfl) rfl rfl

/-- shiftbell/shiftbellkeep.sameJob -/
def wp_shiftbellkeep_sameJob (a_0 : ByteArray) (a_1 : Int) (a_2 : Int) (a_3 : Int) (a_4 : Int) (a_5 : Int) (a_6 : ByteArray) (a_7 : ByteArray) (a_8 : Int) (a_9 : Option Addr) (a_9l : Nat) (a_9c : Nat) (a_10 : Option Addr) (a_10l : Nat) (a_10c : Nat) (b_0 : ByteArray) (b_1 : Int) (b_2 : Int) (b_3 : Int) (b_4 : Int) (b_5 : Int) (b_6 : ByteArray) (b_7 : ByteArray) (b_8 : Int) (b_9 : Option Addr) (b_9l : Nat) (b_9c : Nat) (b_10 : Option Addr) (b_10l : Nat) (b_10c : Nat) (w : World) (Q : Value → World → Prop) : Prop :=
  ∀ b0 : Nat, w.heap.size ≤ b0 → ∀ b1 : Nat, w.heap.size ≤ b1 → ((((a_0 = b_0) ∧ (a_1 = b_1)) →
   ∀ w2, Ext w w2 →
   Run Tryz.prog (.eq .eql 23 false false (.agg #[(.int .i64 a_2), (.int .i64 a_3), (.int .i64 a_4)]) (.agg #[(.int .i64 b_2), (.int .i64 b_3), (.int .i64 b_4)])) w2 fun v3 w3 =>
    Ext w2 w3 ∧
    ∃ t4 : Bool, v3 = (.bool t4) ∧
    (((t4 = true) →
     ∀ w5, Ext w w5 →
     FnP Tryz.prog F_shiftbellkeep_sameAsk #[(.agg #[(.int .i64 a_5), (.string a_6), (.string a_7), (.int .i64 a_8), (.slice a_9 a_9l a_9c)]), (.agg #[(.int .i64 b_5), (.string b_6), (.string b_7), (.int .i64 b_8), (.slice b_9 b_9l b_9c)])] w5 fun v6 w6 =>
      Ext w5 w6 ∧
      ∃ t7 : Bool, v6 = (.bool t7) ∧
      (((t7 = true) →
       ∀ w8, Ext w w8 →
       FnP Tryz.prog F_slices_Equal_int_int #[(.slice a_10 a_10l a_10c), (.slice b_10 b_10l b_10c)] w8 fun v9 w9 =>
        Ext w8 w9 ∧
        ∃ t10 : Bool, v9 = (.bool t10) ∧
        ∀ w11, Ext w w11 →
        Q (.bool t10) w11)) ∧
      ((t7 = false) →
       ∀ w8, Ext w w8 →
       Q (.bool false) w8))) ∧
    ((t4 = false) →
     ∀ w5, Ext w w5 →
     Q (.bool false) w5))) ∧
  (((a_0 ≠ b_0) ∨ (a_1 ≠ b_1)) →
   ∀ w2, Ext w w2 →
   Q (.bool false) w2)

theorem ok_shiftbellkeep_sameJob (a_0 : ByteArray) (a_1 : Int) (a_2 : Int) (a_3 : Int) (a_4 : Int) (a_5 : Int) (a_6 : ByteArray) (a_7 : ByteArray) (a_8 : Int) (a_9 : Option Addr) (a_9l : Nat) (a_9c : Nat) (a_10 : Option Addr) (a_10l : Nat) (a_10c : Nat) (b_0 : ByteArray) (b_1 : Int) (b_2 : Int) (b_3 : Int) (b_4 : Int) (b_5 : Int) (b_6 : ByteArray) (b_7 : ByteArray) (b_8 : Int) (b_9 : Option Addr) (b_9l : Nat) (b_9c : Nat) (b_10 : Option Addr) (b_10l : Nat) (b_10c : Nat) (w : World) (Q : Value → World → Prop) (h : wp_shiftbellkeep_sameJob a_0 a_1 a_2 a_3 a_4 a_5 a_6 a_7 a_8 a_9 a_9l a_9c a_10 a_10l a_10c b_0 b_1 b_2 b_3 b_4 b_5 b_6 b_7 b_8 b_9 b_9l b_9c b_10 b_10l b_10c w Q) : FnP Tryz.prog F_shiftbellkeep_sameJob #[(.agg #[(.string a_0), (.int .i64 a_1), (.int .i64 a_2), (.int .i64 a_3), (.int .i64 a_4), (.int .i64 a_5), (.string a_6), (.string a_7), (.int .i64 a_8), (.slice a_9 a_9l a_9c), (.slice a_10 a_10l a_10c)]), (.agg #[(.string b_0), (.int .i64 b_1), (.int .i64 b_2), (.int .i64 b_3), (.int .i64 b_4), (.int .i64 b_5), (.string b_6), (.string b_7), (.int .i64 b_8), (.slice b_9 b_9l b_9c), (.slice b_10 b_10l b_10c)])] w Q := by
  have e_ : wp_shiftbellkeep_sameJob a_0 a_1 a_2 a_3 a_4 a_5 a_6 a_7 a_8 a_9 a_9l a_9c a_10 a_10l a_10c b_0 b_1 b_2 b_3 b_4 b_5 b_6 b_7 b_8 b_9 b_9l b_9c b_10 b_10l b_10c w Q = Runs Tryz.prog Q ({ N := 38, wrap := [], pub := [], muts := [], joins := [] } : Cfg) Tryz.f18 (Tryz.f18.body.getD .skip) [.agg [.str a_0, .int .i64 a_1, .int .i64 a_2, .int .i64 a_3, .int .i64 a_4, .int .i64 a_5, .str a_6, .str a_7, .int .i64 a_8, .slc a_9 a_9l a_9c, .slc a_10 a_10l a_10c], .agg [.str b_0, .int .i64 b_1, .int .i64 b_2, .int .i64 b_3, .int .i64 b_4, .int .i64 b_5, .str b_6, .str b_7, .int .i64 b_8, .slc b_9 b_9l b_9c, .slc b_10 b_10l b_10c]] w := by kernel_rfl
  rw [e_] at h
  exact runs_fn h Tryz.func18 (by kernel_rfl) (fun args w => Tryz.call18 args w) (by kernel_rfl) (by kernel_rfl) rfl rfl

/-- slices.Equal[[]int,int] -/
def wp_slices_Equal_int_int (s1 : Option Addr) (s1l : Nat) (s1c : Nat) (s2 : Option Addr) (s2l : Nat) (s2c : Nat) (w : World) (Q : Value → World → Prop) : Prop :=
  (((s1l : Int) ≠ (s2l : Int)) →
   ∀ w0, Ext w w0 →
   Q (.bool false) w0) ∧
  (((s1l : Int) = (s2l : Int)) →
   ∃ (I0 : Int → World → Prop) (M0 : Int → World → Nat), I0 0 w ∧
   ∀ (k1 : Int) (w2 : World), I0 k1 w2 →
    (((k1 < (s1l : Int)) →
     s1 ≠ none ∧
     (0 : Int) ≤ k1 ∧
     (k1 : Int) < (s1l : Int) ∧
     ∃ t3 : Int, cell w2 (pIdx s1 k1 1) 0 = some (.int .i64 t3) ∧
     s2 ≠ none ∧
     (0 : Int) ≤ k1 ∧
     (k1 : Int) < (s2l : Int) ∧
     ∃ t4 : Int, cell w2 (pIdx s2 k1 1) 0 = some (.int .i64 t4) ∧
     ((t3 ≠ t4) →
      ∀ w5, Ext w2 w5 →
      Q (.bool false) w5) ∧
     ((t3 = t4) →
      InR .i64 (k1 + 1) ∧
      (I0 (k1 + 1) w2 ∧ M0 (k1 + 1) w2 < M0 k1 w2)))) ∧
    (((s1l : Int) ≤ k1) →
     ∀ w3, Ext w2 w3 →
     Q (.bool true) w3))

theorem ok_slices_Equal_int_int (s1 : Option Addr) (s1l : Nat) (s1c : Nat) (s2 : Option Addr) (s2l : Nat) (s2c : Nat) (w : World) (Q : Value → World → Prop) (h : wp_slices_Equal_int_int s1 s1l s1c s2 s2l s2c w Q) : FnP Tryz.prog F_slices_Equal_int_int #[(.slice s1 s1l s1c), (.slice s2 s2l s2c)] w Q := by
  have e_ : wp_slices_Equal_int_int s1 s1l s1c s2 s2l s2c w Q = Runs Tryz.prog Q ({ N := 26, wrap := [], pub := [], muts := [], joins := [] } : Cfg) Tryz.f32 (Tryz.f32.body.getD .skip) [.sc (.slc s1 s1l s1c), .sc (.slc s2 s2l s2c)] w := by kernel_rfl
  rw [e_] at h
  exact runs_fn h Tryz.func32 (by kernel_rfl) (fun args w => Tryz.call32 args w) (by kernel_rfl) (by kernel_rfl) rfl rfl

end Go.Proofs.YtenppnomdejmlaaGreatDoor
