/- The texts of this seat's functions: what each computes, as its symbolic run says it. -/
import Derived.Test.YtenppnomdejmlaaDoorRows
import Derived.Test.YtenppnomdejmlaaDoorSxD
import Derived.Test.YtenppnomdejmlaaDoorSxN
import Derived.Test.YtenppnomdejmlaaDoorTxt
import Derived.Test.YtenppnomdejmlaaDoorTxtD
import Derived.Test.YtenppnomdejmlaaDoorTxtE
set_option linter.unusedVariables false
set_option linter.unusedSimpArgs false
set_option maxRecDepth 100000
namespace Go.Proofs.YtenppnomdejmlaaDoor
open Go.Sx Go.RowKit

abbrev F_shiftbellkeep_JobBack : FuncId := 4
abbrev F_shiftbellkeep_jobs : FuncId := 13
abbrev F_job_Read : FuncId := 15
abbrev F_shiftbellkeep_sameJob : FuncId := 16
abbrev F_shiftbellkeep_one : FuncId := 21
abbrev F_strconv_Itoa : FuncId := 25
abbrev F_job_after : FuncId := 26
abbrev F_strconv_Atoi : FuncId := 28
abbrev F_slices_Equal_int_int : FuncId := 32

/-- shiftbell/job.Check -/
def wp_job_Check (j_0 : ByteArray) (j_1 : Int) (j_2 : Int) (j_3 : Int) (j_4 : Int) (j_5 : Int) (j_6 : ByteArray) (j_7 : ByteArray) (j_8 : Int) (j_9 : Option Addr) (j_9l : Nat) (j_9c : Nat) (j_10 : Option Addr) (j_10l : Nat) (j_10c : Nat) (w : World) (Q : Value → World → Prop) : Prop :=
  ∀ b0 : Nat, w.heap.size ≤ b0 → ∀ w1, Ext w w1 →
  FnP Tryd.prog F_ask_Label #[(.string j_0)] w1 fun v2 w2 =>
   Ext w1 w2 ∧
   ∃ t3 : Bool, v2 = (.bool t3) ∧
   ((t3 = false) →
    ∀ w4, Ext w w4 →
    Q (.int .i64 3) w4) ∧
   ((t3 = true) →
    (((j_1 < (-1000)) ∨ (1000 < j_1)) →
     ∀ w4, Ext w w4 →
     Q (.int .i64 4) w4) ∧
    ((((-1000) ≤ j_1) ∧ (j_1 ≤ 1000)) →
     ∀ w4, Ext w w4 →
     FnP Tryd.prog F_need_Check #[(.agg #[(.int .i64 j_2), (.int .i64 j_3), (.int .i64 j_4)])] w4 fun v5 w5 =>
      Ext w4 w5 ∧
      ∃ t6 : Int, v5 = (.int .i64 t6) ∧
      ((t6 ≠ 0) →
       ∀ w7, Ext w w7 →
       Q (.int .i64 t6) w7) ∧
      ((t6 = 0) →
       ∀ w7, Ext w w7 →
       FnP Tryd.prog F_ask_Check #[(.agg #[(.int .i64 j_5), (.string j_6), (.string j_7), (.int .i64 j_8), (.slice j_9 j_9l j_9c)])] w7 fun v8 w8 =>
        Ext w7 w8 ∧
        ∃ t9 : Int, v8 = (.int .i64 t9) ∧
        ((t9 ≠ 0) →
         ∀ w10, Ext w w10 →
         Q (.int .i64 t9) w10) ∧
        ((t9 = 0) →
         ((8 < (j_10l : Int)) →
          ∀ w10, Ext w w10 →
          Q (.int .i64 2) w10) ∧
         (((j_10l : Int) ≤ 8) →
          ∃ (I10 : Int → Int → World → Prop) (M10 : Int → Int → World → Nat), I10 0 0 w ∧
          ∀ (last11 : Int) (k12 : Int) (w13 : World), I10 last11 k12 w13 →
           (((k12 < (j_10l : Int)) →
            j_10 ≠ none ∧
            (0 : Int) ≤ k12 ∧
            (k12 : Int) < (j_10l : Int) ∧
            ∃ t14 : Int, cell w13 (pIdx j_10 k12 1) 0 = some (.int .i64 t14) ∧
            (((t14 < 1) ∨ (60 < t14)) →
             ∀ w15, Ext w13 w15 →
             Q (.int .i64 4) w15) ∧
            (((1 ≤ t14) ∧ (t14 ≤ 60)) →
             ((t14 ≤ last11) →
              ∀ w15, Ext w13 w15 →
              Q (.int .i64 6) w15) ∧
             ((last11 < t14) →
              InR .i64 (k12 + 1) ∧
              (I10 t14 (k12 + 1) w13 ∧ M10 t14 (k12 + 1) w13 < M10 last11 k12 w13))))) ∧
           (((j_10l : Int) ≤ k12) →
            ∀ w14, Ext w13 w14 →
            Q (.int .i64 0) w14))))))

theorem ok_job_Check (j_0 : ByteArray) (j_1 : Int) (j_2 : Int) (j_3 : Int) (j_4 : Int) (j_5 : Int) (j_6 : ByteArray) (j_7 : ByteArray) (j_8 : Int) (j_9 : Option Addr) (j_9l : Nat) (j_9c : Nat) (j_10 : Option Addr) (j_10l : Nat) (j_10c : Nat) (w : World) (Q : Value → World → Prop) (h : wp_job_Check j_0 j_1 j_2 j_3 j_4 j_5 j_6 j_7 j_8 j_9 j_9l j_9c j_10 j_10l j_10c w Q) : FnP Tryd.prog F_job_Check #[(.agg #[(.string j_0), (.int .i64 j_1), (.int .i64 j_2), (.int .i64 j_3), (.int .i64 j_4), (.int .i64 j_5), (.string j_6), (.string j_7), (.int .i64 j_8), (.slice j_9 j_9l j_9c), (.slice j_10 j_10l j_10c)])] w Q := by
  have e_ : wp_job_Check j_0 j_1 j_2 j_3 j_4 j_5 j_6 j_7 j_8 j_9 j_9l j_9c j_10 j_10l j_10c w Q = Runs Tryd.prog Q ({ N := 58, wrap := [], pub := [], muts := [], joins := [] } : Cfg) Tryd.f17 (Tryd.f17.body.getD .skip) [.agg [.str j_0, .int .i64 j_1, .int .i64 j_2, .int .i64 j_3, .int .i64 j_4, .int .i64 j_5, .str j_6, .str j_7, .int .i64 j_8, .slc j_9 j_9l j_9c, .slc j_10 j_10l j_10c]] w := by kernel_rfl
  rw [e_] at h
  exact runs_fn h Tryd.func17 (by kernel_rfl) (fun args w => Tryd.call17 args w) (by kernel_rfl) (by kernel_rfl) rfl rfl

/-- shiftbell/job.after -/
def wp_job_after (l : Option Addr) (ll : Nat) (lc : Nat) (w : World) (Q : Value → World → Prop) : Prop :=
  (((ll : Int) = 0) →
   ∀ w0, Ext w w0 →
   Q (.string (⟨#[45]⟩ : ByteArray)) w0) ∧
  (((ll : Int) ≠ 0) →
   ∃ (I0 : Option Addr → Nat → Nat → Int → World → Prop) (M0 : Option Addr → Nat → Nat → Int → World → Nat), I0 none 0 0 0 w ∧
   ∀ (out1 : Option Addr) (outl1 : Nat) (outc1 : Nat) (k2 : Int) (w3 : World), I0 out1 outl1 outc1 k2 w3 →
    (((k2 < (ll : Int)) →
     l ≠ none ∧
     (0 : Int) ≤ k2 ∧
     (k2 : Int) < (ll : Int) ∧
     ∃ t4 : Int, cell w3 (pIdx l k2 1) 0 = some (.int .i64 t4) ∧
     ∀ w5, Ext w3 w5 →
     FnP Tryd.prog F_strconv_Itoa #[(.int .i64 t4)] w5 fun v6 w6 =>
      Ext w5 w6 ∧
      ∃ t7 : ByteArray, v6 = (.string t7) ∧
      ∀ w8, Ext w3 w8 →
      Run Tryd.prog (.buildSlice 65 1 [(0, (.string t7))]) w8 fun v9 w9 =>
       Ext w8 w9 ∧
       ∃ t10 : Option Addr, ∃ tl11 : Nat, ∃ tc12 : Nat, v9 = (.slice t10 tl11 tc12) ∧
       ∀ w13, Ext w9 w13 →
       Run Tryd.prog (.append #[65, 65] 65 [(.slice out1 outl1 outc1), (.slice t10 tl11 tc12)]) w13 fun v14 w14 =>
        ∃ t15 : Option Addr, ∃ tl16 : Nat, ∃ tc17 : Nat, v14 = (.slice t15 tl16 tc17) ∧
        InR .i64 (k2 + 1) ∧
        (I0 t15 tl16 tc17 (k2 + 1) w14 ∧ M0 t15 tl16 tc17 (k2 + 1) w14 < M0 out1 outl1 outc1 k2 w3))) ∧
    (((ll : Int) ≤ k2) →
     ∀ w4, Ext w3 w4 →
     FnP Tryd.prog F_strings_Join #[(.slice out1 outl1 outc1), (.string (⟨#[44]⟩ : ByteArray))] w4 fun v5 w5 =>
      Ext w4 w5 ∧
      ∃ t6 : ByteArray, v5 = (.string t6) ∧
      ∀ w7, Ext w3 w7 →
      Q (.string t6) w7))

theorem ok_job_after (l : Option Addr) (ll : Nat) (lc : Nat) (w : World) (Q : Value → World → Prop) (h : wp_job_after l ll lc w Q) : FnP Tryd.prog F_job_after #[(.slice l ll lc)] w Q := by
  have e_ : wp_job_after l ll lc w Q = Runs Tryd.prog Q ({ N := 23, wrap := [], pub := [], muts := [], joins := [] } : Cfg) Tryd.f26 (Tryd.f26.body.getD .skip) [.sc (.slc l ll lc)] w := by kernel_rfl
  rw [e_] at h
  exact runs_fn h Tryd.func26 (by kernel_rfl) (fun args w => Tryd.call26 args w) (by kernel_rfl) (by kernel_rfl) rfl rfl

/-- shiftbell/job.Text -/
def wp_job_Text (j_0 : ByteArray) (j_1 : Int) (j_2 : Int) (j_3 : Int) (j_4 : Int) (j_5 : Int) (j_6 : ByteArray) (j_7 : ByteArray) (j_8 : Int) (j_9 : Option Addr) (j_9l : Nat) (j_9c : Nat) (j_10 : Option Addr) (j_10l : Nat) (j_10c : Nat) (w : World) (Q : Value → World → Prop) : Prop :=
  ∀ b0 : Nat, w.heap.size ≤ b0 → ∀ w1, Ext w w1 →
  FnP Tryd.prog F_job_Check #[(.agg #[(.string j_0), (.int .i64 j_1), (.int .i64 j_2), (.int .i64 j_3), (.int .i64 j_4), (.int .i64 j_5), (.string j_6), (.string j_7), (.int .i64 j_8), (.slice j_9 j_9l j_9c), (.slice j_10 j_10l j_10c)])] w1 fun v2 w2 =>
   Ext w1 w2 ∧
   ∃ t3 : Int, v2 = (.int .i64 t3) ∧
   ((t3 ≠ 0) →
    ∀ w4, Ext w w4 →
    Q (.tuple #[(.string (⟨#[]⟩ : ByteArray)), (.int .i64 t3)]) w4) ∧
   ((t3 = 0) →
    ∀ w4, Ext w w4 →
    FnP Tryd.prog F_need_Text #[(.agg #[(.int .i64 j_2), (.int .i64 j_3), (.int .i64 j_4)])] w4 fun v5 w5 =>
     Ext w4 w5 ∧
     ∃ t6 : ByteArray, ∃ t7 : Int, v5 = (.tuple #[(.string t6), (.int .i64 t7)]) ∧
     ∀ w8, Ext w w8 →
     FnP Tryd.prog F_ask_Text #[(.agg #[(.int .i64 j_5), (.string j_6), (.string j_7), (.int .i64 j_8), (.slice j_9 j_9l j_9c)])] w8 fun v9 w9 =>
      Ext w8 w9 ∧
      ∃ t10 : ByteArray, ∃ t11 : Int, v9 = (.tuple #[(.string t10), (.int .i64 t11)]) ∧
      ∀ w12, Ext w w12 →
      FnP Tryd.prog F_strconv_Itoa #[(.int .i64 j_1)] w12 fun v13 w13 =>
       Ext w12 w13 ∧
       ∃ t14 : ByteArray, v13 = (.string t14) ∧
       ∀ w15, Ext w w15 →
       FnP Tryd.prog F_job_after #[(.slice j_10 j_10l j_10c)] w15 fun v16 w16 =>
        Ext w15 w16 ∧
        ∃ t17 : ByteArray, v16 = (.string t17) ∧
        ∀ w18, ExtB [] [b0] w w18 →
        Run Tryd.prog (.buildSlice 65 5 [(0, (.string j_0)), (1, (.string t14)), (2, (.string t6)), (3, (.string t17)), (4, (.string t10))]) w18 fun v19 w19 =>
         Ext w18 w19 ∧
         ∃ t20 : Option Addr, ∃ tl21 : Nat, ∃ tc22 : Nat, v19 = (.slice t20 tl21 tc22) ∧
         ∀ w23, Ext w19 w23 →
         FnP Tryd.prog F_strings_Join #[(.slice t20 tl21 tc22), (.string (⟨#[32]⟩ : ByteArray))] w23 fun v24 w24 =>
          Ext w23 w24 ∧
          ∃ t25 : ByteArray, v24 = (.string t25) ∧
          ∀ w26, Ext w19 w26 →
          Q (.tuple #[(.string t25), (.int .i64 0)]) w26)

theorem ok_job_Text (j_0 : ByteArray) (j_1 : Int) (j_2 : Int) (j_3 : Int) (j_4 : Int) (j_5 : Int) (j_6 : ByteArray) (j_7 : ByteArray) (j_8 : Int) (j_9 : Option Addr) (j_9l : Nat) (j_9c : Nat) (j_10 : Option Addr) (j_10l : Nat) (j_10c : Nat) (w : World) (Q : Value → World → Prop) (h : wp_job_Text j_0 j_1 j_2 j_3 j_4 j_5 j_6 j_7 j_8 j_9 j_9l j_9c j_10 j_10l j_10c w Q) : FnP Tryd.prog F_job_Text #[(.agg #[(.string j_0), (.int .i64 j_1), (.int .i64 j_2), (.int .i64 j_3), (.int .i64 j_4), (.int .i64 j_5), (.string j_6), (.string j_7), (.int .i64 j_8), (.slice j_9 j_9l j_9c), (.slice j_10 j_10l j_10c)])] w Q := by
  have e_ : wp_job_Text j_0 j_1 j_2 j_3 j_4 j_5 j_6 j_7 j_8 j_9 j_9l j_9c j_10 j_10l j_10c w Q = Runs Tryd.prog Q ({ N := 38, wrap := [], pub := [], muts := [], joins := [] } : Cfg) Tryd.f14 (Tryd.f14.body.getD .skip) [.agg [.str j_0, .int .i64 j_1, .int .i64 j_2, .int .i64 j_3, .int .i64 j_4, .int .i64 j_5, .str j_6, .str j_7, .int .i64 j_8, .slc j_9 j_9l j_9c, .slc j_10 j_10l j_10c]] w := by kernel_rfl
  rw [e_] at h
  exact runs_fn h Tryd.func14 (by kernel_rfl) (fun args w => Tryd.call14 args w) (by kernel_rfl) (by kernel_rfl) rfl rfl

/-- shiftbell/job.Read -/
def wp_job_Read (s : ByteArray) (w : World) (Q : Value → World → Prop) : Prop :=
  ∀ b0 : Nat, w.heap.size ≤ b0 → ((3000 < (s.size : Int)) →
   ∀ w1, Ext w w1 →
   Q (.tuple #[(.agg #[(.string (⟨#[]⟩ : ByteArray)), (.int .i64 0), (.int .i64 0), (.int .i64 0), (.int .i64 0), (.int .i64 0), (.string (⟨#[]⟩ : ByteArray)), (.string (⟨#[]⟩ : ByteArray)), (.int .i64 0), (.slice none 0 0), (.slice none 0 0)]), (.int .i64 2)]) w1) ∧
  (((s.size : Int) ≤ 3000) →
   ∀ w1, ExtB [] [b0] w w1 →
   FnP Tryd.prog F_strings_Split #[(.string s), (.string (⟨#[32]⟩ : ByteArray))] w1 fun v2 w2 =>
    Ext w1 w2 ∧
    ∃ t3 : Option Addr, ∃ tl4 : Nat, ∃ tc5 : Nat, v2 = (.slice t3 tl4 tc5) ∧
    (((tl4 : Int) ≠ 5) →
     ∀ w6, ExtB [b0] [] w2 w6 →
     Q (.tuple #[(.agg #[(.string (⟨#[]⟩ : ByteArray)), (.int .i64 0), (.int .i64 0), (.int .i64 0), (.int .i64 0), (.int .i64 0), (.string (⟨#[]⟩ : ByteArray)), (.string (⟨#[]⟩ : ByteArray)), (.int .i64 0), (.slice none 0 0), (.slice none 0 0)]), (.int .i64 3)]) w6) ∧
    (((tl4 : Int) = 5) →
     t3 ≠ none ∧
     (0 : Int) ≤ 0 ∧
     (0 : Int) < (tl4 : Int) ∧
     ∃ t6 : ByteArray, cell w2 (pIdx t3 0 1) 0 = some (.string t6) ∧
     ∀ b7 : Nat, w2.heap.size ≤ b7 → t3 ≠ none ∧
     (0 : Int) ≤ 1 ∧
     (1 : Int) < (tl4 : Int) ∧
     ∃ t8 : ByteArray, cell w2 (pIdx t3 1 1) 0 = some (.string t8) ∧
     ∀ w9, ExtB [] [b0, b7] w2 w9 →
     FnP Tryd.prog F_strconv_Atoi #[(.string t8)] w9 fun v10 w10 =>
      Ext w9 w10 ∧
      ∃ t11 : Int, ∃ t12 : Value, v10 = (.tuple #[(.int .i64 t11), t12]) ∧
      t3 ≠ none ∧
      (0 : Int) ≤ 2 ∧
      (2 : Int) < (tl4 : Int) ∧
      ∃ t13 : ByteArray, ((cell w10 (pIdx t3 2 1) 0 = some (.string t13) ∧ Free [b7] (pIdx t3 2 1))) ∧
      ∀ w14, ExtB [b7] [] w10 w14 →
      FnP Tryd.prog F_need_Read #[(.string t13)] w14 fun v15 w15 =>
       Ext w14 w15 ∧
       ∃ t_016 : Int, ∃ t_117 : Int, ∃ t_218 : Int, ∃ t19 : Int, v15 = (.tuple #[(.agg #[(.int .i64 t_016), (.int .i64 t_117), (.int .i64 t_218)]), (.int .i64 t19)]) ∧
       t3 ≠ none ∧
       (0 : Int) ≤ 4 ∧
       (4 : Int) < (tl4 : Int) ∧
       ∃ t20 : ByteArray, ((cell w10 (pIdx t3 4 1) 0 = some (.string t20) ∧ Free [b7] (pIdx t3 4 1))) ∧
       ∀ w21, ExtB [b7] [b0, b7] w10 w21 →
       FnP Tryd.prog F_ask_Read #[(.string t20)] w21 fun v22 w22 =>
        Ext w21 w22 ∧
        ∃ t_023 : Int, ∃ t_124 : ByteArray, ∃ t_225 : ByteArray, ∃ t_326 : Int, ∃ t_427 : Option Addr, ∃ t_4l28 : Nat, ∃ t_4c29 : Nat, ∃ t30 : Int, v22 = (.tuple #[(.agg #[(.int .i64 t_023), (.string t_124), (.string t_225), (.int .i64 t_326), (.slice t_427 t_4l28 t_4c29)]), (.int .i64 t30)]) ∧
        ∀ w31, ExtB [b7] [] w22 w31 →
        Run Tryd.prog (.eq .neq 68 false true t12 .nilIface) w31 fun v32 w32 =>
         Ext w31 w32 ∧
         ∃ t33 : Bool, v32 = (.bool t33) ∧
         ((((t33 = true) ∨ (t19 ≠ 0)) ∨ (t30 ≠ 0)) →
          ∀ w34, ExtB [b0, b7] [] w22 w34 →
          Q (.tuple #[(.agg #[(.string (⟨#[]⟩ : ByteArray)), (.int .i64 0), (.int .i64 0), (.int .i64 0), (.int .i64 0), (.int .i64 0), (.string (⟨#[]⟩ : ByteArray)), (.string (⟨#[]⟩ : ByteArray)), (.int .i64 0), (.slice none 0 0), (.slice none 0 0)]), (.int .i64 3)]) w34) ∧
         ((((t33 = false) ∧ (t19 = 0)) ∧ (t30 = 0)) →
          t3 ≠ none ∧
          (0 : Int) ≤ 3 ∧
          (3 : Int) < (tl4 : Int) ∧
          ∃ t34 : ByteArray, ((cell w22 (pIdx t3 3 1) 0 = some (.string t34) ∧ Free [b7] (pIdx t3 3 1))) ∧
          (((t34 ≠ (⟨#[45]⟩ : ByteArray)) →
           t3 ≠ none ∧
           (0 : Int) ≤ 3 ∧
           (3 : Int) < (tl4 : Int) ∧
           ∃ t35 : ByteArray, ((cell w22 (pIdx t3 3 1) 0 = some (.string t35) ∧ Free [b7] (pIdx t3 3 1))) ∧
           ∀ w36, ExtB [b7] [b0, b7] w22 w36 →
           FnP Tryd.prog F_strings_Split #[(.string t35), (.string (⟨#[44]⟩ : ByteArray))] w36 fun v37 w37 =>
            Ext w36 w37 ∧
            ∃ t38 : Option Addr, ∃ tl39 : Nat, ∃ tc40 : Nat, v37 = (.slice t38 tl39 tc40) ∧
            ∃ (I41 : Int → ByteArray → Int → Int → Int → Int → Int → ByteArray → ByteArray → Int → Option Addr → Nat → Nat → Option Addr → Nat → Nat → World → Prop) (M41 : Int → ByteArray → Int → Int → Int → Int → Int → ByteArray → ByteArray → Int → Option Addr → Nat → Nat → Option Addr → Nat → Nat → World → Nat), I41 0 t6 t11 t_016 t_117 t_218 t_023 t_124 t_225 t_326 t_427 t_4l28 t_4c29 none 0 0 w37 ∧
            ∀ (k42 : Int) (c43 : ByteArray) (c44 : Int) (c45 : Int) (c46 : Int) (c47 : Int) (c48 : Int) (c49 : ByteArray) (c50 : ByteArray) (c51 : Int) (c52 : Option Addr) (cl52 : Nat) (cc52 : Nat) (c53 : Option Addr) (cl53 : Nat) (cc53 : Nat) (w54 : World), I41 k42 c43 c44 c45 c46 c47 c48 c49 c50 c51 c52 cl52 cc52 c53 cl53 cc53 w54 →
             (((k42 < (tl39 : Int)) →
              t38 ≠ none ∧
              (0 : Int) ≤ k42 ∧
              (k42 : Int) < (tl39 : Int) ∧
              ∃ t55 : ByteArray, ((cell w54 (pIdx t38 k42 1) 0 = some (.string t55) ∧ Free [b7] (pIdx t38 k42 1))) ∧
              ∀ w56, ExtB [b7] [b0, b7] w54 w56 →
              FnP Tryd.prog F_strconv_Atoi #[(.string t55)] w56 fun v57 w57 =>
               Ext w56 w57 ∧
               ∃ t58 : Int, ∃ t59 : Value, v57 = (.tuple #[(.int .i64 t58), t59]) ∧
               ∀ w60, Ext w57 w60 →
               Run Tryd.prog (.eq .neq 68 false true t59 .nilIface) w60 fun v61 w61 =>
                Ext w60 w61 ∧
                ∃ t62 : Bool, v61 = (.bool t62) ∧
                ((t62 = true) →
                 ∀ w63, ExtB [b0] [] w57 w63 →
                 Q (.tuple #[(.agg #[(.string (⟨#[]⟩ : ByteArray)), (.int .i64 0), (.int .i64 0), (.int .i64 0), (.int .i64 0), (.int .i64 0), (.string (⟨#[]⟩ : ByteArray)), (.string (⟨#[]⟩ : ByteArray)), (.int .i64 0), (.slice none 0 0), (.slice none 0 0)]), (.int .i64 3)]) w63) ∧
                ((t62 = false) →
                 ∀ w63, ExtB [] [b0, b7] w57 w63 →
                 Run Tryd.prog (.buildSlice 38 1 [(0, (.int .i64 t58))]) w63 fun v64 w64 =>
                  Ext w63 w64 ∧
                  ∃ t65 : Option Addr, ∃ tl66 : Nat, ∃ tc67 : Nat, v64 = (.slice t65 tl66 tc67) ∧
                  ∀ w68, ExtB [] [b0, b7] w64 w68 →
                  Run Tryd.prog (.append #[38, 38] 38 [(.slice c53 cl53 cc53), (.slice t65 tl66 tc67)]) w68 fun v69 w69 =>
                   Kept [b0, b7] w68 w69 ∧
                   ∃ t70 : Option Addr, ∃ tl71 : Nat, ∃ tc72 : Nat, v69 = (.slice t70 tl71 tc72) ∧
                   InR .i64 (k42 + 1) ∧
                   (I41 (k42 + 1) c43 c44 c45 c46 c47 c48 c49 c50 c51 c52 cl52 cc52 t70 tl71 tc72 w69 ∧ M41 (k42 + 1) c43 c44 c45 c46 c47 c48 c49 c50 c51 c52 cl52 cc52 t70 tl71 tc72 w69 < M41 k42 c43 c44 c45 c46 c47 c48 c49 c50 c51 c52 cl52 cc52 c53 cl53 cc53 w54)))) ∧
             (((tl39 : Int) ≤ k42) →
              ∀ w55, ExtB [b7] [] w54 w55 →
              FnP Tryd.prog F_job_Text #[(.agg #[(.string c43), (.int .i64 c44), (.int .i64 c45), (.int .i64 c46), (.int .i64 c47), (.int .i64 c48), (.string c49), (.string c50), (.int .i64 c51), (.slice c52 cl52 cc52), (.slice c53 cl53 cc53)])] w55 fun v56 w56 =>
               Ext w55 w56 ∧
               ∃ t57 : ByteArray, ∃ t58 : Int, v56 = (.tuple #[(.string t57), (.int .i64 t58)]) ∧
               (((t58 ≠ 0) ∨ (t57 ≠ s)) →
                ∀ w59, ExtB [b0, b7] [] w54 w59 →
                Q (.tuple #[(.agg #[(.string (⟨#[]⟩ : ByteArray)), (.int .i64 0), (.int .i64 0), (.int .i64 0), (.int .i64 0), (.int .i64 0), (.string (⟨#[]⟩ : ByteArray)), (.string (⟨#[]⟩ : ByteArray)), (.int .i64 0), (.slice none 0 0), (.slice none 0 0)]), (.int .i64 3)]) w59) ∧
               (((t58 = 0) ∧ (t57 = s)) →
                ∀ w59, ExtB [b0, b7] [] w54 w59 →
                Q (.tuple #[(.agg #[(.string c43), (.int .i64 c44), (.int .i64 c45), (.int .i64 c46), (.int .i64 c47), (.int .i64 c48), (.string c49), (.string c50), (.int .i64 c51), (.slice c52 cl52 cc52), (.slice c53 cl53 cc53)]), (.int .i64 0)]) w59)))) ∧
          ((t34 = (⟨#[45]⟩ : ByteArray)) →
           ∀ w35, ExtB [b7] [] w22 w35 →
           FnP Tryd.prog F_job_Text #[(.agg #[(.string t6), (.int .i64 t11), (.int .i64 t_016), (.int .i64 t_117), (.int .i64 t_218), (.int .i64 t_023), (.string t_124), (.string t_225), (.int .i64 t_326), (.slice t_427 t_4l28 t_4c29), (.slice none 0 0)])] w35 fun v36 w36 =>
            Ext w35 w36 ∧
            ∃ t37 : ByteArray, ∃ t38 : Int, v36 = (.tuple #[(.string t37), (.int .i64 t38)]) ∧
            (((t38 ≠ 0) ∨ (t37 ≠ s)) →
             ∀ w39, ExtB [b0, b7] [] w22 w39 →
             Q (.tuple #[(.agg #[(.string (⟨#[]⟩ : ByteArray)), (.int .i64 0), (.int .i64 0), (.int .i64 0), (.int .i64 0), (.int .i64 0), (.string (⟨#[]⟩ : ByteArray)), (.string (⟨#[]⟩ : ByteArray)), (.int .i64 0), (.slice none 0 0), (.slice none 0 0)]), (.int .i64 3)]) w39) ∧
            (((t38 = 0) ∧ (t37 = s)) →
             ∀ w39, ExtB [b0, b7] [] w22 w39 →
             Q (.tuple #[(.agg #[(.string t6), (.int .i64 t11), (.int .i64 t_016), (.int .i64 t_117), (.int .i64 t_218), (.int .i64 t_023), (.string t_124), (.string t_225), (.int .i64 t_326), (.slice t_427 t_4l28 t_4c29), (.slice none 0 0)]), (.int .i64 0)]) w39)))))

theorem ok_job_Read (s : ByteArray) (w : World) (Q : Value → World → Prop) (h : wp_job_Read s w Q) : FnP Tryd.prog F_job_Read #[(.string s)] w Q := by
  have e_ : wp_job_Read s w Q = Runs Tryd.prog Q ({ N := 106, wrap := [], pub := [], muts := [], joins := [] } : Cfg) Tryd.f15 (Tryd.f15.body.getD .skip) [.sc (.str s)] w := by kernel_rfl
  rw [e_] at h
  exact runs_fn h Tryd.func15 (by kernel_rfl) (fun args w => Tryd.call15 args w) (by kernel_rfl) (by kernel_rfl) rfl rfl

/-- shiftbell/shiftbellkeep.sameJob -/
def wp_shiftbellkeep_sameJob (a_0 : ByteArray) (a_1 : Int) (a_2 : Int) (a_3 : Int) (a_4 : Int) (a_5 : Int) (a_6 : ByteArray) (a_7 : ByteArray) (a_8 : Int) (a_9 : Option Addr) (a_9l : Nat) (a_9c : Nat) (a_10 : Option Addr) (a_10l : Nat) (a_10c : Nat) (b_0 : ByteArray) (b_1 : Int) (b_2 : Int) (b_3 : Int) (b_4 : Int) (b_5 : Int) (b_6 : ByteArray) (b_7 : ByteArray) (b_8 : Int) (b_9 : Option Addr) (b_9l : Nat) (b_9c : Nat) (b_10 : Option Addr) (b_10l : Nat) (b_10c : Nat) (w : World) (Q : Value → World → Prop) : Prop :=
  ∀ b0 : Nat, w.heap.size ≤ b0 → ∀ b1 : Nat, w.heap.size ≤ b1 → ((((a_0 = b_0) ∧ (a_1 = b_1)) →
   ∀ w2, Ext w w2 →
   Run Tryd.prog (.eq .eql 34 false false (.agg #[(.int .i64 a_2), (.int .i64 a_3), (.int .i64 a_4)]) (.agg #[(.int .i64 b_2), (.int .i64 b_3), (.int .i64 b_4)])) w2 fun v3 w3 =>
    Ext w2 w3 ∧
    ∃ t4 : Bool, v3 = (.bool t4) ∧
    (((t4 = true) →
     ∀ w5, Ext w w5 →
     FnP Tryd.prog F_shiftbellkeep_sameAsk #[(.agg #[(.int .i64 a_5), (.string a_6), (.string a_7), (.int .i64 a_8), (.slice a_9 a_9l a_9c)]), (.agg #[(.int .i64 b_5), (.string b_6), (.string b_7), (.int .i64 b_8), (.slice b_9 b_9l b_9c)])] w5 fun v6 w6 =>
      Ext w5 w6 ∧
      ∃ t7 : Bool, v6 = (.bool t7) ∧
      (((t7 = true) →
       ∀ w8, Ext w w8 →
       FnP Tryd.prog F_slices_Equal_int_int #[(.slice a_10 a_10l a_10c), (.slice b_10 b_10l b_10c)] w8 fun v9 w9 =>
        Ext w8 w9 ∧
        ∃ t10 : Bool, v9 = (.bool t10) ∧
        ∀ w11, Ext w w11 →
        Q (.bool t10) w11)) ∧
      ((t7 = false) →
       ∀ w8, Ext w w8 →
       Q (.bool false) w8))) ∧
    ((t4 = false) →
     ∀ w5, Ext w w5 →
     Q (.bool false) w5))) ∧
  (((a_0 ≠ b_0) ∨ (a_1 ≠ b_1)) →
   ∀ w2, Ext w w2 →
   Q (.bool false) w2)

theorem ok_shiftbellkeep_sameJob (a_0 : ByteArray) (a_1 : Int) (a_2 : Int) (a_3 : Int) (a_4 : Int) (a_5 : Int) (a_6 : ByteArray) (a_7 : ByteArray) (a_8 : Int) (a_9 : Option Addr) (a_9l : Nat) (a_9c : Nat) (a_10 : Option Addr) (a_10l : Nat) (a_10c : Nat) (b_0 : ByteArray) (b_1 : Int) (b_2 : Int) (b_3 : Int) (b_4 : Int) (b_5 : Int) (b_6 : ByteArray) (b_7 : ByteArray) (b_8 : Int) (b_9 : Option Addr) (b_9l : Nat) (b_9c : Nat) (b_10 : Option Addr) (b_10l : Nat) (b_10c : Nat) (w : World) (Q : Value → World → Prop) (h : wp_shiftbellkeep_sameJob a_0 a_1 a_2 a_3 a_4 a_5 a_6 a_7 a_8 a_9 a_9l a_9c a_10 a_10l a_10c b_0 b_1 b_2 b_3 b_4 b_5 b_6 b_7 b_8 b_9 b_9l b_9c b_10 b_10l b_10c w Q) : FnP Tryd.prog F_shiftbellkeep_sameJob #[(.agg #[(.string a_0), (.int .i64 a_1), (.int .i64 a_2), (.int .i64 a_3), (.int .i64 a_4), (.int .i64 a_5), (.string a_6), (.string a_7), (.int .i64 a_8), (.slice a_9 a_9l a_9c), (.slice a_10 a_10l a_10c)]), (.agg #[(.string b_0), (.int .i64 b_1), (.int .i64 b_2), (.int .i64 b_3), (.int .i64 b_4), (.int .i64 b_5), (.string b_6), (.string b_7), (.int .i64 b_8), (.slice b_9 b_9l b_9c), (.slice b_10 b_10l b_10c)])] w Q := by
  have e_ : wp_shiftbellkeep_sameJob a_0 a_1 a_2 a_3 a_4 a_5 a_6 a_7 a_8 a_9 a_9l a_9c a_10 a_10l a_10c b_0 b_1 b_2 b_3 b_4 b_5 b_6 b_7 b_8 b_9 b_9l b_9c b_10 b_10l b_10c w Q = Runs Tryd.prog Q ({ N := 38, wrap := [], pub := [], muts := [], joins := [] } : Cfg) Tryd.f16 (Tryd.f16.body.getD .skip) [.agg [.str a_0, .int .i64 a_1, .int .i64 a_2, .int .i64 a_3, .int .i64 a_4, .int .i64 a_5, .str a_6, .str a_7, .int .i64 a_8, .slc a_9 a_9l a_9c, .slc a_10 a_10l a_10c], .agg [.str b_0, .int .i64 b_1, .int .i64 b_2, .int .i64 b_3, .int .i64 b_4, .int .i64 b_5, .str b_6, .str b_7, .int .i64 b_8, .slc b_9 b_9l b_9c, .slc b_10 b_10l b_10c]] w := by kernel_rfl
  rw [e_] at h
  exact runs_fn h Tryd.func16 (by kernel_rfl) (fun args w => Tryd.call16 args w) (by kernel_rfl) (by kernel_rfl) rfl rfl

/-- slices.Equal[[]int,int] -/
def wp_slices_Equal_int_int (s1 : Option Addr) (s1l : Nat) (s1c : Nat) (s2 : Option Addr) (s2l : Nat) (s2c : Nat) (w : World) (Q : Value → World → Prop) : Prop :=
  (((s1l : Int) ≠ (s2l : Int)) →
   ∀ w0, Ext w w0 →
   Q (.bool false) w0) ∧
  (((s1l : Int) = (s2l : Int)) →
   ∃ (I0 : Int → World → Prop) (M0 : Int → World → Nat), I0 0 w ∧
   ∀ (k1 : Int) (w2 : World), I0 k1 w2 →
    (((k1 < (s1l : Int)) →
     s1 ≠ none ∧
     (0 : Int) ≤ k1 ∧
     (k1 : Int) < (s1l : Int) ∧
     ∃ t3 : Int, cell w2 (pIdx s1 k1 1) 0 = some (.int .i64 t3) ∧
     s2 ≠ none ∧
     (0 : Int) ≤ k1 ∧
     (k1 : Int) < (s2l : Int) ∧
     ∃ t4 : Int, cell w2 (pIdx s2 k1 1) 0 = some (.int .i64 t4) ∧
     ((t3 ≠ t4) →
      ∀ w5, Ext w2 w5 →
      Q (.bool false) w5) ∧
     ((t3 = t4) →
      InR .i64 (k1 + 1) ∧
      (I0 (k1 + 1) w2 ∧ M0 (k1 + 1) w2 < M0 k1 w2)))) ∧
    (((s1l : Int) ≤ k1) →
     ∀ w3, Ext w2 w3 →
     Q (.bool true) w3))

theorem ok_slices_Equal_int_int (s1 : Option Addr) (s1l : Nat) (s1c : Nat) (s2 : Option Addr) (s2l : Nat) (s2c : Nat) (w : World) (Q : Value → World → Prop) (h : wp_slices_Equal_int_int s1 s1l s1c s2 s2l s2c w Q) : FnP Tryd.prog F_slices_Equal_int_int #[(.slice s1 s1l s1c), (.slice s2 s2l s2c)] w Q := by
  have e_ : wp_slices_Equal_int_int s1 s1l s1c s2 s2l s2c w Q = Runs Tryd.prog Q ({ N := 26, wrap := [], pub := [], muts := [], joins := [] } : Cfg) Tryd.f32 (Tryd.f32.body.getD .skip) [.sc (.slc s1 s1l s1c), .sc (.slc s2 s2l s2c)] w := by kernel_rfl
  rw [e_] at h
  exact runs_fn h Tryd.func32 (by kernel_rfl) (fun args w => Tryd.call32 args w) (by kernel_rfl) (by kernel_rfl) rfl rfl

/-- shiftbell/shiftbellkeep.one -/
def wp_shiftbellkeep_one  (w : World) (Q : Value → World → Prop) : Prop :=
  ∀ b0 : Nat, w.heap.size ≤ b0 → ∀ w1, Ext w w1 →
  Q (.agg #[(.string (⟨#[97]⟩ : ByteArray)), (.int .i64 0), (.int .i64 0), (.int .i64 0), (.int .i64 0), (.int .i64 1), (.string (⟨#[120]⟩ : ByteArray)), (.string (⟨#[]⟩ : ByteArray)), (.int .i64 0), (.slice none 0 0), (.slice none 0 0)]) w1

theorem ok_shiftbellkeep_one  (w : World) (Q : Value → World → Prop) (h : wp_shiftbellkeep_one  w Q) : FnP Tryd.prog F_shiftbellkeep_one #[] w Q := by
  have e_ : wp_shiftbellkeep_one  w Q = Runs Tryd.prog Q ({ N := 3, wrap := [], pub := [], muts := [], joins := [] } : Cfg) Tryd.f21 (Tryd.f21.body.getD .skip) [] w := by kernel_rfl
  rw [e_] at h
  exact runs_fn h Tryd.func21 (by kernel_rfl) (fun args w => Tryd.call21 args w) (by kernel_rfl) (by kernel_rfl) rfl rfl

/-- shiftbell/shiftbellkeep.jobs -/
def wp_shiftbellkeep_jobs  (w : World) (Q : Value → World → Prop) : Prop :=
  ∀ w0, Ext w w0 →
  FnP Tryd.prog F_shiftbellkeep_one #[] w0 fun v1 w1 =>
   Ext w0 w1 ∧
   ∃ t_02 : ByteArray, ∃ t_13 : Int, ∃ t_24 : Int, ∃ t_35 : Int, ∃ t_46 : Int, ∃ t_57 : Int, ∃ t_68 : ByteArray, ∃ t_79 : ByteArray, ∃ t_810 : Int, ∃ t_911 : Option Addr, ∃ t_9l12 : Nat, ∃ t_9c13 : Nat, ∃ t_1014 : Option Addr, ∃ t_10l15 : Nat, ∃ t_10c16 : Nat, v1 = (.agg #[(.string t_02), (.int .i64 t_13), (.int .i64 t_24), (.int .i64 t_35), (.int .i64 t_46), (.int .i64 t_57), (.string t_68), (.string t_79), (.int .i64 t_810), (.slice t_911 t_9l12 t_9c13), (.slice t_1014 t_10l15 t_10c16)]) ∧
   ∀ w17, Ext w1 w17 →
   FnP Tryd.prog F_job_Text #[(.agg #[(.string t_02), (.int .i64 t_13), (.int .i64 t_24), (.int .i64 t_35), (.int .i64 t_46), (.int .i64 t_57), (.string t_68), (.string t_79), (.int .i64 t_810), (.slice t_911 t_9l12 t_9c13), (.slice t_1014 t_10l15 t_10c16)])] w17 fun v18 w18 =>
    Ext w17 w18 ∧
    ∃ t19 : ByteArray, ∃ t20 : Int, v18 = (.tuple #[(.string t19), (.int .i64 t20)]) ∧
    ∀ w21, Ext w1 w21 →
    Q (.bool ((decide (t20 = 0)) && (decide (t19 = (⟨#[97, 32, 48, 32, 45, 32, 45, 32, 63, 120]⟩ : ByteArray))))) w21

theorem ok_shiftbellkeep_jobs  (w : World) (Q : Value → World → Prop) (h : wp_shiftbellkeep_jobs  w Q) : FnP Tryd.prog F_shiftbellkeep_jobs #[] w Q := by
  have e_ : wp_shiftbellkeep_jobs  w Q = Runs Tryd.prog Q ({ N := 14, wrap := [], pub := [], muts := [], joins := [] } : Cfg) Tryd.f13 (Tryd.f13.body.getD .skip) [] w := by kernel_rfl
  rw [e_] at h
  exact runs_fn h Tryd.func13 (by kernel_rfl) (fun args w => Tryd.call13 args w) (by kernel_rfl) (by kernel_rfl) rfl rfl

/-- shiftbell/shiftbellkeep.JobBack -/
def wp_shiftbellkeep_JobBack (j_0 : ByteArray) (j_1 : Int) (j_2 : Int) (j_3 : Int) (j_4 : Int) (j_5 : Int) (j_6 : ByteArray) (j_7 : ByteArray) (j_8 : Int) (j_9 : Option Addr) (j_9l : Nat) (j_9c : Nat) (j_10 : Option Addr) (j_10l : Nat) (j_10c : Nat) (s : ByteArray) (w : World) (Q : Value → World → Prop) : Prop :=
  ∀ b0 : Nat, w.heap.size ≤ b0 → ∀ w1, Ext w w1 →
  FnP Tryd.prog F_shiftbellkeep_jobs #[] w1 fun v2 w2 =>
   Ext w1 w2 ∧
   ∃ t3 : Bool, v2 = (.bool t3) ∧
   ((t3 = false) →
    ∀ w4, Ext w w4 →
    Q (.bool false) w4) ∧
   ((t3 = true) →
    ∀ w4, Ext w w4 →
    FnP Tryd.prog F_job_Text #[(.agg #[(.string j_0), (.int .i64 j_1), (.int .i64 j_2), (.int .i64 j_3), (.int .i64 j_4), (.int .i64 j_5), (.string j_6), (.string j_7), (.int .i64 j_8), (.slice j_9 j_9l j_9c), (.slice j_10 j_10l j_10c)])] w4 fun v5 w5 =>
     Ext w4 w5 ∧
     ∃ t6 : ByteArray, ∃ t7 : Int, v5 = (.tuple #[(.string t6), (.int .i64 t7)]) ∧
     ((((t7 = 0) ∧ ((t6.size : Int) ≤ 3000)) →
      ∀ w8, ExtB [] [b0] w w8 →
      FnP Tryd.prog F_job_Read #[(.string t6)] w8 fun v9 w9 =>
       Ext w8 w9 ∧
       ∃ t_010 : ByteArray, ∃ t_111 : Int, ∃ t_212 : Int, ∃ t_313 : Int, ∃ t_414 : Int, ∃ t_515 : Int, ∃ t_616 : ByteArray, ∃ t_717 : ByteArray, ∃ t_818 : Int, ∃ t_919 : Option Addr, ∃ t_9l20 : Nat, ∃ t_9c21 : Nat, ∃ t_1022 : Option Addr, ∃ t_10l23 : Nat, ∃ t_10c24 : Nat, ∃ t25 : Int, v9 = (.tuple #[(.agg #[(.string t_010), (.int .i64 t_111), (.int .i64 t_212), (.int .i64 t_313), (.int .i64 t_414), (.int .i64 t_515), (.string t_616), (.string t_717), (.int .i64 t_818), (.slice t_919 t_9l20 t_9c21), (.slice t_1022 t_10l23 t_10c24)]), (.int .i64 t25)]) ∧
       ∀ b26 : Nat, w9.heap.size ≤ b26 → ((((t6.size : Int) < 2000) →
        ((t25 ≠ 0) →
         ∀ w27, Ext w9 w27 →
         Q (.bool false) w27) ∧
        ((t25 = 0) →
         ∀ w27, Ext w9 w27 →
         FnP Tryd.prog F_shiftbellkeep_sameJob #[(.agg #[(.string t_010), (.int .i64 t_111), (.int .i64 t_212), (.int .i64 t_313), (.int .i64 t_414), (.int .i64 t_515), (.string t_616), (.string t_717), (.int .i64 t_818), (.slice t_919 t_9l20 t_9c21), (.slice t_1022 t_10l23 t_10c24)]), (.agg #[(.string j_0), (.int .i64 j_1), (.int .i64 j_2), (.int .i64 j_3), (.int .i64 j_4), (.int .i64 j_5), (.string j_6), (.string j_7), (.int .i64 j_8), (.slice j_9 j_9l j_9c), (.slice j_10 j_10l j_10c)])] w27 fun v28 w28 =>
          Ext w27 w28 ∧
          ∃ t29 : Bool, v28 = (.bool t29) ∧
          ((t29 = false) →
           ∀ w30, Ext w9 w30 →
           Q (.bool false) w30) ∧
          ((t29 = true) →
           ∀ w30, ExtB [] [b0, b26] w9 w30 →
           FnP Tryd.prog F_job_Read #[(.string s)] w30 fun v31 w31 =>
            Ext w30 w31 ∧
            ∃ t_032 : ByteArray, ∃ t_133 : Int, ∃ t_234 : Int, ∃ t_335 : Int, ∃ t_436 : Int, ∃ t_537 : Int, ∃ t_638 : ByteArray, ∃ t_739 : ByteArray, ∃ t_840 : Int, ∃ t_941 : Option Addr, ∃ t_9l42 : Nat, ∃ t_9c43 : Nat, ∃ t_1044 : Option Addr, ∃ t_10l45 : Nat, ∃ t_10c46 : Nat, ∃ t47 : Int, v31 = (.tuple #[(.agg #[(.string t_032), (.int .i64 t_133), (.int .i64 t_234), (.int .i64 t_335), (.int .i64 t_436), (.int .i64 t_537), (.string t_638), (.string t_739), (.int .i64 t_840), (.slice t_941 t_9l42 t_9c43), (.slice t_1044 t_10l45 t_10c46)]), (.int .i64 t47)]) ∧
            ∀ b48 : Nat, w31.heap.size ≤ b48 → (((t47 ≠ 0) →
             ∀ w49, Ext w31 w49 →
             FnP Tryd.prog F_shiftbellkeep_sameJob #[(.agg #[(.string t_032), (.int .i64 t_133), (.int .i64 t_234), (.int .i64 t_335), (.int .i64 t_436), (.int .i64 t_537), (.string t_638), (.string t_739), (.int .i64 t_840), (.slice t_941 t_9l42 t_9c43), (.slice t_1044 t_10l45 t_10c46)]), (.agg #[(.string (⟨#[]⟩ : ByteArray)), (.int .i64 0), (.int .i64 0), (.int .i64 0), (.int .i64 0), (.int .i64 0), (.string (⟨#[]⟩ : ByteArray)), (.string (⟨#[]⟩ : ByteArray)), (.int .i64 0), (.slice none 0 0), (.slice none 0 0)])] w49 fun v50 w50 =>
              Ext w49 w50 ∧
              ∃ t51 : Bool, v50 = (.bool t51) ∧
              ∀ w52, Ext w31 w52 →
              Q (.bool (t51 && ((decide (t7 = 0)) || (decide (t6 = (⟨#[]⟩ : ByteArray)))))) w52)) ∧
            ((t47 = 0) →
             ∀ w49, Ext w31 w49 →
             FnP Tryd.prog F_job_Text #[(.agg #[(.string t_032), (.int .i64 t_133), (.int .i64 t_234), (.int .i64 t_335), (.int .i64 t_436), (.int .i64 t_537), (.string t_638), (.string t_739), (.int .i64 t_840), (.slice t_941 t_9l42 t_9c43), (.slice t_1044 t_10l45 t_10c46)])] w49 fun v50 w50 =>
              Ext w49 w50 ∧
              ∃ t51 : ByteArray, ∃ t52 : Int, v50 = (.tuple #[(.string t51), (.int .i64 t52)]) ∧
              ((((t52 = 0) ∧ (t51 = s)) →
               ∀ w53, Ext w31 w53 →
               FnP Tryd.prog F_job_Check #[(.agg #[(.string t_032), (.int .i64 t_133), (.int .i64 t_234), (.int .i64 t_335), (.int .i64 t_436), (.int .i64 t_537), (.string t_638), (.string t_739), (.int .i64 t_840), (.slice t_941 t_9l42 t_9c43), (.slice t_1044 t_10l45 t_10c46)])] w53 fun v54 w54 =>
                Ext w53 w54 ∧
                ∃ t55 : Int, v54 = (.int .i64 t55) ∧
                ∀ w56, Ext w31 w56 →
                Q (.bool (decide (t55 = 0))) w56)) ∧
              (((t52 ≠ 0) ∨ (t51 ≠ s)) →
               ∀ w53, Ext w31 w53 →
               Q (.bool false) w53)))))) ∧
       ((2000 ≤ (t6.size : Int)) →
        ∀ w27, ExtB [] [b0, b26] w9 w27 →
        FnP Tryd.prog F_job_Read #[(.string s)] w27 fun v28 w28 =>
         Ext w27 w28 ∧
         ∃ t_029 : ByteArray, ∃ t_130 : Int, ∃ t_231 : Int, ∃ t_332 : Int, ∃ t_433 : Int, ∃ t_534 : Int, ∃ t_635 : ByteArray, ∃ t_736 : ByteArray, ∃ t_837 : Int, ∃ t_938 : Option Addr, ∃ t_9l39 : Nat, ∃ t_9c40 : Nat, ∃ t_1041 : Option Addr, ∃ t_10l42 : Nat, ∃ t_10c43 : Nat, ∃ t44 : Int, v28 = (.tuple #[(.agg #[(.string t_029), (.int .i64 t_130), (.int .i64 t_231), (.int .i64 t_332), (.int .i64 t_433), (.int .i64 t_534), (.string t_635), (.string t_736), (.int .i64 t_837), (.slice t_938 t_9l39 t_9c40), (.slice t_1041 t_10l42 t_10c43)]), (.int .i64 t44)]) ∧
         ∀ b45 : Nat, w28.heap.size ≤ b45 → (((t44 ≠ 0) →
          ∀ w46, Ext w28 w46 →
          FnP Tryd.prog F_shiftbellkeep_sameJob #[(.agg #[(.string t_029), (.int .i64 t_130), (.int .i64 t_231), (.int .i64 t_332), (.int .i64 t_433), (.int .i64 t_534), (.string t_635), (.string t_736), (.int .i64 t_837), (.slice t_938 t_9l39 t_9c40), (.slice t_1041 t_10l42 t_10c43)]), (.agg #[(.string (⟨#[]⟩ : ByteArray)), (.int .i64 0), (.int .i64 0), (.int .i64 0), (.int .i64 0), (.int .i64 0), (.string (⟨#[]⟩ : ByteArray)), (.string (⟨#[]⟩ : ByteArray)), (.int .i64 0), (.slice none 0 0), (.slice none 0 0)])] w46 fun v47 w47 =>
           Ext w46 w47 ∧
           ∃ t48 : Bool, v47 = (.bool t48) ∧
           ∀ w49, Ext w28 w49 →
           Q (.bool (t48 && ((decide (t7 = 0)) || (decide (t6 = (⟨#[]⟩ : ByteArray)))))) w49)) ∧
         ((t44 = 0) →
          ∀ w46, Ext w28 w46 →
          FnP Tryd.prog F_job_Text #[(.agg #[(.string t_029), (.int .i64 t_130), (.int .i64 t_231), (.int .i64 t_332), (.int .i64 t_433), (.int .i64 t_534), (.string t_635), (.string t_736), (.int .i64 t_837), (.slice t_938 t_9l39 t_9c40), (.slice t_1041 t_10l42 t_10c43)])] w46 fun v47 w47 =>
           Ext w46 w47 ∧
           ∃ t48 : ByteArray, ∃ t49 : Int, v47 = (.tuple #[(.string t48), (.int .i64 t49)]) ∧
           ((((t49 = 0) ∧ (t48 = s)) →
            ∀ w50, Ext w28 w50 →
            FnP Tryd.prog F_job_Check #[(.agg #[(.string t_029), (.int .i64 t_130), (.int .i64 t_231), (.int .i64 t_332), (.int .i64 t_433), (.int .i64 t_534), (.string t_635), (.string t_736), (.int .i64 t_837), (.slice t_938 t_9l39 t_9c40), (.slice t_1041 t_10l42 t_10c43)])] w50 fun v51 w51 =>
             Ext w50 w51 ∧
             ∃ t52 : Int, v51 = (.int .i64 t52) ∧
             ∀ w53, Ext w28 w53 →
             Q (.bool (decide (t52 = 0))) w53)) ∧
           (((t49 ≠ 0) ∨ (t48 ≠ s)) →
            ∀ w50, Ext w28 w50 →
            Q (.bool false) w50))))) ∧
     (((t7 ≠ 0) ∨ (3000 < (t6.size : Int))) →
      ∀ w8, ExtB [] [b0] w w8 →
      FnP Tryd.prog F_job_Read #[(.string s)] w8 fun v9 w9 =>
       Ext w8 w9 ∧
       ∃ t_010 : ByteArray, ∃ t_111 : Int, ∃ t_212 : Int, ∃ t_313 : Int, ∃ t_414 : Int, ∃ t_515 : Int, ∃ t_616 : ByteArray, ∃ t_717 : ByteArray, ∃ t_818 : Int, ∃ t_919 : Option Addr, ∃ t_9l20 : Nat, ∃ t_9c21 : Nat, ∃ t_1022 : Option Addr, ∃ t_10l23 : Nat, ∃ t_10c24 : Nat, ∃ t25 : Int, v9 = (.tuple #[(.agg #[(.string t_010), (.int .i64 t_111), (.int .i64 t_212), (.int .i64 t_313), (.int .i64 t_414), (.int .i64 t_515), (.string t_616), (.string t_717), (.int .i64 t_818), (.slice t_919 t_9l20 t_9c21), (.slice t_1022 t_10l23 t_10c24)]), (.int .i64 t25)]) ∧
       ∀ b26 : Nat, w9.heap.size ≤ b26 → (((t25 ≠ 0) →
        ∀ w27, Ext w9 w27 →
        FnP Tryd.prog F_shiftbellkeep_sameJob #[(.agg #[(.string t_010), (.int .i64 t_111), (.int .i64 t_212), (.int .i64 t_313), (.int .i64 t_414), (.int .i64 t_515), (.string t_616), (.string t_717), (.int .i64 t_818), (.slice t_919 t_9l20 t_9c21), (.slice t_1022 t_10l23 t_10c24)]), (.agg #[(.string (⟨#[]⟩ : ByteArray)), (.int .i64 0), (.int .i64 0), (.int .i64 0), (.int .i64 0), (.int .i64 0), (.string (⟨#[]⟩ : ByteArray)), (.string (⟨#[]⟩ : ByteArray)), (.int .i64 0), (.slice none 0 0), (.slice none 0 0)])] w27 fun v28 w28 =>
         Ext w27 w28 ∧
         ∃ t29 : Bool, v28 = (.bool t29) ∧
         ∀ w30, Ext w9 w30 →
         Q (.bool (t29 && ((decide (t7 = 0)) || (decide (t6 = (⟨#[]⟩ : ByteArray)))))) w30)) ∧
       ((t25 = 0) →
        ∀ w27, Ext w9 w27 →
        FnP Tryd.prog F_job_Text #[(.agg #[(.string t_010), (.int .i64 t_111), (.int .i64 t_212), (.int .i64 t_313), (.int .i64 t_414), (.int .i64 t_515), (.string t_616), (.string t_717), (.int .i64 t_818), (.slice t_919 t_9l20 t_9c21), (.slice t_1022 t_10l23 t_10c24)])] w27 fun v28 w28 =>
         Ext w27 w28 ∧
         ∃ t29 : ByteArray, ∃ t30 : Int, v28 = (.tuple #[(.string t29), (.int .i64 t30)]) ∧
         ((((t30 = 0) ∧ (t29 = s)) →
          ∀ w31, Ext w9 w31 →
          FnP Tryd.prog F_job_Check #[(.agg #[(.string t_010), (.int .i64 t_111), (.int .i64 t_212), (.int .i64 t_313), (.int .i64 t_414), (.int .i64 t_515), (.string t_616), (.string t_717), (.int .i64 t_818), (.slice t_919 t_9l20 t_9c21), (.slice t_1022 t_10l23 t_10c24)])] w31 fun v32 w32 =>
           Ext w31 w32 ∧
           ∃ t33 : Int, v32 = (.int .i64 t33) ∧
           ∀ w34, Ext w9 w34 →
           Q (.bool (decide (t33 = 0))) w34)) ∧
         (((t30 ≠ 0) ∨ (t29 ≠ s)) →
          ∀ w31, Ext w9 w31 →
          Q (.bool false) w31))))

theorem ok_shiftbellkeep_JobBack (j_0 : ByteArray) (j_1 : Int) (j_2 : Int) (j_3 : Int) (j_4 : Int) (j_5 : Int) (j_6 : ByteArray) (j_7 : ByteArray) (j_8 : Int) (j_9 : Option Addr) (j_9l : Nat) (j_9c : Nat) (j_10 : Option Addr) (j_10l : Nat) (j_10c : Nat) (s : ByteArray) (w : World) (Q : Value → World → Prop) (h : wp_shiftbellkeep_JobBack j_0 j_1 j_2 j_3 j_4 j_5 j_6 j_7 j_8 j_9 j_9l j_9c j_10 j_10l j_10c s w Q) : FnP Tryd.prog F_shiftbellkeep_JobBack #[(.agg #[(.string j_0), (.int .i64 j_1), (.int .i64 j_2), (.int .i64 j_3), (.int .i64 j_4), (.int .i64 j_5), (.string j_6), (.string j_7), (.int .i64 j_8), (.slice j_9 j_9l j_9c), (.slice j_10 j_10l j_10c)]), (.string s)] w Q := by
  have e_ : wp_shiftbellkeep_JobBack j_0 j_1 j_2 j_3 j_4 j_5 j_6 j_7 j_8 j_9 j_9l j_9c j_10 j_10l j_10c s w Q = Runs Tryd.prog Q ({ N := 80, wrap := [], pub := [], muts := [], joins := [] } : Cfg) Tryd.f4 (Tryd.f4.body.getD .skip) [.agg [.str j_0, .int .i64 j_1, .int .i64 j_2, .int .i64 j_3, .int .i64 j_4, .int .i64 j_5, .str j_6, .str j_7, .int .i64 j_8, .slc j_9 j_9l j_9c, .slc j_10 j_10l j_10c], .sc (.str s)] w := by kernel_rfl
  rw [e_] at h
  exact runs_fn h Tryd.func4 (by kernel_rfl) (fun args w => Tryd.call4 args w) (by kernel_rfl) (by kernel_rfl) rfl rfl

theorem open_shiftbellkeep_JobBack (W : World) (R : Array Value → Prop) (h : ∀ j_0 : ByteArray, j_0.size ≤ 9223372036854775807 → ∀ j_1 : Int, InR .i64 j_1 → ∀ j_2 : Int, InR .i64 j_2 → ∀ j_3 : Int, InR .i64 j_3 → ∀ j_4 : Int, InR .i64 j_4 → ∀ j_5 : Int, InR .i64 j_5 → ∀ j_6 : ByteArray, j_6.size ≤ 9223372036854775807 → ∀ j_7 : ByteArray, j_7.size ≤ 9223372036854775807 → ∀ j_8 : Int, InR .i64 j_8 → ∀ j_9 : Option Addr, ∀ j_9l : Nat, ∀ j_9c : Nat, SlcArg Tryd.prog W 37 j_9 j_9l j_9c → ∀ j_10 : Option Addr, ∀ j_10l : Nat, ∀ j_10c : Nat, SlcArg Tryd.prog W 3 j_10 j_10l j_10c → ∀ s : ByteArray, s.size ≤ 9223372036854775807 → R #[(.agg #[(.string j_0), (.int .i64 j_1), (.int .i64 j_2), (.int .i64 j_3), (.int .i64 j_4), (.int .i64 j_5), (.string j_6), (.string j_7), (.int .i64 j_8), (.slice j_9 j_9l j_9c), (.slice j_10 j_10l j_10c)]), (.string s)]) (args : Array Value) (hg : GoodAll Tryd.prog W Tryd.f4.params.toList args.toList) : R args := by
  have e_ : (ArgsAll Tryd.prog W Tryd.f4.params.toList fun l => R l.toArray) = (∀ j_0 : ByteArray, j_0.size ≤ 9223372036854775807 → ∀ j_1 : Int, InR .i64 j_1 → ∀ j_2 : Int, InR .i64 j_2 → ∀ j_3 : Int, InR .i64 j_3 → ∀ j_4 : Int, InR .i64 j_4 → ∀ j_5 : Int, InR .i64 j_5 → ∀ j_6 : ByteArray, j_6.size ≤ 9223372036854775807 → ∀ j_7 : ByteArray, j_7.size ≤ 9223372036854775807 → ∀ j_8 : Int, InR .i64 j_8 → ∀ j_9 : Option Addr, ∀ j_9l : Nat, ∀ j_9c : Nat, SlcArg Tryd.prog W 37 j_9 j_9l j_9c → ∀ j_10 : Option Addr, ∀ j_10l : Nat, ∀ j_10c : Nat, SlcArg Tryd.prog W 3 j_10 j_10l j_10c → ∀ s : ByteArray, s.size ≤ 9223372036854775807 → R #[(.agg #[(.string j_0), (.int .i64 j_1), (.int .i64 j_2), (.int .i64 j_3), (.int .i64 j_4), (.int .i64 j_5), (.string j_6), (.string j_7), (.int .i64 j_8), (.slice j_9 j_9l j_9c), (.slice j_10 j_10l j_10c)]), (.string s)]) := by kernel_rfl
  exact args_open (by rw [e_]; exact h) args hg
-- wit 4 #[(.agg #[(.string (⟨#[]⟩ : ByteArray)), (.int .i64 0), (.int .i64 0), (.int .i64 0), (.int .i64 0), (.int .i64 0), (.string (⟨#[]⟩ : ByteArray)), (.string (⟨#[]⟩ : ByteArray)), (.int .i64 0), (.slice none 0 0), (.slice none 0 0)]), (.string (⟨#[]⟩ : ByteArray))]

end Go.Proofs.YtenppnomdejmlaaDoor
