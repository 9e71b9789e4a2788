/- The texts of this seat's functions: what each computes, as its symbolic run says it. -/
import Derived.Test.YtblafknmfblgfaaRows
import Derived.Test.YtblafknmfblgfaaSxD
import Derived.Test.YtblafknmfblgfaaSxN
import Derived.Test.YtblafknmfblgfaaTxt
import Derived.Test.YtblafknmfblgfaaTxtB
set_option linter.unusedVariables false
set_option linter.unusedSimpArgs false
set_option maxRecDepth 100000
namespace Go.Proofs.Ytblafknmfblgfaa
open Go.Sx Go.RowKit

abbrev F_retry_Delay : FuncId := 13
abbrev F_shiftbellkeep_sameJob : FuncId := 25
abbrev F_farm_own : FuncId := 31
abbrev F_retry_Check : FuncId := 32
abbrev F_event_Check : FuncId := 60
abbrev F_slices_Equal_int_int : FuncId := 65
abbrev F_job_Check : FuncId := 68
abbrev F_slices_Clone_int_int : FuncId := 69
abbrev F_farm_ownAsk : FuncId := 70
abbrev F_event_plain : FuncId := 84

/-- shiftbell/retry.Check -/
def wp_retry_Check (p_0 : Int) (p_1 : Int) (p_2 : Int) (p_3 : Int) (w : World) (Q : Value → World → Prop) : Prop :=
  ∀ b0 : Nat, w.heap.size ≤ b0 → (((((((((p_0 < 1) ∨ (1000000000 < p_0)) ∨ (p_1 < 1)) ∨ (10 < p_1)) ∨ (p_2 < p_0)) ∨ (1000000000 < p_2)) ∨ (p_3 < 0)) ∨ (50 < p_3)) →
   ∀ w1, Ext w w1 →
   Q (.int .i64 4) w1) ∧
  (((((((((1 ≤ p_0) ∧ (p_0 ≤ 1000000000)) ∧ (1 ≤ p_1)) ∧ (p_1 ≤ 10)) ∧ (p_0 ≤ p_2)) ∧ (p_2 ≤ 1000000000)) ∧ (0 ≤ p_3)) ∧ (p_3 ≤ 50)) →
   ∀ w1, Ext w w1 →
   Q (.int .i64 0) w1)

theorem ok_retry_Check (p_0 : Int) (p_1 : Int) (p_2 : Int) (p_3 : Int) (w : World) (Q : Value → World → Prop) (h : wp_retry_Check p_0 p_1 p_2 p_3 w Q) : FnP Try.prog F_retry_Check #[(.agg #[(.int .i64 p_0), (.int .i64 p_1), (.int .i64 p_2), (.int .i64 p_3)])] w Q := by
  have e_ : wp_retry_Check p_0 p_1 p_2 p_3 w Q = Runs Try.prog Q ({ N := 43, wrap := [], pub := [], muts := [], joins := [] } : Cfg) Try.f32 (Try.f32.body.getD .skip) [.agg [.int .i64 p_0, .int .i64 p_1, .int .i64 p_2, .int .i64 p_3]] w := by kernel_rfl
  rw [e_] at h
  exact runs_fn h Try.func32 (by kernel_rfl) (fun args w => Try.call32 args w) (by kernel_rfl) (by kernel_rfl) rfl rfl

/-- shiftbell/retry.Delay -/
def wp_retry_Delay (p_0 : Int) (p_1 : Int) (p_2 : Int) (p_3 : Int) (n : Int) (w : World) (Q : Value → World → Prop) : Prop :=
  ∀ b0 : Nat, w.heap.size ≤ b0 → ∀ w1, Ext w w1 →
  FnP Try.prog F_retry_Check #[(.agg #[(.int .i64 p_0), (.int .i64 p_1), (.int .i64 p_2), (.int .i64 p_3)])] w1 fun v2 w2 =>
   Ext w1 w2 ∧
   ∃ t3 : Int, v2 = (.int .i64 t3) ∧
   ((t3 ≠ 0) →
    ∀ w4, Ext w w4 →
    Q (.tuple #[(.int .i64 0), (.int .i64 t3)]) w4) ∧
   ((t3 = 0) →
    (((n < 1) ∨ (p_3 < n)) →
     ∀ w4, Ext w w4 →
     Q (.tuple #[(.int .i64 0), (.int .i64 5)]) w4) ∧
    (((1 ≤ n) ∧ (n ≤ p_3)) →
     InR .i64 (n - 1) ∧
     ∃ (I4 : Int → Int → World → Prop) (M4 : Int → Int → World → Nat), I4 p_0 0 w ∧
     ∀ (d5 : Int) (k6 : Int) (w7 : World), I4 d5 k6 w7 →
      (((k6 < (n - 1)) →
       InR .i64 (d5 * p_1) ∧
       InR .i64 (k6 + 1) ∧
       (I4 (min (d5 * p_1) p_2) (k6 + 1) w7 ∧ M4 (min (d5 * p_1) p_2) (k6 + 1) w7 < M4 d5 k6 w7))) ∧
      (((n - 1) ≤ k6) →
       ∀ w8, Ext w7 w8 →
       Q (.tuple #[(.int .i64 d5), (.int .i64 0)]) w8)))

theorem ok_retry_Delay (p_0 : Int) (p_1 : Int) (p_2 : Int) (p_3 : Int) (n : Int) (w : World) (Q : Value → World → Prop) (h : wp_retry_Delay p_0 p_1 p_2 p_3 n w Q) : FnP Try.prog F_retry_Delay #[(.agg #[(.int .i64 p_0), (.int .i64 p_1), (.int .i64 p_2), (.int .i64 p_3)]), (.int .i64 n)] w Q := by
  have e_ : wp_retry_Delay p_0 p_1 p_2 p_3 n w Q = Runs Try.prog Q ({ N := 36, wrap := [], pub := [], muts := [], joins := [] } : Cfg) Try.f13 (Try.f13.body.getD .skip) [.agg [.int .i64 p_0, .int .i64 p_1, .int .i64 p_2, .int .i64 p_3], .sc (.int .i64 n)] w := by kernel_rfl
  rw [e_] at h
  exact runs_fn h Try.func13 (by kernel_rfl) (fun args w => Try.call13 args w) (by kernel_rfl) (by kernel_rfl) rfl rfl

/-- shiftbell/job.Check -/
def wp_job_Check (j_0 : ByteArray) (j_1 : Int) (j_2 : Int) (j_3 : Int) (j_4 : Int) (j_5 : Int) (j_6 : ByteArray) (j_7 : ByteArray) (j_8 : Int) (j_9 : Option Addr) (j_9l : Nat) (j_9c : Nat) (j_10 : Option Addr) (j_10l : Nat) (j_10c : Nat) (w : World) (Q : Value → World → Prop) : Prop :=
  ∀ b0 : Nat, w.heap.size ≤ b0 → ∀ w1, Ext w w1 →
  FnP Try.prog F_ask_Label #[(.string j_0)] w1 fun v2 w2 =>
   Ext w1 w2 ∧
   ∃ t3 : Bool, v2 = (.bool t3) ∧
   ((t3 = false) →
    ∀ w4, Ext w w4 →
    Q (.int .i64 3) w4) ∧
   ((t3 = true) →
    (((j_1 < (-1000)) ∨ (1000 < j_1)) →
     ∀ w4, Ext w w4 →
     Q (.int .i64 4) w4) ∧
    ((((-1000) ≤ j_1) ∧ (j_1 ≤ 1000)) →
     ∀ w4, Ext w w4 →
     FnP Try.prog F_need_Check #[(.agg #[(.int .i64 j_2), (.int .i64 j_3), (.int .i64 j_4)])] w4 fun v5 w5 =>
      Ext w4 w5 ∧
      ∃ t6 : Int, v5 = (.int .i64 t6) ∧
      ((t6 ≠ 0) →
       ∀ w7, Ext w w7 →
       Q (.int .i64 t6) w7) ∧
      ((t6 = 0) →
       ∀ w7, Ext w w7 →
       FnP Try.prog F_ask_Check #[(.agg #[(.int .i64 j_5), (.string j_6), (.string j_7), (.int .i64 j_8), (.slice j_9 j_9l j_9c)])] w7 fun v8 w8 =>
        Ext w7 w8 ∧
        ∃ t9 : Int, v8 = (.int .i64 t9) ∧
        ((t9 ≠ 0) →
         ∀ w10, Ext w w10 →
         Q (.int .i64 t9) w10) ∧
        ((t9 = 0) →
         ((8 < (j_10l : Int)) →
          ∀ w10, Ext w w10 →
          Q (.int .i64 2) w10) ∧
         (((j_10l : Int) ≤ 8) →
          ∃ (I10 : Int → Int → World → Prop) (M10 : Int → Int → World → Nat), I10 0 0 w ∧
          ∀ (last11 : Int) (k12 : Int) (w13 : World), I10 last11 k12 w13 →
           (((k12 < (j_10l : Int)) →
            j_10 ≠ none ∧
            (0 : Int) ≤ k12 ∧
            (k12 : Int) < (j_10l : Int) ∧
            ∃ t14 : Int, cell w13 (pIdx j_10 k12 1) 0 = some (.int .i64 t14) ∧
            (((t14 < 1) ∨ (60 < t14)) →
             ∀ w15, Ext w13 w15 →
             Q (.int .i64 4) w15) ∧
            (((1 ≤ t14) ∧ (t14 ≤ 60)) →
             ((t14 ≤ last11) →
              ∀ w15, Ext w13 w15 →
              Q (.int .i64 6) w15) ∧
             ((last11 < t14) →
              InR .i64 (k12 + 1) ∧
              (I10 t14 (k12 + 1) w13 ∧ M10 t14 (k12 + 1) w13 < M10 last11 k12 w13))))) ∧
           (((j_10l : Int) ≤ k12) →
            ∀ w14, Ext w13 w14 →
            Q (.int .i64 0) w14))))))

theorem ok_job_Check (j_0 : ByteArray) (j_1 : Int) (j_2 : Int) (j_3 : Int) (j_4 : Int) (j_5 : Int) (j_6 : ByteArray) (j_7 : ByteArray) (j_8 : Int) (j_9 : Option Addr) (j_9l : Nat) (j_9c : Nat) (j_10 : Option Addr) (j_10l : Nat) (j_10c : Nat) (w : World) (Q : Value → World → Prop) (h : wp_job_Check j_0 j_1 j_2 j_3 j_4 j_5 j_6 j_7 j_8 j_9 j_9l j_9c j_10 j_10l j_10c w Q) : FnP Try.prog F_job_Check #[(.agg #[(.string j_0), (.int .i64 j_1), (.int .i64 j_2), (.int .i64 j_3), (.int .i64 j_4), (.int .i64 j_5), (.string j_6), (.string j_7), (.int .i64 j_8), (.slice j_9 j_9l j_9c), (.slice j_10 j_10l j_10c)])] w Q := by
  have e_ : wp_job_Check j_0 j_1 j_2 j_3 j_4 j_5 j_6 j_7 j_8 j_9 j_9l j_9c j_10 j_10l j_10c w Q = Runs Try.prog Q ({ N := 58, wrap := [], pub := [], muts := [], joins := [] } : Cfg) Try.f68 (Try.f68.body.getD .skip) [.agg [.str j_0, .int .i64 j_1, .int .i64 j_2, .int .i64 j_3, .int .i64 j_4, .int .i64 j_5, .str j_6, .str j_7, .int .i64 j_8, .slc j_9 j_9l j_9c, .slc j_10 j_10l j_10c]] w := by kernel_rfl
  rw [e_] at h
  exact runs_fn h Try.func68 (by kernel_rfl) (fun args w => Try.call68 args w) (by kernel_rfl) (by kernel_rfl) rfl rfl

/-- shiftbell/event.plain -/
def wp_event_plain (j_0 : ByteArray) (j_1 : Int) (j_2 : Int) (j_3 : Int) (j_4 : Int) (j_5 : Int) (j_6 : ByteArray) (j_7 : ByteArray) (j_8 : Int) (j_9 : Option Addr) (j_9l : Nat) (j_9c : Nat) (j_10 : Option Addr) (j_10l : Nat) (j_10c : Nat) (w : World) (Q : Value → World → Prop) : Prop :=
  ∀ b0 : Nat, w.heap.size ≤ b0 → ((((j_0 = (⟨#[]⟩ : ByteArray)) ∧ (j_1 = 0)) →
   ∀ w1, Ext w w1 →
   Run Try.prog (.eq .eql 34 false false (.agg #[(.int .i64 j_2), (.int .i64 j_3), (.int .i64 j_4)]) (.agg #[(.int .i64 0), (.int .i64 0), (.int .i64 0)])) w1 fun v2 w2 =>
    Ext w1 w2 ∧
    ∃ t3 : Bool, v2 = (.bool t3) ∧
    ∀ w4, Ext w w4 →
    Q (.bool ((((((t3 && (decide ((j_10l : Int) = 0))) && (decide (j_5 = 0))) && (decide (j_6 = (⟨#[]⟩ : ByteArray)))) && (decide (j_7 = (⟨#[]⟩ : ByteArray)))) && (decide (j_8 = 0))) && (decide ((j_9l : Int) = 0)))) w4)) ∧
  (((j_0 ≠ (⟨#[]⟩ : ByteArray)) ∨ (j_1 ≠ 0)) →
   ∀ w1, Ext w w1 →
   Q (.bool false) w1)

theorem ok_event_plain (j_0 : ByteArray) (j_1 : Int) (j_2 : Int) (j_3 : Int) (j_4 : Int) (j_5 : Int) (j_6 : ByteArray) (j_7 : ByteArray) (j_8 : Int) (j_9 : Option Addr) (j_9l : Nat) (j_9c : Nat) (j_10 : Option Addr) (j_10l : Nat) (j_10c : Nat) (w : World) (Q : Value → World → Prop) (h : wp_event_plain j_0 j_1 j_2 j_3 j_4 j_5 j_6 j_7 j_8 j_9 j_9l j_9c j_10 j_10l j_10c w Q) : FnP Try.prog F_event_plain #[(.agg #[(.string j_0), (.int .i64 j_1), (.int .i64 j_2), (.int .i64 j_3), (.int .i64 j_4), (.int .i64 j_5), (.string j_6), (.string j_7), (.int .i64 j_8), (.slice j_9 j_9l j_9c), (.slice j_10 j_10l j_10c)])] w Q := by
  have e_ : wp_event_plain j_0 j_1 j_2 j_3 j_4 j_5 j_6 j_7 j_8 j_9 j_9l j_9c j_10 j_10l j_10c w Q = Runs Try.prog Q ({ N := 54, wrap := [], pub := [], muts := [], joins := [] } : Cfg) Try.f84 (Try.f84.body.getD .skip) [.agg [.str j_0, .int .i64 j_1, .int .i64 j_2, .int .i64 j_3, .int .i64 j_4, .int .i64 j_5, .str j_6, .str j_7, .int .i64 j_8, .slc j_9 j_9l j_9c, .slc j_10 j_10l j_10c]] w := by kernel_rfl
  rw [e_] at h
  exact runs_fn h Try.func84 (by kernel_rfl) (fun args w => Try.call84 args w) (by kernel_rfl) (by kernel_rfl) rfl rfl

/-- shiftbell/event.Check -/
def wp_event_Check (x_0 : Int) (x_1 : ByteArray) (x_2 : Int) (x_3 : Int) (x_4 : Int) (x_5 : Int) (x_6 : Int) (x_7 : ByteArray) (x_8 : ByteArray) (x_9 : Int) (x_10 : Option Addr) (x_10l : Nat) (x_10c : Nat) (x_11 : Option Addr) (x_11l : Nat) (x_11c : Nat) (x_12 : Int) (x_13 : Int) (x_14 : Bool) (w : World) (Q : Value → World → Prop) : Prop :=
  ∀ b0 : Nat, w.heap.size ≤ b0 → (((x_0 < 1) ∨ (5 < x_0)) →
   ∀ w1, Ext w w1 →
   Q (.int .i64 1) w1) ∧
  (((1 ≤ x_0) ∧ (x_0 ≤ 5)) →
   (((x_0 ≠ 1) →
    ∀ w1, Ext w w1 →
    FnP Try.prog F_event_plain #[(.agg #[(.string x_1), (.int .i64 x_2), (.int .i64 x_3), (.int .i64 x_4), (.int .i64 x_5), (.int .i64 x_6), (.string x_7), (.string x_8), (.int .i64 x_9), (.slice x_10 x_10l x_10c), (.slice x_11 x_11l x_11c)])] w1 fun v2 w2 =>
     Ext w1 w2 ∧
     ∃ t3 : Bool, v2 = (.bool t3) ∧
     ((((((t3 = false) ∨ ((x_0 ≠ 2) ∧ (x_12 ≠ 0))) ∨ (((x_0 ≠ 4) ∧ (x_0 ≠ 5)) ∧ (x_13 ≠ 0))) ∨ ((x_0 ≠ 4) ∧ (x_14 = true))) →
      ∀ w4, Ext w w4 →
      Q (.int .i64 1) w4)) ∧
     (((((t3 = true) ∧ ((x_0 = 2) ∨ (x_12 = 0))) ∧ (((x_0 = 4) ∨ (x_0 = 5)) ∨ (x_13 = 0))) ∧ ((x_0 = 4) ∨ (x_14 = false))) →
      (((x_0 = 1) →
       ∀ w4, Ext w w4 →
       FnP Try.prog F_job_Check #[(.agg #[(.string x_1), (.int .i64 x_2), (.int .i64 x_3), (.int .i64 x_4), (.int .i64 x_5), (.int .i64 x_6), (.string x_7), (.string x_8), (.int .i64 x_9), (.slice x_10 x_10l x_10c), (.slice x_11 x_11l x_11c)])] w4 fun v5 w5 =>
        Ext w4 w5 ∧
        ∃ t6 : Int, v5 = (.int .i64 t6) ∧
        ∀ w7, Ext w w7 →
        Q (.int .i64 t6) w7)) ∧
      ((x_0 ≠ 1) →
       (((((x_12 < 0) ∨ (1000000000 < x_12)) ∨ (x_13 < 0)) ∨ (65535 < x_13)) →
        ∀ w4, Ext w w4 →
        Q (.int .i64 4) w4) ∧
       (((((0 ≤ x_12) ∧ (x_12 ≤ 1000000000)) ∧ (0 ≤ x_13)) ∧ (x_13 ≤ 65535)) →
        ∀ w4, Ext w w4 →
        Q (.int .i64 0) w4))))) ∧
   ((x_0 = 1) →
    ((((((x_0 ≠ 2) ∧ (x_12 ≠ 0)) ∨ (((x_0 ≠ 4) ∧ (x_0 ≠ 5)) ∧ (x_13 ≠ 0))) ∨ ((x_0 ≠ 4) ∧ (x_14 = true))) →
     ∀ w1, Ext w w1 →
     Q (.int .i64 1) w1)) ∧
    (((((x_0 = 2) ∨ (x_12 = 0)) ∧ (((x_0 = 4) ∨ (x_0 = 5)) ∨ (x_13 = 0))) ∧ ((x_0 = 4) ∨ (x_14 = false))) →
     (((x_0 = 1) →
      ∀ w1, Ext w w1 →
      FnP Try.prog F_job_Check #[(.agg #[(.string x_1), (.int .i64 x_2), (.int .i64 x_3), (.int .i64 x_4), (.int .i64 x_5), (.int .i64 x_6), (.string x_7), (.string x_8), (.int .i64 x_9), (.slice x_10 x_10l x_10c), (.slice x_11 x_11l x_11c)])] w1 fun v2 w2 =>
       Ext w1 w2 ∧
       ∃ t3 : Int, v2 = (.int .i64 t3) ∧
       ∀ w4, Ext w w4 →
       Q (.int .i64 t3) w4)) ∧
     ((x_0 ≠ 1) →
      (((((x_12 < 0) ∨ (1000000000 < x_12)) ∨ (x_13 < 0)) ∨ (65535 < x_13)) →
       ∀ w1, Ext w w1 →
       Q (.int .i64 4) w1) ∧
      (((((0 ≤ x_12) ∧ (x_12 ≤ 1000000000)) ∧ (0 ≤ x_13)) ∧ (x_13 ≤ 65535)) →
       ∀ w1, Ext w w1 →
       Q (.int .i64 0) w1)))))

theorem ok_event_Check (x_0 : Int) (x_1 : ByteArray) (x_2 : Int) (x_3 : Int) (x_4 : Int) (x_5 : Int) (x_6 : Int) (x_7 : ByteArray) (x_8 : ByteArray) (x_9 : Int) (x_10 : Option Addr) (x_10l : Nat) (x_10c : Nat) (x_11 : Option Addr) (x_11l : Nat) (x_11c : Nat) (x_12 : Int) (x_13 : Int) (x_14 : Bool) (w : World) (Q : Value → World → Prop) (h : wp_event_Check x_0 x_1 x_2 x_3 x_4 x_5 x_6 x_7 x_8 x_9 x_10 x_10l x_10c x_11 x_11l x_11c x_12 x_13 x_14 w Q) : FnP Try.prog F_event_Check #[(.agg #[(.int .i64 x_0), (.string x_1), (.int .i64 x_2), (.int .i64 x_3), (.int .i64 x_4), (.int .i64 x_5), (.int .i64 x_6), (.string x_7), (.string x_8), (.int .i64 x_9), (.slice x_10 x_10l x_10c), (.slice x_11 x_11l x_11c), (.int .i64 x_12), (.int .i64 x_13), (.bool x_14)])] w Q := by
  have e_ : wp_event_Check x_0 x_1 x_2 x_3 x_4 x_5 x_6 x_7 x_8 x_9 x_10 x_10l x_10c x_11 x_11l x_11c x_12 x_13 x_14 w Q = Runs Try.prog Q ({ N := 88, wrap := [], pub := [], muts := [], joins := [] } : Cfg) Try.f60 (Try.f60.body.getD .skip) [.agg [.int .i64 x_0, .str x_1, .int .i64 x_2, .int .i64 x_3, .int .i64 x_4, .int .i64 x_5, .int .i64 x_6, .str x_7, .str x_8, .int .i64 x_9, .slc x_10 x_10l x_10c, .slc x_11 x_11l x_11c, .int .i64 x_12, .int .i64 x_13, .bool (.atom true x_14)]] w := by kernel_rfl
  rw [e_] at h
  exact runs_fn h Try.func60 (by kernel_rfl) (fun args w => Try.call60 args w) (by kernel_rfl) (by kernel_rfl) rfl rfl

/-- shiftbell/shiftbellkeep.sameJob -/
def wp_shiftbellkeep_sameJob (a_0 : ByteArray) (a_1 : Int) (a_2 : Int) (a_3 : Int) (a_4 : Int) (a_5 : Int) (a_6 : ByteArray) (a_7 : ByteArray) (a_8 : Int) (a_9 : Option Addr) (a_9l : Nat) (a_9c : Nat) (a_10 : Option Addr) (a_10l : Nat) (a_10c : Nat) (b_0 : ByteArray) (b_1 : Int) (b_2 : Int) (b_3 : Int) (b_4 : Int) (b_5 : Int) (b_6 : ByteArray) (b_7 : ByteArray) (b_8 : Int) (b_9 : Option Addr) (b_9l : Nat) (b_9c : Nat) (b_10 : Option Addr) (b_10l : Nat) (b_10c : Nat) (w : World) (Q : Value → World → Prop) : Prop :=
  ∀ b0 : Nat, w.heap.size ≤ b0 → ∀ b1 : Nat, w.heap.size ≤ b1 → ((((a_0 = b_0) ∧ (a_1 = b_1)) →
   ∀ w2, Ext w w2 →
   Run Try.prog (.eq .eql 34 false false (.agg #[(.int .i64 a_2), (.int .i64 a_3), (.int .i64 a_4)]) (.agg #[(.int .i64 b_2), (.int .i64 b_3), (.int .i64 b_4)])) w2 fun v3 w3 =>
    Ext w2 w3 ∧
    ∃ t4 : Bool, v3 = (.bool t4) ∧
    (((t4 = true) →
     ∀ w5, Ext w w5 →
     FnP Try.prog F_shiftbellkeep_sameAsk #[(.agg #[(.int .i64 a_5), (.string a_6), (.string a_7), (.int .i64 a_8), (.slice a_9 a_9l a_9c)]), (.agg #[(.int .i64 b_5), (.string b_6), (.string b_7), (.int .i64 b_8), (.slice b_9 b_9l b_9c)])] w5 fun v6 w6 =>
      Ext w5 w6 ∧
      ∃ t7 : Bool, v6 = (.bool t7) ∧
      (((t7 = true) →
       ∀ w8, Ext w w8 →
       FnP Try.prog F_slices_Equal_int_int #[(.slice a_10 a_10l a_10c), (.slice b_10 b_10l b_10c)] w8 fun v9 w9 =>
        Ext w8 w9 ∧
        ∃ t10 : Bool, v9 = (.bool t10) ∧
        ∀ w11, Ext w w11 →
        Q (.bool t10) w11)) ∧
      ((t7 = false) →
       ∀ w8, Ext w w8 →
       Q (.bool false) w8))) ∧
    ((t4 = false) →
     ∀ w5, Ext w w5 →
     Q (.bool false) w5))) ∧
  (((a_0 ≠ b_0) ∨ (a_1 ≠ b_1)) →
   ∀ w2, Ext w w2 →
   Q (.bool false) w2)

theorem ok_shiftbellkeep_sameJob (a_0 : ByteArray) (a_1 : Int) (a_2 : Int) (a_3 : Int) (a_4 : Int) (a_5 : Int) (a_6 : ByteArray) (a_7 : ByteArray) (a_8 : Int) (a_9 : Option Addr) (a_9l : Nat) (a_9c : Nat) (a_10 : Option Addr) (a_10l : Nat) (a_10c : Nat) (b_0 : ByteArray) (b_1 : Int) (b_2 : Int) (b_3 : Int) (b_4 : Int) (b_5 : Int) (b_6 : ByteArray) (b_7 : ByteArray) (b_8 : Int) (b_9 : Option Addr) (b_9l : Nat) (b_9c : Nat) (b_10 : Option Addr) (b_10l : Nat) (b_10c : Nat) (w : World) (Q : Value → World → Prop) (h : wp_shiftbellkeep_sameJob a_0 a_1 a_2 a_3 a_4 a_5 a_6 a_7 a_8 a_9 a_9l a_9c a_10 a_10l a_10c b_0 b_1 b_2 b_3 b_4 b_5 b_6 b_7 b_8 b_9 b_9l b_9c b_10 b_10l b_10c w Q) : FnP Try.prog F_shiftbellkeep_sameJob #[(.agg #[(.string a_0), (.int .i64 a_1), (.int .i64 a_2), (.int .i64 a_3), (.int .i64 a_4), (.int .i64 a_5), (.string a_6), (.string a_7), (.int .i64 a_8), (.slice a_9 a_9l a_9c), (.slice a_10 a_10l a_10c)]), (.agg #[(.string b_0), (.int .i64 b_1), (.int .i64 b_2), (.int .i64 b_3), (.int .i64 b_4), (.int .i64 b_5), (.string b_6), (.string b_7), (.int .i64 b_8), (.slice b_9 b_9l b_9c), (.slice b_10 b_10l b_10c)])] w Q := by
  have e_ : wp_shiftbellkeep_sameJob a_0 a_1 a_2 a_3 a_4 a_5 a_6 a_7 a_8 a_9 a_9l a_9c a_10 a_10l a_10c b_0 b_1 b_2 b_3 b_4 b_5 b_6 b_7 b_8 b_9 b_9l b_9c b_10 b_10l b_10c w Q = Runs Try.prog Q ({ N := 38, wrap := [], pub := [], muts := [], joins := [] } : Cfg) Try.f25 (Try.f25.body.getD .skip) [.agg [.str a_0, .int .i64 a_1, .int .i64 a_2, .int .i64 a_3, .int .i64 a_4, .int .i64 a_5, .str a_6, .str a_7, .int .i64 a_8, .slc a_9 a_9l a_9c, .slc a_10 a_10l a_10c], .agg [.str b_0, .int .i64 b_1, .int .i64 b_2, .int .i64 b_3, .int .i64 b_4, .int .i64 b_5, .str b_6, .str b_7, .int .i64 b_8, .slc b_9 b_9l b_9c, .slc b_10 b_10l b_10c]] w := by kernel_rfl
  rw [e_] at h
  exact runs_fn h Try.func25 (by kernel_rfl) (fun args w => Try.call25 args w) (by kernel_rfl) (by kernel_rfl) rfl rfl

/-- slices.Equal[[]int,int] -/
def wp_slices_Equal_int_int (s1 : Option Addr) (s1l : Nat) (s1c : Nat) (s2 : Option Addr) (s2l : Nat) (s2c : Nat) (w : World) (Q : Value → World → Prop) : Prop :=
  (((s1l : Int) ≠ (s2l : Int)) →
   ∀ w0, Ext w w0 →
   Q (.bool false) w0) ∧
  (((s1l : Int) = (s2l : Int)) →
   ∃ (I0 : Int → World → Prop) (M0 : Int → World → Nat), I0 0 w ∧
   ∀ (k1 : Int) (w2 : World), I0 k1 w2 →
    (((k1 < (s1l : Int)) →
     s1 ≠ none ∧
     (0 : Int) ≤ k1 ∧
     (k1 : Int) < (s1l : Int) ∧
     ∃ t3 : Int, cell w2 (pIdx s1 k1 1) 0 = some (.int .i64 t3) ∧
     s2 ≠ none ∧
     (0 : Int) ≤ k1 ∧
     (k1 : Int) < (s2l : Int) ∧
     ∃ t4 : Int, cell w2 (pIdx s2 k1 1) 0 = some (.int .i64 t4) ∧
     ((t3 ≠ t4) →
      ∀ w5, Ext w2 w5 →
      Q (.bool false) w5) ∧
     ((t3 = t4) →
      InR .i64 (k1 + 1) ∧
      (I0 (k1 + 1) w2 ∧ M0 (k1 + 1) w2 < M0 k1 w2)))) ∧
    (((s1l : Int) ≤ k1) →
     ∀ w3, Ext w2 w3 →
     Q (.bool true) w3))

theorem ok_slices_Equal_int_int (s1 : Option Addr) (s1l : Nat) (s1c : Nat) (s2 : Option Addr) (s2l : Nat) (s2c : Nat) (w : World) (Q : Value → World → Prop) (h : wp_slices_Equal_int_int s1 s1l s1c s2 s2l s2c w Q) : FnP Try.prog F_slices_Equal_int_int #[(.slice s1 s1l s1c), (.slice s2 s2l s2c)] w Q := by
  have e_ : wp_slices_Equal_int_int s1 s1l s1c s2 s2l s2c w Q = Runs Try.prog Q ({ N := 26, wrap := [], pub := [], muts := [], joins := [] } : Cfg) Try.f65 (Try.f65.body.getD .skip) [.sc (.slc s1 s1l s1c), .sc (.slc s2 s2l s2c)] w := by kernel_rfl
  rw [e_] at h
  exact runs_fn h Try.func65 (by kernel_rfl) (fun args w => Try.call65 args w) (by kernel_rfl) (by kernel_rfl) rfl rfl

/-- slices.Clone[[]int,int] -/
def wp_slices_Clone_int_int (s : Option Addr) (sl : Nat) (sc : Nat) (w : World) (Q : Value → World → Prop) : Prop :=
  ((s = none) →
   ∀ w0, Ext w w0 →
   Q (.slice none 0 0) w0) ∧
  ((s ≠ none) →
   ∀ w0, Ext w w0 →
   Run Try.prog (.buildSlice 38 0 []) w0 fun v1 w1 =>
    Ext w0 w1 ∧
    ∃ t2 : Option Addr, ∃ tl3 : Nat, ∃ tc4 : Nat, v1 = (.slice t2 tl3 tc4) ∧
    ∀ w5, Ext w1 w5 →
    Run Try.prog (.append #[38, 38] 38 [(.slice t2 tl3 tc4), (.slice s sl sc)]) w5 fun v6 w6 =>
     ∃ t7 : Option Addr, ∃ tl8 : Nat, ∃ tc9 : Nat, v6 = (.slice t7 tl8 tc9) ∧
     ∀ w10, Ext w6 w10 →
     Q (.slice t7 tl8 tc9) w10)

theorem ok_slices_Clone_int_int (s : Option Addr) (sl : Nat) (sc : Nat) (w : World) (Q : Value → World → Prop) (h : wp_slices_Clone_int_int s sl sc w Q) : FnP Try.prog F_slices_Clone_int_int #[(.slice s sl sc)] w Q := by
  have e_ : wp_slices_Clone_int_int s sl sc w Q = Runs Try.prog Q ({ N := 8, wrap := [], pub := [], muts := [], joins := [] } : Cfg) Try.f69 (Try.f69.body.getD .skip) [.sc (.slc s sl sc)] w := by kernel_rfl
  rw [e_] at h
  exact runs_fn h Try.func69 (by kernel_rfl) (fun args w => Try.call69 args w) (by kernel_rfl) (by kernel_rfl) rfl rfl

/-- shiftbell/farm.ownAsk -/
def wp_farm_ownAsk (x_0 : Int) (x_1 : ByteArray) (x_2 : ByteArray) (x_3 : Int) (x_4 : Option Addr) (x_4l : Nat) (x_4c : Nat) (w : World) (Q : Value → World → Prop) : Prop :=
  ∀ b0 : Nat, w.heap.size ≤ b0 → ∀ b1 : Nat, w.heap.size ≤ b1 → ∃ (I2 : Option Addr → Nat → Nat → Int → World → Prop) (M2 : Option Addr → Nat → Nat → Int → World → Nat), I2 none 0 0 0 w ∧
  ∀ (l3 : Option Addr) (ll3 : Nat) (lc3 : Nat) (k4 : Int) (w5 : World), I2 l3 ll3 lc3 k4 w5 →
   (((k4 < (x_4l : Int)) →
    x_4 ≠ none ∧
    (0 : Int) ≤ k4 ∧
    (k4 : Int) < (x_4l : Int) ∧
    (pIdx x_4 k4 5) ≠ none ∧
    ∃ t6 : Int, cell w5 (pIdx x_4 k4 5) 0 = some (.int .i64 t6) ∧
    ∃ t7 : ByteArray, cell w5 (pIdx x_4 k4 5) 1 = some (.string t7) ∧
    ∃ t8 : ByteArray, cell w5 (pIdx x_4 k4 5) 2 = some (.string t8) ∧
    ∃ t9 : Int, cell w5 (pIdx x_4 k4 5) 3 = some (.int .i64 t9) ∧
    ∃ t10 : Option Addr, ∃ tl11 : Nat, ∃ tc12 : Nat, cell w5 (pIdx x_4 k4 5) 4 = some (.slice t10 tl11 tc12) ∧
    ∀ b13 : Nat, w5.heap.size ≤ b13 → ∀ w14, ExtB [] [b0, b1, b13] w5 w14 →
    FnP Try.prog F_farm_ownAsk #[(.agg #[(.int .i64 t6), (.string t7), (.string t8), (.int .i64 t9), (.slice t10 tl11 tc12)])] w14 fun v15 w15 =>
     Ext w14 w15 ∧
     ∃ t_016 : Int, ∃ t_117 : ByteArray, ∃ t_218 : ByteArray, ∃ t_319 : Int, ∃ t_420 : Option Addr, ∃ t_4l21 : Nat, ∃ t_4c22 : Nat, v15 = (.agg #[(.int .i64 t_016), (.string t_117), (.string t_218), (.int .i64 t_319), (.slice t_420 t_4l21 t_4c22)]) ∧
     ∀ w23, ExtB [] [b0, b1, b13] w15 w23 →
     Run Try.prog (.buildSlice 35 1 [(0, (.agg #[(.int .i64 t_016), (.string t_117), (.string t_218), (.int .i64 t_319), (.slice t_420 t_4l21 t_4c22)]))]) w23 fun v24 w24 =>
      Ext w23 w24 ∧
      ∃ t25 : Option Addr, ∃ tl26 : Nat, ∃ tc27 : Nat, v24 = (.slice t25 tl26 tc27) ∧
      ∀ w28, ExtB [] [b0, b1, b13] w24 w28 →
      Run Try.prog (.append #[35, 35] 35 [(.slice l3 ll3 lc3), (.slice t25 tl26 tc27)]) w28 fun v29 w29 =>
       Kept [b0, b1, b13] w28 w29 ∧
       ∃ t30 : Option Addr, ∃ tl31 : Nat, ∃ tc32 : Nat, v29 = (.slice t30 tl31 tc32) ∧
       InR .i64 (k4 + 1) ∧
       (I2 t30 tl31 tc32 (k4 + 1) w29 ∧ M2 t30 tl31 tc32 (k4 + 1) w29 < M2 l3 ll3 lc3 k4 w5))) ∧
   (((x_4l : Int) ≤ k4) →
    ∀ w6, ExtB [b1, b0] [] w5 w6 →
    Q (.agg #[(.int .i64 x_0), (.string x_1), (.string x_2), (.int .i64 x_3), (.slice l3 ll3 lc3)]) w6)

theorem ok_farm_ownAsk (x_0 : Int) (x_1 : ByteArray) (x_2 : ByteArray) (x_3 : Int) (x_4 : Option Addr) (x_4l : Nat) (x_4c : Nat) (w : World) (Q : Value → World → Prop) (h : wp_farm_ownAsk x_0 x_1 x_2 x_3 x_4 x_4l x_4c w Q) : FnP Try.prog F_farm_ownAsk #[(.agg #[(.int .i64 x_0), (.string x_1), (.string x_2), (.int .i64 x_3), (.slice x_4 x_4l x_4c)])] w Q := by
  have e_ : wp_farm_ownAsk x_0 x_1 x_2 x_3 x_4 x_4l x_4c w Q = Runs Try.prog Q ({ N := 22, wrap := [], pub := [], muts := [], joins := [] } : Cfg) Try.f70 (Try.f70.body.getD .skip) [.agg [.int .i64 x_0, .str x_1, .str x_2, .int .i64 x_3, .slc x_4 x_4l x_4c]] w := by kernel_rfl
  rw [e_] at h
  exact runs_fn h Try.func70 (by kernel_rfl) (fun args w => Try.call70 args w) (by kernel_rfl) (by kernel_rfl) rfl rfl

/-- shiftbell/farm.own -/
def wp_farm_own (s_0 : ByteArray) (s_1 : Int) (s_2 : Int) (s_3 : Int) (s_4 : Int) (s_5 : Int) (s_6 : ByteArray) (s_7 : ByteArray) (s_8 : Int) (s_9 : Option Addr) (s_9l : Nat) (s_9c : Nat) (s_10 : Option Addr) (s_10l : Nat) (s_10c : Nat) (s_11 : Int) (s_12 : Int) (s_13 : Int) (s_14 : Int) (s_15 : Int) (w : World) (Q : Value → World → Prop) : Prop :=
  ∀ b0 : Nat, w.heap.size ≤ b0 → ∀ b1 : Nat, w.heap.size ≤ b1 → ∀ w2, ExtB [] [b0, b1] w w2 →
  FnP Try.prog F_slices_Clone_int_int #[(.slice s_10 s_10l s_10c)] w2 fun v3 w3 =>
   Ext w2 w3 ∧
   ∃ t4 : Option Addr, ∃ tl5 : Nat, ∃ tc6 : Nat, v3 = (.slice t4 tl5 tc6) ∧
   ∀ w7, ExtB [b0] [b0, b1] w3 w7 →
   FnP Try.prog F_farm_ownAsk #[(.agg #[(.int .i64 s_5), (.string s_6), (.string s_7), (.int .i64 s_8), (.slice s_9 s_9l s_9c)])] w7 fun v8 w8 =>
    Ext w7 w8 ∧
    ∃ t_09 : Int, ∃ t_110 : ByteArray, ∃ t_211 : ByteArray, ∃ t_312 : Int, ∃ t_413 : Option Addr, ∃ t_4l14 : Nat, ∃ t_4c15 : Nat, v8 = (.agg #[(.int .i64 t_09), (.string t_110), (.string t_211), (.int .i64 t_312), (.slice t_413 t_4l14 t_4c15)]) ∧
    ∀ w16, ExtB [b1, b0] [] w8 w16 →
    Q (.agg #[(.string s_0), (.int .i64 s_1), (.int .i64 s_2), (.int .i64 s_3), (.int .i64 s_4), (.int .i64 t_09), (.string t_110), (.string t_211), (.int .i64 t_312), (.slice t_413 t_4l14 t_4c15), (.slice t4 tl5 tc6), (.int .i64 s_11), (.int .i64 s_12), (.int .i64 s_13), (.int .i64 s_14), (.int .i64 s_15)]) w16

theorem ok_farm_own (s_0 : ByteArray) (s_1 : Int) (s_2 : Int) (s_3 : Int) (s_4 : Int) (s_5 : Int) (s_6 : ByteArray) (s_7 : ByteArray) (s_8 : Int) (s_9 : Option Addr) (s_9l : Nat) (s_9c : Nat) (s_10 : Option Addr) (s_10l : Nat) (s_10c : Nat) (s_11 : Int) (s_12 : Int) (s_13 : Int) (s_14 : Int) (s_15 : Int) (w : World) (Q : Value → World → Prop) (h : wp_farm_own s_0 s_1 s_2 s_3 s_4 s_5 s_6 s_7 s_8 s_9 s_9l s_9c s_10 s_10l s_10c s_11 s_12 s_13 s_14 s_15 w Q) : FnP Try.prog F_farm_own #[(.agg #[(.string s_0), (.int .i64 s_1), (.int .i64 s_2), (.int .i64 s_3), (.int .i64 s_4), (.int .i64 s_5), (.string s_6), (.string s_7), (.int .i64 s_8), (.slice s_9 s_9l s_9c), (.slice s_10 s_10l s_10c), (.int .i64 s_11), (.int .i64 s_12), (.int .i64 s_13), (.int .i64 s_14), (.int .i64 s_15)])] w Q := by
  have e_ : wp_farm_own s_0 s_1 s_2 s_3 s_4 s_5 s_6 s_7 s_8 s_9 s_9l s_9c s_10 s_10l s_10c s_11 s_12 s_13 s_14 s_15 w Q = Runs Try.prog Q ({ N := 16, wrap := [], pub := [], muts := [], joins := [] } : Cfg) Try.f31 (Try.f31.body.getD .skip) [.agg [.str s_0, .int .i64 s_1, .int .i64 s_2, .int .i64 s_3, .int .i64 s_4, .int .i64 s_5, .str s_6, .str s_7, .int .i64 s_8, .slc s_9 s_9l s_9c, .slc s_10 s_10l s_10c, .int .i64 s_11, .int .i64 s_12, .int .i64 s_13, .int .i64 s_14, .int .i64 s_15]] w := by kernel_rfl
  rw [e_] at h
  exact runs_fn h Try.func31 (by kernel_rfl) (fun args w => Try.call31 args w) (by kernel_rfl) (by kernel_rfl) rfl rfl

end Go.Proofs.Ytblafknmfblgfaa
