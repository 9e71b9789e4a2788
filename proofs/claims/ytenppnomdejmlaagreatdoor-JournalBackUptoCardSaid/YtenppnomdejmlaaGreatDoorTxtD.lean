/- The texts of this seat's functions: what each computes, as its symbolic run says it. -/
import Derived.Test.YtenppnomdejmlaaGreatDoorRows
import Derived.Test.YtenppnomdejmlaaGreatDoorSxD
import Derived.Test.YtenppnomdejmlaaGreatDoorSxN
import Derived.Test.YtenppnomdejmlaaGreatDoorTxt
set_option linter.unusedVariables false
set_option linter.unusedSimpArgs false
set_option maxRecDepth 100000
namespace Go.Proofs.YtenppnomdejmlaaGreatDoor
open Go.Sx Go.RowKit

abbrev F_ask_Text : FuncId := 23
abbrev F_shiftbellkeep_sameAsk : FuncId := 31
abbrev F_ask_Label : FuncId := 33
abbrev F_ask_Check : FuncId := 35
abbrev F_ask_text : FuncId := 38
abbrev F_slices_EqualFunc_api_Ask_api_Ask_api_Ask_api_Ask : FuncId := 50
abbrev F_ask_count : FuncId := 51
abbrev F_ask_check : FuncId := 52
abbrev F_ask_reader_take : FuncId := 66
abbrev F_ask_reader_word : FuncId := 67
abbrev F_ask_unit : FuncId := 69
abbrev F_strings_IndexAny : FuncId := 83

/-- shiftbell/ask.Label -/
def wp_ask_Label (s : ByteArray) (w : World) (Q : Value → World → Prop) : Prop :=
  ((((s ≠ (⟨#[]⟩ : ByteArray)) ∧ ((s.size : Int) ≤ 20)) →
   (0 : Int) ≤ 0)) ∧
  ((((s ≠ (⟨#[]⟩ : ByteArray)) ∧ ((s.size : Int) ≤ 20)) →
   (0 : Int) < (s.size : Int))) ∧
  (((((s ≠ (⟨#[]⟩ : ByteArray)) ∧ ((s.size : Int) ≤ 20)) ∧ (97 ≤ (sAt s 0))) →
   (0 : Int) ≤ 0)) ∧
  (((((s ≠ (⟨#[]⟩ : ByteArray)) ∧ ((s.size : Int) ≤ 20)) ∧ (97 ≤ (sAt s 0))) →
   (0 : Int) < (s.size : Int))) ∧
  (((((s = (⟨#[]⟩ : ByteArray)) ∨ (20 < (s.size : Int))) ∨ ((sAt s 0) < 97)) ∨ (122 < (sAt s 0))) →
   ∀ w0, Ext w w0 →
   Q (.bool false) w0) ∧
  (((((s ≠ (⟨#[]⟩ : ByteArray)) ∧ ((s.size : Int) ≤ 20)) ∧ (97 ≤ (sAt s 0))) ∧ ((sAt s 0) ≤ 122)) →
   ∀ w0, Ext w w0 →
   Run Tryz.prog (.convert 9 32 (.string s)) w0 fun v1 w1 =>
    Ext w0 w1 ∧
    ∃ t2 : Option Addr, ∃ tl3 : Nat, ∃ tc4 : Nat, v1 = (.slice t2 tl3 tc4) ∧
    ∃ (I5 : Int → World → Prop) (M5 : Int → World → Nat), I5 0 w1 ∧
    ∀ (k6 : Int) (w7 : World), I5 k6 w7 →
     (((k6 < (tl3 : Int)) →
      t2 ≠ none ∧
      (0 : Int) ≤ k6 ∧
      (k6 : Int) < (tl3 : Int) ∧
      ∃ t8 : Int, cell w7 (pIdx t2 k6 1) 0 = some (.int .u8 t8) ∧
      ((((((t8 < 97) ∨ (122 < t8)) ∧ ((t8 < 48) ∨ (57 < t8))) ∧ (t8 ≠ 45)) →
       ∀ w9, Ext w7 w9 →
       Q (.bool false) w9)) ∧
      (((((97 ≤ t8) ∧ (t8 ≤ 122)) ∨ ((48 ≤ t8) ∧ (t8 ≤ 57))) ∨ (t8 = 45)) →
       InR .i64 (k6 + 1) ∧
       (I5 (k6 + 1) w7 ∧ M5 (k6 + 1) w7 < M5 k6 w7)))) ∧
     (((tl3 : Int) ≤ k6) →
      ∀ w8, Ext w7 w8 →
      Q (.bool true) w8))

theorem ok_ask_Label (s : ByteArray) (w : World) (Q : Value → World → Prop) (h : wp_ask_Label s w Q) : FnP Tryz.prog F_ask_Label #[(.string s)] w Q := by
  have e_ : wp_ask_Label s w Q = Runs Tryz.prog Q ({ N := 48, wrap := [], pub := [], muts := [], joins := [] } : Cfg) Tryz.f33 (Tryz.f33.body.getD .skip) [.sc (.str s)] w := by kernel_rfl
  rw [e_] at h
  exact runs_fn h Tryz.func33 (by kernel_rfl) (fun args w => Tryz.call33 args w) (by kernel_rfl) (by kernel_rfl) rfl rfl

/-- shiftbell/ask.count -/
def wp_ask_count (x_0 : Int) (x_1 : ByteArray) (x_2 : ByteArray) (x_3 : Int) (x_4 : Option Addr) (x_4l : Nat) (x_4c : Nat) (w : World) (Q : Value → World → Prop) : Prop :=
  ∀ b0 : Nat, w.heap.size ≤ b0 → ∃ (I1 : Int → Int → World → Prop) (M1 : Int → Int → World → Nat), I1 1 0 w ∧
  ∀ (n2 : Int) (k3 : Int) (w4 : World), I1 n2 k3 w4 →
   (((k3 < (x_4l : Int)) →
    x_4 ≠ none ∧
    (0 : Int) ≤ k3 ∧
    (k3 : Int) < (x_4l : Int) ∧
    (pIdx x_4 k3 5) ≠ none ∧
    ∃ t5 : Int, cell w4 (pIdx x_4 k3 5) 0 = some (.int .i64 t5) ∧
    ∃ t6 : ByteArray, cell w4 (pIdx x_4 k3 5) 1 = some (.string t6) ∧
    ∃ t7 : ByteArray, cell w4 (pIdx x_4 k3 5) 2 = some (.string t7) ∧
    ∃ t8 : Int, cell w4 (pIdx x_4 k3 5) 3 = some (.int .i64 t8) ∧
    ∃ t9 : Option Addr, ∃ tl10 : Nat, ∃ tc11 : Nat, cell w4 (pIdx x_4 k3 5) 4 = some (.slice t9 tl10 tc11) ∧
    ∀ b12 : Nat, w4.heap.size ≤ b12 → ∀ w13, Ext w4 w13 →
    FnP Tryz.prog F_ask_count #[(.agg #[(.int .i64 t5), (.string t6), (.string t7), (.int .i64 t8), (.slice t9 tl10 tc11)])] w13 fun v14 w14 =>
     Ext w13 w14 ∧
     ∃ t15 : Int, v14 = (.int .i64 t15) ∧
     InR .i64 (k3 + 1) ∧
     (I1 (IntKind.wrap .i64 (n2 + t15)) (k3 + 1) w4 ∧ M1 (IntKind.wrap .i64 (n2 + t15)) (k3 + 1) w4 < M1 n2 k3 w4))) ∧
   (((x_4l : Int) ≤ k3) →
    ∀ w5, Ext w4 w5 →
    Q (.int .i64 n2) w5)

theorem ok_ask_count (x_0 : Int) (x_1 : ByteArray) (x_2 : ByteArray) (x_3 : Int) (x_4 : Option Addr) (x_4l : Nat) (x_4c : Nat) (w : World) (Q : Value → World → Prop) (h : wp_ask_count x_0 x_1 x_2 x_3 x_4 x_4l x_4c w Q) : FnP Tryz.prog F_ask_count #[(.agg #[(.int .i64 x_0), (.string x_1), (.string x_2), (.int .i64 x_3), (.slice x_4 x_4l x_4c)])] w Q := by
  have e_ : wp_ask_count x_0 x_1 x_2 x_3 x_4 x_4l x_4c w Q = Runs Tryz.prog Q ({ N := 19, wrap := [16], pub := [], muts := [], joins := [] } : Cfg) Tryz.f51 (Tryz.f51.body.getD .skip) [.agg [.int .i64 x_0, .str x_1, .str x_2, .int .i64 x_3, .slc x_4 x_4l x_4c]] w := by kernel_rfl
  rw [e_] at h
  exact runs_fn h Tryz.func51 (by kernel_rfl) (fun args w => Tryz.call51 args w) (by kernel_rfl) (by kernel_rfl) rfl rfl

/-- shiftbell/ask.Check -/
def wp_ask_Check (x_0 : Int) (x_1 : ByteArray) (x_2 : ByteArray) (x_3 : Int) (x_4 : Option Addr) (x_4l : Nat) (x_4c : Nat) (w : World) (Q : Value → World → Prop) : Prop :=
  ∀ b0 : Nat, w.heap.size ≤ b0 → ∀ w1, Ext w w1 →
  FnP Tryz.prog F_ask_count #[(.agg #[(.int .i64 x_0), (.string x_1), (.string x_2), (.int .i64 x_3), (.slice x_4 x_4l x_4c)])] w1 fun v2 w2 =>
   Ext w1 w2 ∧
   ∃ t3 : Int, v2 = (.int .i64 t3) ∧
   ((60 < t3) →
    ∀ w4, Ext w w4 →
    Q (.int .i64 2) w4) ∧
   ((t3 ≤ 60) →
    ∀ w4, Ext w w4 →
    FnP Tryz.prog F_ask_check #[(.agg #[(.int .i64 x_0), (.string x_1), (.string x_2), (.int .i64 x_3), (.slice x_4 x_4l x_4c)])] w4 fun v5 w5 =>
     Ext w4 w5 ∧
     ∃ t6 : Int, v5 = (.int .i64 t6) ∧
     ∀ w7, Ext w w7 →
     Q (.int .i64 t6) w7)

theorem ok_ask_Check (x_0 : Int) (x_1 : ByteArray) (x_2 : ByteArray) (x_3 : Int) (x_4 : Option Addr) (x_4l : Nat) (x_4c : Nat) (w : World) (Q : Value → World → Prop) (h : wp_ask_Check x_0 x_1 x_2 x_3 x_4 x_4l x_4c w Q) : FnP Tryz.prog F_ask_Check #[(.agg #[(.int .i64 x_0), (.string x_1), (.string x_2), (.int .i64 x_3), (.slice x_4 x_4l x_4c)])] w Q := by
  have e_ : wp_ask_Check x_0 x_1 x_2 x_3 x_4 x_4l x_4c w Q = Runs Tryz.prog Q ({ N := 8, wrap := [], pub := [], muts := [], joins := [] } : Cfg) Tryz.f35 (Tryz.f35.body.getD .skip) [.agg [.int .i64 x_0, .str x_1, .str x_2, .int .i64 x_3, .slc x_4 x_4l x_4c]] w := by kernel_rfl
  rw [e_] at h
  exact runs_fn h Tryz.func35 (by kernel_rfl) (fun args w => Tryz.call35 args w) (by kernel_rfl) (by kernel_rfl) rfl rfl

/-- shiftbell/ask.unit -/
def wp_ask_unit (s : ByteArray) (w : World) (Q : Value → World → Prop) : Prop :=
  ∀ w0, Ext w w0 →
  Q (.bool (((decide (s = (⟨#[99, 112, 117]⟩ : ByteArray))) || (decide (s = (⟨#[109, 101, 109]⟩ : ByteArray)))) || (decide (s = (⟨#[103, 112, 117]⟩ : ByteArray))))) w0

theorem ok_ask_unit (s : ByteArray) (w : World) (Q : Value → World → Prop) (h : wp_ask_unit s w Q) : FnP Tryz.prog F_ask_unit #[(.string s)] w Q := by
  have e_ : wp_ask_unit s w Q = Runs Tryz.prog Q ({ N := 13, wrap := [], pub := [], muts := [], joins := [] } : Cfg) Tryz.f69 (Tryz.f69.body.getD .skip) [.sc (.str s)] w := by kernel_rfl
  rw [e_] at h
  exact runs_fn h Tryz.func69 (by kernel_rfl) (fun args w => Tryz.call69 args w) (by kernel_rfl) (by kernel_rfl) rfl rfl

/-- shiftbell/ask.check -/
def wp_ask_check (x_0 : Int) (x_1 : ByteArray) (x_2 : ByteArray) (x_3 : Int) (x_4 : Option Addr) (x_4l : Nat) (x_4c : Nat) (w : World) (Q : Value → World → Prop) : Prop :=
  ∀ b0 : Nat, w.heap.size ≤ b0 → (((x_0 < 1) ∨ (6 < x_0)) →
   ∀ w1, Ext w w1 →
   Q (.int .i64 1) w1) ∧
  (((1 ≤ x_0) ∧ (x_0 ≤ 6)) →
   ∃ (J1 : Int → Bool → World → Prop), ((((x_0 = 5) →
     (((x_0 = 5) →
      InR .i64 (0 + 1) ∧
      InR .i64 ((0 + 1) + 1) ∧
      J1 ((0 + 1) + 1) false w)) ∧
     ((x_0 ≠ 5) →
      (((x_0 = 4) →
       InR .i64 (0 + 1) ∧
       J1 (0 + 1) false w)) ∧
      ((x_0 ≠ 4) →
       J1 0 true w)))) ∧
    ((x_0 ≠ 5) →
     (((x_0 = 6) →
      InR .i64 (0 + 1) ∧
      InR .i64 ((0 + 1) + 1) ∧
      J1 ((0 + 1) + 1) false w)) ∧
     ((x_0 ≠ 6) →
      (((x_0 = 4) →
       InR .i64 (0 + 1) ∧
       J1 (0 + 1) false w)) ∧
      ((x_0 ≠ 4) →
       J1 0 true w)))) ∧
   ∀ (inner2 : Int) (key3 : Bool) (w4 : World), J1 inner2 key3 w4 →
    (((((((x_4l : Int) ≠ inner2) ∨ ((key3 = false) ∧ (x_1 ≠ (⟨#[]⟩ : ByteArray)))) ∨ ((x_0 ≠ 2) ∧ (x_2 ≠ (⟨#[]⟩ : ByteArray)))) ∨ ((x_0 ≠ 3) ∧ (x_3 ≠ 0))) →
     ∀ w5, Ext w4 w5 →
     Q (.int .i64 1) w5)) ∧
    ((((((x_4l : Int) = inner2) ∧ ((key3 = true) ∨ (x_1 = (⟨#[]⟩ : ByteArray)))) ∧ ((x_0 = 2) ∨ (x_2 = (⟨#[]⟩ : ByteArray)))) ∧ ((x_0 = 3) ∨ (x_3 = 0))) →
     ∃ (J5 : World → Prop), ((((x_0 = 3) →
       ∀ w7, Ext w4 w7 →
       FnP Tryz.prog F_ask_unit #[(.string x_1)] w7 fun v8 w8 =>
        Ext w7 w8 ∧
        ∃ t9 : Bool, v8 = (.bool t9) ∧
        (((t9 = false) →
         ((t9 = false) →
          ∀ w10, Ext w4 w10 →
          Q (.int .i64 3) w10) ∧
         ((t9 = true) →
          (((x_3 < 0) ∨ (1099511627776 < x_3)) →
           ∀ w10, Ext w4 w10 →
           Q (.int .i64 4) w10) ∧
          (((0 ≤ x_3) ∧ (x_3 ≤ 1099511627776)) →
           J5  w4)))) ∧
        ((t9 = true) →
         ((((x_0 = 1) ∨ (x_0 = 2)) →
          ∀ w10, Ext w4 w10 →
          FnP Tryz.prog F_ask_Label #[(.string x_1)] w10 fun v11 w11 =>
           Ext w10 w11 ∧
           ∃ t12 : Bool, v11 = (.bool t12) ∧
           (((t12 = false) →
            ((t12 = false) →
             ∀ w13, Ext w4 w13 →
             Q (.int .i64 3) w13) ∧
            ((t12 = true) →
             (((x_3 < 0) ∨ (1099511627776 < x_3)) →
              ∀ w13, Ext w4 w13 →
              Q (.int .i64 4) w13) ∧
             (((0 ≤ x_3) ∧ (x_3 ≤ 1099511627776)) →
              J5  w4)))) ∧
           ((t12 = true) →
            (((x_0 = 2) →
             ∀ w13, Ext w4 w13 →
             FnP Tryz.prog F_ask_Label #[(.string x_2)] w13 fun v14 w14 =>
              Ext w13 w14 ∧
              ∃ t15 : Bool, v14 = (.bool t15) ∧
              ((t15 = false) →
               ∀ w16, Ext w4 w16 →
               Q (.int .i64 3) w16) ∧
              ((t15 = true) →
               (((x_3 < 0) ∨ (1099511627776 < x_3)) →
                ∀ w16, Ext w4 w16 →
                Q (.int .i64 4) w16) ∧
               (((0 ≤ x_3) ∧ (x_3 ≤ 1099511627776)) →
                J5  w4)))) ∧
            ((x_0 ≠ 2) →
             (((x_3 < 0) ∨ (1099511627776 < x_3)) →
              ∀ w13, Ext w4 w13 →
              Q (.int .i64 4) w13) ∧
             (((0 ≤ x_3) ∧ (x_3 ≤ 1099511627776)) →
              J5  w4))))) ∧
         (((x_0 ≠ 1) ∧ (x_0 ≠ 2)) →
          (((x_0 = 2) →
           ∀ w10, Ext w4 w10 →
           FnP Tryz.prog F_ask_Label #[(.string x_2)] w10 fun v11 w11 =>
            Ext w10 w11 ∧
            ∃ t12 : Bool, v11 = (.bool t12) ∧
            ((t12 = false) →
             ∀ w13, Ext w4 w13 →
             Q (.int .i64 3) w13) ∧
            ((t12 = true) →
             (((x_3 < 0) ∨ (1099511627776 < x_3)) →
              ∀ w13, Ext w4 w13 →
              Q (.int .i64 4) w13) ∧
             (((0 ≤ x_3) ∧ (x_3 ≤ 1099511627776)) →
              J5  w4)))) ∧
          ((x_0 ≠ 2) →
           (((x_3 < 0) ∨ (1099511627776 < x_3)) →
            ∀ w10, Ext w4 w10 →
            Q (.int .i64 4) w10) ∧
           (((0 ≤ x_3) ∧ (x_3 ≤ 1099511627776)) →
            J5  w4)))))) ∧
      ((x_0 ≠ 3) →
       ((((x_0 = 1) ∨ (x_0 = 2)) →
        ∀ w7, Ext w4 w7 →
        FnP Tryz.prog F_ask_Label #[(.string x_1)] w7 fun v8 w8 =>
         Ext w7 w8 ∧
         ∃ t9 : Bool, v8 = (.bool t9) ∧
         (((t9 = false) →
          ((t9 = false) →
           ∀ w10, Ext w4 w10 →
           Q (.int .i64 3) w10) ∧
          ((t9 = true) →
           (((x_3 < 0) ∨ (1099511627776 < x_3)) →
            ∀ w10, Ext w4 w10 →
            Q (.int .i64 4) w10) ∧
           (((0 ≤ x_3) ∧ (x_3 ≤ 1099511627776)) →
            J5  w4)))) ∧
         ((t9 = true) →
          (((x_0 = 2) →
           ∀ w10, Ext w4 w10 →
           FnP Tryz.prog F_ask_Label #[(.string x_2)] w10 fun v11 w11 =>
            Ext w10 w11 ∧
            ∃ t12 : Bool, v11 = (.bool t12) ∧
            ((t12 = false) →
             ∀ w13, Ext w4 w13 →
             Q (.int .i64 3) w13) ∧
            ((t12 = true) →
             (((x_3 < 0) ∨ (1099511627776 < x_3)) →
              ∀ w13, Ext w4 w13 →
              Q (.int .i64 4) w13) ∧
             (((0 ≤ x_3) ∧ (x_3 ≤ 1099511627776)) →
              J5  w4)))) ∧
          ((x_0 ≠ 2) →
           (((x_3 < 0) ∨ (1099511627776 < x_3)) →
            ∀ w10, Ext w4 w10 →
            Q (.int .i64 4) w10) ∧
           (((0 ≤ x_3) ∧ (x_3 ≤ 1099511627776)) →
            J5  w4))))) ∧
       (((x_0 ≠ 1) ∧ (x_0 ≠ 2)) →
        (((x_0 = 2) →
         ∀ w7, Ext w4 w7 →
         FnP Tryz.prog F_ask_Label #[(.string x_2)] w7 fun v8 w8 =>
          Ext w7 w8 ∧
          ∃ t9 : Bool, v8 = (.bool t9) ∧
          ((t9 = false) →
           ∀ w10, Ext w4 w10 →
           Q (.int .i64 3) w10) ∧
          ((t9 = true) →
           (((x_3 < 0) ∨ (1099511627776 < x_3)) →
            ∀ w10, Ext w4 w10 →
            Q (.int .i64 4) w10) ∧
           (((0 ≤ x_3) ∧ (x_3 ≤ 1099511627776)) →
            J5  w4)))) ∧
        ((x_0 ≠ 2) →
         (((x_3 < 0) ∨ (1099511627776 < x_3)) →
          ∀ w7, Ext w4 w7 →
          Q (.int .i64 4) w7) ∧
         (((0 ≤ x_3) ∧ (x_3 ≤ 1099511627776)) →
          J5  w4))))) ∧
     ∀  (w6 : World), J5  w6 →
      ∃ (I7 : Int → World → Prop) (M7 : Int → World → Nat), I7 0 w6 ∧
      ∀ (k8 : Int) (w9 : World), I7 k8 w9 →
       (((k8 < (x_4l : Int)) →
        x_4 ≠ none ∧
        (0 : Int) ≤ k8 ∧
        (k8 : Int) < (x_4l : Int) ∧
        (pIdx x_4 k8 5) ≠ none ∧
        ∃ t10 : Int, cell w9 (pIdx x_4 k8 5) 0 = some (.int .i64 t10) ∧
        ∃ t11 : ByteArray, cell w9 (pIdx x_4 k8 5) 1 = some (.string t11) ∧
        ∃ t12 : ByteArray, cell w9 (pIdx x_4 k8 5) 2 = some (.string t12) ∧
        ∃ t13 : Int, cell w9 (pIdx x_4 k8 5) 3 = some (.int .i64 t13) ∧
        ∃ t14 : Option Addr, ∃ tl15 : Nat, ∃ tc16 : Nat, cell w9 (pIdx x_4 k8 5) 4 = some (.slice t14 tl15 tc16) ∧
        ∀ b17 : Nat, w9.heap.size ≤ b17 → ∀ w18, Ext w9 w18 →
        FnP Tryz.prog F_ask_check #[(.agg #[(.int .i64 t10), (.string t11), (.string t12), (.int .i64 t13), (.slice t14 tl15 tc16)])] w18 fun v19 w19 =>
         Ext w18 w19 ∧
         ∃ t20 : Int, v19 = (.int .i64 t20) ∧
         ((t20 ≠ 0) →
          ∀ w21, Ext w9 w21 →
          Q (.int .i64 t20) w21) ∧
         ((t20 = 0) →
          InR .i64 (k8 + 1) ∧
          (I7 (k8 + 1) w9 ∧ M7 (k8 + 1) w9 < M7 k8 w9)))) ∧
       (((x_4l : Int) ≤ k8) →
        ∀ w10, Ext w9 w10 →
        Q (.int .i64 0) w10)))

theorem ok_ask_check (x_0 : Int) (x_1 : ByteArray) (x_2 : ByteArray) (x_3 : Int) (x_4 : Option Addr) (x_4l : Nat) (x_4c : Nat) (w : World) (Q : Value → World → Prop) (h : wp_ask_check x_0 x_1 x_2 x_3 x_4 x_4l x_4c w Q) : FnP Tryz.prog F_ask_check #[(.agg #[(.int .i64 x_0), (.string x_1), (.string x_2), (.int .i64 x_3), (.slice x_4 x_4l x_4c)])] w Q := by
  have e_ : wp_ask_check x_0 x_1 x_2 x_3 x_4 x_4l x_4c w Q = Runs Tryz.prog Q ({ N := 115, wrap := [], pub := [], muts := [], joins := [(0, [3, 4]), (4, [])] } : Cfg) Tryz.f52 (Tryz.f52.body.getD .skip) [.agg [.int .i64 x_0, .str x_1, .str x_2, .int .i64 x_3, .slc x_4 x_4l x_4c]] w := by kernel_rfl
  rw [e_] at h
  exact runs_fn h Tryz.func52 (by kernel_rfl) (fun args w => Tryz.call52 args w) (by kernel_rfl) (by kernel_rfl) rfl rfl

/-- shiftbell/ask.text -/
def wp_ask_text (x_0 : Int) (x_1 : ByteArray) (x_2 : ByteArray) (x_3 : Int) (x_4 : Option Addr) (x_4l : Nat) (x_4c : Nat) (w : World) (Q : Value → World → Prop) : Prop :=
  ∀ b0 : Nat, w.heap.size ≤ b0 → (((x_0 = 1) →
   CatOk (⟨#[63]⟩ : ByteArray) x_1 ∧
   ∀ w1, Ext w w1 →
   Q (.string ((⟨#[63]⟩ : ByteArray) ++ x_1)) w1)) ∧
  ((x_0 ≠ 1) →
   (((x_0 = 2) →
    CatOk x_1 (⟨#[61]⟩ : ByteArray) ∧
    CatOk (x_1 ++ (⟨#[61]⟩ : ByteArray)) x_2 ∧
    ∀ w1, Ext w w1 →
    Q (.string ((x_1 ++ (⟨#[61]⟩ : ByteArray)) ++ x_2)) w1)) ∧
   ((x_0 ≠ 2) →
    (((x_0 = 3) →
     CatOk x_1 (⟨#[62, 61]⟩ : ByteArray) ∧
     ∀ w1, Ext w w1 →
     FnP Tryz.prog F_strconv_FormatInt #[(.int .i64 x_3), (.int .i64 10)] w1 fun v2 w2 =>
      Ext w1 w2 ∧
      ∃ t3 : ByteArray, v2 = (.string t3) ∧
      CatOk (x_1 ++ (⟨#[62, 61]⟩ : ByteArray)) t3 ∧
      ∀ w4, Ext w w4 →
      Q (.string ((x_1 ++ (⟨#[62, 61]⟩ : ByteArray)) ++ t3)) w4)) ∧
    ((x_0 ≠ 3) →
     (((x_0 = 4) →
      x_4 ≠ none ∧
      (0 : Int) ≤ 0 ∧
      (0 : Int) < (x_4l : Int) ∧
      (pIdx x_4 0 5) ≠ none ∧
      ∃ t1 : Int, cell w (pIdx x_4 0 5) 0 = some (.int .i64 t1) ∧
      ∃ t2 : ByteArray, cell w (pIdx x_4 0 5) 1 = some (.string t2) ∧
      ∃ t3 : ByteArray, cell w (pIdx x_4 0 5) 2 = some (.string t3) ∧
      ∃ t4 : Int, cell w (pIdx x_4 0 5) 3 = some (.int .i64 t4) ∧
      ∃ t5 : Option Addr, ∃ tl6 : Nat, ∃ tc7 : Nat, cell w (pIdx x_4 0 5) 4 = some (.slice t5 tl6 tc7) ∧
      ∀ w8, Ext w w8 →
      FnP Tryz.prog F_ask_text #[(.agg #[(.int .i64 t1), (.string t2), (.string t3), (.int .i64 t4), (.slice t5 tl6 tc7)])] w8 fun v9 w9 =>
       Ext w8 w9 ∧
       ∃ t10 : ByteArray, v9 = (.string t10) ∧
       CatOk (⟨#[33]⟩ : ByteArray) t10 ∧
       ∀ w11, Ext w w11 →
       Q (.string ((⟨#[33]⟩ : ByteArray) ++ t10)) w11)) ∧
     ((x_0 ≠ 4) →
      (((x_0 = 5) →
       x_4 ≠ none ∧
       (0 : Int) ≤ 0 ∧
       (0 : Int) < (x_4l : Int) ∧
       (pIdx x_4 0 5) ≠ none ∧
       ∃ t1 : Int, cell w (pIdx x_4 0 5) 0 = some (.int .i64 t1) ∧
       ∃ t2 : ByteArray, cell w (pIdx x_4 0 5) 1 = some (.string t2) ∧
       ∃ t3 : ByteArray, cell w (pIdx x_4 0 5) 2 = some (.string t3) ∧
       ∃ t4 : Int, cell w (pIdx x_4 0 5) 3 = some (.int .i64 t4) ∧
       ∃ t5 : Option Addr, ∃ tl6 : Nat, ∃ tc7 : Nat, cell w (pIdx x_4 0 5) 4 = some (.slice t5 tl6 tc7) ∧
       x_4 ≠ none ∧
       (0 : Int) ≤ 1 ∧
       (1 : Int) < (x_4l : Int) ∧
       (pIdx x_4 1 5) ≠ none ∧
       ∃ t8 : Int, cell w (pIdx x_4 1 5) 0 = some (.int .i64 t8) ∧
       ∃ t9 : ByteArray, cell w (pIdx x_4 1 5) 1 = some (.string t9) ∧
       ∃ t10 : ByteArray, cell w (pIdx x_4 1 5) 2 = some (.string t10) ∧
       ∃ t11 : Int, cell w (pIdx x_4 1 5) 3 = some (.int .i64 t11) ∧
       ∃ t12 : Option Addr, ∃ tl13 : Nat, ∃ tc14 : Nat, cell w (pIdx x_4 1 5) 4 = some (.slice t12 tl13 tc14) ∧
       ∀ w15, Ext w w15 →
       FnP Tryz.prog F_ask_text #[(.agg #[(.int .i64 t1), (.string t2), (.string t3), (.int .i64 t4), (.slice t5 tl6 tc7)])] w15 fun v16 w16 =>
        Ext w15 w16 ∧
        ∃ t17 : ByteArray, v16 = (.string t17) ∧
        CatOk (⟨#[40]⟩ : ByteArray) t17 ∧
        CatOk ((⟨#[40]⟩ : ByteArray) ++ t17) (⟨#[38]⟩ : ByteArray) ∧
        ∀ w18, Ext w w18 →
        FnP Tryz.prog F_ask_text #[(.agg #[(.int .i64 t8), (.string t9), (.string t10), (.int .i64 t11), (.slice t12 tl13 tc14)])] w18 fun v19 w19 =>
         Ext w18 w19 ∧
         ∃ t20 : ByteArray, v19 = (.string t20) ∧
         CatOk (((⟨#[40]⟩ : ByteArray) ++ t17) ++ (⟨#[38]⟩ : ByteArray)) t20 ∧
         CatOk ((((⟨#[40]⟩ : ByteArray) ++ t17) ++ (⟨#[38]⟩ : ByteArray)) ++ t20) (⟨#[41]⟩ : ByteArray) ∧
         ∀ w21, Ext w w21 →
         Q (.string (((((⟨#[40]⟩ : ByteArray) ++ t17) ++ (⟨#[38]⟩ : ByteArray)) ++ t20) ++ (⟨#[41]⟩ : ByteArray))) w21)) ∧
      ((x_0 ≠ 5) →
       x_4 ≠ none ∧
       (0 : Int) ≤ 0 ∧
       (0 : Int) < (x_4l : Int) ∧
       (pIdx x_4 0 5) ≠ none ∧
       ∃ t1 : Int, cell w (pIdx x_4 0 5) 0 = some (.int .i64 t1) ∧
       ∃ t2 : ByteArray, cell w (pIdx x_4 0 5) 1 = some (.string t2) ∧
       ∃ t3 : ByteArray, cell w (pIdx x_4 0 5) 2 = some (.string t3) ∧
       ∃ t4 : Int, cell w (pIdx x_4 0 5) 3 = some (.int .i64 t4) ∧
       ∃ t5 : Option Addr, ∃ tl6 : Nat, ∃ tc7 : Nat, cell w (pIdx x_4 0 5) 4 = some (.slice t5 tl6 tc7) ∧
       x_4 ≠ none ∧
       (0 : Int) ≤ 1 ∧
       (1 : Int) < (x_4l : Int) ∧
       (pIdx x_4 1 5) ≠ none ∧
       ∃ t8 : Int, cell w (pIdx x_4 1 5) 0 = some (.int .i64 t8) ∧
       ∃ t9 : ByteArray, cell w (pIdx x_4 1 5) 1 = some (.string t9) ∧
       ∃ t10 : ByteArray, cell w (pIdx x_4 1 5) 2 = some (.string t10) ∧
       ∃ t11 : Int, cell w (pIdx x_4 1 5) 3 = some (.int .i64 t11) ∧
       ∃ t12 : Option Addr, ∃ tl13 : Nat, ∃ tc14 : Nat, cell w (pIdx x_4 1 5) 4 = some (.slice t12 tl13 tc14) ∧
       ∀ w15, Ext w w15 →
       FnP Tryz.prog F_ask_text #[(.agg #[(.int .i64 t1), (.string t2), (.string t3), (.int .i64 t4), (.slice t5 tl6 tc7)])] w15 fun v16 w16 =>
        Ext w15 w16 ∧
        ∃ t17 : ByteArray, v16 = (.string t17) ∧
        CatOk (⟨#[40]⟩ : ByteArray) t17 ∧
        CatOk ((⟨#[40]⟩ : ByteArray) ++ t17) (⟨#[124]⟩ : ByteArray) ∧
        ∀ w18, Ext w w18 →
        FnP Tryz.prog F_ask_text #[(.agg #[(.int .i64 t8), (.string t9), (.string t10), (.int .i64 t11), (.slice t12 tl13 tc14)])] w18 fun v19 w19 =>
         Ext w18 w19 ∧
         ∃ t20 : ByteArray, v19 = (.string t20) ∧
         CatOk (((⟨#[40]⟩ : ByteArray) ++ t17) ++ (⟨#[124]⟩ : ByteArray)) t20 ∧
         CatOk ((((⟨#[40]⟩ : ByteArray) ++ t17) ++ (⟨#[124]⟩ : ByteArray)) ++ t20) (⟨#[41]⟩ : ByteArray) ∧
         ∀ w21, Ext w w21 →
         Q (.string (((((⟨#[40]⟩ : ByteArray) ++ t17) ++ (⟨#[124]⟩ : ByteArray)) ++ t20) ++ (⟨#[41]⟩ : ByteArray))) w21)))))

theorem ok_ask_text (x_0 : Int) (x_1 : ByteArray) (x_2 : ByteArray) (x_3 : Int) (x_4 : Option Addr) (x_4l : Nat) (x_4c : Nat) (w : World) (Q : Value → World → Prop) (h : wp_ask_text x_0 x_1 x_2 x_3 x_4 x_4l x_4c w Q) : FnP Tryz.prog F_ask_text #[(.agg #[(.int .i64 x_0), (.string x_1), (.string x_2), (.int .i64 x_3), (.slice x_4 x_4l x_4c)])] w Q := by
  have e_ : wp_ask_text x_0 x_1 x_2 x_3 x_4 x_4l x_4c w Q = Runs Tryz.prog Q ({ N := 65, wrap := [], pub := [], muts := [], joins := [] } : Cfg) Tryz.f38 (Tryz.f38.body.getD .skip) [.agg [.int .i64 x_0, .str x_1, .str x_2, .int .i64 x_3, .slc x_4 x_4l x_4c]] w := by kernel_rfl
  rw [e_] at h
  exact runs_fn h Tryz.func38 (by kernel_rfl) (fun args w => Tryz.call38 args w) (by kernel_rfl) (by kernel_rfl) rfl rfl

/-- shiftbell/ask.Text -/
def wp_ask_Text (x_0 : Int) (x_1 : ByteArray) (x_2 : ByteArray) (x_3 : Int) (x_4 : Option Addr) (x_4l : Nat) (x_4c : Nat) (w : World) (Q : Value → World → Prop) : Prop :=
  ∀ b0 : Nat, w.heap.size ≤ b0 → ∀ w1, Ext w w1 →
  FnP Tryz.prog F_ask_Check #[(.agg #[(.int .i64 x_0), (.string x_1), (.string x_2), (.int .i64 x_3), (.slice x_4 x_4l x_4c)])] w1 fun v2 w2 =>
   Ext w1 w2 ∧
   ∃ t3 : Int, v2 = (.int .i64 t3) ∧
   ((t3 ≠ 0) →
    ∀ w4, Ext w w4 →
    Q (.tuple #[(.string (⟨#[]⟩ : ByteArray)), (.int .i64 t3)]) w4) ∧
   ((t3 = 0) →
    ∀ w4, Ext w w4 →
    FnP Tryz.prog F_ask_text #[(.agg #[(.int .i64 x_0), (.string x_1), (.string x_2), (.int .i64 x_3), (.slice x_4 x_4l x_4c)])] w4 fun v5 w5 =>
     Ext w4 w5 ∧
     ∃ t6 : ByteArray, v5 = (.string t6) ∧
     ∀ w7, Ext w w7 →
     Q (.tuple #[(.string t6), (.int .i64 0)]) w7)

theorem ok_ask_Text (x_0 : Int) (x_1 : ByteArray) (x_2 : ByteArray) (x_3 : Int) (x_4 : Option Addr) (x_4l : Nat) (x_4c : Nat) (w : World) (Q : Value → World → Prop) (h : wp_ask_Text x_0 x_1 x_2 x_3 x_4 x_4l x_4c w Q) : FnP Tryz.prog F_ask_Text #[(.agg #[(.int .i64 x_0), (.string x_1), (.string x_2), (.int .i64 x_3), (.slice x_4 x_4l x_4c)])] w Q := by
  have e_ : wp_ask_Text x_0 x_1 x_2 x_3 x_4 x_4l x_4c w Q = Runs Tryz.prog Q ({ N := 12, wrap := [], pub := [], muts := [], joins := [] } : Cfg) Tryz.f23 (Tryz.f23.body.getD .skip) [.agg [.int .i64 x_0, .str x_1, .str x_2, .int .i64 x_3, .slc x_4 x_4l x_4c]] w := by kernel_rfl
  rw [e_] at h
  exact runs_fn h Tryz.func23 (by kernel_rfl) (fun args w => Tryz.call23 args w) (by kernel_rfl) (by kernel_rfl) rfl rfl

/-- (*shiftbell/ask.reader).take -/
def wp_ask_reader_take (r : Option Addr) (c : Int) (w : World) (Q : Value → World → Prop) : Prop :=
  r ≠ none ∧
  r ≠ none ∧
  ∃ t0 : ByteArray, cell w (pAdd r 0) 0 = some (.string t0) ∧
  ((t0 ≠ (⟨#[]⟩ : ByteArray)) →
   r ≠ none) ∧
  ((t0 ≠ (⟨#[]⟩ : ByteArray)) →
   r ≠ none) ∧
  ((t0 = (⟨#[]⟩ : ByteArray)) →
   ∀ w1, Ext w w1 →
   Q (.bool false) w1) ∧
  ((t0 ≠ (⟨#[]⟩ : ByteArray)) →
   ∃ t1 : ByteArray, cell w (pAdd r 0) 0 = some (.string t1) ∧
   (0 : Int) ≤ 0 ∧
   (0 : Int) < (t1.size : Int) ∧
   (((sAt t1 0) ≠ c) →
    ∀ w2, Ext w w2 →
    Q (.bool false) w2) ∧
   (((sAt t1 0) = c) →
    r ≠ none ∧
    r ≠ none ∧
    ∃ t2 : ByteArray, cell w (pAdd r 0) 0 = some (.string t2) ∧
    (0 : Int) ≤ 1 ∧
    (1 : Int) ≤ (t2.size : Int) ∧
    ((t2.size : Int) : Int) ≤ (t2.size : Int) ∧
    r ≠ none ∧
    r ≠ none ∧
    Store w (pAdd r 0) [(.string (t2.extract (1 : Int).toNat (t2.size : Int).toNat))] [] fun w3 =>
     ∀ w4, Ext w3 w4 →
     Q (.bool true) w4))

theorem ok_ask_reader_take (r : Option Addr) (c : Int) (w : World) (Q : Value → World → Prop) (h : wp_ask_reader_take r c w Q) : FnP Tryz.prog F_ask_reader_take #[(.pointer r), (.int .u8 c)] w Q := by
  have e_ : wp_ask_reader_take r c w Q = Runs Tryz.prog Q ({ N := 27, wrap := [], pub := [], muts := [], joins := [] } : Cfg) Tryz.f66 (Tryz.f66.body.getD .skip) [.sc (.ptr r), .sc (.int .u8 c)] w := by kernel_rfl
  rw [e_] at h
  exact runs_fn h Tryz.func66 (by kernel_rfl) (fun args w => Tryz.call66 args w) (by kernel_rfl) (by kernel_rfl) rfl rfl

/-- (*shiftbell/ask.reader).word -/
def wp_ask_reader_word (r : Option Addr) (w : World) (Q : Value → World → Prop) : Prop :=
  r ≠ none ∧
  r ≠ none ∧
  ∃ t0 : ByteArray, cell w (pAdd r 0) 0 = some (.string t0) ∧
  ∀ w1, Ext w w1 →
  FnP Tryz.prog F_strings_IndexAny #[(.string t0), (.string (⟨#[63, 61, 62, 33, 40, 41, 38, 124]⟩ : ByteArray))] w1 fun v2 w2 =>
   Ext w1 w2 ∧
   ∃ t3 : Int, v2 = (.int .i64 t3) ∧
   (((t3 < 0) →
    r ≠ none ∧
    r ≠ none ∧
    ∃ t4 : ByteArray, cell w (pAdd r 0) 0 = some (.string t4) ∧
    r ≠ none ∧
    r ≠ none ∧
    ∃ t5 : ByteArray, cell w (pAdd r 0) 0 = some (.string t5) ∧
    (0 : Int) ≤ 0 ∧
    (0 : Int) ≤ (t4.size : Int) ∧
    ((t4.size : Int) : Int) ≤ (t5.size : Int) ∧
    r ≠ none ∧
    r ≠ none ∧
    ∃ t6 : ByteArray, cell w (pAdd r 0) 0 = some (.string t6) ∧
    (0 : Int) ≤ (t4.size : Int) ∧
    ((t4.size : Int) : Int) ≤ (t6.size : Int) ∧
    ((t6.size : Int) : Int) ≤ (t6.size : Int) ∧
    r ≠ none ∧
    r ≠ none ∧
    Store w (pAdd r 0) [(.string (t6.extract (t4.size : Int).toNat (t6.size : Int).toNat))] [] fun w7 =>
     ∀ w8, Ext w7 w8 →
     Q (.string (t5.extract (0 : Int).toNat (t4.size : Int).toNat)) w8)) ∧
   ((0 ≤ t3) →
    r ≠ none ∧
    r ≠ none ∧
    ∃ t4 : ByteArray, cell w (pAdd r 0) 0 = some (.string t4) ∧
    (0 : Int) ≤ 0 ∧
    (0 : Int) ≤ t3 ∧
    (t3 : Int) ≤ (t4.size : Int) ∧
    r ≠ none ∧
    r ≠ none ∧
    ∃ t5 : ByteArray, cell w (pAdd r 0) 0 = some (.string t5) ∧
    (0 : Int) ≤ t3 ∧
    (t3 : Int) ≤ (t5.size : Int) ∧
    ((t5.size : Int) : Int) ≤ (t5.size : Int) ∧
    r ≠ none ∧
    r ≠ none ∧
    Store w (pAdd r 0) [(.string (t5.extract t3.toNat (t5.size : Int).toNat))] [] fun w6 =>
     ∀ w7, Ext w6 w7 →
     Q (.string (t4.extract (0 : Int).toNat t3.toNat)) w7)

theorem ok_ask_reader_word (r : Option Addr) (w : World) (Q : Value → World → Prop) (h : wp_ask_reader_word r w Q) : FnP Tryz.prog F_ask_reader_word #[(.pointer r)] w Q := by
  have e_ : wp_ask_reader_word r w Q = Runs Tryz.prog Q ({ N := 33, wrap := [], pub := [], muts := [], joins := [] } : Cfg) Tryz.f67 (Tryz.f67.body.getD .skip) [.sc (.ptr r)] w := by kernel_rfl
  rw [e_] at h
  exact runs_fn h Tryz.func67 (by kernel_rfl) (fun args w => Tryz.call67 args w) (by kernel_rfl) (by kernel_rfl) rfl rfl

/-- shiftbell/shiftbellkeep.sameAsk -/
def wp_shiftbellkeep_sameAsk (a_0 : Int) (a_1 : ByteArray) (a_2 : ByteArray) (a_3 : Int) (a_4 : Option Addr) (a_4l : Nat) (a_4c : Nat) (b_0 : Int) (b_1 : ByteArray) (b_2 : ByteArray) (b_3 : Int) (b_4 : Option Addr) (b_4l : Nat) (b_4c : Nat) (w : World) (Q : Value → World → Prop) : Prop :=
  ∀ b0 : Nat, w.heap.size ≤ b0 → ∀ b1 : Nat, w.heap.size ≤ b1 → ((((((a_0 = b_0) ∧ (a_1 = b_1)) ∧ (a_2 = b_2)) ∧ (a_3 = b_3)) →
   ∀ w2, Ext w w2 →
   FnP Tryz.prog F_slices_EqualFunc_api_Ask_api_Ask_api_Ask_api_Ask #[(.slice a_4 a_4l a_4c), (.slice b_4 b_4l b_4c), (.func (.func 31) #[] #[])] w2 fun v3 w3 =>
    Ext w2 w3 ∧
    ∃ t4 : Bool, v3 = (.bool t4) ∧
    ∀ w5, Ext w w5 →
    Q (.bool t4) w5)) ∧
  (((((a_0 ≠ b_0) ∨ (a_1 ≠ b_1)) ∨ (a_2 ≠ b_2)) ∨ (a_3 ≠ b_3)) →
   ∀ w2, Ext w w2 →
   Q (.bool false) w2)

theorem ok_shiftbellkeep_sameAsk (a_0 : Int) (a_1 : ByteArray) (a_2 : ByteArray) (a_3 : Int) (a_4 : Option Addr) (a_4l : Nat) (a_4c : Nat) (b_0 : Int) (b_1 : ByteArray) (b_2 : ByteArray) (b_3 : Int) (b_4 : Option Addr) (b_4l : Nat) (b_4c : Nat) (w : World) (Q : Value → World → Prop) (h : wp_shiftbellkeep_sameAsk a_0 a_1 a_2 a_3 a_4 a_4l a_4c b_0 b_1 b_2 b_3 b_4 b_4l b_4c w Q) : FnP Tryz.prog F_shiftbellkeep_sameAsk #[(.agg #[(.int .i64 a_0), (.string a_1), (.string a_2), (.int .i64 a_3), (.slice a_4 a_4l a_4c)]), (.agg #[(.int .i64 b_0), (.string b_1), (.string b_2), (.int .i64 b_3), (.slice b_4 b_4l b_4c)])] w Q := by
  have e_ : wp_shiftbellkeep_sameAsk a_0 a_1 a_2 a_3 a_4 a_4l a_4c b_0 b_1 b_2 b_3 b_4 b_4l b_4c w Q = Runs Tryz.prog Q ({ N := 38, wrap := [], pub := [], muts := [], joins := [] } : Cfg) Tryz.f31 (Tryz.f31.body.getD .skip) [.agg [.int .i64 a_0, .str a_1, .str a_2, .int .i64 a_3, .slc a_4 a_4l a_4c], .agg [.int .i64 b_0, .str b_1, .str b_2, .int .i64 b_3, .slc b_4 b_4l b_4c]] w := by kernel_rfl
  rw [e_] at h
  exact runs_fn h Tryz.func31 (by kernel_rfl) (fun args w => Tryz.call31 args w) (by kernel_rfl) (by kernel_rfl) rfl rfl

/-- slices.EqualFunc[[]shiftbell/api.Ask,[]shiftbell/api.Ask,shiftbell/api.Ask,shiftbell/api.Ask] -/
def wp_slices_EqualFunc_api_Ask_api_Ask_api_Ask_api_Ask (s1 : Option Addr) (s1l : Nat) (s1c : Nat) (s2 : Option Addr) (s2l : Nat) (s2c : Nat) (eq : Value) (w : World) (Q : Value → World → Prop) : Prop :=
  (((s1l : Int) ≠ (s2l : Int)) →
   ∀ w0, Ext w w0 →
   Q (.bool false) w0) ∧
  (((s1l : Int) = (s2l : Int)) →
   ∃ (I0 : Int → World → Prop) (M0 : Int → World → Nat), I0 0 w ∧
   ∀ (k1 : Int) (w2 : World), I0 k1 w2 →
    (((k1 < (s1l : Int)) →
     s1 ≠ none ∧
     (0 : Int) ≤ k1 ∧
     (k1 : Int) < (s1l : Int) ∧
     (pIdx s1 k1 5) ≠ none ∧
     ∃ t3 : Int, cell w2 (pIdx s1 k1 5) 0 = some (.int .i64 t3) ∧
     ∃ t4 : ByteArray, cell w2 (pIdx s1 k1 5) 1 = some (.string t4) ∧
     ∃ t5 : ByteArray, cell w2 (pIdx s1 k1 5) 2 = some (.string t5) ∧
     ∃ t6 : Int, cell w2 (pIdx s1 k1 5) 3 = some (.int .i64 t6) ∧
     ∃ t7 : Option Addr, ∃ tl8 : Nat, ∃ tc9 : Nat, cell w2 (pIdx s1 k1 5) 4 = some (.slice t7 tl8 tc9) ∧
     ∀ b10 : Nat, w2.heap.size ≤ b10 → s2 ≠ none ∧
     (0 : Int) ≤ k1 ∧
     (k1 : Int) < (s2l : Int) ∧
     (pIdx s2 k1 5) ≠ none ∧
     ∃ t11 : Int, cell w2 (pIdx s2 k1 5) 0 = some (.int .i64 t11) ∧
     ∃ t12 : ByteArray, cell w2 (pIdx s2 k1 5) 1 = some (.string t12) ∧
     ∃ t13 : ByteArray, cell w2 (pIdx s2 k1 5) 2 = some (.string t13) ∧
     ∃ t14 : Int, cell w2 (pIdx s2 k1 5) 3 = some (.int .i64 t14) ∧
     ∃ t15 : Option Addr, ∃ tl16 : Nat, ∃ tc17 : Nat, cell w2 (pIdx s2 k1 5) 4 = some (.slice t15 tl16 tc17) ∧
     ∀ b18 : Nat, w2.heap.size ≤ b18 → ∀ w19, Ext w2 w19 →
     FnVP Tryz.prog eq [(.agg #[(.int .i64 t3), (.string t4), (.string t5), (.int .i64 t6), (.slice t7 tl8 tc9)]), (.agg #[(.int .i64 t11), (.string t12), (.string t13), (.int .i64 t14), (.slice t15 tl16 tc17)])] w19 fun v20 w20 =>
      Ext w19 w20 ∧
      ∃ t21 : Bool, v20 = (.bool t21) ∧
      ((t21 = false) →
       ∀ w22, Ext w2 w22 →
       Q (.bool false) w22) ∧
      ((t21 = true) →
       InR .i64 (k1 + 1) ∧
       (I0 (k1 + 1) w2 ∧ M0 (k1 + 1) w2 < M0 k1 w2)))) ∧
    (((s1l : Int) ≤ k1) →
     ∀ w3, Ext w2 w3 →
     Q (.bool true) w3))

theorem ok_slices_EqualFunc_api_Ask_api_Ask_api_Ask_api_Ask (s1 : Option Addr) (s1l : Nat) (s1c : Nat) (s2 : Option Addr) (s2l : Nat) (s2c : Nat) (eq : Value) (w : World) (Q : Value → World → Prop) (h : wp_slices_EqualFunc_api_Ask_api_Ask_api_Ask_api_Ask s1 s1l s1c s2 s2l s2c eq w Q) : FnP Tryz.prog F_slices_EqualFunc_api_Ask_api_Ask_api_Ask_api_Ask #[(.slice s1 s1l s1c), (.slice s2 s2l s2c), eq] w Q := by
  have e_ : wp_slices_EqualFunc_api_Ask_api_Ask_api_Ask_api_Ask s1 s1l s1c s2 s2l s2c eq w Q = Runs Tryz.prog Q ({ N := 32, wrap := [], pub := [], muts := [], joins := [] } : Cfg) Tryz.f50 (Tryz.f50.body.getD .skip) [.sc (.slc s1 s1l s1c), .sc (.slc s2 s2l s2c), .sc (.val eq)] w := by kernel_rfl
  rw [e_] at h
  exact runs_fn h Tryz.func50 (by kernel_rfl) (fun args w => Tryz.call50 args w) (by kernel_rfl) (by kernel_rfl) rfl rfl

end Go.Proofs.YtenppnomdejmlaaGreatDoor
