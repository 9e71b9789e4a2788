/- The texts of this seat's functions: what each computes, as its symbolic run says it. -/
import Derived.Test.YtblafknmfblgfaaRows
import Derived.Test.YtblafknmfblgfaaSxD
import Derived.Test.YtblafknmfblgfaaSxN
import Derived.Test.YtblafknmfblgfaaTxt
set_option linter.unusedVariables false
set_option linter.unusedSimpArgs false
set_option maxRecDepth 100000
namespace Go.Proofs.Ytblafknmfblgfaa
open Go.Sx Go.RowKit

abbrev F_ask_Label : FuncId := 36
abbrev F_shiftbellkeep_sameAsk : FuncId := 64
abbrev F_ask_Check : FuncId := 80
abbrev F_ask_Holds : FuncId := 81
abbrev F_slices_EqualFunc_api_Ask_api_Ask_api_Ask_api_Ask : FuncId := 87
abbrev F_ask_count : FuncId := 92
abbrev F_ask_check : FuncId := 93
abbrev F_ask_value : FuncId := 94
abbrev F_ask_Holds_1 : FuncId := 95
abbrev F_ask_amount : FuncId := 96
abbrev F_slices_ContainsFunc_api_Label_api_Label : FuncId := 97
abbrev F_ask_Holds_1_1 : FuncId := 98
abbrev F_ask_unit : FuncId := 101
abbrev F_slices_IndexFunc_api_Label_api_Label : FuncId := 102

/-- shiftbell/ask.Label -/
def wp_ask_Label (s : ByteArray) (w : World) (Q : Value → World → Prop) : Prop :=
  ((((s ≠ (⟨#[]⟩ : ByteArray)) ∧ ((s.size : Int) ≤ 20)) →
   (0 : Int) ≤ 0)) ∧
  ((((s ≠ (⟨#[]⟩ : ByteArray)) ∧ ((s.size : Int) ≤ 20)) →
   (0 : Int) < (s.size : Int))) ∧
  (((((s ≠ (⟨#[]⟩ : ByteArray)) ∧ ((s.size : Int) ≤ 20)) ∧ (97 ≤ (sAt s 0))) →
   (0 : Int) ≤ 0)) ∧
  (((((s ≠ (⟨#[]⟩ : ByteArray)) ∧ ((s.size : Int) ≤ 20)) ∧ (97 ≤ (sAt s 0))) →
   (0 : Int) < (s.size : Int))) ∧
  (((((s = (⟨#[]⟩ : ByteArray)) ∨ (20 < (s.size : Int))) ∨ ((sAt s 0) < 97)) ∨ (122 < (sAt s 0))) →
   ∀ w0, Ext w w0 →
   Q (.bool false) w0) ∧
  (((((s ≠ (⟨#[]⟩ : ByteArray)) ∧ ((s.size : Int) ≤ 20)) ∧ (97 ≤ (sAt s 0))) ∧ ((sAt s 0) ≤ 122)) →
   ∀ w0, Ext w w0 →
   Run Try.prog (.convert 9 133 (.string s)) w0 fun v1 w1 =>
    Ext w0 w1 ∧
    ∃ t2 : Option Addr, ∃ tl3 : Nat, ∃ tc4 : Nat, v1 = (.slice t2 tl3 tc4) ∧
    ∃ (I5 : Int → World → Prop) (M5 : Int → World → Nat), I5 0 w1 ∧
    ∀ (k6 : Int) (w7 : World), I5 k6 w7 →
     (((k6 < (tl3 : Int)) →
      t2 ≠ none ∧
      (0 : Int) ≤ k6 ∧
      (k6 : Int) < (tl3 : Int) ∧
      ∃ t8 : Int, cell w7 (pIdx t2 k6 1) 0 = some (.int .u8 t8) ∧
      ((((((t8 < 97) ∨ (122 < t8)) ∧ ((t8 < 48) ∨ (57 < t8))) ∧ (t8 ≠ 45)) →
       ∀ w9, Ext w7 w9 →
       Q (.bool false) w9)) ∧
      (((((97 ≤ t8) ∧ (t8 ≤ 122)) ∨ ((48 ≤ t8) ∧ (t8 ≤ 57))) ∨ (t8 = 45)) →
       InR .i64 (k6 + 1) ∧
       (I5 (k6 + 1) w7 ∧ M5 (k6 + 1) w7 < M5 k6 w7)))) ∧
     (((tl3 : Int) ≤ k6) →
      ∀ w8, Ext w7 w8 →
      Q (.bool true) w8))

theorem ok_ask_Label (s : ByteArray) (w : World) (Q : Value → World → Prop) (h : wp_ask_Label s w Q) : FnP Try.prog F_ask_Label #[(.string s)] w Q := by
  have e_ : wp_ask_Label s w Q = Runs Try.prog Q ({ N := 48, wrap := [], pub := [], muts := [], joins := [] } : Cfg) Try.f36 (Try.f36.body.getD .skip) [.sc (.str s)] w := by kernel_rfl
  rw [e_] at h
  exact runs_fn h Try.func36 (by kernel_rfl) (fun args w => Try.call36 args w) (by kernel_rfl) (by kernel_rfl) rfl rfl

/-- shiftbell/ask.count -/
def wp_ask_count (x_0 : Int) (x_1 : ByteArray) (x_2 : ByteArray) (x_3 : Int) (x_4 : Option Addr) (x_4l : Nat) (x_4c : Nat) (w : World) (Q : Value → World → Prop) : Prop :=
  ∀ b0 : Nat, w.heap.size ≤ b0 → ∃ (I1 : Int → Int → World → Prop) (M1 : Int → Int → World → Nat), I1 1 0 w ∧
  ∀ (n2 : Int) (k3 : Int) (w4 : World), I1 n2 k3 w4 →
   (((k3 < (x_4l : Int)) →
    x_4 ≠ none ∧
    (0 : Int) ≤ k3 ∧
    (k3 : Int) < (x_4l : Int) ∧
    (pIdx x_4 k3 5) ≠ none ∧
    ∃ t5 : Int, cell w4 (pIdx x_4 k3 5) 0 = some (.int .i64 t5) ∧
    ∃ t6 : ByteArray, cell w4 (pIdx x_4 k3 5) 1 = some (.string t6) ∧
    ∃ t7 : ByteArray, cell w4 (pIdx x_4 k3 5) 2 = some (.string t7) ∧
    ∃ t8 : Int, cell w4 (pIdx x_4 k3 5) 3 = some (.int .i64 t8) ∧
    ∃ t9 : Option Addr, ∃ tl10 : Nat, ∃ tc11 : Nat, cell w4 (pIdx x_4 k3 5) 4 = some (.slice t9 tl10 tc11) ∧
    ∀ b12 : Nat, w4.heap.size ≤ b12 → ∀ w13, Ext w4 w13 →
    FnP Try.prog F_ask_count #[(.agg #[(.int .i64 t5), (.string t6), (.string t7), (.int .i64 t8), (.slice t9 tl10 tc11)])] w13 fun v14 w14 =>
     Ext w13 w14 ∧
     ∃ t15 : Int, v14 = (.int .i64 t15) ∧
     InR .i64 (k3 + 1) ∧
     (I1 (IntKind.wrap .i64 (n2 + t15)) (k3 + 1) w4 ∧ M1 (IntKind.wrap .i64 (n2 + t15)) (k3 + 1) w4 < M1 n2 k3 w4))) ∧
   (((x_4l : Int) ≤ k3) →
    ∀ w5, Ext w4 w5 →
    Q (.int .i64 n2) w5)

theorem ok_ask_count (x_0 : Int) (x_1 : ByteArray) (x_2 : ByteArray) (x_3 : Int) (x_4 : Option Addr) (x_4l : Nat) (x_4c : Nat) (w : World) (Q : Value → World → Prop) (h : wp_ask_count x_0 x_1 x_2 x_3 x_4 x_4l x_4c w Q) : FnP Try.prog F_ask_count #[(.agg #[(.int .i64 x_0), (.string x_1), (.string x_2), (.int .i64 x_3), (.slice x_4 x_4l x_4c)])] w Q := by
  have e_ : wp_ask_count x_0 x_1 x_2 x_3 x_4 x_4l x_4c w Q = Runs Try.prog Q ({ N := 19, wrap := [16], pub := [], muts := [], joins := [] } : Cfg) Try.f92 (Try.f92.body.getD .skip) [.agg [.int .i64 x_0, .str x_1, .str x_2, .int .i64 x_3, .slc x_4 x_4l x_4c]] w := by kernel_rfl
  rw [e_] at h
  exact runs_fn h Try.func92 (by kernel_rfl) (fun args w => Try.call92 args w) (by kernel_rfl) (by kernel_rfl) rfl rfl

/-- shiftbell/ask.Check -/
def wp_ask_Check (x_0 : Int) (x_1 : ByteArray) (x_2 : ByteArray) (x_3 : Int) (x_4 : Option Addr) (x_4l : Nat) (x_4c : Nat) (w : World) (Q : Value → World → Prop) : Prop :=
  ∀ b0 : Nat, w.heap.size ≤ b0 → ∀ w1, Ext w w1 →
  FnP Try.prog F_ask_count #[(.agg #[(.int .i64 x_0), (.string x_1), (.string x_2), (.int .i64 x_3), (.slice x_4 x_4l x_4c)])] w1 fun v2 w2 =>
   Ext w1 w2 ∧
   ∃ t3 : Int, v2 = (.int .i64 t3) ∧
   ((60 < t3) →
    ∀ w4, Ext w w4 →
    Q (.int .i64 2) w4) ∧
   ((t3 ≤ 60) →
    ∀ w4, Ext w w4 →
    FnP Try.prog F_ask_check #[(.agg #[(.int .i64 x_0), (.string x_1), (.string x_2), (.int .i64 x_3), (.slice x_4 x_4l x_4c)])] w4 fun v5 w5 =>
     Ext w4 w5 ∧
     ∃ t6 : Int, v5 = (.int .i64 t6) ∧
     ∀ w7, Ext w w7 →
     Q (.int .i64 t6) w7)

theorem ok_ask_Check (x_0 : Int) (x_1 : ByteArray) (x_2 : ByteArray) (x_3 : Int) (x_4 : Option Addr) (x_4l : Nat) (x_4c : Nat) (w : World) (Q : Value → World → Prop) (h : wp_ask_Check x_0 x_1 x_2 x_3 x_4 x_4l x_4c w Q) : FnP Try.prog F_ask_Check #[(.agg #[(.int .i64 x_0), (.string x_1), (.string x_2), (.int .i64 x_3), (.slice x_4 x_4l x_4c)])] w Q := by
  have e_ : wp_ask_Check x_0 x_1 x_2 x_3 x_4 x_4l x_4c w Q = Runs Try.prog Q ({ N := 8, wrap := [], pub := [], muts := [], joins := [] } : Cfg) Try.f80 (Try.f80.body.getD .skip) [.agg [.int .i64 x_0, .str x_1, .str x_2, .int .i64 x_3, .slc x_4 x_4l x_4c]] w := by kernel_rfl
  rw [e_] at h
  exact runs_fn h Try.func80 (by kernel_rfl) (fun args w => Try.call80 args w) (by kernel_rfl) (by kernel_rfl) rfl rfl

/-- shiftbell/ask.unit -/
def wp_ask_unit (s : ByteArray) (w : World) (Q : Value → World → Prop) : Prop :=
  ∀ w0, Ext w w0 →
  Q (.bool (((decide (s = (⟨#[99, 112, 117]⟩ : ByteArray))) || (decide (s = (⟨#[109, 101, 109]⟩ : ByteArray)))) || (decide (s = (⟨#[103, 112, 117]⟩ : ByteArray))))) w0

theorem ok_ask_unit (s : ByteArray) (w : World) (Q : Value → World → Prop) (h : wp_ask_unit s w Q) : FnP Try.prog F_ask_unit #[(.string s)] w Q := by
  have e_ : wp_ask_unit s w Q = Runs Try.prog Q ({ N := 13, wrap := [], pub := [], muts := [], joins := [] } : Cfg) Try.f101 (Try.f101.body.getD .skip) [.sc (.str s)] w := by kernel_rfl
  rw [e_] at h
  exact runs_fn h Try.func101 (by kernel_rfl) (fun args w => Try.call101 args w) (by kernel_rfl) (by kernel_rfl) rfl rfl

/-- shiftbell/ask.check -/
def wp_ask_check (x_0 : Int) (x_1 : ByteArray) (x_2 : ByteArray) (x_3 : Int) (x_4 : Option Addr) (x_4l : Nat) (x_4c : Nat) (w : World) (Q : Value → World → Prop) : Prop :=
  ∀ b0 : Nat, w.heap.size ≤ b0 → (((x_0 < 1) ∨ (6 < x_0)) →
   ∀ w1, Ext w w1 →
   Q (.int .i64 1) w1) ∧
  (((1 ≤ x_0) ∧ (x_0 ≤ 6)) →
   ∃ (J1 : Int → Bool → World → Prop), ((((x_0 = 5) →
     (((x_0 = 5) →
      InR .i64 (0 + 1) ∧
      InR .i64 ((0 + 1) + 1) ∧
      J1 ((0 + 1) + 1) false w)) ∧
     ((x_0 ≠ 5) →
      (((x_0 = 4) →
       InR .i64 (0 + 1) ∧
       J1 (0 + 1) false w)) ∧
      ((x_0 ≠ 4) →
       J1 0 true w)))) ∧
    ((x_0 ≠ 5) →
     (((x_0 = 6) →
      InR .i64 (0 + 1) ∧
      InR .i64 ((0 + 1) + 1) ∧
      J1 ((0 + 1) + 1) false w)) ∧
     ((x_0 ≠ 6) →
      (((x_0 = 4) →
       InR .i64 (0 + 1) ∧
       J1 (0 + 1) false w)) ∧
      ((x_0 ≠ 4) →
       J1 0 true w)))) ∧
   ∀ (inner2 : Int) (key3 : Bool) (w4 : World), J1 inner2 key3 w4 →
    (((((((x_4l : Int) ≠ inner2) ∨ ((key3 = false) ∧ (x_1 ≠ (⟨#[]⟩ : ByteArray)))) ∨ ((x_0 ≠ 2) ∧ (x_2 ≠ (⟨#[]⟩ : ByteArray)))) ∨ ((x_0 ≠ 3) ∧ (x_3 ≠ 0))) →
     ∀ w5, Ext w4 w5 →
     Q (.int .i64 1) w5)) ∧
    ((((((x_4l : Int) = inner2) ∧ ((key3 = true) ∨ (x_1 = (⟨#[]⟩ : ByteArray)))) ∧ ((x_0 = 2) ∨ (x_2 = (⟨#[]⟩ : ByteArray)))) ∧ ((x_0 = 3) ∨ (x_3 = 0))) →
     ∃ (J5 : World → Prop), ((((x_0 = 3) →
       ∀ w7, Ext w4 w7 →
       FnP Try.prog F_ask_unit #[(.string x_1)] w7 fun v8 w8 =>
        Ext w7 w8 ∧
        ∃ t9 : Bool, v8 = (.bool t9) ∧
        (((t9 = false) →
         ((t9 = false) →
          ∀ w10, Ext w4 w10 →
          Q (.int .i64 3) w10) ∧
         ((t9 = true) →
          (((x_3 < 0) ∨ (1099511627776 < x_3)) →
           ∀ w10, Ext w4 w10 →
           Q (.int .i64 4) w10) ∧
          (((0 ≤ x_3) ∧ (x_3 ≤ 1099511627776)) →
           J5  w4)))) ∧
        ((t9 = true) →
         ((((x_0 = 1) ∨ (x_0 = 2)) →
          ∀ w10, Ext w4 w10 →
          FnP Try.prog F_ask_Label #[(.string x_1)] w10 fun v11 w11 =>
           Ext w10 w11 ∧
           ∃ t12 : Bool, v11 = (.bool t12) ∧
           (((t12 = false) →
            ((t12 = false) →
             ∀ w13, Ext w4 w13 →
             Q (.int .i64 3) w13) ∧
            ((t12 = true) →
             (((x_3 < 0) ∨ (1099511627776 < x_3)) →
              ∀ w13, Ext w4 w13 →
              Q (.int .i64 4) w13) ∧
             (((0 ≤ x_3) ∧ (x_3 ≤ 1099511627776)) →
              J5  w4)))) ∧
           ((t12 = true) →
            (((x_0 = 2) →
             ∀ w13, Ext w4 w13 →
             FnP Try.prog F_ask_Label #[(.string x_2)] w13 fun v14 w14 =>
              Ext w13 w14 ∧
              ∃ t15 : Bool, v14 = (.bool t15) ∧
              ((t15 = false) →
               ∀ w16, Ext w4 w16 →
               Q (.int .i64 3) w16) ∧
              ((t15 = true) →
               (((x_3 < 0) ∨ (1099511627776 < x_3)) →
                ∀ w16, Ext w4 w16 →
                Q (.int .i64 4) w16) ∧
               (((0 ≤ x_3) ∧ (x_3 ≤ 1099511627776)) →
                J5  w4)))) ∧
            ((x_0 ≠ 2) →
             (((x_3 < 0) ∨ (1099511627776 < x_3)) →
              ∀ w13, Ext w4 w13 →
              Q (.int .i64 4) w13) ∧
             (((0 ≤ x_3) ∧ (x_3 ≤ 1099511627776)) →
              J5  w4))))) ∧
         (((x_0 ≠ 1) ∧ (x_0 ≠ 2)) →
          (((x_0 = 2) →
           ∀ w10, Ext w4 w10 →
           FnP Try.prog F_ask_Label #[(.string x_2)] w10 fun v11 w11 =>
            Ext w10 w11 ∧
            ∃ t12 : Bool, v11 = (.bool t12) ∧
            ((t12 = false) →
             ∀ w13, Ext w4 w13 →
             Q (.int .i64 3) w13) ∧
            ((t12 = true) →
             (((x_3 < 0) ∨ (1099511627776 < x_3)) →
              ∀ w13, Ext w4 w13 →
              Q (.int .i64 4) w13) ∧
             (((0 ≤ x_3) ∧ (x_3 ≤ 1099511627776)) →
              J5  w4)))) ∧
          ((x_0 ≠ 2) →
           (((x_3 < 0) ∨ (1099511627776 < x_3)) →
            ∀ w10, Ext w4 w10 →
            Q (.int .i64 4) w10) ∧
           (((0 ≤ x_3) ∧ (x_3 ≤ 1099511627776)) →
            J5  w4)))))) ∧
      ((x_0 ≠ 3) →
       ((((x_0 = 1) ∨ (x_0 = 2)) →
        ∀ w7, Ext w4 w7 →
        FnP Try.prog F_ask_Label #[(.string x_1)] w7 fun v8 w8 =>
         Ext w7 w8 ∧
         ∃ t9 : Bool, v8 = (.bool t9) ∧
         (((t9 = false) →
          ((t9 = false) →
           ∀ w10, Ext w4 w10 →
           Q (.int .i64 3) w10) ∧
          ((t9 = true) →
           (((x_3 < 0) ∨ (1099511627776 < x_3)) →
            ∀ w10, Ext w4 w10 →
            Q (.int .i64 4) w10) ∧
           (((0 ≤ x_3) ∧ (x_3 ≤ 1099511627776)) →
            J5  w4)))) ∧
         ((t9 = true) →
          (((x_0 = 2) →
           ∀ w10, Ext w4 w10 →
           FnP Try.prog F_ask_Label #[(.string x_2)] w10 fun v11 w11 =>
            Ext w10 w11 ∧
            ∃ t12 : Bool, v11 = (.bool t12) ∧
            ((t12 = false) →
             ∀ w13, Ext w4 w13 →
             Q (.int .i64 3) w13) ∧
            ((t12 = true) →
             (((x_3 < 0) ∨ (1099511627776 < x_3)) →
              ∀ w13, Ext w4 w13 →
              Q (.int .i64 4) w13) ∧
             (((0 ≤ x_3) ∧ (x_3 ≤ 1099511627776)) →
              J5  w4)))) ∧
          ((x_0 ≠ 2) →
           (((x_3 < 0) ∨ (1099511627776 < x_3)) →
            ∀ w10, Ext w4 w10 →
            Q (.int .i64 4) w10) ∧
           (((0 ≤ x_3) ∧ (x_3 ≤ 1099511627776)) →
            J5  w4))))) ∧
       (((x_0 ≠ 1) ∧ (x_0 ≠ 2)) →
        (((x_0 = 2) →
         ∀ w7, Ext w4 w7 →
         FnP Try.prog F_ask_Label #[(.string x_2)] w7 fun v8 w8 =>
          Ext w7 w8 ∧
          ∃ t9 : Bool, v8 = (.bool t9) ∧
          ((t9 = false) →
           ∀ w10, Ext w4 w10 →
           Q (.int .i64 3) w10) ∧
          ((t9 = true) →
           (((x_3 < 0) ∨ (1099511627776 < x_3)) →
            ∀ w10, Ext w4 w10 →
            Q (.int .i64 4) w10) ∧
           (((0 ≤ x_3) ∧ (x_3 ≤ 1099511627776)) →
            J5  w4)))) ∧
        ((x_0 ≠ 2) →
         (((x_3 < 0) ∨ (1099511627776 < x_3)) →
          ∀ w7, Ext w4 w7 →
          Q (.int .i64 4) w7) ∧
         (((0 ≤ x_3) ∧ (x_3 ≤ 1099511627776)) →
          J5  w4))))) ∧
     ∀  (w6 : World), J5  w6 →
      ∃ (I7 : Int → World → Prop) (M7 : Int → World → Nat), I7 0 w6 ∧
      ∀ (k8 : Int) (w9 : World), I7 k8 w9 →
       (((k8 < (x_4l : Int)) →
        x_4 ≠ none ∧
        (0 : Int) ≤ k8 ∧
        (k8 : Int) < (x_4l : Int) ∧
        (pIdx x_4 k8 5) ≠ none ∧
        ∃ t10 : Int, cell w9 (pIdx x_4 k8 5) 0 = some (.int .i64 t10) ∧
        ∃ t11 : ByteArray, cell w9 (pIdx x_4 k8 5) 1 = some (.string t11) ∧
        ∃ t12 : ByteArray, cell w9 (pIdx x_4 k8 5) 2 = some (.string t12) ∧
        ∃ t13 : Int, cell w9 (pIdx x_4 k8 5) 3 = some (.int .i64 t13) ∧
        ∃ t14 : Option Addr, ∃ tl15 : Nat, ∃ tc16 : Nat, cell w9 (pIdx x_4 k8 5) 4 = some (.slice t14 tl15 tc16) ∧
        ∀ b17 : Nat, w9.heap.size ≤ b17 → ∀ w18, Ext w9 w18 →
        FnP Try.prog F_ask_check #[(.agg #[(.int .i64 t10), (.string t11), (.string t12), (.int .i64 t13), (.slice t14 tl15 tc16)])] w18 fun v19 w19 =>
         Ext w18 w19 ∧
         ∃ t20 : Int, v19 = (.int .i64 t20) ∧
         ((t20 ≠ 0) →
          ∀ w21, Ext w9 w21 →
          Q (.int .i64 t20) w21) ∧
         ((t20 = 0) →
          InR .i64 (k8 + 1) ∧
          (I7 (k8 + 1) w9 ∧ M7 (k8 + 1) w9 < M7 k8 w9)))) ∧
       (((x_4l : Int) ≤ k8) →
        ∀ w10, Ext w9 w10 →
        Q (.int .i64 0) w10)))

theorem ok_ask_check (x_0 : Int) (x_1 : ByteArray) (x_2 : ByteArray) (x_3 : Int) (x_4 : Option Addr) (x_4l : Nat) (x_4c : Nat) (w : World) (Q : Value → World → Prop) (h : wp_ask_check x_0 x_1 x_2 x_3 x_4 x_4l x_4c w Q) : FnP Try.prog F_ask_check #[(.agg #[(.int .i64 x_0), (.string x_1), (.string x_2), (.int .i64 x_3), (.slice x_4 x_4l x_4c)])] w Q := by
  have e_ : wp_ask_check x_0 x_1 x_2 x_3 x_4 x_4l x_4c w Q = Runs Try.prog Q ({ N := 115, wrap := [], pub := [], muts := [], joins := [(0, [3, 4]), (4, [])] } : Cfg) Try.f93 (Try.f93.body.getD .skip) [.agg [.int .i64 x_0, .str x_1, .str x_2, .int .i64 x_3, .slc x_4 x_4l x_4c]] w := by kernel_rfl
  rw [e_] at h
  exact runs_fn h Try.func93 (by kernel_rfl) (fun args w => Try.call93 args w) (by kernel_rfl) (by kernel_rfl) rfl rfl

/-- shiftbell/ask.amount -/
def wp_ask_amount (a_0 : Int) (a_1 : Int) (a_2 : Int) (key : ByteArray) (w : World) (Q : Value → World → Prop) : Prop :=
  ∀ b0 : Nat, w.heap.size ≤ b0 → ((key = (⟨#[99, 112, 117]⟩ : ByteArray)) →
   ∀ w1, Ext w w1 →
   Q (.int .i64 a_0) w1) ∧
  ((key ≠ (⟨#[99, 112, 117]⟩ : ByteArray)) →
   ((key = (⟨#[109, 101, 109]⟩ : ByteArray)) →
    ∀ w1, Ext w w1 →
    Q (.int .i64 a_1) w1) ∧
   ((key ≠ (⟨#[109, 101, 109]⟩ : ByteArray)) →
    ∀ w1, Ext w w1 →
    Q (.int .i64 a_2) w1))

theorem ok_ask_amount (a_0 : Int) (a_1 : Int) (a_2 : Int) (key : ByteArray) (w : World) (Q : Value → World → Prop) (h : wp_ask_amount a_0 a_1 a_2 key w Q) : FnP Try.prog F_ask_amount #[(.agg #[(.int .i64 a_0), (.int .i64 a_1), (.int .i64 a_2)]), (.string key)] w Q := by
  have e_ : wp_ask_amount a_0 a_1 a_2 key w Q = Runs Try.prog Q ({ N := 16, wrap := [], pub := [], muts := [], joins := [] } : Cfg) Try.f96 (Try.f96.body.getD .skip) [.agg [.int .i64 a_0, .int .i64 a_1, .int .i64 a_2], .sc (.str key)] w := by kernel_rfl
  rw [e_] at h
  exact runs_fn h Try.func96 (by kernel_rfl) (fun args w => Try.call96 args w) (by kernel_rfl) (by kernel_rfl) rfl rfl

/-- shiftbell/ask.value -/
def wp_ask_value (x_0 : Int) (x_1 : ByteArray) (x_2 : ByteArray) (x_3 : Int) (x_4 : Option Addr) (x_4l : Nat) (x_4c : Nat) (atom : Value) (w : World) (Q : Value → World → Prop) : Prop :=
  ∀ b0 : Nat, w.heap.size ≤ b0 → (((x_0 = 4) →
   x_4 ≠ none ∧
   (0 : Int) ≤ 0 ∧
   (0 : Int) < (x_4l : Int) ∧
   (pIdx x_4 0 5) ≠ none ∧
   ∃ t1 : Int, cell w (pIdx x_4 0 5) 0 = some (.int .i64 t1) ∧
   ∃ t2 : ByteArray, cell w (pIdx x_4 0 5) 1 = some (.string t2) ∧
   ∃ t3 : ByteArray, cell w (pIdx x_4 0 5) 2 = some (.string t3) ∧
   ∃ t4 : Int, cell w (pIdx x_4 0 5) 3 = some (.int .i64 t4) ∧
   ∃ t5 : Option Addr, ∃ tl6 : Nat, ∃ tc7 : Nat, cell w (pIdx x_4 0 5) 4 = some (.slice t5 tl6 tc7) ∧
   ∀ w8, Ext w w8 →
   FnP Try.prog F_ask_value #[(.agg #[(.int .i64 t1), (.string t2), (.string t3), (.int .i64 t4), (.slice t5 tl6 tc7)]), atom] w8 fun v9 w9 =>
    Ext w8 w9 ∧
    ∃ t10 : Bool, v9 = (.bool t10) ∧
    ∀ w11, Ext w w11 →
    Q (.bool (!t10)) w11)) ∧
  ((x_0 ≠ 4) →
   (((x_0 = 5) →
    x_4 ≠ none ∧
    (0 : Int) ≤ 0 ∧
    (0 : Int) < (x_4l : Int) ∧
    (pIdx x_4 0 5) ≠ none ∧
    ∃ t1 : Int, cell w (pIdx x_4 0 5) 0 = some (.int .i64 t1) ∧
    ∃ t2 : ByteArray, cell w (pIdx x_4 0 5) 1 = some (.string t2) ∧
    ∃ t3 : ByteArray, cell w (pIdx x_4 0 5) 2 = some (.string t3) ∧
    ∃ t4 : Int, cell w (pIdx x_4 0 5) 3 = some (.int .i64 t4) ∧
    ∃ t5 : Option Addr, ∃ tl6 : Nat, ∃ tc7 : Nat, cell w (pIdx x_4 0 5) 4 = some (.slice t5 tl6 tc7) ∧
    ∀ w8, Ext w w8 →
    FnP Try.prog F_ask_value #[(.agg #[(.int .i64 t1), (.string t2), (.string t3), (.int .i64 t4), (.slice t5 tl6 tc7)]), atom] w8 fun v9 w9 =>
     Ext w8 w9 ∧
     ∃ t10 : Bool, v9 = (.bool t10) ∧
     ((t10 = true) →
      x_4 ≠ none) ∧
     ((t10 = true) →
      (0 : Int) ≤ 1) ∧
     ((t10 = true) →
      (1 : Int) < (x_4l : Int)) ∧
     (((t10 = true) →
      (pIdx x_4 1 5) ≠ none ∧
      ∃ t11 : Int, cell w (pIdx x_4 1 5) 0 = some (.int .i64 t11) ∧
      ∃ t12 : ByteArray, cell w (pIdx x_4 1 5) 1 = some (.string t12) ∧
      ∃ t13 : ByteArray, cell w (pIdx x_4 1 5) 2 = some (.string t13) ∧
      ∃ t14 : Int, cell w (pIdx x_4 1 5) 3 = some (.int .i64 t14) ∧
      ∃ t15 : Option Addr, ∃ tl16 : Nat, ∃ tc17 : Nat, cell w (pIdx x_4 1 5) 4 = some (.slice t15 tl16 tc17) ∧
      ∀ w18, Ext w w18 →
      FnP Try.prog F_ask_value #[(.agg #[(.int .i64 t11), (.string t12), (.string t13), (.int .i64 t14), (.slice t15 tl16 tc17)]), atom] w18 fun v19 w19 =>
       Ext w18 w19 ∧
       ∃ t20 : Bool, v19 = (.bool t20) ∧
       ∀ w21, Ext w w21 →
       Q (.bool t20) w21)) ∧
     ((t10 = false) →
      ∀ w11, Ext w w11 →
      Q (.bool false) w11))) ∧
   ((x_0 ≠ 5) →
    (((x_0 = 6) →
     x_4 ≠ none ∧
     (0 : Int) ≤ 0 ∧
     (0 : Int) < (x_4l : Int) ∧
     (pIdx x_4 0 5) ≠ none ∧
     ∃ t1 : Int, cell w (pIdx x_4 0 5) 0 = some (.int .i64 t1) ∧
     ∃ t2 : ByteArray, cell w (pIdx x_4 0 5) 1 = some (.string t2) ∧
     ∃ t3 : ByteArray, cell w (pIdx x_4 0 5) 2 = some (.string t3) ∧
     ∃ t4 : Int, cell w (pIdx x_4 0 5) 3 = some (.int .i64 t4) ∧
     ∃ t5 : Option Addr, ∃ tl6 : Nat, ∃ tc7 : Nat, cell w (pIdx x_4 0 5) 4 = some (.slice t5 tl6 tc7) ∧
     ∀ w8, Ext w w8 →
     FnP Try.prog F_ask_value #[(.agg #[(.int .i64 t1), (.string t2), (.string t3), (.int .i64 t4), (.slice t5 tl6 tc7)]), atom] w8 fun v9 w9 =>
      Ext w8 w9 ∧
      ∃ t10 : Bool, v9 = (.bool t10) ∧
      ((t10 = false) →
       x_4 ≠ none) ∧
      ((t10 = false) →
       (0 : Int) ≤ 1) ∧
      ((t10 = false) →
       (1 : Int) < (x_4l : Int)) ∧
      ((t10 = true) →
       ∀ w11, Ext w w11 →
       Q (.bool true) w11) ∧
      ((t10 = false) →
       (pIdx x_4 1 5) ≠ none ∧
       ∃ t11 : Int, cell w (pIdx x_4 1 5) 0 = some (.int .i64 t11) ∧
       ∃ t12 : ByteArray, cell w (pIdx x_4 1 5) 1 = some (.string t12) ∧
       ∃ t13 : ByteArray, cell w (pIdx x_4 1 5) 2 = some (.string t13) ∧
       ∃ t14 : Int, cell w (pIdx x_4 1 5) 3 = some (.int .i64 t14) ∧
       ∃ t15 : Option Addr, ∃ tl16 : Nat, ∃ tc17 : Nat, cell w (pIdx x_4 1 5) 4 = some (.slice t15 tl16 tc17) ∧
       ∀ w18, Ext w w18 →
       FnP Try.prog F_ask_value #[(.agg #[(.int .i64 t11), (.string t12), (.string t13), (.int .i64 t14), (.slice t15 tl16 tc17)]), atom] w18 fun v19 w19 =>
        Ext w18 w19 ∧
        ∃ t20 : Bool, v19 = (.bool t20) ∧
        ∀ w21, Ext w w21 →
        Q (.bool t20) w21))) ∧
    ((x_0 ≠ 6) →
     ∀ w1, Ext w w1 →
     FnVP Try.prog atom [(.agg #[(.int .i64 x_0), (.string x_1), (.string x_2), (.int .i64 x_3), (.slice x_4 x_4l x_4c)])] w1 fun v2 w2 =>
      Ext w1 w2 ∧
      ∃ t3 : Bool, v2 = (.bool t3) ∧
      ∀ w4, Ext w w4 →
      Q (.bool t3) w4)))

theorem ok_ask_value (x_0 : Int) (x_1 : ByteArray) (x_2 : ByteArray) (x_3 : Int) (x_4 : Option Addr) (x_4l : Nat) (x_4c : Nat) (atom : Value) (w : World) (Q : Value → World → Prop) (h : wp_ask_value x_0 x_1 x_2 x_3 x_4 x_4l x_4c atom w Q) : FnP Try.prog F_ask_value #[(.agg #[(.int .i64 x_0), (.string x_1), (.string x_2), (.int .i64 x_3), (.slice x_4 x_4l x_4c)]), atom] w Q := by
  have e_ : wp_ask_value x_0 x_1 x_2 x_3 x_4 x_4l x_4c atom w Q = Runs Try.prog Q ({ N := 51, wrap := [], pub := [], muts := [], joins := [] } : Cfg) Try.f94 (Try.f94.body.getD .skip) [.agg [.int .i64 x_0, .str x_1, .str x_2, .int .i64 x_3, .slc x_4 x_4l x_4c], .sc (.val atom)] w := by kernel_rfl
  rw [e_] at h
  exact runs_fn h Try.func94 (by kernel_rfl) (fun args w => Try.call94 args w) (by kernel_rfl) (by kernel_rfl) rfl rfl

/-- shiftbell/ask.Holds -/
def wp_ask_Holds (x_0 : Int) (x_1 : ByteArray) (x_2 : ByteArray) (x_3 : Int) (x_4 : Option Addr) (x_4l : Nat) (x_4c : Nat) (h_v_0 : ByteArray) (h_v_1 : Option Addr) (h_v_1l : Nat) (h_v_1c : Nat) (h_v_2 : Int) (h_v_3 : Int) (h_v_4 : Int) (h_v_5 : Int) (h_v_6 : Int) (h_v_7 : Int) (w : World) (Q : Value → World → Prop) : Prop :=
  ∀ b0 : Nat, w.heap.size ≤ b0 → ∀ w1, ExtB [] [b0] w w1 →
  New w1 50 [(.string h_v_0), (.slice h_v_1 h_v_1l h_v_1c), (.int .i64 h_v_2), (.int .i64 h_v_3), (.int .i64 h_v_4), (.int .i64 h_v_5), (.int .i64 h_v_6), (.int .i64 h_v_7)] fun p2 w2 =>
   ∀ w3, Ext w2 w3 →
   FnP Try.prog F_ask_Check #[(.agg #[(.int .i64 x_0), (.string x_1), (.string x_2), (.int .i64 x_3), (.slice x_4 x_4l x_4c)])] w3 fun v4 w4 =>
    Ext w3 w4 ∧
    ∃ t5 : Int, v4 = (.int .i64 t5) ∧
    ((t5 ≠ 0) →
     ∀ w6, Ext w2 w6 →
     Q (.tuple #[(.bool false), (.int .i64 t5)]) w6) ∧
    ((t5 = 0) →
     ∀ w6, Ext w2 w6 →
     FnP Try.prog F_ask_value #[(.agg #[(.int .i64 x_0), (.string x_1), (.string x_2), (.int .i64 x_3), (.slice x_4 x_4l x_4c)]), (.func (.func 95) #[] #[(.pointer p2)])] w6 fun v7 w7 =>
      Ext w6 w7 ∧
      ∃ t8 : Bool, v7 = (.bool t8) ∧
      ∀ w9, Ext w2 w9 →
      Q (.tuple #[(.bool t8), (.int .i64 0)]) w9)

theorem ok_ask_Holds (x_0 : Int) (x_1 : ByteArray) (x_2 : ByteArray) (x_3 : Int) (x_4 : Option Addr) (x_4l : Nat) (x_4c : Nat) (h_v_0 : ByteArray) (h_v_1 : Option Addr) (h_v_1l : Nat) (h_v_1c : Nat) (h_v_2 : Int) (h_v_3 : Int) (h_v_4 : Int) (h_v_5 : Int) (h_v_6 : Int) (h_v_7 : Int) (w : World) (Q : Value → World → Prop) (h : wp_ask_Holds x_0 x_1 x_2 x_3 x_4 x_4l x_4c h_v_0 h_v_1 h_v_1l h_v_1c h_v_2 h_v_3 h_v_4 h_v_5 h_v_6 h_v_7 w Q) : FnP Try.prog F_ask_Holds #[(.agg #[(.int .i64 x_0), (.string x_1), (.string x_2), (.int .i64 x_3), (.slice x_4 x_4l x_4c)]), (.agg #[(.string h_v_0), (.slice h_v_1 h_v_1l h_v_1c), (.int .i64 h_v_2), (.int .i64 h_v_3), (.int .i64 h_v_4), (.int .i64 h_v_5), (.int .i64 h_v_6), (.int .i64 h_v_7)])] w Q := by
  have e_ : wp_ask_Holds x_0 x_1 x_2 x_3 x_4 x_4l x_4c h_v_0 h_v_1 h_v_1l h_v_1c h_v_2 h_v_3 h_v_4 h_v_5 h_v_6 h_v_7 w Q = Runs Try.prog Q ({ N := 15, wrap := [], pub := [3], muts := [], joins := [] } : Cfg) Try.f81 (Try.f81.body.getD .skip) [.agg [.int .i64 x_0, .str x_1, .str x_2, .int .i64 x_3, .slc x_4 x_4l x_4c], .agg [.str h_v_0, .slc h_v_1 h_v_1l h_v_1c, .int .i64 h_v_2, .int .i64 h_v_3, .int .i64 h_v_4, .int .i64 h_v_5, .int .i64 h_v_6, .int .i64 h_v_7]] w := by kernel_rfl
  rw [e_] at h
  exact runs_fn h Try.func81 (by kernel_rfl) (fun args w => Try.call81 args w) (by kernel_rfl) (by kernel_rfl) rfl rfl

/-- shiftbell/ask.Holds$1 -/
def wp_ask_Holds_1 (x_0 : Int) (x_1 : ByteArray) (x_2 : ByteArray) (x_3 : Int) (x_4 : Option Addr) (x_4l : Nat) (x_4c : Nat) (c0 : Option Addr) (w : World) (Q : Value → World → Prop) : Prop :=
  ∀ w0, Ext w w0 →
  New w0 37 [(.int .i64 x_0), (.string x_1), (.string x_2), (.int .i64 x_3), (.slice x_4 x_4l x_4c)] fun p1 w1 =>
   p1 ≠ none ∧
   ∃ t2 : Int, cell w1 (pAdd p1 0) 0 = some (.int .i64 t2) ∧
   (((t2 = 3) →
    c0 ≠ none ∧
    (pAdd c0 2) ≠ none ∧
    ∃ t3 : Int, cell w1 (pAdd c0 2) 0 = some (.int .i64 t3) ∧
    ∃ t4 : Int, cell w1 (pAdd c0 2) 1 = some (.int .i64 t4) ∧
    ∃ t5 : Int, cell w1 (pAdd c0 2) 2 = some (.int .i64 t5) ∧
    p1 ≠ none ∧
    ∃ t6 : ByteArray, cell w1 (pAdd p1 1) 0 = some (.string t6) ∧
    p1 ≠ none ∧
    ∃ t7 : Int, cell w1 (pAdd p1 3) 0 = some (.int .i64 t7) ∧
    ∀ w8, Ext w1 w8 →
    FnP Try.prog F_ask_amount #[(.agg #[(.int .i64 t3), (.int .i64 t4), (.int .i64 t5)]), (.string t6)] w8 fun v9 w9 =>
     Ext w8 w9 ∧
     ∃ t10 : Int, v9 = (.int .i64 t10) ∧
     ∀ w11, Ext w1 w11 →
     Q (.bool (decide (t7 ≤ t10))) w11)) ∧
   ((t2 ≠ 3) →
    c0 ≠ none ∧
    ∃ t3 : Option Addr, ∃ tl4 : Nat, ∃ tc5 : Nat, cell w1 (pAdd c0 1) 0 = some (.slice t3 tl4 tc5) ∧
    ∀ w6, Ext w1 w6 →
    FnP Try.prog F_slices_ContainsFunc_api_Label_api_Label #[(.slice t3 tl4 tc5), (.func (.func 98) #[] #[(.pointer p1)])] w6 fun v7 w7 =>
     Ext w6 w7 ∧
     ∃ t8 : Bool, v7 = (.bool t8) ∧
     ∀ w9, Ext w1 w9 →
     Q (.bool t8) w9)

theorem ok_ask_Holds_1 (x_0 : Int) (x_1 : ByteArray) (x_2 : ByteArray) (x_3 : Int) (x_4 : Option Addr) (x_4l : Nat) (x_4c : Nat) (c0 : Option Addr) (w : World) (Q : Value → World → Prop) (h : wp_ask_Holds_1 x_0 x_1 x_2 x_3 x_4 x_4l x_4c c0 w Q) : FnP Try.prog F_ask_Holds_1 #[(.agg #[(.int .i64 x_0), (.string x_1), (.string x_2), (.int .i64 x_3), (.slice x_4 x_4l x_4c)]), (.pointer c0)] w Q := by
  have e_ : wp_ask_Holds_1 x_0 x_1 x_2 x_3 x_4 x_4l x_4c c0 w Q = Runs Try.prog Q ({ N := 19, wrap := [], pub := [2], muts := [], joins := [] } : Cfg) Try.f95 (Try.f95.body.getD .skip) [.agg [.int .i64 x_0, .str x_1, .str x_2, .int .i64 x_3, .slc x_4 x_4l x_4c], .sc (.ptr c0)] w := by kernel_rfl
  rw [e_] at h
  exact runs_fn h Try.func95 (by kernel_rfl) (fun args w => Try.call95 args w) (by kernel_rfl) (by kernel_rfl) rfl rfl

/-- shiftbell/ask.Holds$1$1 -/
def wp_ask_Holds_1_1 (l_0 : ByteArray) (l_1 : ByteArray) (c0 : Option Addr) (w : World) (Q : Value → World → Prop) : Prop :=
  ∀ b0 : Nat, w.heap.size ≤ b0 → c0 ≠ none ∧
  ∃ t1 : ByteArray, cell w (pAdd c0 1) 0 = some (.string t1) ∧
  ((l_0 = t1) →
   c0 ≠ none) ∧
  (((l_0 = t1) →
   ∃ t2 : Int, cell w (pAdd c0 0) 0 = some (.int .i64 t2) ∧
   ((t2 ≠ 1) →
    c0 ≠ none) ∧
   ((t2 = 1) →
    ∀ w3, Ext w w3 →
    Q (.bool true) w3) ∧
   ((t2 ≠ 1) →
    ∃ t3 : ByteArray, cell w (pAdd c0 2) 0 = some (.string t3) ∧
    ∀ w4, Ext w w4 →
    Q (.bool (decide (l_1 = t3))) w4))) ∧
  ((l_0 ≠ t1) →
   ∀ w2, Ext w w2 →
   Q (.bool false) w2)

theorem ok_ask_Holds_1_1 (l_0 : ByteArray) (l_1 : ByteArray) (c0 : Option Addr) (w : World) (Q : Value → World → Prop) (h : wp_ask_Holds_1_1 l_0 l_1 c0 w Q) : FnP Try.prog F_ask_Holds_1_1 #[(.agg #[(.string l_0), (.string l_1)]), (.pointer c0)] w Q := by
  have e_ : wp_ask_Holds_1_1 l_0 l_1 c0 w Q = Runs Try.prog Q ({ N := 21, wrap := [], pub := [], muts := [], joins := [] } : Cfg) Try.f98 (Try.f98.body.getD .skip) [.agg [.str l_0, .str l_1], .sc (.ptr c0)] w := by kernel_rfl
  rw [e_] at h
  exact runs_fn h Try.func98 (by kernel_rfl) (fun args w => Try.call98 args w) (by kernel_rfl) (by kernel_rfl) rfl rfl

/-- slices.ContainsFunc[[]shiftbell/api.Label,shiftbell/api.Label] -/
def wp_slices_ContainsFunc_api_Label_api_Label (s : Option Addr) (sl : Nat) (sc : Nat) (f : Value) (w : World) (Q : Value → World → Prop) : Prop :=
  ∀ w0, Ext w w0 →
  FnP Try.prog F_slices_IndexFunc_api_Label_api_Label #[(.slice s sl sc), f] w0 fun v1 w1 =>
   Ext w0 w1 ∧
   ∃ t2 : Int, v1 = (.int .i64 t2) ∧
   ∀ w3, Ext w w3 →
   Q (.bool (decide (0 ≤ t2))) w3

theorem ok_slices_ContainsFunc_api_Label_api_Label (s : Option Addr) (sl : Nat) (sc : Nat) (f : Value) (w : World) (Q : Value → World → Prop) (h : wp_slices_ContainsFunc_api_Label_api_Label s sl sc f w Q) : FnP Try.prog F_slices_ContainsFunc_api_Label_api_Label #[(.slice s sl sc), f] w Q := by
  have e_ : wp_slices_ContainsFunc_api_Label_api_Label s sl sc f w Q = Runs Try.prog Q ({ N := 9, wrap := [], pub := [], muts := [], joins := [] } : Cfg) Try.f97 (Try.f97.body.getD .skip) [.sc (.slc s sl sc), .sc (.val f)] w := by kernel_rfl
  rw [e_] at h
  exact runs_fn h Try.func97 (by kernel_rfl) (fun args w => Try.call97 args w) (by kernel_rfl) (by kernel_rfl) rfl rfl

/-- slices.IndexFunc[[]shiftbell/api.Label,shiftbell/api.Label] -/
def wp_slices_IndexFunc_api_Label_api_Label (s : Option Addr) (sl : Nat) (sc : Nat) (f : Value) (w : World) (Q : Value → World → Prop) : Prop :=
  ∃ (I0 : Int → World → Prop) (M0 : Int → World → Nat), I0 0 w ∧
  ∀ (k1 : Int) (w2 : World), I0 k1 w2 →
   (((k1 < (sl : Int)) →
    s ≠ none ∧
    (0 : Int) ≤ k1 ∧
    (k1 : Int) < (sl : Int) ∧
    (pIdx s k1 2) ≠ none ∧
    ∃ t3 : ByteArray, cell w2 (pIdx s k1 2) 0 = some (.string t3) ∧
    ∃ t4 : ByteArray, cell w2 (pIdx s k1 2) 1 = some (.string t4) ∧
    ∀ w5, Ext w2 w5 →
    FnVP Try.prog f [(.agg #[(.string t3), (.string t4)])] w5 fun v6 w6 =>
     Ext w5 w6 ∧
     ∃ t7 : Bool, v6 = (.bool t7) ∧
     ((t7 = true) →
      ∀ w8, Ext w2 w8 →
      Q (.int .i64 k1) w8) ∧
     ((t7 = false) →
      InR .i64 (k1 + 1) ∧
      (I0 (k1 + 1) w2 ∧ M0 (k1 + 1) w2 < M0 k1 w2)))) ∧
   (((sl : Int) ≤ k1) →
    ∀ w3, Ext w2 w3 →
    Q (.int .i64 (-1)) w3)

theorem ok_slices_IndexFunc_api_Label_api_Label (s : Option Addr) (sl : Nat) (sc : Nat) (f : Value) (w : World) (Q : Value → World → Prop) (h : wp_slices_IndexFunc_api_Label_api_Label s sl sc f w Q) : FnP Try.prog F_slices_IndexFunc_api_Label_api_Label #[(.slice s sl sc), f] w Q := by
  have e_ : wp_slices_IndexFunc_api_Label_api_Label s sl sc f w Q = Runs Try.prog Q ({ N := 19, wrap := [], pub := [], muts := [], joins := [] } : Cfg) Try.f102 (Try.f102.body.getD .skip) [.sc (.slc s sl sc), .sc (.val f)] w := by kernel_rfl
  rw [e_] at h
  exact runs_fn h Try.func102 (by kernel_rfl) (fun args w => Try.call102 args w) (by kernel_rfl) (by kernel_rfl) rfl rfl

/-- shiftbell/shiftbellkeep.sameAsk -/
def wp_shiftbellkeep_sameAsk (a_0 : Int) (a_1 : ByteArray) (a_2 : ByteArray) (a_3 : Int) (a_4 : Option Addr) (a_4l : Nat) (a_4c : Nat) (b_0 : Int) (b_1 : ByteArray) (b_2 : ByteArray) (b_3 : Int) (b_4 : Option Addr) (b_4l : Nat) (b_4c : Nat) (w : World) (Q : Value → World → Prop) : Prop :=
  ∀ b0 : Nat, w.heap.size ≤ b0 → ∀ b1 : Nat, w.heap.size ≤ b1 → ((((((a_0 = b_0) ∧ (a_1 = b_1)) ∧ (a_2 = b_2)) ∧ (a_3 = b_3)) →
   ∀ w2, Ext w w2 →
   FnP Try.prog F_slices_EqualFunc_api_Ask_api_Ask_api_Ask_api_Ask #[(.slice a_4 a_4l a_4c), (.slice b_4 b_4l b_4c), (.func (.func 64) #[] #[])] w2 fun v3 w3 =>
    Ext w2 w3 ∧
    ∃ t4 : Bool, v3 = (.bool t4) ∧
    ∀ w5, Ext w w5 →
    Q (.bool t4) w5)) ∧
  (((((a_0 ≠ b_0) ∨ (a_1 ≠ b_1)) ∨ (a_2 ≠ b_2)) ∨ (a_3 ≠ b_3)) →
   ∀ w2, Ext w w2 →
   Q (.bool false) w2)

theorem ok_shiftbellkeep_sameAsk (a_0 : Int) (a_1 : ByteArray) (a_2 : ByteArray) (a_3 : Int) (a_4 : Option Addr) (a_4l : Nat) (a_4c : Nat) (b_0 : Int) (b_1 : ByteArray) (b_2 : ByteArray) (b_3 : Int) (b_4 : Option Addr) (b_4l : Nat) (b_4c : Nat) (w : World) (Q : Value → World → Prop) (h : wp_shiftbellkeep_sameAsk a_0 a_1 a_2 a_3 a_4 a_4l a_4c b_0 b_1 b_2 b_3 b_4 b_4l b_4c w Q) : FnP Try.prog F_shiftbellkeep_sameAsk #[(.agg #[(.int .i64 a_0), (.string a_1), (.string a_2), (.int .i64 a_3), (.slice a_4 a_4l a_4c)]), (.agg #[(.int .i64 b_0), (.string b_1), (.string b_2), (.int .i64 b_3), (.slice b_4 b_4l b_4c)])] w Q := by
  have e_ : wp_shiftbellkeep_sameAsk a_0 a_1 a_2 a_3 a_4 a_4l a_4c b_0 b_1 b_2 b_3 b_4 b_4l b_4c w Q = Runs Try.prog Q ({ N := 38, wrap := [], pub := [], muts := [], joins := [] } : Cfg) Try.f64 (Try.f64.body.getD .skip) [.agg [.int .i64 a_0, .str a_1, .str a_2, .int .i64 a_3, .slc a_4 a_4l a_4c], .agg [.int .i64 b_0, .str b_1, .str b_2, .int .i64 b_3, .slc b_4 b_4l b_4c]] w := by kernel_rfl
  rw [e_] at h
  exact runs_fn h Try.func64 (by kernel_rfl) (fun args w => Try.call64 args w) (by kernel_rfl) (by kernel_rfl) rfl rfl

/-- slices.EqualFunc[[]shiftbell/api.Ask,[]shiftbell/api.Ask,shiftbell/api.Ask,shiftbell/api.Ask] -/
def wp_slices_EqualFunc_api_Ask_api_Ask_api_Ask_api_Ask (s1 : Option Addr) (s1l : Nat) (s1c : Nat) (s2 : Option Addr) (s2l : Nat) (s2c : Nat) (eq : Value) (w : World) (Q : Value → World → Prop) : Prop :=
  (((s1l : Int) ≠ (s2l : Int)) →
   ∀ w0, Ext w w0 →
   Q (.bool false) w0) ∧
  (((s1l : Int) = (s2l : Int)) →
   ∃ (I0 : Int → World → Prop) (M0 : Int → World → Nat), I0 0 w ∧
   ∀ (k1 : Int) (w2 : World), I0 k1 w2 →
    (((k1 < (s1l : Int)) →
     s1 ≠ none ∧
     (0 : Int) ≤ k1 ∧
     (k1 : Int) < (s1l : Int) ∧
     (pIdx s1 k1 5) ≠ none ∧
     ∃ t3 : Int, cell w2 (pIdx s1 k1 5) 0 = some (.int .i64 t3) ∧
     ∃ t4 : ByteArray, cell w2 (pIdx s1 k1 5) 1 = some (.string t4) ∧
     ∃ t5 : ByteArray, cell w2 (pIdx s1 k1 5) 2 = some (.string t5) ∧
     ∃ t6 : Int, cell w2 (pIdx s1 k1 5) 3 = some (.int .i64 t6) ∧
     ∃ t7 : Option Addr, ∃ tl8 : Nat, ∃ tc9 : Nat, cell w2 (pIdx s1 k1 5) 4 = some (.slice t7 tl8 tc9) ∧
     ∀ b10 : Nat, w2.heap.size ≤ b10 → s2 ≠ none ∧
     (0 : Int) ≤ k1 ∧
     (k1 : Int) < (s2l : Int) ∧
     (pIdx s2 k1 5) ≠ none ∧
     ∃ t11 : Int, cell w2 (pIdx s2 k1 5) 0 = some (.int .i64 t11) ∧
     ∃ t12 : ByteArray, cell w2 (pIdx s2 k1 5) 1 = some (.string t12) ∧
     ∃ t13 : ByteArray, cell w2 (pIdx s2 k1 5) 2 = some (.string t13) ∧
     ∃ t14 : Int, cell w2 (pIdx s2 k1 5) 3 = some (.int .i64 t14) ∧
     ∃ t15 : Option Addr, ∃ tl16 : Nat, ∃ tc17 : Nat, cell w2 (pIdx s2 k1 5) 4 = some (.slice t15 tl16 tc17) ∧
     ∀ b18 : Nat, w2.heap.size ≤ b18 → ∀ w19, Ext w2 w19 →
     FnVP Try.prog eq [(.agg #[(.int .i64 t3), (.string t4), (.string t5), (.int .i64 t6), (.slice t7 tl8 tc9)]), (.agg #[(.int .i64 t11), (.string t12), (.string t13), (.int .i64 t14), (.slice t15 tl16 tc17)])] w19 fun v20 w20 =>
      Ext w19 w20 ∧
      ∃ t21 : Bool, v20 = (.bool t21) ∧
      ((t21 = false) →
       ∀ w22, Ext w2 w22 →
       Q (.bool false) w22) ∧
      ((t21 = true) →
       InR .i64 (k1 + 1) ∧
       (I0 (k1 + 1) w2 ∧ M0 (k1 + 1) w2 < M0 k1 w2)))) ∧
    (((s1l : Int) ≤ k1) →
     ∀ w3, Ext w2 w3 →
     Q (.bool true) w3))

theorem ok_slices_EqualFunc_api_Ask_api_Ask_api_Ask_api_Ask (s1 : Option Addr) (s1l : Nat) (s1c : Nat) (s2 : Option Addr) (s2l : Nat) (s2c : Nat) (eq : Value) (w : World) (Q : Value → World → Prop) (h : wp_slices_EqualFunc_api_Ask_api_Ask_api_Ask_api_Ask s1 s1l s1c s2 s2l s2c eq w Q) : FnP Try.prog F_slices_EqualFunc_api_Ask_api_Ask_api_Ask_api_Ask #[(.slice s1 s1l s1c), (.slice s2 s2l s2c), eq] w Q := by
  have e_ : wp_slices_EqualFunc_api_Ask_api_Ask_api_Ask_api_Ask s1 s1l s1c s2 s2l s2c eq w Q = Runs Try.prog Q ({ N := 32, wrap := [], pub := [], muts := [], joins := [] } : Cfg) Try.f87 (Try.f87.body.getD .skip) [.sc (.slc s1 s1l s1c), .sc (.slc s2 s2l s2c), .sc (.val eq)] w := by kernel_rfl
  rw [e_] at h
  exact runs_fn h Try.func87 (by kernel_rfl) (fun args w => Try.call87 args w) (by kernel_rfl) (by kernel_rfl) rfl rfl

end Go.Proofs.Ytblafknmfblgfaa
