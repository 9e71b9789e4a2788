/- The texts of this seat's functions: what each computes, as its symbolic run says it. -/
import Derived.Test.YtdhhggfplacenaaDoorRows
import Derived.Test.YtdhhggfplacenaaDoorSxD
import Derived.Test.YtdhhggfplacenaaDoorSxN
import Derived.Test.YtdhhggfplacenaaDoorTxt
set_option linter.unusedVariables false
set_option linter.unusedSimpArgs false
set_option maxRecDepth 100000
namespace Go.Proofs.YtdhhggfplacenaaDoor
open Go.Sx Go.RowKit

abbrev F_shiftbellkeep_AskAnd : FuncId := 4
abbrev F_shiftbellkeep_asks : FuncId := 14
abbrev F_ask_Holds : FuncId := 15
abbrev F_ask_Text : FuncId := 24
abbrev F_ask_Check : FuncId := 32
abbrev F_ask_value : FuncId := 33
abbrev F_ask_Holds_1 : FuncId := 34
abbrev F_ask_amount : FuncId := 35
abbrev F_slices_ContainsFunc_api_Label_api_Label : FuncId := 36
abbrev F_ask_Holds_1_1 : FuncId := 37
abbrev F_ask_count : FuncId := 41
abbrev F_ask_text : FuncId := 48
abbrev F_ask_check : FuncId := 55
abbrev F_slices_IndexFunc_api_Label_api_Label : FuncId := 56
abbrev F_ask_unit : FuncId := 68
abbrev F_ask_Label : FuncId := 69

/-- shiftbell/ask.Label -/
def wp_ask_Label (s : ByteArray) (w : World) (Q : Value → World → Prop) : Prop :=
  (((s ≠ (⟨#[]⟩ : ByteArray)) ∧ ((s.size : Int) ≤ 20)) →
   (0 : Int) ≤ 0) ∧
  (((s ≠ (⟨#[]⟩ : ByteArray)) ∧ ((s.size : Int) ≤ 20)) →
   (0 : Int) < (s.size : Int)) ∧
  ((((s ≠ (⟨#[]⟩ : ByteArray)) ∧ ((s.size : Int) ≤ 20)) ∧ (97 ≤ (sAt s 0))) →
   (0 : Int) ≤ 0) ∧
  ((((s ≠ (⟨#[]⟩ : ByteArray)) ∧ ((s.size : Int) ≤ 20)) ∧ (97 ≤ (sAt s 0))) →
   (0 : Int) < (s.size : Int)) ∧
  (((((s = (⟨#[]⟩ : ByteArray)) ∨ (20 < (s.size : Int))) ∨ ((sAt s 0) < 97)) ∨ (122 < (sAt s 0))) →
   ∀ w0, Ext w w0 →
   Q (.bool false) w0) ∧
  (((((s ≠ (⟨#[]⟩ : ByteArray)) ∧ ((s.size : Int) ≤ 20)) ∧ (97 ≤ (sAt s 0))) ∧ ((sAt s 0) ≤ 122)) →
   ∀ w0, Ext w w0 →
   Run Tryd.prog (.convert 9 110 (.string s)) w0 fun v1 w1 =>
    Ext w0 w1 ∧
    ∃ t2 : Option Addr, ∃ tl3 : Nat, ∃ tc4 : Nat, v1 = (.slice t2 tl3 tc4) ∧
    ∃ (I5 : Int → World → Prop) (M5 : Int → World → Nat), I5 0 w1 ∧
    ∀ (k6 : Int) (w7 : World), I5 k6 w7 →
     ((k6 < (tl3 : Int)) →
      t2 ≠ none ∧
      (0 : Int) ≤ k6 ∧
      (k6 : Int) < (tl3 : Int) ∧
      ∃ t8 : Int, cell w7 (pIdx t2 k6 1) 0 = some (.int .u8 t8) ∧
      (((((t8 < 97) ∨ (122 < t8)) ∧ ((t8 < 48) ∨ (57 < t8))) ∧ (t8 ≠ 45)) →
       ∀ w9, Ext w7 w9 →
       Q (.bool false) w9) ∧
      (((((97 ≤ t8) ∧ (t8 ≤ 122)) ∨ ((48 ≤ t8) ∧ (t8 ≤ 57))) ∨ (t8 = 45)) →
       InR .i64 (k6 + 1) ∧
       (I5 (k6 + 1) w7 ∧ M5 (k6 + 1) w7 < M5 k6 w7))) ∧
     (((tl3 : Int) ≤ k6) →
      ∀ w8, Ext w7 w8 →
      Q (.bool true) w8))

theorem ok_ask_Label (s : ByteArray) (w : World) (Q : Value → World → Prop) (h : wp_ask_Label s w Q) : FnP Tryd.prog F_ask_Label #[(.string s)] w Q := by
  have e_ : wp_ask_Label s w Q = Runs Tryd.prog Q ({ N := 48, wrap := [], pub := [], muts := [], joins := [] } : Cfg) Tryd.f69 (Tryd.f69.body.getD .skip) [.sc (.str s)] w := by kernel_rfl
  rw [e_] at h
  exact runs_fn h Tryd.func69 (by kernel_rfl) (fun args w => Tryd.call69 args w) (by kernel_rfl) (by kernel_rfl) rfl rfl

/-- shiftbell/ask.count -/
def wp_ask_count (x_0 : Int) (x_1 : ByteArray) (x_2 : ByteArray) (x_3 : Int) (x_4 : Option Addr) (x_4l : Nat) (x_4c : Nat) (w : World) (Q : Value → World → Prop) : Prop :=
  ∀ b0 : Nat, w.heap.size ≤ b0 → ∃ (I1 : Int → Int → World → Prop) (M1 : Int → Int → World → Nat), I1 1 0 w ∧
  ∀ (n2 : Int) (k3 : Int) (w4 : World), I1 n2 k3 w4 →
   ((k3 < (x_4l : Int)) →
    x_4 ≠ none ∧
    (0 : Int) ≤ k3 ∧
    (k3 : Int) < (x_4l : Int) ∧
    (pIdx x_4 k3 5) ≠ none ∧
    ∃ t5 : Int, cell w4 (pIdx x_4 k3 5) 0 = some (.int .i64 t5) ∧
    ∃ t6 : ByteArray, cell w4 (pIdx x_4 k3 5) 1 = some (.string t6) ∧
    ∃ t7 : ByteArray, cell w4 (pIdx x_4 k3 5) 2 = some (.string t7) ∧
    ∃ t8 : Int, cell w4 (pIdx x_4 k3 5) 3 = some (.int .i64 t8) ∧
    ∃ t9 : Option Addr, ∃ tl10 : Nat, ∃ tc11 : Nat, cell w4 (pIdx x_4 k3 5) 4 = some (.slice t9 tl10 tc11) ∧
    ∀ b12 : Nat, w4.heap.size ≤ b12 → ∀ w13, Ext w4 w13 →
    FnP Tryd.prog F_ask_count #[(.agg #[(.int .i64 t5), (.string t6), (.string t7), (.int .i64 t8), (.slice t9 tl10 tc11)])] w13 fun v14 w14 =>
     Ext w13 w14 ∧
     ∃ t15 : Int, v14 = (.int .i64 t15) ∧
     InR .i64 (k3 + 1) ∧
     (I1 (IntKind.wrap .i64 (n2 + t15)) (k3 + 1) w4 ∧ M1 (IntKind.wrap .i64 (n2 + t15)) (k3 + 1) w4 < M1 n2 k3 w4)) ∧
   (((x_4l : Int) ≤ k3) →
    ∀ w5, Ext w4 w5 →
    Q (.int .i64 n2) w5)

theorem ok_ask_count (x_0 : Int) (x_1 : ByteArray) (x_2 : ByteArray) (x_3 : Int) (x_4 : Option Addr) (x_4l : Nat) (x_4c : Nat) (w : World) (Q : Value → World → Prop) (h : wp_ask_count x_0 x_1 x_2 x_3 x_4 x_4l x_4c w Q) : FnP Tryd.prog F_ask_count #[(.agg #[(.int .i64 x_0), (.string x_1), (.string x_2), (.int .i64 x_3), (.slice x_4 x_4l x_4c)])] w Q := by
  have e_ : wp_ask_count x_0 x_1 x_2 x_3 x_4 x_4l x_4c w Q = Runs Tryd.prog Q ({ N := 19, wrap := [16], pub := [], muts := [], joins := [] } : Cfg) Tryd.f41 (Tryd.f41.body.getD .skip) [.agg [.int .i64 x_0, .str x_1, .str x_2, .int .i64 x_3, .slc x_4 x_4l x_4c]] w := by kernel_rfl
  rw [e_] at h
  exact runs_fn h Tryd.func41 (by kernel_rfl) (fun args w => Tryd.call41 args w) (by kernel_rfl) (by kernel_rfl) rfl rfl

/-- shiftbell/ask.Check -/
def wp_ask_Check (x_0 : Int) (x_1 : ByteArray) (x_2 : ByteArray) (x_3 : Int) (x_4 : Option Addr) (x_4l : Nat) (x_4c : Nat) (w : World) (Q : Value → World → Prop) : Prop :=
  ∀ b0 : Nat, w.heap.size ≤ b0 → ∀ w1, Ext w w1 →
  FnP Tryd.prog F_ask_count #[(.agg #[(.int .i64 x_0), (.string x_1), (.string x_2), (.int .i64 x_3), (.slice x_4 x_4l x_4c)])] w1 fun v2 w2 =>
   Ext w1 w2 ∧
   ∃ t3 : Int, v2 = (.int .i64 t3) ∧
   ((60 < t3) →
    ∀ w4, Ext w w4 →
    Q (.int .i64 2) w4) ∧
   ((t3 ≤ 60) →
    ∀ w4, Ext w w4 →
    FnP Tryd.prog F_ask_check #[(.agg #[(.int .i64 x_0), (.string x_1), (.string x_2), (.int .i64 x_3), (.slice x_4 x_4l x_4c)])] w4 fun v5 w5 =>
     Ext w4 w5 ∧
     ∃ t6 : Int, v5 = (.int .i64 t6) ∧
     ∀ w7, Ext w w7 →
     Q (.int .i64 t6) w7)

theorem ok_ask_Check (x_0 : Int) (x_1 : ByteArray) (x_2 : ByteArray) (x_3 : Int) (x_4 : Option Addr) (x_4l : Nat) (x_4c : Nat) (w : World) (Q : Value → World → Prop) (h : wp_ask_Check x_0 x_1 x_2 x_3 x_4 x_4l x_4c w Q) : FnP Tryd.prog F_ask_Check #[(.agg #[(.int .i64 x_0), (.string x_1), (.string x_2), (.int .i64 x_3), (.slice x_4 x_4l x_4c)])] w Q := by
  have e_ : wp_ask_Check x_0 x_1 x_2 x_3 x_4 x_4l x_4c w Q = Runs Tryd.prog Q ({ N := 8, wrap := [], pub := [], muts := [], joins := [] } : Cfg) Tryd.f32 (Tryd.f32.body.getD .skip) [.agg [.int .i64 x_0, .str x_1, .str x_2, .int .i64 x_3, .slc x_4 x_4l x_4c]] w := by kernel_rfl
  rw [e_] at h
  exact runs_fn h Tryd.func32 (by kernel_rfl) (fun args w => Tryd.call32 args w) (by kernel_rfl) (by kernel_rfl) rfl rfl

/-- shiftbell/ask.unit -/
def wp_ask_unit (s : ByteArray) (w : World) (Q : Value → World → Prop) : Prop :=
  ∀ w0, Ext w w0 →
  Q (.bool (((decide (s = (⟨#[99, 112, 117]⟩ : ByteArray))) || (decide (s = (⟨#[109, 101, 109]⟩ : ByteArray)))) || (decide (s = (⟨#[103, 112, 117]⟩ : ByteArray))))) w0

theorem ok_ask_unit (s : ByteArray) (w : World) (Q : Value → World → Prop) (h : wp_ask_unit s w Q) : FnP Tryd.prog F_ask_unit #[(.string s)] w Q := by
  have e_ : wp_ask_unit s w Q = Runs Tryd.prog Q ({ N := 13, wrap := [], pub := [], muts := [], joins := [] } : Cfg) Tryd.f68 (Tryd.f68.body.getD .skip) [.sc (.str s)] w := by kernel_rfl
  rw [e_] at h
  exact runs_fn h Tryd.func68 (by kernel_rfl) (fun args w => Tryd.call68 args w) (by kernel_rfl) (by kernel_rfl) rfl rfl

/-- shiftbell/ask.check -/
def wp_ask_check (x_0 : Int) (x_1 : ByteArray) (x_2 : ByteArray) (x_3 : Int) (x_4 : Option Addr) (x_4l : Nat) (x_4c : Nat) (w : World) (Q : Value → World → Prop) : Prop :=
  ∀ b0 : Nat, w.heap.size ≤ b0 → (((x_0 < 1) ∨ (6 < x_0)) →
   ∀ w1, Ext w w1 →
   Q (.int .i64 1) w1) ∧
  (((1 ≤ x_0) ∧ (x_0 ≤ 6)) →
   ∃ (J1 : Int → Bool → World → Prop), (((x_0 = 5) →
     ((x_0 = 5) →
      InR .i64 (0 + 1) ∧
      InR .i64 ((0 + 1) + 1) ∧
      J1 ((0 + 1) + 1) false w) ∧
     ((x_0 ≠ 5) →
      ((x_0 = 4) →
       InR .i64 (0 + 1) ∧
       J1 (0 + 1) false w) ∧
      ((x_0 ≠ 4) →
       J1 0 true w))) ∧
    ((x_0 ≠ 5) →
     ((x_0 = 6) →
      InR .i64 (0 + 1) ∧
      InR .i64 ((0 + 1) + 1) ∧
      J1 ((0 + 1) + 1) false w) ∧
     ((x_0 ≠ 6) →
      ((x_0 = 4) →
       InR .i64 (0 + 1) ∧
       J1 (0 + 1) false w) ∧
      ((x_0 ≠ 4) →
       J1 0 true w)))) ∧
   ∀ (inner2 : Int) (key3 : Bool) (w4 : World), J1 inner2 key3 w4 →
    ((((((x_4l : Int) ≠ inner2) ∨ ((key3 = false) ∧ (x_1 ≠ (⟨#[]⟩ : ByteArray)))) ∨ ((x_0 ≠ 2) ∧ (x_2 ≠ (⟨#[]⟩ : ByteArray)))) ∨ ((x_0 ≠ 3) ∧ (x_3 ≠ 0))) →
     ∀ w5, Ext w4 w5 →
     Q (.int .i64 1) w5) ∧
    ((((((x_4l : Int) = inner2) ∧ ((key3 = true) ∨ (x_1 = (⟨#[]⟩ : ByteArray)))) ∧ ((x_0 = 2) ∨ (x_2 = (⟨#[]⟩ : ByteArray)))) ∧ ((x_0 = 3) ∨ (x_3 = 0))) →
     ∃ (J5 : World → Prop), (((x_0 = 3) →
       ∀ w7, Ext w4 w7 →
       FnP Tryd.prog F_ask_unit #[(.string x_1)] w7 fun v8 w8 =>
        Ext w7 w8 ∧
        ∃ t9 : Bool, v8 = (.bool t9) ∧
        ((t9 = false) →
         ((t9 = false) →
          ∀ w10, Ext w4 w10 →
          Q (.int .i64 3) w10) ∧
         ((t9 = true) →
          (((x_3 < 0) ∨ (1099511627776 < x_3)) →
           ∀ w10, Ext w4 w10 →
           Q (.int .i64 4) w10) ∧
          (((0 ≤ x_3) ∧ (x_3 ≤ 1099511627776)) →
           J5  w4))) ∧
        ((t9 = true) →
         (((x_0 = 1) ∨ (x_0 = 2)) →
          ∀ w10, Ext w4 w10 →
          FnP Tryd.prog F_ask_Label #[(.string x_1)] w10 fun v11 w11 =>
           Ext w10 w11 ∧
           ∃ t12 : Bool, v11 = (.bool t12) ∧
           ((t12 = false) →
            ((t12 = false) →
             ∀ w13, Ext w4 w13 →
             Q (.int .i64 3) w13) ∧
            ((t12 = true) →
             (((x_3 < 0) ∨ (1099511627776 < x_3)) →
              ∀ w13, Ext w4 w13 →
              Q (.int .i64 4) w13) ∧
             (((0 ≤ x_3) ∧ (x_3 ≤ 1099511627776)) →
              J5  w4))) ∧
           ((t12 = true) →
            ((x_0 = 2) →
             ∀ w13, Ext w4 w13 →
             FnP Tryd.prog F_ask_Label #[(.string x_2)] w13 fun v14 w14 =>
              Ext w13 w14 ∧
              ∃ t15 : Bool, v14 = (.bool t15) ∧
              ((t15 = false) →
               ∀ w16, Ext w4 w16 →
               Q (.int .i64 3) w16) ∧
              ((t15 = true) →
               (((x_3 < 0) ∨ (1099511627776 < x_3)) →
                ∀ w16, Ext w4 w16 →
                Q (.int .i64 4) w16) ∧
               (((0 ≤ x_3) ∧ (x_3 ≤ 1099511627776)) →
                J5  w4))) ∧
            ((x_0 ≠ 2) →
             (((x_3 < 0) ∨ (1099511627776 < x_3)) →
              ∀ w13, Ext w4 w13 →
              Q (.int .i64 4) w13) ∧
             (((0 ≤ x_3) ∧ (x_3 ≤ 1099511627776)) →
              J5  w4)))) ∧
         (((x_0 ≠ 1) ∧ (x_0 ≠ 2)) →
          ((x_0 = 2) →
           ∀ w10, Ext w4 w10 →
           FnP Tryd.prog F_ask_Label #[(.string x_2)] w10 fun v11 w11 =>
            Ext w10 w11 ∧
            ∃ t12 : Bool, v11 = (.bool t12) ∧
            ((t12 = false) →
             ∀ w13, Ext w4 w13 →
             Q (.int .i64 3) w13) ∧
            ((t12 = true) →
             (((x_3 < 0) ∨ (1099511627776 < x_3)) →
              ∀ w13, Ext w4 w13 →
              Q (.int .i64 4) w13) ∧
             (((0 ≤ x_3) ∧ (x_3 ≤ 1099511627776)) →
              J5  w4))) ∧
          ((x_0 ≠ 2) →
           (((x_3 < 0) ∨ (1099511627776 < x_3)) →
            ∀ w10, Ext w4 w10 →
            Q (.int .i64 4) w10) ∧
           (((0 ≤ x_3) ∧ (x_3 ≤ 1099511627776)) →
            J5  w4))))) ∧
      ((x_0 ≠ 3) →
       (((x_0 = 1) ∨ (x_0 = 2)) →
        ∀ w7, Ext w4 w7 →
        FnP Tryd.prog F_ask_Label #[(.string x_1)] w7 fun v8 w8 =>
         Ext w7 w8 ∧
         ∃ t9 : Bool, v8 = (.bool t9) ∧
         ((t9 = false) →
          ((t9 = false) →
           ∀ w10, Ext w4 w10 →
           Q (.int .i64 3) w10) ∧
          ((t9 = true) →
           (((x_3 < 0) ∨ (1099511627776 < x_3)) →
            ∀ w10, Ext w4 w10 →
            Q (.int .i64 4) w10) ∧
           (((0 ≤ x_3) ∧ (x_3 ≤ 1099511627776)) →
            J5  w4))) ∧
         ((t9 = true) →
          ((x_0 = 2) →
           ∀ w10, Ext w4 w10 →
           FnP Tryd.prog F_ask_Label #[(.string x_2)] w10 fun v11 w11 =>
            Ext w10 w11 ∧
            ∃ t12 : Bool, v11 = (.bool t12) ∧
            ((t12 = false) →
             ∀ w13, Ext w4 w13 →
             Q (.int .i64 3) w13) ∧
            ((t12 = true) →
             (((x_3 < 0) ∨ (1099511627776 < x_3)) →
              ∀ w13, Ext w4 w13 →
              Q (.int .i64 4) w13) ∧
             (((0 ≤ x_3) ∧ (x_3 ≤ 1099511627776)) →
              J5  w4))) ∧
          ((x_0 ≠ 2) →
           (((x_3 < 0) ∨ (1099511627776 < x_3)) →
            ∀ w10, Ext w4 w10 →
            Q (.int .i64 4) w10) ∧
           (((0 ≤ x_3) ∧ (x_3 ≤ 1099511627776)) →
            J5  w4)))) ∧
       (((x_0 ≠ 1) ∧ (x_0 ≠ 2)) →
        ((x_0 = 2) →
         ∀ w7, Ext w4 w7 →
         FnP Tryd.prog F_ask_Label #[(.string x_2)] w7 fun v8 w8 =>
          Ext w7 w8 ∧
          ∃ t9 : Bool, v8 = (.bool t9) ∧
          ((t9 = false) →
           ∀ w10, Ext w4 w10 →
           Q (.int .i64 3) w10) ∧
          ((t9 = true) →
           (((x_3 < 0) ∨ (1099511627776 < x_3)) →
            ∀ w10, Ext w4 w10 →
            Q (.int .i64 4) w10) ∧
           (((0 ≤ x_3) ∧ (x_3 ≤ 1099511627776)) →
            J5  w4))) ∧
        ((x_0 ≠ 2) →
         (((x_3 < 0) ∨ (1099511627776 < x_3)) →
          ∀ w7, Ext w4 w7 →
          Q (.int .i64 4) w7) ∧
         (((0 ≤ x_3) ∧ (x_3 ≤ 1099511627776)) →
          J5  w4))))) ∧
     ∀  (w6 : World), J5  w6 →
      ∃ (I7 : Int → World → Prop) (M7 : Int → World → Nat), I7 0 w6 ∧
      ∀ (k8 : Int) (w9 : World), I7 k8 w9 →
       ((k8 < (x_4l : Int)) →
        x_4 ≠ none ∧
        (0 : Int) ≤ k8 ∧
        (k8 : Int) < (x_4l : Int) ∧
        (pIdx x_4 k8 5) ≠ none ∧
        ∃ t10 : Int, cell w9 (pIdx x_4 k8 5) 0 = some (.int .i64 t10) ∧
        ∃ t11 : ByteArray, cell w9 (pIdx x_4 k8 5) 1 = some (.string t11) ∧
        ∃ t12 : ByteArray, cell w9 (pIdx x_4 k8 5) 2 = some (.string t12) ∧
        ∃ t13 : Int, cell w9 (pIdx x_4 k8 5) 3 = some (.int .i64 t13) ∧
        ∃ t14 : Option Addr, ∃ tl15 : Nat, ∃ tc16 : Nat, cell w9 (pIdx x_4 k8 5) 4 = some (.slice t14 tl15 tc16) ∧
        ∀ b17 : Nat, w9.heap.size ≤ b17 → ∀ w18, Ext w9 w18 →
        FnP Tryd.prog F_ask_check #[(.agg #[(.int .i64 t10), (.string t11), (.string t12), (.int .i64 t13), (.slice t14 tl15 tc16)])] w18 fun v19 w19 =>
         Ext w18 w19 ∧
         ∃ t20 : Int, v19 = (.int .i64 t20) ∧
         ((t20 ≠ 0) →
          ∀ w21, Ext w9 w21 →
          Q (.int .i64 t20) w21) ∧
         ((t20 = 0) →
          InR .i64 (k8 + 1) ∧
          (I7 (k8 + 1) w9 ∧ M7 (k8 + 1) w9 < M7 k8 w9))) ∧
       (((x_4l : Int) ≤ k8) →
        ∀ w10, Ext w9 w10 →
        Q (.int .i64 0) w10)))

theorem ok_ask_check (x_0 : Int) (x_1 : ByteArray) (x_2 : ByteArray) (x_3 : Int) (x_4 : Option Addr) (x_4l : Nat) (x_4c : Nat) (w : World) (Q : Value → World → Prop) (h : wp_ask_check x_0 x_1 x_2 x_3 x_4 x_4l x_4c w Q) : FnP Tryd.prog F_ask_check #[(.agg #[(.int .i64 x_0), (.string x_1), (.string x_2), (.int .i64 x_3), (.slice x_4 x_4l x_4c)])] w Q := by
  have e_ : wp_ask_check x_0 x_1 x_2 x_3 x_4 x_4l x_4c w Q = Runs Tryd.prog Q ({ N := 115, wrap := [], pub := [], muts := [], joins := [(0, [3, 4]), (4, [])] } : Cfg) Tryd.f55 (Tryd.f55.body.getD .skip) [.agg [.int .i64 x_0, .str x_1, .str x_2, .int .i64 x_3, .slc x_4 x_4l x_4c]] w := by kernel_rfl
  rw [e_] at h
  exact runs_fn h Tryd.func55 (by kernel_rfl) (fun args w => Tryd.call55 args w) (by kernel_rfl) (by kernel_rfl) rfl rfl

/-- shiftbell/ask.text -/
def wp_ask_text (x_0 : Int) (x_1 : ByteArray) (x_2 : ByteArray) (x_3 : Int) (x_4 : Option Addr) (x_4l : Nat) (x_4c : Nat) (w : World) (Q : Value → World → Prop) : Prop :=
  ∀ b0 : Nat, w.heap.size ≤ b0 → ((x_0 = 1) →
   CatOk (⟨#[63]⟩ : ByteArray) x_1 ∧
   ∀ w1, Ext w w1 →
   Q (.string ((⟨#[63]⟩ : ByteArray) ++ x_1)) w1) ∧
  ((x_0 ≠ 1) →
   ((x_0 = 2) →
    CatOk x_1 (⟨#[61]⟩ : ByteArray) ∧
    CatOk (x_1 ++ (⟨#[61]⟩ : ByteArray)) x_2 ∧
    ∀ w1, Ext w w1 →
    Q (.string ((x_1 ++ (⟨#[61]⟩ : ByteArray)) ++ x_2)) w1) ∧
   ((x_0 ≠ 2) →
    ((x_0 = 3) →
     CatOk x_1 (⟨#[62, 61]⟩ : ByteArray) ∧
     ∀ w1, Ext w w1 →
     FnP Tryd.prog F_strconv_FormatInt #[(.int .i64 x_3), (.int .i64 10)] w1 fun v2 w2 =>
      Ext w1 w2 ∧
      ∃ t3 : ByteArray, v2 = (.string t3) ∧
      CatOk (x_1 ++ (⟨#[62, 61]⟩ : ByteArray)) t3 ∧
      ∀ w4, Ext w w4 →
      Q (.string ((x_1 ++ (⟨#[62, 61]⟩ : ByteArray)) ++ t3)) w4) ∧
    ((x_0 ≠ 3) →
     ((x_0 = 4) →
      x_4 ≠ none ∧
      (0 : Int) ≤ 0 ∧
      (0 : Int) < (x_4l : Int) ∧
      (pIdx x_4 0 5) ≠ none ∧
      ∃ t1 : Int, cell w (pIdx x_4 0 5) 0 = some (.int .i64 t1) ∧
      ∃ t2 : ByteArray, cell w (pIdx x_4 0 5) 1 = some (.string t2) ∧
      ∃ t3 : ByteArray, cell w (pIdx x_4 0 5) 2 = some (.string t3) ∧
      ∃ t4 : Int, cell w (pIdx x_4 0 5) 3 = some (.int .i64 t4) ∧
      ∃ t5 : Option Addr, ∃ tl6 : Nat, ∃ tc7 : Nat, cell w (pIdx x_4 0 5) 4 = some (.slice t5 tl6 tc7) ∧
      ∀ w8, Ext w w8 →
      FnP Tryd.prog F_ask_text #[(.agg #[(.int .i64 t1), (.string t2), (.string t3), (.int .i64 t4), (.slice t5 tl6 tc7)])] w8 fun v9 w9 =>
       Ext w8 w9 ∧
       ∃ t10 : ByteArray, v9 = (.string t10) ∧
       CatOk (⟨#[33]⟩ : ByteArray) t10 ∧
       ∀ w11, Ext w w11 →
       Q (.string ((⟨#[33]⟩ : ByteArray) ++ t10)) w11) ∧
     ((x_0 ≠ 4) →
      ((x_0 = 5) →
       x_4 ≠ none ∧
       (0 : Int) ≤ 0 ∧
       (0 : Int) < (x_4l : Int) ∧
       (pIdx x_4 0 5) ≠ none ∧
       ∃ t1 : Int, cell w (pIdx x_4 0 5) 0 = some (.int .i64 t1) ∧
       ∃ t2 : ByteArray, cell w (pIdx x_4 0 5) 1 = some (.string t2) ∧
       ∃ t3 : ByteArray, cell w (pIdx x_4 0 5) 2 = some (.string t3) ∧
       ∃ t4 : Int, cell w (pIdx x_4 0 5) 3 = some (.int .i64 t4) ∧
       ∃ t5 : Option Addr, ∃ tl6 : Nat, ∃ tc7 : Nat, cell w (pIdx x_4 0 5) 4 = some (.slice t5 tl6 tc7) ∧
       x_4 ≠ none ∧
       (0 : Int) ≤ 1 ∧
       (1 : Int) < (x_4l : Int) ∧
       (pIdx x_4 1 5) ≠ none ∧
       ∃ t8 : Int, cell w (pIdx x_4 1 5) 0 = some (.int .i64 t8) ∧
       ∃ t9 : ByteArray, cell w (pIdx x_4 1 5) 1 = some (.string t9) ∧
       ∃ t10 : ByteArray, cell w (pIdx x_4 1 5) 2 = some (.string t10) ∧
       ∃ t11 : Int, cell w (pIdx x_4 1 5) 3 = some (.int .i64 t11) ∧
       ∃ t12 : Option Addr, ∃ tl13 : Nat, ∃ tc14 : Nat, cell w (pIdx x_4 1 5) 4 = some (.slice t12 tl13 tc14) ∧
       ∀ w15, Ext w w15 →
       FnP Tryd.prog F_ask_text #[(.agg #[(.int .i64 t1), (.string t2), (.string t3), (.int .i64 t4), (.slice t5 tl6 tc7)])] w15 fun v16 w16 =>
        Ext w15 w16 ∧
        ∃ t17 : ByteArray, v16 = (.string t17) ∧
        CatOk (⟨#[40]⟩ : ByteArray) t17 ∧
        CatOk ((⟨#[40]⟩ : ByteArray) ++ t17) (⟨#[38]⟩ : ByteArray) ∧
        ∀ w18, Ext w w18 →
        FnP Tryd.prog F_ask_text #[(.agg #[(.int .i64 t8), (.string t9), (.string t10), (.int .i64 t11), (.slice t12 tl13 tc14)])] w18 fun v19 w19 =>
         Ext w18 w19 ∧
         ∃ t20 : ByteArray, v19 = (.string t20) ∧
         CatOk (((⟨#[40]⟩ : ByteArray) ++ t17) ++ (⟨#[38]⟩ : ByteArray)) t20 ∧
         CatOk ((((⟨#[40]⟩ : ByteArray) ++ t17) ++ (⟨#[38]⟩ : ByteArray)) ++ t20) (⟨#[41]⟩ : ByteArray) ∧
         ∀ w21, Ext w w21 →
         Q (.string (((((⟨#[40]⟩ : ByteArray) ++ t17) ++ (⟨#[38]⟩ : ByteArray)) ++ t20) ++ (⟨#[41]⟩ : ByteArray))) w21) ∧
      ((x_0 ≠ 5) →
       x_4 ≠ none ∧
       (0 : Int) ≤ 0 ∧
       (0 : Int) < (x_4l : Int) ∧
       (pIdx x_4 0 5) ≠ none ∧
       ∃ t1 : Int, cell w (pIdx x_4 0 5) 0 = some (.int .i64 t1) ∧
       ∃ t2 : ByteArray, cell w (pIdx x_4 0 5) 1 = some (.string t2) ∧
       ∃ t3 : ByteArray, cell w (pIdx x_4 0 5) 2 = some (.string t3) ∧
       ∃ t4 : Int, cell w (pIdx x_4 0 5) 3 = some (.int .i64 t4) ∧
       ∃ t5 : Option Addr, ∃ tl6 : Nat, ∃ tc7 : Nat, cell w (pIdx x_4 0 5) 4 = some (.slice t5 tl6 tc7) ∧
       x_4 ≠ none ∧
       (0 : Int) ≤ 1 ∧
       (1 : Int) < (x_4l : Int) ∧
       (pIdx x_4 1 5) ≠ none ∧
       ∃ t8 : Int, cell w (pIdx x_4 1 5) 0 = some (.int .i64 t8) ∧
       ∃ t9 : ByteArray, cell w (pIdx x_4 1 5) 1 = some (.string t9) ∧
       ∃ t10 : ByteArray, cell w (pIdx x_4 1 5) 2 = some (.string t10) ∧
       ∃ t11 : Int, cell w (pIdx x_4 1 5) 3 = some (.int .i64 t11) ∧
       ∃ t12 : Option Addr, ∃ tl13 : Nat, ∃ tc14 : Nat, cell w (pIdx x_4 1 5) 4 = some (.slice t12 tl13 tc14) ∧
       ∀ w15, Ext w w15 →
       FnP Tryd.prog F_ask_text #[(.agg #[(.int .i64 t1), (.string t2), (.string t3), (.int .i64 t4), (.slice t5 tl6 tc7)])] w15 fun v16 w16 =>
        Ext w15 w16 ∧
        ∃ t17 : ByteArray, v16 = (.string t17) ∧
        CatOk (⟨#[40]⟩ : ByteArray) t17 ∧
        CatOk ((⟨#[40]⟩ : ByteArray) ++ t17) (⟨#[124]⟩ : ByteArray) ∧
        ∀ w18, Ext w w18 →
        FnP Tryd.prog F_ask_text #[(.agg #[(.int .i64 t8), (.string t9), (.string t10), (.int .i64 t11), (.slice t12 tl13 tc14)])] w18 fun v19 w19 =>
         Ext w18 w19 ∧
         ∃ t20 : ByteArray, v19 = (.string t20) ∧
         CatOk (((⟨#[40]⟩ : ByteArray) ++ t17) ++ (⟨#[124]⟩ : ByteArray)) t20 ∧
         CatOk ((((⟨#[40]⟩ : ByteArray) ++ t17) ++ (⟨#[124]⟩ : ByteArray)) ++ t20) (⟨#[41]⟩ : ByteArray) ∧
         ∀ w21, Ext w w21 →
         Q (.string (((((⟨#[40]⟩ : ByteArray) ++ t17) ++ (⟨#[124]⟩ : ByteArray)) ++ t20) ++ (⟨#[41]⟩ : ByteArray))) w21)))))

theorem ok_ask_text (x_0 : Int) (x_1 : ByteArray) (x_2 : ByteArray) (x_3 : Int) (x_4 : Option Addr) (x_4l : Nat) (x_4c : Nat) (w : World) (Q : Value → World → Prop) (h : wp_ask_text x_0 x_1 x_2 x_3 x_4 x_4l x_4c w Q) : FnP Tryd.prog F_ask_text #[(.agg #[(.int .i64 x_0), (.string x_1), (.string x_2), (.int .i64 x_3), (.slice x_4 x_4l x_4c)])] w Q := by
  have e_ : wp_ask_text x_0 x_1 x_2 x_3 x_4 x_4l x_4c w Q = Runs Tryd.prog Q ({ N := 65, wrap := [], pub := [], muts := [], joins := [] } : Cfg) Tryd.f48 (Tryd.f48.body.getD .skip) [.agg [.int .i64 x_0, .str x_1, .str x_2, .int .i64 x_3, .slc x_4 x_4l x_4c]] w := by kernel_rfl
  rw [e_] at h
  exact runs_fn h Tryd.func48 (by kernel_rfl) (fun args w => Tryd.call48 args w) (by kernel_rfl) (by kernel_rfl) rfl rfl

/-- shiftbell/ask.Text -/
def wp_ask_Text (x_0 : Int) (x_1 : ByteArray) (x_2 : ByteArray) (x_3 : Int) (x_4 : Option Addr) (x_4l : Nat) (x_4c : Nat) (w : World) (Q : Value → World → Prop) : Prop :=
  ∀ b0 : Nat, w.heap.size ≤ b0 → ∀ w1, Ext w w1 →
  FnP Tryd.prog F_ask_Check #[(.agg #[(.int .i64 x_0), (.string x_1), (.string x_2), (.int .i64 x_3), (.slice x_4 x_4l x_4c)])] w1 fun v2 w2 =>
   Ext w1 w2 ∧
   ∃ t3 : Int, v2 = (.int .i64 t3) ∧
   ((t3 ≠ 0) →
    ∀ w4, Ext w w4 →
    Q (.tuple #[(.string (⟨#[]⟩ : ByteArray)), (.int .i64 t3)]) w4) ∧
   ((t3 = 0) →
    ∀ w4, Ext w w4 →
    FnP Tryd.prog F_ask_text #[(.agg #[(.int .i64 x_0), (.string x_1), (.string x_2), (.int .i64 x_3), (.slice x_4 x_4l x_4c)])] w4 fun v5 w5 =>
     Ext w4 w5 ∧
     ∃ t6 : ByteArray, v5 = (.string t6) ∧
     ∀ w7, Ext w w7 →
     Q (.tuple #[(.string t6), (.int .i64 0)]) w7)

theorem ok_ask_Text (x_0 : Int) (x_1 : ByteArray) (x_2 : ByteArray) (x_3 : Int) (x_4 : Option Addr) (x_4l : Nat) (x_4c : Nat) (w : World) (Q : Value → World → Prop) (h : wp_ask_Text x_0 x_1 x_2 x_3 x_4 x_4l x_4c w Q) : FnP Tryd.prog F_ask_Text #[(.agg #[(.int .i64 x_0), (.string x_1), (.string x_2), (.int .i64 x_3), (.slice x_4 x_4l x_4c)])] w Q := by
  have e_ : wp_ask_Text x_0 x_1 x_2 x_3 x_4 x_4l x_4c w Q = Runs Tryd.prog Q ({ N := 12, wrap := [], pub := [], muts := [], joins := [] } : Cfg) Tryd.f24 (Tryd.f24.body.getD .skip) [.agg [.int .i64 x_0, .str x_1, .str x_2, .int .i64 x_3, .slc x_4 x_4l x_4c]] w := by kernel_rfl
  rw [e_] at h
  exact runs_fn h Tryd.func24 (by kernel_rfl) (fun args w => Tryd.call24 args w) (by kernel_rfl) (by kernel_rfl) rfl rfl

/-- shiftbell/ask.amount -/
def wp_ask_amount (a_0 : Int) (a_1 : Int) (a_2 : Int) (key : ByteArray) (w : World) (Q : Value → World → Prop) : Prop :=
  ∀ b0 : Nat, w.heap.size ≤ b0 → ((key = (⟨#[99, 112, 117]⟩ : ByteArray)) →
   ∀ w1, Ext w w1 →
   Q (.int .i64 a_0) w1) ∧
  ((key ≠ (⟨#[99, 112, 117]⟩ : ByteArray)) →
   ((key = (⟨#[109, 101, 109]⟩ : ByteArray)) →
    ∀ w1, Ext w w1 →
    Q (.int .i64 a_1) w1) ∧
   ((key ≠ (⟨#[109, 101, 109]⟩ : ByteArray)) →
    ∀ w1, Ext w w1 →
    Q (.int .i64 a_2) w1))

theorem ok_ask_amount (a_0 : Int) (a_1 : Int) (a_2 : Int) (key : ByteArray) (w : World) (Q : Value → World → Prop) (h : wp_ask_amount a_0 a_1 a_2 key w Q) : FnP Tryd.prog F_ask_amount #[(.agg #[(.int .i64 a_0), (.int .i64 a_1), (.int .i64 a_2)]), (.string key)] w Q := by
  have e_ : wp_ask_amount a_0 a_1 a_2 key w Q = Runs Tryd.prog Q ({ N := 16, wrap := [], pub := [], muts := [], joins := [] } : Cfg) Tryd.f35 (Tryd.f35.body.getD .skip) [.agg [.int .i64 a_0, .int .i64 a_1, .int .i64 a_2], .sc (.str key)] w := by kernel_rfl
  rw [e_] at h
  exact runs_fn h Tryd.func35 (by kernel_rfl) (fun args w => Tryd.call35 args w) (by kernel_rfl) (by kernel_rfl) rfl rfl

/-- shiftbell/ask.value -/
def wp_ask_value (x_0 : Int) (x_1 : ByteArray) (x_2 : ByteArray) (x_3 : Int) (x_4 : Option Addr) (x_4l : Nat) (x_4c : Nat) (atom : Value) (w : World) (Q : Value → World → Prop) : Prop :=
  ∀ b0 : Nat, w.heap.size ≤ b0 → ((x_0 = 4) →
   x_4 ≠ none ∧
   (0 : Int) ≤ 0 ∧
   (0 : Int) < (x_4l : Int) ∧
   (pIdx x_4 0 5) ≠ none ∧
   ∃ t1 : Int, cell w (pIdx x_4 0 5) 0 = some (.int .i64 t1) ∧
   ∃ t2 : ByteArray, cell w (pIdx x_4 0 5) 1 = some (.string t2) ∧
   ∃ t3 : ByteArray, cell w (pIdx x_4 0 5) 2 = some (.string t3) ∧
   ∃ t4 : Int, cell w (pIdx x_4 0 5) 3 = some (.int .i64 t4) ∧
   ∃ t5 : Option Addr, ∃ tl6 : Nat, ∃ tc7 : Nat, cell w (pIdx x_4 0 5) 4 = some (.slice t5 tl6 tc7) ∧
   ∀ w8, Ext w w8 →
   FnP Tryd.prog F_ask_value #[(.agg #[(.int .i64 t1), (.string t2), (.string t3), (.int .i64 t4), (.slice t5 tl6 tc7)]), atom] w8 fun v9 w9 =>
    Ext w8 w9 ∧
    ∃ t10 : Bool, v9 = (.bool t10) ∧
    ∀ w11, Ext w w11 →
    Q (.bool (!t10)) w11) ∧
  ((x_0 ≠ 4) →
   ((x_0 = 5) →
    x_4 ≠ none ∧
    (0 : Int) ≤ 0 ∧
    (0 : Int) < (x_4l : Int) ∧
    (pIdx x_4 0 5) ≠ none ∧
    ∃ t1 : Int, cell w (pIdx x_4 0 5) 0 = some (.int .i64 t1) ∧
    ∃ t2 : ByteArray, cell w (pIdx x_4 0 5) 1 = some (.string t2) ∧
    ∃ t3 : ByteArray, cell w (pIdx x_4 0 5) 2 = some (.string t3) ∧
    ∃ t4 : Int, cell w (pIdx x_4 0 5) 3 = some (.int .i64 t4) ∧
    ∃ t5 : Option Addr, ∃ tl6 : Nat, ∃ tc7 : Nat, cell w (pIdx x_4 0 5) 4 = some (.slice t5 tl6 tc7) ∧
    ∀ w8, Ext w w8 →
    FnP Tryd.prog F_ask_value #[(.agg #[(.int .i64 t1), (.string t2), (.string t3), (.int .i64 t4), (.slice t5 tl6 tc7)]), atom] w8 fun v9 w9 =>
     Ext w8 w9 ∧
     ∃ t10 : Bool, v9 = (.bool t10) ∧
     ((t10 = true) →
      x_4 ≠ none) ∧
     ((t10 = true) →
      (0 : Int) ≤ 1) ∧
     ((t10 = true) →
      (1 : Int) < (x_4l : Int)) ∧
     ((t10 = true) →
      (pIdx x_4 1 5) ≠ none ∧
      ∃ t11 : Int, cell w (pIdx x_4 1 5) 0 = some (.int .i64 t11) ∧
      ∃ t12 : ByteArray, cell w (pIdx x_4 1 5) 1 = some (.string t12) ∧
      ∃ t13 : ByteArray, cell w (pIdx x_4 1 5) 2 = some (.string t13) ∧
      ∃ t14 : Int, cell w (pIdx x_4 1 5) 3 = some (.int .i64 t14) ∧
      ∃ t15 : Option Addr, ∃ tl16 : Nat, ∃ tc17 : Nat, cell w (pIdx x_4 1 5) 4 = some (.slice t15 tl16 tc17) ∧
      ∀ w18, Ext w w18 →
      FnP Tryd.prog F_ask_value #[(.agg #[(.int .i64 t11), (.string t12), (.string t13), (.int .i64 t14), (.slice t15 tl16 tc17)]), atom] w18 fun v19 w19 =>
       Ext w18 w19 ∧
       ∃ t20 : Bool, v19 = (.bool t20) ∧
       ∀ w21, Ext w w21 →
       Q (.bool t20) w21) ∧
     ((t10 = false) →
      ∀ w11, Ext w w11 →
      Q (.bool false) w11)) ∧
   ((x_0 ≠ 5) →
    ((x_0 = 6) →
     x_4 ≠ none ∧
     (0 : Int) ≤ 0 ∧
     (0 : Int) < (x_4l : Int) ∧
     (pIdx x_4 0 5) ≠ none ∧
     ∃ t1 : Int, cell w (pIdx x_4 0 5) 0 = some (.int .i64 t1) ∧
     ∃ t2 : ByteArray, cell w (pIdx x_4 0 5) 1 = some (.string t2) ∧
     ∃ t3 : ByteArray, cell w (pIdx x_4 0 5) 2 = some (.string t3) ∧
     ∃ t4 : Int, cell w (pIdx x_4 0 5) 3 = some (.int .i64 t4) ∧
     ∃ t5 : Option Addr, ∃ tl6 : Nat, ∃ tc7 : Nat, cell w (pIdx x_4 0 5) 4 = some (.slice t5 tl6 tc7) ∧
     ∀ w8, Ext w w8 →
     FnP Tryd.prog F_ask_value #[(.agg #[(.int .i64 t1), (.string t2), (.string t3), (.int .i64 t4), (.slice t5 tl6 tc7)]), atom] w8 fun v9 w9 =>
      Ext w8 w9 ∧
      ∃ t10 : Bool, v9 = (.bool t10) ∧
      ((t10 = false) →
       x_4 ≠ none) ∧
      ((t10 = false) →
       (0 : Int) ≤ 1) ∧
      ((t10 = false) →
       (1 : Int) < (x_4l : Int)) ∧
      ((t10 = true) →
       ∀ w11, Ext w w11 →
       Q (.bool true) w11) ∧
      ((t10 = false) →
       (pIdx x_4 1 5) ≠ none ∧
       ∃ t11 : Int, cell w (pIdx x_4 1 5) 0 = some (.int .i64 t11) ∧
       ∃ t12 : ByteArray, cell w (pIdx x_4 1 5) 1 = some (.string t12) ∧
       ∃ t13 : ByteArray, cell w (pIdx x_4 1 5) 2 = some (.string t13) ∧
       ∃ t14 : Int, cell w (pIdx x_4 1 5) 3 = some (.int .i64 t14) ∧
       ∃ t15 : Option Addr, ∃ tl16 : Nat, ∃ tc17 : Nat, cell w (pIdx x_4 1 5) 4 = some (.slice t15 tl16 tc17) ∧
       ∀ w18, Ext w w18 →
       FnP Tryd.prog F_ask_value #[(.agg #[(.int .i64 t11), (.string t12), (.string t13), (.int .i64 t14), (.slice t15 tl16 tc17)]), atom] w18 fun v19 w19 =>
        Ext w18 w19 ∧
        ∃ t20 : Bool, v19 = (.bool t20) ∧
        ∀ w21, Ext w w21 →
        Q (.bool t20) w21)) ∧
    ((x_0 ≠ 6) →
     ∀ w1, Ext w w1 →
     FnVP Tryd.prog atom [(.agg #[(.int .i64 x_0), (.string x_1), (.string x_2), (.int .i64 x_3), (.slice x_4 x_4l x_4c)])] w1 fun v2 w2 =>
      Ext w1 w2 ∧
      ∃ t3 : Bool, v2 = (.bool t3) ∧
      ∀ w4, Ext w w4 →
      Q (.bool t3) w4)))

theorem ok_ask_value (x_0 : Int) (x_1 : ByteArray) (x_2 : ByteArray) (x_3 : Int) (x_4 : Option Addr) (x_4l : Nat) (x_4c : Nat) (atom : Value) (w : World) (Q : Value → World → Prop) (h : wp_ask_value x_0 x_1 x_2 x_3 x_4 x_4l x_4c atom w Q) : FnP Tryd.prog F_ask_value #[(.agg #[(.int .i64 x_0), (.string x_1), (.string x_2), (.int .i64 x_3), (.slice x_4 x_4l x_4c)]), atom] w Q := by
  have e_ : wp_ask_value x_0 x_1 x_2 x_3 x_4 x_4l x_4c atom w Q = Runs Tryd.prog Q ({ N := 51, wrap := [], pub := [], muts := [], joins := [] } : Cfg) Tryd.f33 (Tryd.f33.body.getD .skip) [.agg [.int .i64 x_0, .str x_1, .str x_2, .int .i64 x_3, .slc x_4 x_4l x_4c], .sc (.val atom)] w := by kernel_rfl
  rw [e_] at h
  exact runs_fn h Tryd.func33 (by kernel_rfl) (fun args w => Tryd.call33 args w) (by kernel_rfl) (by kernel_rfl) rfl rfl

/-- shiftbell/ask.Holds -/
def wp_ask_Holds (x_0 : Int) (x_1 : ByteArray) (x_2 : ByteArray) (x_3 : Int) (x_4 : Option Addr) (x_4l : Nat) (x_4c : Nat) (h_v_0 : ByteArray) (h_v_1 : Option Addr) (h_v_1l : Nat) (h_v_1c : Nat) (h_v_2 : Int) (h_v_3 : Int) (h_v_4 : Int) (h_v_5 : Int) (h_v_6 : Int) (h_v_7 : Int) (w : World) (Q : Value → World → Prop) : Prop :=
  ∀ b0 : Nat, w.heap.size ≤ b0 → ∀ w1, ExtB [] [b0] w w1 →
  New w1 35 [(.string h_v_0), (.slice h_v_1 h_v_1l h_v_1c), (.int .i64 h_v_2), (.int .i64 h_v_3), (.int .i64 h_v_4), (.int .i64 h_v_5), (.int .i64 h_v_6), (.int .i64 h_v_7)] fun p2 w2 =>
   ∀ w3, Ext w2 w3 →
   FnP Tryd.prog F_ask_Check #[(.agg #[(.int .i64 x_0), (.string x_1), (.string x_2), (.int .i64 x_3), (.slice x_4 x_4l x_4c)])] w3 fun v4 w4 =>
    Ext w3 w4 ∧
    ∃ t5 : Int, v4 = (.int .i64 t5) ∧
    ((t5 ≠ 0) →
     ∀ w6, Ext w2 w6 →
     Q (.tuple #[(.bool false), (.int .i64 t5)]) w6) ∧
    ((t5 = 0) →
     ∀ w6, Ext w2 w6 →
     FnP Tryd.prog F_ask_value #[(.agg #[(.int .i64 x_0), (.string x_1), (.string x_2), (.int .i64 x_3), (.slice x_4 x_4l x_4c)]), (.func (.func 34) #[] #[(.pointer p2)])] w6 fun v7 w7 =>
      Ext w6 w7 ∧
      ∃ t8 : Bool, v7 = (.bool t8) ∧
      ∀ w9, Ext w2 w9 →
      Q (.tuple #[(.bool t8), (.int .i64 0)]) w9)

theorem ok_ask_Holds (x_0 : Int) (x_1 : ByteArray) (x_2 : ByteArray) (x_3 : Int) (x_4 : Option Addr) (x_4l : Nat) (x_4c : Nat) (h_v_0 : ByteArray) (h_v_1 : Option Addr) (h_v_1l : Nat) (h_v_1c : Nat) (h_v_2 : Int) (h_v_3 : Int) (h_v_4 : Int) (h_v_5 : Int) (h_v_6 : Int) (h_v_7 : Int) (w : World) (Q : Value → World → Prop) (h : wp_ask_Holds x_0 x_1 x_2 x_3 x_4 x_4l x_4c h_v_0 h_v_1 h_v_1l h_v_1c h_v_2 h_v_3 h_v_4 h_v_5 h_v_6 h_v_7 w Q) : FnP Tryd.prog F_ask_Holds #[(.agg #[(.int .i64 x_0), (.string x_1), (.string x_2), (.int .i64 x_3), (.slice x_4 x_4l x_4c)]), (.agg #[(.string h_v_0), (.slice h_v_1 h_v_1l h_v_1c), (.int .i64 h_v_2), (.int .i64 h_v_3), (.int .i64 h_v_4), (.int .i64 h_v_5), (.int .i64 h_v_6), (.int .i64 h_v_7)])] w Q := by
  have e_ : wp_ask_Holds x_0 x_1 x_2 x_3 x_4 x_4l x_4c h_v_0 h_v_1 h_v_1l h_v_1c h_v_2 h_v_3 h_v_4 h_v_5 h_v_6 h_v_7 w Q = Runs Tryd.prog Q ({ N := 15, wrap := [], pub := [3], muts := [], joins := [] } : Cfg) Tryd.f15 (Tryd.f15.body.getD .skip) [.agg [.int .i64 x_0, .str x_1, .str x_2, .int .i64 x_3, .slc x_4 x_4l x_4c], .agg [.str h_v_0, .slc h_v_1 h_v_1l h_v_1c, .int .i64 h_v_2, .int .i64 h_v_3, .int .i64 h_v_4, .int .i64 h_v_5, .int .i64 h_v_6, .int .i64 h_v_7]] w := by kernel_rfl
  rw [e_] at h
  exact runs_fn h Tryd.func15 (by kernel_rfl) (fun args w => Tryd.call15 args w) (by kernel_rfl) (by kernel_rfl) rfl rfl

/-- shiftbell/ask.Holds$1 -/
def wp_ask_Holds_1 (x_0 : Int) (x_1 : ByteArray) (x_2 : ByteArray) (x_3 : Int) (x_4 : Option Addr) (x_4l : Nat) (x_4c : Nat) (c0 : Option Addr) (w : World) (Q : Value → World → Prop) : Prop :=
  ∀ w0, Ext w w0 →
  New w0 32 [(.int .i64 x_0), (.string x_1), (.string x_2), (.int .i64 x_3), (.slice x_4 x_4l x_4c)] fun p1 w1 =>
   p1 ≠ none ∧
   ∃ t2 : Int, cell w1 (pAdd p1 0) 0 = some (.int .i64 t2) ∧
   ((t2 = 3) →
    c0 ≠ none ∧
    (pAdd c0 2) ≠ none ∧
    ∃ t3 : Int, cell w1 (pAdd c0 2) 0 = some (.int .i64 t3) ∧
    ∃ t4 : Int, cell w1 (pAdd c0 2) 1 = some (.int .i64 t4) ∧
    ∃ t5 : Int, cell w1 (pAdd c0 2) 2 = some (.int .i64 t5) ∧
    p1 ≠ none ∧
    ∃ t6 : ByteArray, cell w1 (pAdd p1 1) 0 = some (.string t6) ∧
    p1 ≠ none ∧
    ∃ t7 : Int, cell w1 (pAdd p1 3) 0 = some (.int .i64 t7) ∧
    ∀ w8, Ext w1 w8 →
    FnP Tryd.prog F_ask_amount #[(.agg #[(.int .i64 t3), (.int .i64 t4), (.int .i64 t5)]), (.string t6)] w8 fun v9 w9 =>
     Ext w8 w9 ∧
     ∃ t10 : Int, v9 = (.int .i64 t10) ∧
     ∀ w11, Ext w1 w11 →
     Q (.bool (decide (t7 ≤ t10))) w11) ∧
   ((t2 ≠ 3) →
    c0 ≠ none ∧
    ∃ t3 : Option Addr, ∃ tl4 : Nat, ∃ tc5 : Nat, cell w1 (pAdd c0 1) 0 = some (.slice t3 tl4 tc5) ∧
    ∀ w6, Ext w1 w6 →
    FnP Tryd.prog F_slices_ContainsFunc_api_Label_api_Label #[(.slice t3 tl4 tc5), (.func (.func 37) #[] #[(.pointer p1)])] w6 fun v7 w7 =>
     Ext w6 w7 ∧
     ∃ t8 : Bool, v7 = (.bool t8) ∧
     ∀ w9, Ext w1 w9 →
     Q (.bool t8) w9)

theorem ok_ask_Holds_1 (x_0 : Int) (x_1 : ByteArray) (x_2 : ByteArray) (x_3 : Int) (x_4 : Option Addr) (x_4l : Nat) (x_4c : Nat) (c0 : Option Addr) (w : World) (Q : Value → World → Prop) (h : wp_ask_Holds_1 x_0 x_1 x_2 x_3 x_4 x_4l x_4c c0 w Q) : FnP Tryd.prog F_ask_Holds_1 #[(.agg #[(.int .i64 x_0), (.string x_1), (.string x_2), (.int .i64 x_3), (.slice x_4 x_4l x_4c)]), (.pointer c0)] w Q := by
  have e_ : wp_ask_Holds_1 x_0 x_1 x_2 x_3 x_4 x_4l x_4c c0 w Q = Runs Tryd.prog Q ({ N := 19, wrap := [], pub := [2], muts := [], joins := [] } : Cfg) Tryd.f34 (Tryd.f34.body.getD .skip) [.agg [.int .i64 x_0, .str x_1, .str x_2, .int .i64 x_3, .slc x_4 x_4l x_4c], .sc (.ptr c0)] w := by kernel_rfl
  rw [e_] at h
  exact runs_fn h Tryd.func34 (by kernel_rfl) (fun args w => Tryd.call34 args w) (by kernel_rfl) (by kernel_rfl) rfl rfl

/-- shiftbell/ask.Holds$1$1 -/
def wp_ask_Holds_1_1 (l_0 : ByteArray) (l_1 : ByteArray) (c0 : Option Addr) (w : World) (Q : Value → World → Prop) : Prop :=
  ∀ b0 : Nat, w.heap.size ≤ b0 → c0 ≠ none ∧
  ∃ t1 : ByteArray, cell w (pAdd c0 1) 0 = some (.string t1) ∧
  ((l_0 = t1) →
   c0 ≠ none) ∧
  ((l_0 = t1) →
   ∃ t2 : Int, cell w (pAdd c0 0) 0 = some (.int .i64 t2) ∧
   ((t2 ≠ 1) →
    c0 ≠ none) ∧
   ((t2 = 1) →
    ∀ w3, Ext w w3 →
    Q (.bool true) w3) ∧
   ((t2 ≠ 1) →
    ∃ t3 : ByteArray, cell w (pAdd c0 2) 0 = some (.string t3) ∧
    ∀ w4, Ext w w4 →
    Q (.bool (decide (l_1 = t3))) w4)) ∧
  ((l_0 ≠ t1) →
   ∀ w2, Ext w w2 →
   Q (.bool false) w2)

theorem ok_ask_Holds_1_1 (l_0 : ByteArray) (l_1 : ByteArray) (c0 : Option Addr) (w : World) (Q : Value → World → Prop) (h : wp_ask_Holds_1_1 l_0 l_1 c0 w Q) : FnP Tryd.prog F_ask_Holds_1_1 #[(.agg #[(.string l_0), (.string l_1)]), (.pointer c0)] w Q := by
  have e_ : wp_ask_Holds_1_1 l_0 l_1 c0 w Q = Runs Tryd.prog Q ({ N := 21, wrap := [], pub := [], muts := [], joins := [] } : Cfg) Tryd.f37 (Tryd.f37.body.getD .skip) [.agg [.str l_0, .str l_1], .sc (.ptr c0)] w := by kernel_rfl
  rw [e_] at h
  exact runs_fn h Tryd.func37 (by kernel_rfl) (fun args w => Tryd.call37 args w) (by kernel_rfl) (by kernel_rfl) rfl rfl

/-- slices.ContainsFunc[[]shiftbell/api.Label,shiftbell/api.Label] -/
def wp_slices_ContainsFunc_api_Label_api_Label (s : Option Addr) (sl : Nat) (sc : Nat) (f : Value) (w : World) (Q : Value → World → Prop) : Prop :=
  ∀ w0, Ext w w0 →
  FnP Tryd.prog F_slices_IndexFunc_api_Label_api_Label #[(.slice s sl sc), f] w0 fun v1 w1 =>
   Ext w0 w1 ∧
   ∃ t2 : Int, v1 = (.int .i64 t2) ∧
   ∀ w3, Ext w w3 →
   Q (.bool (decide (0 ≤ t2))) w3

theorem ok_slices_ContainsFunc_api_Label_api_Label (s : Option Addr) (sl : Nat) (sc : Nat) (f : Value) (w : World) (Q : Value → World → Prop) (h : wp_slices_ContainsFunc_api_Label_api_Label s sl sc f w Q) : FnP Tryd.prog F_slices_ContainsFunc_api_Label_api_Label #[(.slice s sl sc), f] w Q := by
  have e_ : wp_slices_ContainsFunc_api_Label_api_Label s sl sc f w Q = Runs Tryd.prog Q ({ N := 9, wrap := [], pub := [], muts := [], joins := [] } : Cfg) Tryd.f36 (Tryd.f36.body.getD .skip) [.sc (.slc s sl sc), .sc (.val f)] w := by kernel_rfl
  rw [e_] at h
  exact runs_fn h Tryd.func36 (by kernel_rfl) (fun args w => Tryd.call36 args w) (by kernel_rfl) (by kernel_rfl) rfl rfl

/-- slices.IndexFunc[[]shiftbell/api.Label,shiftbell/api.Label] -/
def wp_slices_IndexFunc_api_Label_api_Label (s : Option Addr) (sl : Nat) (sc : Nat) (f : Value) (w : World) (Q : Value → World → Prop) : Prop :=
  ∃ (I0 : Int → World → Prop) (M0 : Int → World → Nat), I0 0 w ∧
  ∀ (k1 : Int) (w2 : World), I0 k1 w2 →
   ((k1 < (sl : Int)) →
    s ≠ none ∧
    (0 : Int) ≤ k1 ∧
    (k1 : Int) < (sl : Int) ∧
    (pIdx s k1 2) ≠ none ∧
    ∃ t3 : ByteArray, cell w2 (pIdx s k1 2) 0 = some (.string t3) ∧
    ∃ t4 : ByteArray, cell w2 (pIdx s k1 2) 1 = some (.string t4) ∧
    ∀ w5, Ext w2 w5 →
    FnVP Tryd.prog f [(.agg #[(.string t3), (.string t4)])] w5 fun v6 w6 =>
     Ext w5 w6 ∧
     ∃ t7 : Bool, v6 = (.bool t7) ∧
     ((t7 = true) →
      ∀ w8, Ext w2 w8 →
      Q (.int .i64 k1) w8) ∧
     ((t7 = false) →
      InR .i64 (k1 + 1) ∧
      (I0 (k1 + 1) w2 ∧ M0 (k1 + 1) w2 < M0 k1 w2))) ∧
   (((sl : Int) ≤ k1) →
    ∀ w3, Ext w2 w3 →
    Q (.int .i64 (-1)) w3)

theorem ok_slices_IndexFunc_api_Label_api_Label (s : Option Addr) (sl : Nat) (sc : Nat) (f : Value) (w : World) (Q : Value → World → Prop) (h : wp_slices_IndexFunc_api_Label_api_Label s sl sc f w Q) : FnP Tryd.prog F_slices_IndexFunc_api_Label_api_Label #[(.slice s sl sc), f] w Q := by
  have e_ : wp_slices_IndexFunc_api_Label_api_Label s sl sc f w Q = Runs Tryd.prog Q ({ N := 19, wrap := [], pub := [], muts := [], joins := [] } : Cfg) Tryd.f56 (Tryd.f56.body.getD .skip) [.sc (.slc s sl sc), .sc (.val f)] w := by kernel_rfl
  rw [e_] at h
  exact runs_fn h Tryd.func56 (by kernel_rfl) (fun args w => Tryd.call56 args w) (by kernel_rfl) (by kernel_rfl) rfl rfl

/-- shiftbell/shiftbellkeep.asks -/
def wp_shiftbellkeep_asks  (w : World) (Q : Value → World → Prop) : Prop :=
  ∀ w0, Ext w w0 →
  FnP Tryd.prog F_ask_Text #[(.agg #[(.int .i64 1), (.string (⟨#[97]⟩ : ByteArray)), (.string (⟨#[]⟩ : ByteArray)), (.int .i64 0), (.slice none 0 0)])] w0 fun v1 w1 =>
   Ext w0 w1 ∧
   ∃ t2 : ByteArray, ∃ t3 : Int, v1 = (.tuple #[(.string t2), (.int .i64 t3)]) ∧
   ∀ w4, Ext w w4 →
   Q (.bool ((decide (t3 = 0)) && (decide (t2 = (⟨#[63, 97]⟩ : ByteArray))))) w4

theorem ok_shiftbellkeep_asks  (w : World) (Q : Value → World → Prop) (h : wp_shiftbellkeep_asks  w Q) : FnP Tryd.prog F_shiftbellkeep_asks #[] w Q := by
  have e_ : wp_shiftbellkeep_asks  w Q = Runs Tryd.prog Q ({ N := 14, wrap := [], pub := [], muts := [], joins := [] } : Cfg) Tryd.f14 (Tryd.f14.body.getD .skip) [] w := by kernel_rfl
  rw [e_] at h
  exact runs_fn h Tryd.func14 (by kernel_rfl) (fun args w => Tryd.call14 args w) (by kernel_rfl) (by kernel_rfl) rfl rfl

/-- shiftbell/shiftbellkeep.AskAnd -/
def wp_shiftbellkeep_AskAnd (x_0 : Int) (x_1 : ByteArray) (x_2 : ByteArray) (x_3 : Int) (x_4 : Option Addr) (x_4l : Nat) (x_4c : Nat) (y_0 : Int) (y_1 : ByteArray) (y_2 : ByteArray) (y_3 : Int) (y_4 : Option Addr) (y_4l : Nat) (y_4c : Nat) (h_v_0 : ByteArray) (h_v_1 : Option Addr) (h_v_1l : Nat) (h_v_1c : Nat) (h_v_2 : Int) (h_v_3 : Int) (h_v_4 : Int) (h_v_5 : Int) (h_v_6 : Int) (h_v_7 : Int) (w : World) (Q : Value → World → Prop) : Prop :=
  ∀ b0 : Nat, w.heap.size ≤ b0 → ∀ b1 : Nat, w.heap.size ≤ b1 → ∀ b2 : Nat, w.heap.size ≤ b2 → ∀ w3, Ext w w3 →
  FnP Tryd.prog F_shiftbellkeep_asks #[] w3 fun v4 w4 =>
   Ext w3 w4 ∧
   ∃ t5 : Bool, v4 = (.bool t5) ∧
   ((t5 = false) →
    ∀ w6, Ext w w6 →
    Q (.bool false) w6) ∧
   ((t5 = true) →
    ∀ w6, Ext w w6 →
    FnP Tryd.prog F_ask_Holds #[(.agg #[(.int .i64 x_0), (.string x_1), (.string x_2), (.int .i64 x_3), (.slice x_4 x_4l x_4c)]), (.agg #[(.string h_v_0), (.slice h_v_1 h_v_1l h_v_1c), (.int .i64 h_v_2), (.int .i64 h_v_3), (.int .i64 h_v_4), (.int .i64 h_v_5), (.int .i64 h_v_6), (.int .i64 h_v_7)])] w6 fun v7 w7 =>
     Ext w6 w7 ∧
     ∃ t8 : Bool, ∃ t9 : Int, v7 = (.tuple #[(.bool t8), (.int .i64 t9)]) ∧
     ∀ w10, Ext w w10 →
     FnP Tryd.prog F_ask_Holds #[(.agg #[(.int .i64 y_0), (.string y_1), (.string y_2), (.int .i64 y_3), (.slice y_4 y_4l y_4c)]), (.agg #[(.string h_v_0), (.slice h_v_1 h_v_1l h_v_1c), (.int .i64 h_v_2), (.int .i64 h_v_3), (.int .i64 h_v_4), (.int .i64 h_v_5), (.int .i64 h_v_6), (.int .i64 h_v_7)])] w10 fun v11 w11 =>
      Ext w10 w11 ∧
      ∃ t12 : Bool, ∃ t13 : Int, v11 = (.tuple #[(.bool t12), (.int .i64 t13)]) ∧
      ∀ w14, ExtB [] [b0, b1, b2] w w14 →
      Run Tryd.prog (.buildSlice 30 1 [(0, (.agg #[(.int .i64 x_0), (.string x_1), (.string x_2), (.int .i64 x_3), (.slice x_4 x_4l x_4c)]))]) w14 fun v15 w15 =>
       Ext w14 w15 ∧
       ∃ t16 : Option Addr, ∃ tl17 : Nat, ∃ tc18 : Nat, v15 = (.slice t16 tl17 tc18) ∧
       ∀ w19, Ext w15 w19 →
       FnP Tryd.prog F_ask_Holds #[(.agg #[(.int .i64 4), (.string (⟨#[]⟩ : ByteArray)), (.string (⟨#[]⟩ : ByteArray)), (.int .i64 0), (.slice t16 tl17 tc18)]), (.agg #[(.string h_v_0), (.slice h_v_1 h_v_1l h_v_1c), (.int .i64 h_v_2), (.int .i64 h_v_3), (.int .i64 h_v_4), (.int .i64 h_v_5), (.int .i64 h_v_6), (.int .i64 h_v_7)])] w19 fun v20 w20 =>
        Ext w19 w20 ∧
        ∃ t21 : Bool, ∃ t22 : Int, v20 = (.tuple #[(.bool t21), (.int .i64 t22)]) ∧
        ∀ w23, ExtB [] [b0, b1, b2] w15 w23 →
        Run Tryd.prog (.buildSlice 30 2 [(0, (.agg #[(.int .i64 x_0), (.string x_1), (.string x_2), (.int .i64 x_3), (.slice x_4 x_4l x_4c)])), (1, (.agg #[(.int .i64 y_0), (.string y_1), (.string y_2), (.int .i64 y_3), (.slice y_4 y_4l y_4c)]))]) w23 fun v24 w24 =>
         Ext w23 w24 ∧
         ∃ t25 : Option Addr, ∃ tl26 : Nat, ∃ tc27 : Nat, v24 = (.slice t25 tl26 tc27) ∧
         ∀ w28, Ext w24 w28 →
         FnP Tryd.prog F_ask_Holds #[(.agg #[(.int .i64 5), (.string (⟨#[]⟩ : ByteArray)), (.string (⟨#[]⟩ : ByteArray)), (.int .i64 0), (.slice t25 tl26 tc27)]), (.agg #[(.string h_v_0), (.slice h_v_1 h_v_1l h_v_1c), (.int .i64 h_v_2), (.int .i64 h_v_3), (.int .i64 h_v_4), (.int .i64 h_v_5), (.int .i64 h_v_6), (.int .i64 h_v_7)])] w28 fun v29 w29 =>
          Ext w28 w29 ∧
          ∃ t30 : Bool, ∃ t31 : Int, v29 = (.tuple #[(.bool t30), (.int .i64 t31)]) ∧
          ∀ w32, ExtB [] [b0, b1, b2] w24 w32 →
          Run Tryd.prog (.buildSlice 30 2 [(0, (.agg #[(.int .i64 x_0), (.string x_1), (.string x_2), (.int .i64 x_3), (.slice x_4 x_4l x_4c)])), (1, (.agg #[(.int .i64 y_0), (.string y_1), (.string y_2), (.int .i64 y_3), (.slice y_4 y_4l y_4c)]))]) w32 fun v33 w33 =>
           Ext w32 w33 ∧
           ∃ t34 : Option Addr, ∃ tl35 : Nat, ∃ tc36 : Nat, v33 = (.slice t34 tl35 tc36) ∧
           ∀ w37, Ext w33 w37 →
           FnP Tryd.prog F_ask_Holds #[(.agg #[(.int .i64 6), (.string (⟨#[]⟩ : ByteArray)), (.string (⟨#[]⟩ : ByteArray)), (.int .i64 0), (.slice t34 tl35 tc36)]), (.agg #[(.string h_v_0), (.slice h_v_1 h_v_1l h_v_1c), (.int .i64 h_v_2), (.int .i64 h_v_3), (.int .i64 h_v_4), (.int .i64 h_v_5), (.int .i64 h_v_6), (.int .i64 h_v_7)])] w37 fun v38 w38 =>
            Ext w37 w38 ∧
            ∃ t39 : Bool, ∃ t40 : Int, v38 = (.tuple #[(.bool t39), (.int .i64 t40)]) ∧
            ∀ w41, ExtB [] [b0, b1, b2] w33 w41 →
            Run Tryd.prog (.buildSlice 59 2 [(0, (.int .i64 t9)), (1, (.int .i64 t22))]) w41 fun v42 w42 =>
             Ext w41 w42 ∧
             ∃ t43 : Option Addr, ∃ tl44 : Nat, ∃ tc45 : Nat, v42 = (.slice t43 tl44 tc45) ∧
             ∀ w46, Ext w42 w46 →
             FnP Tryd.prog F_shiftbellkeep_good #[(.slice t43 tl44 tc45)] w46 fun v47 w47 =>
              Ext w46 w47 ∧
              ∃ t48 : Bool, v47 = (.bool t48) ∧
              (((t48 = true) ∧ (((t21 = true) ∧ (t8 = true)) ∨ ((t21 = false) ∧ (t8 = false)))) →
               ∀ w49, Ext w42 w49 →
               Q (.bool false) w49) ∧
              (((t48 = false) ∨ (((t21 = false) ∨ (t8 = false)) ∧ ((t21 = true) ∨ (t8 = true)))) →
               ∀ w49, ExtB [] [b0, b1, b2] w42 w49 →
               Run Tryd.prog (.buildSlice 59 4 [(0, (.int .i64 t9)), (1, (.int .i64 t13)), (2, (.int .i64 t31)), (3, (.int .i64 t40))]) w49 fun v50 w50 =>
                Ext w49 w50 ∧
                ∃ t51 : Option Addr, ∃ tl52 : Nat, ∃ tc53 : Nat, v50 = (.slice t51 tl52 tc53) ∧
                ∀ w54, Ext w50 w54 →
                FnP Tryd.prog F_shiftbellkeep_good #[(.slice t51 tl52 tc53)] w54 fun v55 w55 =>
                 Ext w54 w55 ∧
                 ∃ t56 : Bool, v55 = (.bool t56) ∧
                 ∀ w57, Ext w50 w57 →
                 Q (.bool ((!t56) || (((t30 && (t8 && t12)) || ((!t30) && ((!t8) || (!t12)))) && ((t39 && (t8 || t12)) || ((!t39) && ((!t8) && (!t12))))))) w57))

theorem ok_shiftbellkeep_AskAnd (x_0 : Int) (x_1 : ByteArray) (x_2 : ByteArray) (x_3 : Int) (x_4 : Option Addr) (x_4l : Nat) (x_4c : Nat) (y_0 : Int) (y_1 : ByteArray) (y_2 : ByteArray) (y_3 : Int) (y_4 : Option Addr) (y_4l : Nat) (y_4c : Nat) (h_v_0 : ByteArray) (h_v_1 : Option Addr) (h_v_1l : Nat) (h_v_1c : Nat) (h_v_2 : Int) (h_v_3 : Int) (h_v_4 : Int) (h_v_5 : Int) (h_v_6 : Int) (h_v_7 : Int) (w : World) (Q : Value → World → Prop) (h : wp_shiftbellkeep_AskAnd x_0 x_1 x_2 x_3 x_4 x_4l x_4c y_0 y_1 y_2 y_3 y_4 y_4l y_4c h_v_0 h_v_1 h_v_1l h_v_1c h_v_2 h_v_3 h_v_4 h_v_5 h_v_6 h_v_7 w Q) : FnP Tryd.prog F_shiftbellkeep_AskAnd #[(.agg #[(.int .i64 x_0), (.string x_1), (.string x_2), (.int .i64 x_3), (.slice x_4 x_4l x_4c)]), (.agg #[(.int .i64 y_0), (.string y_1), (.string y_2), (.int .i64 y_3), (.slice y_4 y_4l y_4c)]), (.agg #[(.string h_v_0), (.slice h_v_1 h_v_1l h_v_1c), (.int .i64 h_v_2), (.int .i64 h_v_3), (.int .i64 h_v_4), (.int .i64 h_v_5), (.int .i64 h_v_6), (.int .i64 h_v_7)])] w Q := by
  have e_ : wp_shiftbellkeep_AskAnd x_0 x_1 x_2 x_3 x_4 x_4l x_4c y_0 y_1 y_2 y_3 y_4 y_4l y_4c h_v_0 h_v_1 h_v_1l h_v_1c h_v_2 h_v_3 h_v_4 h_v_5 h_v_6 h_v_7 w Q = Runs Tryd.prog Q ({ N := 89, wrap := [], pub := [], muts := [], joins := [] } : Cfg) Tryd.f4 (Tryd.f4.body.getD .skip) [.agg [.int .i64 x_0, .str x_1, .str x_2, .int .i64 x_3, .slc x_4 x_4l x_4c], .agg [.int .i64 y_0, .str y_1, .str y_2, .int .i64 y_3, .slc y_4 y_4l y_4c], .agg [.str h_v_0, .slc h_v_1 h_v_1l h_v_1c, .int .i64 h_v_2, .int .i64 h_v_3, .int .i64 h_v_4, .int .i64 h_v_5, .int .i64 h_v_6, .int .i64 h_v_7]] w := by kernel_rfl
  rw [e_] at h
  exact runs_fn h Tryd.func4 (by kernel_rfl) (fun args w => Tryd.call4 args w) (by kernel_rfl) (by kernel_rfl) rfl rfl

theorem open_shiftbellkeep_AskAnd (W : World) (R : Array Value → Prop) (h : ∀ x_0 : Int, InR .i64 x_0 → ∀ x_1 : ByteArray, x_1.size ≤ 9223372036854775807 → ∀ x_2 : ByteArray, x_2.size ≤ 9223372036854775807 → ∀ x_3 : Int, InR .i64 x_3 → ∀ x_4 : Option Addr, ∀ x_4l : Nat, ∀ x_4c : Nat, SlcArg Tryd.prog W 32 x_4 x_4l x_4c → ∀ y_0 : Int, InR .i64 y_0 → ∀ y_1 : ByteArray, y_1.size ≤ 9223372036854775807 → ∀ y_2 : ByteArray, y_2.size ≤ 9223372036854775807 → ∀ y_3 : Int, InR .i64 y_3 → ∀ y_4 : Option Addr, ∀ y_4l : Nat, ∀ y_4c : Nat, SlcArg Tryd.prog W 32 y_4 y_4l y_4c → ∀ h_v_0 : ByteArray, h_v_0.size ≤ 9223372036854775807 → ∀ h_v_1 : Option Addr, ∀ h_v_1l : Nat, ∀ h_v_1c : Nat, SlcArg Tryd.prog W 67 h_v_1 h_v_1l h_v_1c → ∀ h_v_2 : Int, InR .i64 h_v_2 → ∀ h_v_3 : Int, InR .i64 h_v_3 → ∀ h_v_4 : Int, InR .i64 h_v_4 → ∀ h_v_5 : Int, InR .i64 h_v_5 → ∀ h_v_6 : Int, InR .i64 h_v_6 → ∀ h_v_7 : Int, InR .i64 h_v_7 → R #[(.agg #[(.int .i64 x_0), (.string x_1), (.string x_2), (.int .i64 x_3), (.slice x_4 x_4l x_4c)]), (.agg #[(.int .i64 y_0), (.string y_1), (.string y_2), (.int .i64 y_3), (.slice y_4 y_4l y_4c)]), (.agg #[(.string h_v_0), (.slice h_v_1 h_v_1l h_v_1c), (.int .i64 h_v_2), (.int .i64 h_v_3), (.int .i64 h_v_4), (.int .i64 h_v_5), (.int .i64 h_v_6), (.int .i64 h_v_7)])]) (args : Array Value) (hg : GoodAll Tryd.prog W Tryd.f4.params.toList args.toList) : R args := by
  have e_ : (ArgsAll Tryd.prog W Tryd.f4.params.toList fun l => R l.toArray) = (∀ x_0 : Int, InR .i64 x_0 → ∀ x_1 : ByteArray, x_1.size ≤ 9223372036854775807 → ∀ x_2 : ByteArray, x_2.size ≤ 9223372036854775807 → ∀ x_3 : Int, InR .i64 x_3 → ∀ x_4 : Option Addr, ∀ x_4l : Nat, ∀ x_4c : Nat, SlcArg Tryd.prog W 32 x_4 x_4l x_4c → ∀ y_0 : Int, InR .i64 y_0 → ∀ y_1 : ByteArray, y_1.size ≤ 9223372036854775807 → ∀ y_2 : ByteArray, y_2.size ≤ 9223372036854775807 → ∀ y_3 : Int, InR .i64 y_3 → ∀ y_4 : Option Addr, ∀ y_4l : Nat, ∀ y_4c : Nat, SlcArg Tryd.prog W 32 y_4 y_4l y_4c → ∀ h_v_0 : ByteArray, h_v_0.size ≤ 9223372036854775807 → ∀ h_v_1 : Option Addr, ∀ h_v_1l : Nat, ∀ h_v_1c : Nat, SlcArg Tryd.prog W 67 h_v_1 h_v_1l h_v_1c → ∀ h_v_2 : Int, InR .i64 h_v_2 → ∀ h_v_3 : Int, InR .i64 h_v_3 → ∀ h_v_4 : Int, InR .i64 h_v_4 → ∀ h_v_5 : Int, InR .i64 h_v_5 → ∀ h_v_6 : Int, InR .i64 h_v_6 → ∀ h_v_7 : Int, InR .i64 h_v_7 → R #[(.agg #[(.int .i64 x_0), (.string x_1), (.string x_2), (.int .i64 x_3), (.slice x_4 x_4l x_4c)]), (.agg #[(.int .i64 y_0), (.string y_1), (.string y_2), (.int .i64 y_3), (.slice y_4 y_4l y_4c)]), (.agg #[(.string h_v_0), (.slice h_v_1 h_v_1l h_v_1c), (.int .i64 h_v_2), (.int .i64 h_v_3), (.int .i64 h_v_4), (.int .i64 h_v_5), (.int .i64 h_v_6), (.int .i64 h_v_7)])]) := by kernel_rfl
  exact args_open (by rw [e_]; exact h) args hg
-- wit 4 #[(.agg #[(.int .i64 0), (.string (⟨#[]⟩ : ByteArray)), (.string (⟨#[]⟩ : ByteArray)), (.int .i64 0), (.slice none 0 0)]), (.agg #[(.int .i64 0), (.string (⟨#[]⟩ : ByteArray)), (.string (⟨#[]⟩ : ByteArray)), (.int .i64 0), (.slice none 0 0)]), (.agg #[(.string (⟨#[]⟩ : ByteArray)), (.slice none 0 0), (.int .i64 0), (.int .i64 0), (.int .i64 0), (.int .i64 0), (.int .i64 0), (.int .i64 0)])]

end Go.Proofs.YtdhhggfplacenaaDoor
