/- The texts of this seat's functions: what each computes, as its symbolic run says it. -/
import Derived.Test.YteelndoflikliaaDoorRows
import Derived.Test.YteelndoflikliaaDoorSxD
import Derived.Test.YteelndoflikliaaDoorSxN
import Derived.Test.YteelndoflikliaaDoorTxt
set_option linter.unusedVariables false
set_option linter.unusedSimpArgs false
set_option maxRecDepth 100000
namespace Go.Proofs.YteelndoflikliaaDoor
open Go.Sx Go.RowKit

abbrev F_shiftbellkeep_AskAlike : FuncId := 3
abbrev F_shiftbellkeep_asks : FuncId := 8
abbrev F_ask_Alike : FuncId := 9
abbrev F_ask_Holds : FuncId := 10
abbrev F_shiftbellkeep_good : FuncId := 11
abbrev F_ask_Norm : FuncId := 12
abbrev F_ask_Text : FuncId := 13
abbrev F_shiftbellkeep_sameAsk : FuncId := 15
abbrev F_ask_Check : FuncId := 23
abbrev F_ask_atoms : FuncId := 24
abbrev F_ask_Alike_1 : FuncId := 25
abbrev F_slices_Index_string_string : FuncId := 26
abbrev F_ask_text : FuncId := 27
abbrev F_ask_value : FuncId := 28
abbrev F_ask_Holds_1 : FuncId := 29
abbrev F_ask_amount : FuncId := 30
abbrev F_slices_ContainsFunc_api_Label_api_Label : FuncId := 31
abbrev F_ask_Holds_1_1 : FuncId := 32
abbrev F_slices_ContainsFunc_api_Errno_api_Errno : FuncId := 33
abbrev F_shiftbellkeep_good_1 : FuncId := 34
abbrev F_ask_norm : FuncId := 35
abbrev F_ask_count : FuncId := 36
abbrev F_slices_EqualFunc_api_Ask_api_Ask_api_Ask_api_Ask : FuncId := 38
abbrev F_ask_check : FuncId := 51
abbrev F_slices_Contains_string_string : FuncId := 52
abbrev F_slices_IndexFunc_api_Label_api_Label : FuncId := 54
abbrev F_slices_IndexFunc_api_Errno_api_Errno : FuncId := 55
abbrev F_ask_reader_take : FuncId := 56
abbrev F_ask_reader_word : FuncId := 57
abbrev F_ask_unit : FuncId := 72
abbrev F_ask_Label : FuncId := 73
abbrev F_strings_IndexAny : FuncId := 75

/-- shiftbell/shiftbellkeep.good -/
def wp_shiftbellkeep_good (l : Option Addr) (ll : Nat) (lc : Nat) (w : World) (Q : Value → World → Prop) : Prop :=
  ∀ w0, Ext w w0 →
  FnP Tryd.prog F_slices_ContainsFunc_api_Errno_api_Errno #[(.slice l ll lc), (.func (.func 34) #[] #[])] w0 fun v1 w1 =>
   Ext w0 w1 ∧
   ∃ t2 : Bool, v1 = (.bool t2) ∧
   ∀ w3, Ext w w3 →
   Q (.bool (!t2)) w3

theorem ok_shiftbellkeep_good (l : Option Addr) (ll : Nat) (lc : Nat) (w : World) (Q : Value → World → Prop) (h : wp_shiftbellkeep_good l ll lc w Q) : FnP Tryd.prog F_shiftbellkeep_good #[(.slice l ll lc)] w Q := by
  have e_ : wp_shiftbellkeep_good l ll lc w Q = Runs Tryd.prog Q ({ N := 6, wrap := [], pub := [], muts := [], joins := [] } : Cfg) Tryd.f11 (Tryd.f11.body.getD .skip) [.sc (.slc l ll lc)] w := by kernel_rfl
  rw [e_] at h
  exact runs_fn h Tryd.func11 (by kernel_rfl) (fun args w => Tryd.call11 args w) (by kernel_rfl) (by kernel_rfl) rfl rfl

/-- shiftbell/shiftbellkeep.good$1 -/
def wp_shiftbellkeep_good_1 (e : Int) (w : World) (Q : Value → World → Prop) : Prop :=
  ∀ w0, Ext w w0 →
  Q (.bool (decide (e ≠ 0))) w0

theorem ok_shiftbellkeep_good_1 (e : Int) (w : World) (Q : Value → World → Prop) (h : wp_shiftbellkeep_good_1 e w Q) : FnP Tryd.prog F_shiftbellkeep_good_1 #[(.int .i64 e)] w Q := by
  have e_ : wp_shiftbellkeep_good_1 e w Q = Runs Tryd.prog Q ({ N := 5, wrap := [], pub := [], muts := [], joins := [] } : Cfg) Tryd.f34 (Tryd.f34.body.getD .skip) [.sc (.int .i64 e)] w := by kernel_rfl
  rw [e_] at h
  exact runs_fn h Tryd.func34 (by kernel_rfl) (fun args w => Tryd.call34 args w) (by kernel_rfl) (by kernel_rfl) rfl rfl

/-- slices.ContainsFunc[[]shiftbell/api.Errno,shiftbell/api.Errno] -/
def wp_slices_ContainsFunc_api_Errno_api_Errno (s : Option Addr) (sl : Nat) (sc : Nat) (f : Value) (w : World) (Q : Value → World → Prop) : Prop :=
  ∀ w0, Ext w w0 →
  FnP Tryd.prog F_slices_IndexFunc_api_Errno_api_Errno #[(.slice s sl sc), f] w0 fun v1 w1 =>
   Ext w0 w1 ∧
   ∃ t2 : Int, v1 = (.int .i64 t2) ∧
   ∀ w3, Ext w w3 →
   Q (.bool (decide (0 ≤ t2))) w3

theorem ok_slices_ContainsFunc_api_Errno_api_Errno (s : Option Addr) (sl : Nat) (sc : Nat) (f : Value) (w : World) (Q : Value → World → Prop) (h : wp_slices_ContainsFunc_api_Errno_api_Errno s sl sc f w Q) : FnP Tryd.prog F_slices_ContainsFunc_api_Errno_api_Errno #[(.slice s sl sc), f] w Q := by
  have e_ : wp_slices_ContainsFunc_api_Errno_api_Errno s sl sc f w Q = Runs Tryd.prog Q ({ N := 9, wrap := [], pub := [], muts := [], joins := [] } : Cfg) Tryd.f33 (Tryd.f33.body.getD .skip) [.sc (.slc s sl sc), .sc (.val f)] w := by kernel_rfl
  rw [e_] at h
  exact runs_fn h Tryd.func33 (by kernel_rfl) (fun args w => Tryd.call33 args w) (by kernel_rfl) (by kernel_rfl) rfl rfl

/-- slices.IndexFunc[[]shiftbell/api.Errno,shiftbell/api.Errno] -/
def wp_slices_IndexFunc_api_Errno_api_Errno (s : Option Addr) (sl : Nat) (sc : Nat) (f : Value) (w : World) (Q : Value → World → Prop) : Prop :=
  ∃ (I0 : Int → World → Prop) (M0 : Int → World → Nat), I0 0 w ∧
  ∀ (k1 : Int) (w2 : World), I0 k1 w2 →
   (((k1 < (sl : Int)) →
    s ≠ none ∧
    (0 : Int) ≤ k1 ∧
    (k1 : Int) < (sl : Int) ∧
    ∃ t3 : Int, cell w2 (pIdx s k1 1) 0 = some (.int .i64 t3) ∧
    ∀ w4, Ext w2 w4 →
    FnVP Tryd.prog f [(.int .i64 t3)] w4 fun v5 w5 =>
     Ext w4 w5 ∧
     ∃ t6 : Bool, v5 = (.bool t6) ∧
     ((t6 = true) →
      ∀ w7, Ext w2 w7 →
      Q (.int .i64 k1) w7) ∧
     ((t6 = false) →
      InR .i64 (k1 + 1) ∧
      (I0 (k1 + 1) w2 ∧ M0 (k1 + 1) w2 < M0 k1 w2)))) ∧
   (((sl : Int) ≤ k1) →
    ∀ w3, Ext w2 w3 →
    Q (.int .i64 (-1)) w3)

theorem ok_slices_IndexFunc_api_Errno_api_Errno (s : Option Addr) (sl : Nat) (sc : Nat) (f : Value) (w : World) (Q : Value → World → Prop) (h : wp_slices_IndexFunc_api_Errno_api_Errno s sl sc f w Q) : FnP Tryd.prog F_slices_IndexFunc_api_Errno_api_Errno #[(.slice s sl sc), f] w Q := by
  have e_ : wp_slices_IndexFunc_api_Errno_api_Errno s sl sc f w Q = Runs Tryd.prog Q ({ N := 19, wrap := [], pub := [], muts := [], joins := [] } : Cfg) Tryd.f55 (Tryd.f55.body.getD .skip) [.sc (.slc s sl sc), .sc (.val f)] w := by kernel_rfl
  rw [e_] at h
  exact runs_fn h Tryd.func55 (by kernel_rfl) (fun args w => Tryd.call55 args w) (by kernel_rfl) (by kernel_rfl) rfl rfl

/-- shiftbell/ask.Label -/
def wp_ask_Label (s : ByteArray) (w : World) (Q : Value → World → Prop) : Prop :=
  ((((s ≠ (⟨#[]⟩ : ByteArray)) ∧ ((s.size : Int) ≤ 20)) →
   (0 : Int) ≤ 0)) ∧
  ((((s ≠ (⟨#[]⟩ : ByteArray)) ∧ ((s.size : Int) ≤ 20)) →
   (0 : Int) < (s.size : Int))) ∧
  (((((s ≠ (⟨#[]⟩ : ByteArray)) ∧ ((s.size : Int) ≤ 20)) ∧ (97 ≤ (sAt s 0))) →
   (0 : Int) ≤ 0)) ∧
  (((((s ≠ (⟨#[]⟩ : ByteArray)) ∧ ((s.size : Int) ≤ 20)) ∧ (97 ≤ (sAt s 0))) →
   (0 : Int) < (s.size : Int))) ∧
  (((((s = (⟨#[]⟩ : ByteArray)) ∨ (20 < (s.size : Int))) ∨ ((sAt s 0) < 97)) ∨ (122 < (sAt s 0))) →
   ∀ w0, Ext w w0 →
   Q (.bool false) w0) ∧
  (((((s ≠ (⟨#[]⟩ : ByteArray)) ∧ ((s.size : Int) ≤ 20)) ∧ (97 ≤ (sAt s 0))) ∧ ((sAt s 0) ≤ 122)) →
   ∀ w0, Ext w w0 →
   Run Tryd.prog (.convert 9 122 (.string s)) w0 fun v1 w1 =>
    Ext w0 w1 ∧
    ∃ t2 : Option Addr, ∃ tl3 : Nat, ∃ tc4 : Nat, v1 = (.slice t2 tl3 tc4) ∧
    ∃ (I5 : Int → World → Prop) (M5 : Int → World → Nat), I5 0 w1 ∧
    ∀ (k6 : Int) (w7 : World), I5 k6 w7 →
     (((k6 < (tl3 : Int)) →
      t2 ≠ none ∧
      (0 : Int) ≤ k6 ∧
      (k6 : Int) < (tl3 : Int) ∧
      ∃ t8 : Int, cell w7 (pIdx t2 k6 1) 0 = some (.int .u8 t8) ∧
      ((((((t8 < 97) ∨ (122 < t8)) ∧ ((t8 < 48) ∨ (57 < t8))) ∧ (t8 ≠ 45)) →
       ∀ w9, Ext w7 w9 →
       Q (.bool false) w9)) ∧
      (((((97 ≤ t8) ∧ (t8 ≤ 122)) ∨ ((48 ≤ t8) ∧ (t8 ≤ 57))) ∨ (t8 = 45)) →
       InR .i64 (k6 + 1) ∧
       (I5 (k6 + 1) w7 ∧ M5 (k6 + 1) w7 < M5 k6 w7)))) ∧
     (((tl3 : Int) ≤ k6) →
      ∀ w8, Ext w7 w8 →
      Q (.bool true) w8))

theorem ok_ask_Label (s : ByteArray) (w : World) (Q : Value → World → Prop) (h : wp_ask_Label s w Q) : FnP Tryd.prog F_ask_Label #[(.string s)] w Q := by
  have e_ : wp_ask_Label s w Q = Runs Tryd.prog Q ({ N := 48, wrap := [], pub := [], muts := [], joins := [] } : Cfg) Tryd.f73 (Tryd.f73.body.getD .skip) [.sc (.str s)] w := by kernel_rfl
  rw [e_] at h
  exact runs_fn h Tryd.func73 (by kernel_rfl) (fun args w => Tryd.call73 args w) (by kernel_rfl) (by kernel_rfl) rfl rfl

/-- shiftbell/ask.count -/
def wp_ask_count (x_0 : Int) (x_1 : ByteArray) (x_2 : ByteArray) (x_3 : Int) (x_4 : Option Addr) (x_4l : Nat) (x_4c : Nat) (w : World) (Q : Value → World → Prop) : Prop :=
  ∀ b0 : Nat, w.heap.size ≤ b0 → ∃ (I1 : Int → Int → World → Prop) (M1 : Int → Int → World → Nat), I1 1 0 w ∧
  ∀ (n2 : Int) (k3 : Int) (w4 : World), I1 n2 k3 w4 →
   (((k3 < (x_4l : Int)) →
    x_4 ≠ none ∧
    (0 : Int) ≤ k3 ∧
    (k3 : Int) < (x_4l : Int) ∧
    (pIdx x_4 k3 5) ≠ none ∧
    ∃ t5 : Int, cell w4 (pIdx x_4 k3 5) 0 = some (.int .i64 t5) ∧
    ∃ t6 : ByteArray, cell w4 (pIdx x_4 k3 5) 1 = some (.string t6) ∧
    ∃ t7 : ByteArray, cell w4 (pIdx x_4 k3 5) 2 = some (.string t7) ∧
    ∃ t8 : Int, cell w4 (pIdx x_4 k3 5) 3 = some (.int .i64 t8) ∧
    ∃ t9 : Option Addr, ∃ tl10 : Nat, ∃ tc11 : Nat, cell w4 (pIdx x_4 k3 5) 4 = some (.slice t9 tl10 tc11) ∧
    ∀ b12 : Nat, w4.heap.size ≤ b12 → ∀ w13, Ext w4 w13 →
    FnP Tryd.prog F_ask_count #[(.agg #[(.int .i64 t5), (.string t6), (.string t7), (.int .i64 t8), (.slice t9 tl10 tc11)])] w13 fun v14 w14 =>
     Ext w13 w14 ∧
     ∃ t15 : Int, v14 = (.int .i64 t15) ∧
     InR .i64 (k3 + 1) ∧
     (I1 (IntKind.wrap .i64 (n2 + t15)) (k3 + 1) w4 ∧ M1 (IntKind.wrap .i64 (n2 + t15)) (k3 + 1) w4 < M1 n2 k3 w4))) ∧
   (((x_4l : Int) ≤ k3) →
    ∀ w5, Ext w4 w5 →
    Q (.int .i64 n2) w5)

theorem ok_ask_count (x_0 : Int) (x_1 : ByteArray) (x_2 : ByteArray) (x_3 : Int) (x_4 : Option Addr) (x_4l : Nat) (x_4c : Nat) (w : World) (Q : Value → World → Prop) (h : wp_ask_count x_0 x_1 x_2 x_3 x_4 x_4l x_4c w Q) : FnP Tryd.prog F_ask_count #[(.agg #[(.int .i64 x_0), (.string x_1), (.string x_2), (.int .i64 x_3), (.slice x_4 x_4l x_4c)])] w Q := by
  have e_ : wp_ask_count x_0 x_1 x_2 x_3 x_4 x_4l x_4c w Q = Runs Tryd.prog Q ({ N := 19, wrap := [16], pub := [], muts := [], joins := [] } : Cfg) Tryd.f36 (Tryd.f36.body.getD .skip) [.agg [.int .i64 x_0, .str x_1, .str x_2, .int .i64 x_3, .slc x_4 x_4l x_4c]] w := by kernel_rfl
  rw [e_] at h
  exact runs_fn h Tryd.func36 (by kernel_rfl) (fun args w => Tryd.call36 args w) (by kernel_rfl) (by kernel_rfl) rfl rfl

/-- shiftbell/ask.Check -/
def wp_ask_Check (x_0 : Int) (x_1 : ByteArray) (x_2 : ByteArray) (x_3 : Int) (x_4 : Option Addr) (x_4l : Nat) (x_4c : Nat) (w : World) (Q : Value → World → Prop) : Prop :=
  ∀ b0 : Nat, w.heap.size ≤ b0 → ∀ w1, Ext w w1 →
  FnP Tryd.prog F_ask_count #[(.agg #[(.int .i64 x_0), (.string x_1), (.string x_2), (.int .i64 x_3), (.slice x_4 x_4l x_4c)])] w1 fun v2 w2 =>
   Ext w1 w2 ∧
   ∃ t3 : Int, v2 = (.int .i64 t3) ∧
   ((60 < t3) →
    ∀ w4, Ext w w4 →
    Q (.int .i64 2) w4) ∧
   ((t3 ≤ 60) →
    ∀ w4, Ext w w4 →
    FnP Tryd.prog F_ask_check #[(.agg #[(.int .i64 x_0), (.string x_1), (.string x_2), (.int .i64 x_3), (.slice x_4 x_4l x_4c)])] w4 fun v5 w5 =>
     Ext w4 w5 ∧
     ∃ t6 : Int, v5 = (.int .i64 t6) ∧
     ∀ w7, Ext w w7 →
     Q (.int .i64 t6) w7)

theorem ok_ask_Check (x_0 : Int) (x_1 : ByteArray) (x_2 : ByteArray) (x_3 : Int) (x_4 : Option Addr) (x_4l : Nat) (x_4c : Nat) (w : World) (Q : Value → World → Prop) (h : wp_ask_Check x_0 x_1 x_2 x_3 x_4 x_4l x_4c w Q) : FnP Tryd.prog F_ask_Check #[(.agg #[(.int .i64 x_0), (.string x_1), (.string x_2), (.int .i64 x_3), (.slice x_4 x_4l x_4c)])] w Q := by
  have e_ : wp_ask_Check x_0 x_1 x_2 x_3 x_4 x_4l x_4c w Q = Runs Tryd.prog Q ({ N := 8, wrap := [], pub := [], muts := [], joins := [] } : Cfg) Tryd.f23 (Tryd.f23.body.getD .skip) [.agg [.int .i64 x_0, .str x_1, .str x_2, .int .i64 x_3, .slc x_4 x_4l x_4c]] w := by kernel_rfl
  rw [e_] at h
  exact runs_fn h Tryd.func23 (by kernel_rfl) (fun args w => Tryd.call23 args w) (by kernel_rfl) (by kernel_rfl) rfl rfl

/-- shiftbell/ask.unit -/
def wp_ask_unit (s : ByteArray) (w : World) (Q : Value → World → Prop) : Prop :=
  ∀ w0, Ext w w0 →
  Q (.bool (((decide (s = (⟨#[99, 112, 117]⟩ : ByteArray))) || (decide (s = (⟨#[109, 101, 109]⟩ : ByteArray)))) || (decide (s = (⟨#[103, 112, 117]⟩ : ByteArray))))) w0

theorem ok_ask_unit (s : ByteArray) (w : World) (Q : Value → World → Prop) (h : wp_ask_unit s w Q) : FnP Tryd.prog F_ask_unit #[(.string s)] w Q := by
  have e_ : wp_ask_unit s w Q = Runs Tryd.prog Q ({ N := 13, wrap := [], pub := [], muts := [], joins := [] } : Cfg) Tryd.f72 (Tryd.f72.body.getD .skip) [.sc (.str s)] w := by kernel_rfl
  rw [e_] at h
  exact runs_fn h Tryd.func72 (by kernel_rfl) (fun args w => Tryd.call72 args w) (by kernel_rfl) (by kernel_rfl) rfl rfl

/-- shiftbell/ask.check -/
def wp_ask_check (x_0 : Int) (x_1 : ByteArray) (x_2 : ByteArray) (x_3 : Int) (x_4 : Option Addr) (x_4l : Nat) (x_4c : Nat) (w : World) (Q : Value → World → Prop) : Prop :=
  ∀ b0 : Nat, w.heap.size ≤ b0 → (((x_0 < 1) ∨ (6 < x_0)) →
   ∀ w1, Ext w w1 →
   Q (.int .i64 1) w1) ∧
  (((1 ≤ x_0) ∧ (x_0 ≤ 6)) →
   ∃ (J1 : Int → Bool → World → Prop), ((((x_0 = 5) →
     (((x_0 = 5) →
      InR .i64 (0 + 1) ∧
      InR .i64 ((0 + 1) + 1) ∧
      J1 ((0 + 1) + 1) false w)) ∧
     ((x_0 ≠ 5) →
      (((x_0 = 4) →
       InR .i64 (0 + 1) ∧
       J1 (0 + 1) false w)) ∧
      ((x_0 ≠ 4) →
       J1 0 true w)))) ∧
    ((x_0 ≠ 5) →
     (((x_0 = 6) →
      InR .i64 (0 + 1) ∧
      InR .i64 ((0 + 1) + 1) ∧
      J1 ((0 + 1) + 1) false w)) ∧
     ((x_0 ≠ 6) →
      (((x_0 = 4) →
       InR .i64 (0 + 1) ∧
       J1 (0 + 1) false w)) ∧
      ((x_0 ≠ 4) →
       J1 0 true w)))) ∧
   ∀ (inner2 : Int) (key3 : Bool) (w4 : World), J1 inner2 key3 w4 →
    (((((((x_4l : Int) ≠ inner2) ∨ ((key3 = false) ∧ (x_1 ≠ (⟨#[]⟩ : ByteArray)))) ∨ ((x_0 ≠ 2) ∧ (x_2 ≠ (⟨#[]⟩ : ByteArray)))) ∨ ((x_0 ≠ 3) ∧ (x_3 ≠ 0))) →
     ∀ w5, Ext w4 w5 →
     Q (.int .i64 1) w5)) ∧
    ((((((x_4l : Int) = inner2) ∧ ((key3 = true) ∨ (x_1 = (⟨#[]⟩ : ByteArray)))) ∧ ((x_0 = 2) ∨ (x_2 = (⟨#[]⟩ : ByteArray)))) ∧ ((x_0 = 3) ∨ (x_3 = 0))) →
     ∃ (J5 : World → Prop), ((((x_0 = 3) →
       ∀ w7, Ext w4 w7 →
       FnP Tryd.prog F_ask_unit #[(.string x_1)] w7 fun v8 w8 =>
        Ext w7 w8 ∧
        ∃ t9 : Bool, v8 = (.bool t9) ∧
        (((t9 = false) →
         ((t9 = false) →
          ∀ w10, Ext w4 w10 →
          Q (.int .i64 3) w10) ∧
         ((t9 = true) →
          (((x_3 < 0) ∨ (1099511627776 < x_3)) →
           ∀ w10, Ext w4 w10 →
           Q (.int .i64 4) w10) ∧
          (((0 ≤ x_3) ∧ (x_3 ≤ 1099511627776)) →
           J5  w4)))) ∧
        ((t9 = true) →
         ((((x_0 = 1) ∨ (x_0 = 2)) →
          ∀ w10, Ext w4 w10 →
          FnP Tryd.prog F_ask_Label #[(.string x_1)] w10 fun v11 w11 =>
           Ext w10 w11 ∧
           ∃ t12 : Bool, v11 = (.bool t12) ∧
           (((t12 = false) →
            ((t12 = false) →
             ∀ w13, Ext w4 w13 →
             Q (.int .i64 3) w13) ∧
            ((t12 = true) →
             (((x_3 < 0) ∨ (1099511627776 < x_3)) →
              ∀ w13, Ext w4 w13 →
              Q (.int .i64 4) w13) ∧
             (((0 ≤ x_3) ∧ (x_3 ≤ 1099511627776)) →
              J5  w4)))) ∧
           ((t12 = true) →
            (((x_0 = 2) →
             ∀ w13, Ext w4 w13 →
             FnP Tryd.prog F_ask_Label #[(.string x_2)] w13 fun v14 w14 =>
              Ext w13 w14 ∧
              ∃ t15 : Bool, v14 = (.bool t15) ∧
              ((t15 = false) →
               ∀ w16, Ext w4 w16 →
               Q (.int .i64 3) w16) ∧
              ((t15 = true) →
               (((x_3 < 0) ∨ (1099511627776 < x_3)) →
                ∀ w16, Ext w4 w16 →
                Q (.int .i64 4) w16) ∧
               (((0 ≤ x_3) ∧ (x_3 ≤ 1099511627776)) →
                J5  w4)))) ∧
            ((x_0 ≠ 2) →
             (((x_3 < 0) ∨ (1099511627776 < x_3)) →
              ∀ w13, Ext w4 w13 →
              Q (.int .i64 4) w13) ∧
             (((0 ≤ x_3) ∧ (x_3 ≤ 1099511627776)) →
              J5  w4))))) ∧
         (((x_0 ≠ 1) ∧ (x_0 ≠ 2)) →
          (((x_0 = 2) →
           ∀ w10, Ext w4 w10 →
           FnP Tryd.prog F_ask_Label #[(.string x_2)] w10 fun v11 w11 =>
            Ext w10 w11 ∧
            ∃ t12 : Bool, v11 = (.bool t12) ∧
            ((t12 = false) →
             ∀ w13, Ext w4 w13 →
             Q (.int .i64 3) w13) ∧
            ((t12 = true) →
             (((x_3 < 0) ∨ (1099511627776 < x_3)) →
              ∀ w13, Ext w4 w13 →
              Q (.int .i64 4) w13) ∧
             (((0 ≤ x_3) ∧ (x_3 ≤ 1099511627776)) →
              J5  w4)))) ∧
          ((x_0 ≠ 2) →
           (((x_3 < 0) ∨ (1099511627776 < x_3)) →
            ∀ w10, Ext w4 w10 →
            Q (.int .i64 4) w10) ∧
           (((0 ≤ x_3) ∧ (x_3 ≤ 1099511627776)) →
            J5  w4)))))) ∧
      ((x_0 ≠ 3) →
       ((((x_0 = 1) ∨ (x_0 = 2)) →
        ∀ w7, Ext w4 w7 →
        FnP Tryd.prog F_ask_Label #[(.string x_1)] w7 fun v8 w8 =>
         Ext w7 w8 ∧
         ∃ t9 : Bool, v8 = (.bool t9) ∧
         (((t9 = false) →
          ((t9 = false) →
           ∀ w10, Ext w4 w10 →
           Q (.int .i64 3) w10) ∧
          ((t9 = true) →
           (((x_3 < 0) ∨ (1099511627776 < x_3)) →
            ∀ w10, Ext w4 w10 →
            Q (.int .i64 4) w10) ∧
           (((0 ≤ x_3) ∧ (x_3 ≤ 1099511627776)) →
            J5  w4)))) ∧
         ((t9 = true) →
          (((x_0 = 2) →
           ∀ w10, Ext w4 w10 →
           FnP Tryd.prog F_ask_Label #[(.string x_2)] w10 fun v11 w11 =>
            Ext w10 w11 ∧
            ∃ t12 : Bool, v11 = (.bool t12) ∧
            ((t12 = false) →
             ∀ w13, Ext w4 w13 →
             Q (.int .i64 3) w13) ∧
            ((t12 = true) →
             (((x_3 < 0) ∨ (1099511627776 < x_3)) →
              ∀ w13, Ext w4 w13 →
              Q (.int .i64 4) w13) ∧
             (((0 ≤ x_3) ∧ (x_3 ≤ 1099511627776)) →
              J5  w4)))) ∧
          ((x_0 ≠ 2) →
           (((x_3 < 0) ∨ (1099511627776 < x_3)) →
            ∀ w10, Ext w4 w10 →
            Q (.int .i64 4) w10) ∧
           (((0 ≤ x_3) ∧ (x_3 ≤ 1099511627776)) →
            J5  w4))))) ∧
       (((x_0 ≠ 1) ∧ (x_0 ≠ 2)) →
        (((x_0 = 2) →
         ∀ w7, Ext w4 w7 →
         FnP Tryd.prog F_ask_Label #[(.string x_2)] w7 fun v8 w8 =>
          Ext w7 w8 ∧
          ∃ t9 : Bool, v8 = (.bool t9) ∧
          ((t9 = false) →
           ∀ w10, Ext w4 w10 →
           Q (.int .i64 3) w10) ∧
          ((t9 = true) →
           (((x_3 < 0) ∨ (1099511627776 < x_3)) →
            ∀ w10, Ext w4 w10 →
            Q (.int .i64 4) w10) ∧
           (((0 ≤ x_3) ∧ (x_3 ≤ 1099511627776)) →
            J5  w4)))) ∧
        ((x_0 ≠ 2) →
         (((x_3 < 0) ∨ (1099511627776 < x_3)) →
          ∀ w7, Ext w4 w7 →
          Q (.int .i64 4) w7) ∧
         (((0 ≤ x_3) ∧ (x_3 ≤ 1099511627776)) →
          J5  w4))))) ∧
     ∀  (w6 : World), J5  w6 →
      ∃ (I7 : Int → World → Prop) (M7 : Int → World → Nat), I7 0 w6 ∧
      ∀ (k8 : Int) (w9 : World), I7 k8 w9 →
       (((k8 < (x_4l : Int)) →
        x_4 ≠ none ∧
        (0 : Int) ≤ k8 ∧
        (k8 : Int) < (x_4l : Int) ∧
        (pIdx x_4 k8 5) ≠ none ∧
        ∃ t10 : Int, cell w9 (pIdx x_4 k8 5) 0 = some (.int .i64 t10) ∧
        ∃ t11 : ByteArray, cell w9 (pIdx x_4 k8 5) 1 = some (.string t11) ∧
        ∃ t12 : ByteArray, cell w9 (pIdx x_4 k8 5) 2 = some (.string t12) ∧
        ∃ t13 : Int, cell w9 (pIdx x_4 k8 5) 3 = some (.int .i64 t13) ∧
        ∃ t14 : Option Addr, ∃ tl15 : Nat, ∃ tc16 : Nat, cell w9 (pIdx x_4 k8 5) 4 = some (.slice t14 tl15 tc16) ∧
        ∀ b17 : Nat, w9.heap.size ≤ b17 → ∀ w18, Ext w9 w18 →
        FnP Tryd.prog F_ask_check #[(.agg #[(.int .i64 t10), (.string t11), (.string t12), (.int .i64 t13), (.slice t14 tl15 tc16)])] w18 fun v19 w19 =>
         Ext w18 w19 ∧
         ∃ t20 : Int, v19 = (.int .i64 t20) ∧
         ((t20 ≠ 0) →
          ∀ w21, Ext w9 w21 →
          Q (.int .i64 t20) w21) ∧
         ((t20 = 0) →
          InR .i64 (k8 + 1) ∧
          (I7 (k8 + 1) w9 ∧ M7 (k8 + 1) w9 < M7 k8 w9)))) ∧
       (((x_4l : Int) ≤ k8) →
        ∀ w10, Ext w9 w10 →
        Q (.int .i64 0) w10)))

theorem ok_ask_check (x_0 : Int) (x_1 : ByteArray) (x_2 : ByteArray) (x_3 : Int) (x_4 : Option Addr) (x_4l : Nat) (x_4c : Nat) (w : World) (Q : Value → World → Prop) (h : wp_ask_check x_0 x_1 x_2 x_3 x_4 x_4l x_4c w Q) : FnP Tryd.prog F_ask_check #[(.agg #[(.int .i64 x_0), (.string x_1), (.string x_2), (.int .i64 x_3), (.slice x_4 x_4l x_4c)])] w Q := by
  have e_ : wp_ask_check x_0 x_1 x_2 x_3 x_4 x_4l x_4c w Q = Runs Tryd.prog Q ({ N := 115, wrap := [], pub := [], muts := [], joins := [(0, [3, 4]), (4, [])] } : Cfg) Tryd.f51 (Tryd.f51.body.getD .skip) [.agg [.int .i64 x_0, .str x_1, .str x_2, .int .i64 x_3, .slc x_4 x_4l x_4c]] w := by kernel_rfl
  rw [e_] at h
  exact runs_fn h Tryd.func51 (by kernel_rfl) (fun args w => Tryd.call51 args w) (by kernel_rfl) (by kernel_rfl) rfl rfl

/-- shiftbell/ask.text -/
def wp_ask_text (x_0 : Int) (x_1 : ByteArray) (x_2 : ByteArray) (x_3 : Int) (x_4 : Option Addr) (x_4l : Nat) (x_4c : Nat) (w : World) (Q : Value → World → Prop) : Prop :=
  ∀ b0 : Nat, w.heap.size ≤ b0 → (((x_0 = 1) →
   CatOk (⟨#[63]⟩ : ByteArray) x_1 ∧
   ∀ w1, Ext w w1 →
   Q (.string ((⟨#[63]⟩ : ByteArray) ++ x_1)) w1)) ∧
  ((x_0 ≠ 1) →
   (((x_0 = 2) →
    CatOk x_1 (⟨#[61]⟩ : ByteArray) ∧
    CatOk (x_1 ++ (⟨#[61]⟩ : ByteArray)) x_2 ∧
    ∀ w1, Ext w w1 →
    Q (.string ((x_1 ++ (⟨#[61]⟩ : ByteArray)) ++ x_2)) w1)) ∧
   ((x_0 ≠ 2) →
    (((x_0 = 3) →
     CatOk x_1 (⟨#[62, 61]⟩ : ByteArray) ∧
     ∀ w1, Ext w w1 →
     FnP Tryd.prog F_strconv_FormatInt #[(.int .i64 x_3), (.int .i64 10)] w1 fun v2 w2 =>
      Ext w1 w2 ∧
      ∃ t3 : ByteArray, v2 = (.string t3) ∧
      CatOk (x_1 ++ (⟨#[62, 61]⟩ : ByteArray)) t3 ∧
      ∀ w4, Ext w w4 →
      Q (.string ((x_1 ++ (⟨#[62, 61]⟩ : ByteArray)) ++ t3)) w4)) ∧
    ((x_0 ≠ 3) →
     (((x_0 = 4) →
      x_4 ≠ none ∧
      (0 : Int) ≤ 0 ∧
      (0 : Int) < (x_4l : Int) ∧
      (pIdx x_4 0 5) ≠ none ∧
      ∃ t1 : Int, cell w (pIdx x_4 0 5) 0 = some (.int .i64 t1) ∧
      ∃ t2 : ByteArray, cell w (pIdx x_4 0 5) 1 = some (.string t2) ∧
      ∃ t3 : ByteArray, cell w (pIdx x_4 0 5) 2 = some (.string t3) ∧
      ∃ t4 : Int, cell w (pIdx x_4 0 5) 3 = some (.int .i64 t4) ∧
      ∃ t5 : Option Addr, ∃ tl6 : Nat, ∃ tc7 : Nat, cell w (pIdx x_4 0 5) 4 = some (.slice t5 tl6 tc7) ∧
      ∀ w8, Ext w w8 →
      FnP Tryd.prog F_ask_text #[(.agg #[(.int .i64 t1), (.string t2), (.string t3), (.int .i64 t4), (.slice t5 tl6 tc7)])] w8 fun v9 w9 =>
       Ext w8 w9 ∧
       ∃ t10 : ByteArray, v9 = (.string t10) ∧
       CatOk (⟨#[33]⟩ : ByteArray) t10 ∧
       ∀ w11, Ext w w11 →
       Q (.string ((⟨#[33]⟩ : ByteArray) ++ t10)) w11)) ∧
     ((x_0 ≠ 4) →
      (((x_0 = 5) →
       x_4 ≠ none ∧
       (0 : Int) ≤ 0 ∧
       (0 : Int) < (x_4l : Int) ∧
       (pIdx x_4 0 5) ≠ none ∧
       ∃ t1 : Int, cell w (pIdx x_4 0 5) 0 = some (.int .i64 t1) ∧
       ∃ t2 : ByteArray, cell w (pIdx x_4 0 5) 1 = some (.string t2) ∧
       ∃ t3 : ByteArray, cell w (pIdx x_4 0 5) 2 = some (.string t3) ∧
       ∃ t4 : Int, cell w (pIdx x_4 0 5) 3 = some (.int .i64 t4) ∧
       ∃ t5 : Option Addr, ∃ tl6 : Nat, ∃ tc7 : Nat, cell w (pIdx x_4 0 5) 4 = some (.slice t5 tl6 tc7) ∧
       x_4 ≠ none ∧
       (0 : Int) ≤ 1 ∧
       (1 : Int) < (x_4l : Int) ∧
       (pIdx x_4 1 5) ≠ none ∧
       ∃ t8 : Int, cell w (pIdx x_4 1 5) 0 = some (.int .i64 t8) ∧
       ∃ t9 : ByteArray, cell w (pIdx x_4 1 5) 1 = some (.string t9) ∧
       ∃ t10 : ByteArray, cell w (pIdx x_4 1 5) 2 = some (.string t10) ∧
       ∃ t11 : Int, cell w (pIdx x_4 1 5) 3 = some (.int .i64 t11) ∧
       ∃ t12 : Option Addr, ∃ tl13 : Nat, ∃ tc14 : Nat, cell w (pIdx x_4 1 5) 4 = some (.slice t12 tl13 tc14) ∧
       ∀ w15, Ext w w15 →
       FnP Tryd.prog F_ask_text #[(.agg #[(.int .i64 t1), (.string t2), (.string t3), (.int .i64 t4), (.slice t5 tl6 tc7)])] w15 fun v16 w16 =>
        Ext w15 w16 ∧
        ∃ t17 : ByteArray, v16 = (.string t17) ∧
        CatOk (⟨#[40]⟩ : ByteArray) t17 ∧
        CatOk ((⟨#[40]⟩ : ByteArray) ++ t17) (⟨#[38]⟩ : ByteArray) ∧
        ∀ w18, Ext w w18 →
        FnP Tryd.prog F_ask_text #[(.agg #[(.int .i64 t8), (.string t9), (.string t10), (.int .i64 t11), (.slice t12 tl13 tc14)])] w18 fun v19 w19 =>
         Ext w18 w19 ∧
         ∃ t20 : ByteArray, v19 = (.string t20) ∧
         CatOk (((⟨#[40]⟩ : ByteArray) ++ t17) ++ (⟨#[38]⟩ : ByteArray)) t20 ∧
         CatOk ((((⟨#[40]⟩ : ByteArray) ++ t17) ++ (⟨#[38]⟩ : ByteArray)) ++ t20) (⟨#[41]⟩ : ByteArray) ∧
         ∀ w21, Ext w w21 →
         Q (.string (((((⟨#[40]⟩ : ByteArray) ++ t17) ++ (⟨#[38]⟩ : ByteArray)) ++ t20) ++ (⟨#[41]⟩ : ByteArray))) w21)) ∧
      ((x_0 ≠ 5) →
       x_4 ≠ none ∧
       (0 : Int) ≤ 0 ∧
       (0 : Int) < (x_4l : Int) ∧
       (pIdx x_4 0 5) ≠ none ∧
       ∃ t1 : Int, cell w (pIdx x_4 0 5) 0 = some (.int .i64 t1) ∧
       ∃ t2 : ByteArray, cell w (pIdx x_4 0 5) 1 = some (.string t2) ∧
       ∃ t3 : ByteArray, cell w (pIdx x_4 0 5) 2 = some (.string t3) ∧
       ∃ t4 : Int, cell w (pIdx x_4 0 5) 3 = some (.int .i64 t4) ∧
       ∃ t5 : Option Addr, ∃ tl6 : Nat, ∃ tc7 : Nat, cell w (pIdx x_4 0 5) 4 = some (.slice t5 tl6 tc7) ∧
       x_4 ≠ none ∧
       (0 : Int) ≤ 1 ∧
       (1 : Int) < (x_4l : Int) ∧
       (pIdx x_4 1 5) ≠ none ∧
       ∃ t8 : Int, cell w (pIdx x_4 1 5) 0 = some (.int .i64 t8) ∧
       ∃ t9 : ByteArray, cell w (pIdx x_4 1 5) 1 = some (.string t9) ∧
       ∃ t10 : ByteArray, cell w (pIdx x_4 1 5) 2 = some (.string t10) ∧
       ∃ t11 : Int, cell w (pIdx x_4 1 5) 3 = some (.int .i64 t11) ∧
       ∃ t12 : Option Addr, ∃ tl13 : Nat, ∃ tc14 : Nat, cell w (pIdx x_4 1 5) 4 = some (.slice t12 tl13 tc14) ∧
       ∀ w15, Ext w w15 →
       FnP Tryd.prog F_ask_text #[(.agg #[(.int .i64 t1), (.string t2), (.string t3), (.int .i64 t4), (.slice t5 tl6 tc7)])] w15 fun v16 w16 =>
        Ext w15 w16 ∧
        ∃ t17 : ByteArray, v16 = (.string t17) ∧
        CatOk (⟨#[40]⟩ : ByteArray) t17 ∧
        CatOk ((⟨#[40]⟩ : ByteArray) ++ t17) (⟨#[124]⟩ : ByteArray) ∧
        ∀ w18, Ext w w18 →
        FnP Tryd.prog F_ask_text #[(.agg #[(.int .i64 t8), (.string t9), (.string t10), (.int .i64 t11), (.slice t12 tl13 tc14)])] w18 fun v19 w19 =>
         Ext w18 w19 ∧
         ∃ t20 : ByteArray, v19 = (.string t20) ∧
         CatOk (((⟨#[40]⟩ : ByteArray) ++ t17) ++ (⟨#[124]⟩ : ByteArray)) t20 ∧
         CatOk ((((⟨#[40]⟩ : ByteArray) ++ t17) ++ (⟨#[124]⟩ : ByteArray)) ++ t20) (⟨#[41]⟩ : ByteArray) ∧
         ∀ w21, Ext w w21 →
         Q (.string (((((⟨#[40]⟩ : ByteArray) ++ t17) ++ (⟨#[124]⟩ : ByteArray)) ++ t20) ++ (⟨#[41]⟩ : ByteArray))) w21)))))

theorem ok_ask_text (x_0 : Int) (x_1 : ByteArray) (x_2 : ByteArray) (x_3 : Int) (x_4 : Option Addr) (x_4l : Nat) (x_4c : Nat) (w : World) (Q : Value → World → Prop) (h : wp_ask_text x_0 x_1 x_2 x_3 x_4 x_4l x_4c w Q) : FnP Tryd.prog F_ask_text #[(.agg #[(.int .i64 x_0), (.string x_1), (.string x_2), (.int .i64 x_3), (.slice x_4 x_4l x_4c)])] w Q := by
  have e_ : wp_ask_text x_0 x_1 x_2 x_3 x_4 x_4l x_4c w Q = Runs Tryd.prog Q ({ N := 65, wrap := [], pub := [], muts := [], joins := [] } : Cfg) Tryd.f27 (Tryd.f27.body.getD .skip) [.agg [.int .i64 x_0, .str x_1, .str x_2, .int .i64 x_3, .slc x_4 x_4l x_4c]] w := by kernel_rfl
  rw [e_] at h
  exact runs_fn h Tryd.func27 (by kernel_rfl) (fun args w => Tryd.call27 args w) (by kernel_rfl) (by kernel_rfl) rfl rfl

/-- shiftbell/ask.Text -/
def wp_ask_Text (x_0 : Int) (x_1 : ByteArray) (x_2 : ByteArray) (x_3 : Int) (x_4 : Option Addr) (x_4l : Nat) (x_4c : Nat) (w : World) (Q : Value → World → Prop) : Prop :=
  ∀ b0 : Nat, w.heap.size ≤ b0 → ∀ w1, Ext w w1 →
  FnP Tryd.prog F_ask_Check #[(.agg #[(.int .i64 x_0), (.string x_1), (.string x_2), (.int .i64 x_3), (.slice x_4 x_4l x_4c)])] w1 fun v2 w2 =>
   Ext w1 w2 ∧
   ∃ t3 : Int, v2 = (.int .i64 t3) ∧
   ((t3 ≠ 0) →
    ∀ w4, Ext w w4 →
    Q (.tuple #[(.string (⟨#[]⟩ : ByteArray)), (.int .i64 t3)]) w4) ∧
   ((t3 = 0) →
    ∀ w4, Ext w w4 →
    FnP Tryd.prog F_ask_text #[(.agg #[(.int .i64 x_0), (.string x_1), (.string x_2), (.int .i64 x_3), (.slice x_4 x_4l x_4c)])] w4 fun v5 w5 =>
     Ext w4 w5 ∧
     ∃ t6 : ByteArray, v5 = (.string t6) ∧
     ∀ w7, Ext w w7 →
     Q (.tuple #[(.string t6), (.int .i64 0)]) w7)

theorem ok_ask_Text (x_0 : Int) (x_1 : ByteArray) (x_2 : ByteArray) (x_3 : Int) (x_4 : Option Addr) (x_4l : Nat) (x_4c : Nat) (w : World) (Q : Value → World → Prop) (h : wp_ask_Text x_0 x_1 x_2 x_3 x_4 x_4l x_4c w Q) : FnP Tryd.prog F_ask_Text #[(.agg #[(.int .i64 x_0), (.string x_1), (.string x_2), (.int .i64 x_3), (.slice x_4 x_4l x_4c)])] w Q := by
  have e_ : wp_ask_Text x_0 x_1 x_2 x_3 x_4 x_4l x_4c w Q = Runs Tryd.prog Q ({ N := 12, wrap := [], pub := [], muts := [], joins := [] } : Cfg) Tryd.f13 (Tryd.f13.body.getD .skip) [.agg [.int .i64 x_0, .str x_1, .str x_2, .int .i64 x_3, .slc x_4 x_4l x_4c]] w := by kernel_rfl
  rw [e_] at h
  exact runs_fn h Tryd.func13 (by kernel_rfl) (fun args w => Tryd.call13 args w) (by kernel_rfl) (by kernel_rfl) rfl rfl

/-- shiftbell/ask.amount -/
def wp_ask_amount (a_0 : Int) (a_1 : Int) (a_2 : Int) (key : ByteArray) (w : World) (Q : Value → World → Prop) : Prop :=
  ∀ b0 : Nat, w.heap.size ≤ b0 → ((key = (⟨#[99, 112, 117]⟩ : ByteArray)) →
   ∀ w1, Ext w w1 →
   Q (.int .i64 a_0) w1) ∧
  ((key ≠ (⟨#[99, 112, 117]⟩ : ByteArray)) →
   ((key = (⟨#[109, 101, 109]⟩ : ByteArray)) →
    ∀ w1, Ext w w1 →
    Q (.int .i64 a_1) w1) ∧
   ((key ≠ (⟨#[109, 101, 109]⟩ : ByteArray)) →
    ∀ w1, Ext w w1 →
    Q (.int .i64 a_2) w1))

theorem ok_ask_amount (a_0 : Int) (a_1 : Int) (a_2 : Int) (key : ByteArray) (w : World) (Q : Value → World → Prop) (h : wp_ask_amount a_0 a_1 a_2 key w Q) : FnP Tryd.prog F_ask_amount #[(.agg #[(.int .i64 a_0), (.int .i64 a_1), (.int .i64 a_2)]), (.string key)] w Q := by
  have e_ : wp_ask_amount a_0 a_1 a_2 key w Q = Runs Tryd.prog Q ({ N := 16, wrap := [], pub := [], muts := [], joins := [] } : Cfg) Tryd.f30 (Tryd.f30.body.getD .skip) [.agg [.int .i64 a_0, .int .i64 a_1, .int .i64 a_2], .sc (.str key)] w := by kernel_rfl
  rw [e_] at h
  exact runs_fn h Tryd.func30 (by kernel_rfl) (fun args w => Tryd.call30 args w) (by kernel_rfl) (by kernel_rfl) rfl rfl

/-- shiftbell/ask.value -/
def wp_ask_value (x_0 : Int) (x_1 : ByteArray) (x_2 : ByteArray) (x_3 : Int) (x_4 : Option Addr) (x_4l : Nat) (x_4c : Nat) (atom : Value) (w : World) (Q : Value → World → Prop) : Prop :=
  ∀ b0 : Nat, w.heap.size ≤ b0 → (((x_0 = 4) →
   x_4 ≠ none ∧
   (0 : Int) ≤ 0 ∧
   (0 : Int) < (x_4l : Int) ∧
   (pIdx x_4 0 5) ≠ none ∧
   ∃ t1 : Int, cell w (pIdx x_4 0 5) 0 = some (.int .i64 t1) ∧
   ∃ t2 : ByteArray, cell w (pIdx x_4 0 5) 1 = some (.string t2) ∧
   ∃ t3 : ByteArray, cell w (pIdx x_4 0 5) 2 = some (.string t3) ∧
   ∃ t4 : Int, cell w (pIdx x_4 0 5) 3 = some (.int .i64 t4) ∧
   ∃ t5 : Option Addr, ∃ tl6 : Nat, ∃ tc7 : Nat, cell w (pIdx x_4 0 5) 4 = some (.slice t5 tl6 tc7) ∧
   ∀ w8, Ext w w8 →
   FnP Tryd.prog F_ask_value #[(.agg #[(.int .i64 t1), (.string t2), (.string t3), (.int .i64 t4), (.slice t5 tl6 tc7)]), atom] w8 fun v9 w9 =>
    Ext w8 w9 ∧
    ∃ t10 : Bool, v9 = (.bool t10) ∧
    ∀ w11, Ext w w11 →
    Q (.bool (!t10)) w11)) ∧
  ((x_0 ≠ 4) →
   (((x_0 = 5) →
    x_4 ≠ none ∧
    (0 : Int) ≤ 0 ∧
    (0 : Int) < (x_4l : Int) ∧
    (pIdx x_4 0 5) ≠ none ∧
    ∃ t1 : Int, cell w (pIdx x_4 0 5) 0 = some (.int .i64 t1) ∧
    ∃ t2 : ByteArray, cell w (pIdx x_4 0 5) 1 = some (.string t2) ∧
    ∃ t3 : ByteArray, cell w (pIdx x_4 0 5) 2 = some (.string t3) ∧
    ∃ t4 : Int, cell w (pIdx x_4 0 5) 3 = some (.int .i64 t4) ∧
    ∃ t5 : Option Addr, ∃ tl6 : Nat, ∃ tc7 : Nat, cell w (pIdx x_4 0 5) 4 = some (.slice t5 tl6 tc7) ∧
    ∀ w8, Ext w w8 →
    FnP Tryd.prog F_ask_value #[(.agg #[(.int .i64 t1), (.string t2), (.string t3), (.int .i64 t4), (.slice t5 tl6 tc7)]), atom] w8 fun v9 w9 =>
     Ext w8 w9 ∧
     ∃ t10 : Bool, v9 = (.bool t10) ∧
     ((t10 = true) →
      x_4 ≠ none) ∧
     ((t10 = true) →
      (0 : Int) ≤ 1) ∧
     ((t10 = true) →
      (1 : Int) < (x_4l : Int)) ∧
     (((t10 = true) →
      (pIdx x_4 1 5) ≠ none ∧
      ∃ t11 : Int, cell w (pIdx x_4 1 5) 0 = some (.int .i64 t11) ∧
      ∃ t12 : ByteArray, cell w (pIdx x_4 1 5) 1 = some (.string t12) ∧
      ∃ t13 : ByteArray, cell w (pIdx x_4 1 5) 2 = some (.string t13) ∧
      ∃ t14 : Int, cell w (pIdx x_4 1 5) 3 = some (.int .i64 t14) ∧
      ∃ t15 : Option Addr, ∃ tl16 : Nat, ∃ tc17 : Nat, cell w (pIdx x_4 1 5) 4 = some (.slice t15 tl16 tc17) ∧
      ∀ w18, Ext w w18 →
      FnP Tryd.prog F_ask_value #[(.agg #[(.int .i64 t11), (.string t12), (.string t13), (.int .i64 t14), (.slice t15 tl16 tc17)]), atom] w18 fun v19 w19 =>
       Ext w18 w19 ∧
       ∃ t20 : Bool, v19 = (.bool t20) ∧
       ∀ w21, Ext w w21 →
       Q (.bool t20) w21)) ∧
     ((t10 = false) →
      ∀ w11, Ext w w11 →
      Q (.bool false) w11))) ∧
   ((x_0 ≠ 5) →
    (((x_0 = 6) →
     x_4 ≠ none ∧
     (0 : Int) ≤ 0 ∧
     (0 : Int) < (x_4l : Int) ∧
     (pIdx x_4 0 5) ≠ none ∧
     ∃ t1 : Int, cell w (pIdx x_4 0 5) 0 = some (.int .i64 t1) ∧
     ∃ t2 : ByteArray, cell w (pIdx x_4 0 5) 1 = some (.string t2) ∧
     ∃ t3 : ByteArray, cell w (pIdx x_4 0 5) 2 = some (.string t3) ∧
     ∃ t4 : Int, cell w (pIdx x_4 0 5) 3 = some (.int .i64 t4) ∧
     ∃ t5 : Option Addr, ∃ tl6 : Nat, ∃ tc7 : Nat, cell w (pIdx x_4 0 5) 4 = some (.slice t5 tl6 tc7) ∧
     ∀ w8, Ext w w8 →
     FnP Tryd.prog F_ask_value #[(.agg #[(.int .i64 t1), (.string t2), (.string t3), (.int .i64 t4), (.slice t5 tl6 tc7)]), atom] w8 fun v9 w9 =>
      Ext w8 w9 ∧
      ∃ t10 : Bool, v9 = (.bool t10) ∧
      ((t10 = false) →
       x_4 ≠ none) ∧
      ((t10 = false) →
       (0 : Int) ≤ 1) ∧
      ((t10 = false) →
       (1 : Int) < (x_4l : Int)) ∧
      ((t10 = true) →
       ∀ w11, Ext w w11 →
       Q (.bool true) w11) ∧
      ((t10 = false) →
       (pIdx x_4 1 5) ≠ none ∧
       ∃ t11 : Int, cell w (pIdx x_4 1 5) 0 = some (.int .i64 t11) ∧
       ∃ t12 : ByteArray, cell w (pIdx x_4 1 5) 1 = some (.string t12) ∧
       ∃ t13 : ByteArray, cell w (pIdx x_4 1 5) 2 = some (.string t13) ∧
       ∃ t14 : Int, cell w (pIdx x_4 1 5) 3 = some (.int .i64 t14) ∧
       ∃ t15 : Option Addr, ∃ tl16 : Nat, ∃ tc17 : Nat, cell w (pIdx x_4 1 5) 4 = some (.slice t15 tl16 tc17) ∧
       ∀ w18, Ext w w18 →
       FnP Tryd.prog F_ask_value #[(.agg #[(.int .i64 t11), (.string t12), (.string t13), (.int .i64 t14), (.slice t15 tl16 tc17)]), atom] w18 fun v19 w19 =>
        Ext w18 w19 ∧
        ∃ t20 : Bool, v19 = (.bool t20) ∧
        ∀ w21, Ext w w21 →
        Q (.bool t20) w21))) ∧
    ((x_0 ≠ 6) →
     ∀ w1, Ext w w1 →
     FnVP Tryd.prog atom [(.agg #[(.int .i64 x_0), (.string x_1), (.string x_2), (.int .i64 x_3), (.slice x_4 x_4l x_4c)])] w1 fun v2 w2 =>
      Ext w1 w2 ∧
      ∃ t3 : Bool, v2 = (.bool t3) ∧
      ∀ w4, Ext w w4 →
      Q (.bool t3) w4)))

theorem ok_ask_value (x_0 : Int) (x_1 : ByteArray) (x_2 : ByteArray) (x_3 : Int) (x_4 : Option Addr) (x_4l : Nat) (x_4c : Nat) (atom : Value) (w : World) (Q : Value → World → Prop) (h : wp_ask_value x_0 x_1 x_2 x_3 x_4 x_4l x_4c atom w Q) : FnP Tryd.prog F_ask_value #[(.agg #[(.int .i64 x_0), (.string x_1), (.string x_2), (.int .i64 x_3), (.slice x_4 x_4l x_4c)]), atom] w Q := by
  have e_ : wp_ask_value x_0 x_1 x_2 x_3 x_4 x_4l x_4c atom w Q = Runs Tryd.prog Q ({ N := 51, wrap := [], pub := [], muts := [], joins := [] } : Cfg) Tryd.f28 (Tryd.f28.body.getD .skip) [.agg [.int .i64 x_0, .str x_1, .str x_2, .int .i64 x_3, .slc x_4 x_4l x_4c], .sc (.val atom)] w := by kernel_rfl
  rw [e_] at h
  exact runs_fn h Tryd.func28 (by kernel_rfl) (fun args w => Tryd.call28 args w) (by kernel_rfl) (by kernel_rfl) rfl rfl

/-- shiftbell/ask.Holds -/
def wp_ask_Holds (x_0 : Int) (x_1 : ByteArray) (x_2 : ByteArray) (x_3 : Int) (x_4 : Option Addr) (x_4l : Nat) (x_4c : Nat) (h_v_0 : ByteArray) (h_v_1 : Option Addr) (h_v_1l : Nat) (h_v_1c : Nat) (h_v_2 : Int) (h_v_3 : Int) (h_v_4 : Int) (h_v_5 : Int) (h_v_6 : Int) (h_v_7 : Int) (w : World) (Q : Value → World → Prop) : Prop :=
  ∀ b0 : Nat, w.heap.size ≤ b0 → ∀ w1, ExtB [] [b0] w w1 →
  New w1 29 [(.string h_v_0), (.slice h_v_1 h_v_1l h_v_1c), (.int .i64 h_v_2), (.int .i64 h_v_3), (.int .i64 h_v_4), (.int .i64 h_v_5), (.int .i64 h_v_6), (.int .i64 h_v_7)] fun p2 w2 =>
   ∀ w3, Ext w2 w3 →
   FnP Tryd.prog F_ask_Check #[(.agg #[(.int .i64 x_0), (.string x_1), (.string x_2), (.int .i64 x_3), (.slice x_4 x_4l x_4c)])] w3 fun v4 w4 =>
    Ext w3 w4 ∧
    ∃ t5 : Int, v4 = (.int .i64 t5) ∧
    ((t5 ≠ 0) →
     ∀ w6, Ext w2 w6 →
     Q (.tuple #[(.bool false), (.int .i64 t5)]) w6) ∧
    ((t5 = 0) →
     ∀ w6, Ext w2 w6 →
     FnP Tryd.prog F_ask_value #[(.agg #[(.int .i64 x_0), (.string x_1), (.string x_2), (.int .i64 x_3), (.slice x_4 x_4l x_4c)]), (.func (.func 29) #[] #[(.pointer p2)])] w6 fun v7 w7 =>
      Ext w6 w7 ∧
      ∃ t8 : Bool, v7 = (.bool t8) ∧
      ∀ w9, Ext w2 w9 →
      Q (.tuple #[(.bool t8), (.int .i64 0)]) w9)

theorem ok_ask_Holds (x_0 : Int) (x_1 : ByteArray) (x_2 : ByteArray) (x_3 : Int) (x_4 : Option Addr) (x_4l : Nat) (x_4c : Nat) (h_v_0 : ByteArray) (h_v_1 : Option Addr) (h_v_1l : Nat) (h_v_1c : Nat) (h_v_2 : Int) (h_v_3 : Int) (h_v_4 : Int) (h_v_5 : Int) (h_v_6 : Int) (h_v_7 : Int) (w : World) (Q : Value → World → Prop) (h : wp_ask_Holds x_0 x_1 x_2 x_3 x_4 x_4l x_4c h_v_0 h_v_1 h_v_1l h_v_1c h_v_2 h_v_3 h_v_4 h_v_5 h_v_6 h_v_7 w Q) : FnP Tryd.prog F_ask_Holds #[(.agg #[(.int .i64 x_0), (.string x_1), (.string x_2), (.int .i64 x_3), (.slice x_4 x_4l x_4c)]), (.agg #[(.string h_v_0), (.slice h_v_1 h_v_1l h_v_1c), (.int .i64 h_v_2), (.int .i64 h_v_3), (.int .i64 h_v_4), (.int .i64 h_v_5), (.int .i64 h_v_6), (.int .i64 h_v_7)])] w Q := by
  have e_ : wp_ask_Holds x_0 x_1 x_2 x_3 x_4 x_4l x_4c h_v_0 h_v_1 h_v_1l h_v_1c h_v_2 h_v_3 h_v_4 h_v_5 h_v_6 h_v_7 w Q = Runs Tryd.prog Q ({ N := 15, wrap := [], pub := [3], muts := [], joins := [] } : Cfg) Tryd.f10 (Tryd.f10.body.getD .skip) [.agg [.int .i64 x_0, .str x_1, .str x_2, .int .i64 x_3, .slc x_4 x_4l x_4c], .agg [.str h_v_0, .slc h_v_1 h_v_1l h_v_1c, .int .i64 h_v_2, .int .i64 h_v_3, .int .i64 h_v_4, .int .i64 h_v_5, .int .i64 h_v_6, .int .i64 h_v_7]] w := by kernel_rfl
  rw [e_] at h
  exact runs_fn h Tryd.func10 (by kernel_rfl) (fun args w => Tryd.call10 args w) (by kernel_rfl) (by kernel_rfl) rfl rfl

/-- shiftbell/ask.Holds$1 -/
def wp_ask_Holds_1 (x_0 : Int) (x_1 : ByteArray) (x_2 : ByteArray) (x_3 : Int) (x_4 : Option Addr) (x_4l : Nat) (x_4c : Nat) (c0 : Option Addr) (w : World) (Q : Value → World → Prop) : Prop :=
  ∀ w0, Ext w w0 →
  New w0 24 [(.int .i64 x_0), (.string x_1), (.string x_2), (.int .i64 x_3), (.slice x_4 x_4l x_4c)] fun p1 w1 =>
   p1 ≠ none ∧
   ∃ t2 : Int, cell w1 (pAdd p1 0) 0 = some (.int .i64 t2) ∧
   (((t2 = 3) →
    c0 ≠ none ∧
    (pAdd c0 2) ≠ none ∧
    ∃ t3 : Int, cell w1 (pAdd c0 2) 0 = some (.int .i64 t3) ∧
    ∃ t4 : Int, cell w1 (pAdd c0 2) 1 = some (.int .i64 t4) ∧
    ∃ t5 : Int, cell w1 (pAdd c0 2) 2 = some (.int .i64 t5) ∧
    p1 ≠ none ∧
    ∃ t6 : ByteArray, cell w1 (pAdd p1 1) 0 = some (.string t6) ∧
    p1 ≠ none ∧
    ∃ t7 : Int, cell w1 (pAdd p1 3) 0 = some (.int .i64 t7) ∧
    ∀ w8, Ext w1 w8 →
    FnP Tryd.prog F_ask_amount #[(.agg #[(.int .i64 t3), (.int .i64 t4), (.int .i64 t5)]), (.string t6)] w8 fun v9 w9 =>
     Ext w8 w9 ∧
     ∃ t10 : Int, v9 = (.int .i64 t10) ∧
     ∀ w11, Ext w1 w11 →
     Q (.bool (decide (t7 ≤ t10))) w11)) ∧
   ((t2 ≠ 3) →
    c0 ≠ none ∧
    ∃ t3 : Option Addr, ∃ tl4 : Nat, ∃ tc5 : Nat, cell w1 (pAdd c0 1) 0 = some (.slice t3 tl4 tc5) ∧
    ∀ w6, Ext w1 w6 →
    FnP Tryd.prog F_slices_ContainsFunc_api_Label_api_Label #[(.slice t3 tl4 tc5), (.func (.func 32) #[] #[(.pointer p1)])] w6 fun v7 w7 =>
     Ext w6 w7 ∧
     ∃ t8 : Bool, v7 = (.bool t8) ∧
     ∀ w9, Ext w1 w9 →
     Q (.bool t8) w9)

theorem ok_ask_Holds_1 (x_0 : Int) (x_1 : ByteArray) (x_2 : ByteArray) (x_3 : Int) (x_4 : Option Addr) (x_4l : Nat) (x_4c : Nat) (c0 : Option Addr) (w : World) (Q : Value → World → Prop) (h : wp_ask_Holds_1 x_0 x_1 x_2 x_3 x_4 x_4l x_4c c0 w Q) : FnP Tryd.prog F_ask_Holds_1 #[(.agg #[(.int .i64 x_0), (.string x_1), (.string x_2), (.int .i64 x_3), (.slice x_4 x_4l x_4c)]), (.pointer c0)] w Q := by
  have e_ : wp_ask_Holds_1 x_0 x_1 x_2 x_3 x_4 x_4l x_4c c0 w Q = Runs Tryd.prog Q ({ N := 19, wrap := [], pub := [2], muts := [], joins := [] } : Cfg) Tryd.f29 (Tryd.f29.body.getD .skip) [.agg [.int .i64 x_0, .str x_1, .str x_2, .int .i64 x_3, .slc x_4 x_4l x_4c], .sc (.ptr c0)] w := by kernel_rfl
  rw [e_] at h
  exact runs_fn h Tryd.func29 (by kernel_rfl) (fun args w => Tryd.call29 args w) (by kernel_rfl) (by kernel_rfl) rfl rfl

/-- shiftbell/ask.Holds$1$1 -/
def wp_ask_Holds_1_1 (l_0 : ByteArray) (l_1 : ByteArray) (c0 : Option Addr) (w : World) (Q : Value → World → Prop) : Prop :=
  ∀ b0 : Nat, w.heap.size ≤ b0 → c0 ≠ none ∧
  ∃ t1 : ByteArray, cell w (pAdd c0 1) 0 = some (.string t1) ∧
  ((l_0 = t1) →
   c0 ≠ none) ∧
  (((l_0 = t1) →
   ∃ t2 : Int, cell w (pAdd c0 0) 0 = some (.int .i64 t2) ∧
   ((t2 ≠ 1) →
    c0 ≠ none) ∧
   ((t2 = 1) →
    ∀ w3, Ext w w3 →
    Q (.bool true) w3) ∧
   ((t2 ≠ 1) →
    ∃ t3 : ByteArray, cell w (pAdd c0 2) 0 = some (.string t3) ∧
    ∀ w4, Ext w w4 →
    Q (.bool (decide (l_1 = t3))) w4))) ∧
  ((l_0 ≠ t1) →
   ∀ w2, Ext w w2 →
   Q (.bool false) w2)

theorem ok_ask_Holds_1_1 (l_0 : ByteArray) (l_1 : ByteArray) (c0 : Option Addr) (w : World) (Q : Value → World → Prop) (h : wp_ask_Holds_1_1 l_0 l_1 c0 w Q) : FnP Tryd.prog F_ask_Holds_1_1 #[(.agg #[(.string l_0), (.string l_1)]), (.pointer c0)] w Q := by
  have e_ : wp_ask_Holds_1_1 l_0 l_1 c0 w Q = Runs Tryd.prog Q ({ N := 21, wrap := [], pub := [], muts := [], joins := [] } : Cfg) Tryd.f32 (Tryd.f32.body.getD .skip) [.agg [.str l_0, .str l_1], .sc (.ptr c0)] w := by kernel_rfl
  rw [e_] at h
  exact runs_fn h Tryd.func32 (by kernel_rfl) (fun args w => Tryd.call32 args w) (by kernel_rfl) (by kernel_rfl) rfl rfl

/-- slices.ContainsFunc[[]shiftbell/api.Label,shiftbell/api.Label] -/
def wp_slices_ContainsFunc_api_Label_api_Label (s : Option Addr) (sl : Nat) (sc : Nat) (f : Value) (w : World) (Q : Value → World → Prop) : Prop :=
  ∀ w0, Ext w w0 →
  FnP Tryd.prog F_slices_IndexFunc_api_Label_api_Label #[(.slice s sl sc), f] w0 fun v1 w1 =>
   Ext w0 w1 ∧
   ∃ t2 : Int, v1 = (.int .i64 t2) ∧
   ∀ w3, Ext w w3 →
   Q (.bool (decide (0 ≤ t2))) w3

theorem ok_slices_ContainsFunc_api_Label_api_Label (s : Option Addr) (sl : Nat) (sc : Nat) (f : Value) (w : World) (Q : Value → World → Prop) (h : wp_slices_ContainsFunc_api_Label_api_Label s sl sc f w Q) : FnP Tryd.prog F_slices_ContainsFunc_api_Label_api_Label #[(.slice s sl sc), f] w Q := by
  have e_ : wp_slices_ContainsFunc_api_Label_api_Label s sl sc f w Q = Runs Tryd.prog Q ({ N := 9, wrap := [], pub := [], muts := [], joins := [] } : Cfg) Tryd.f31 (Tryd.f31.body.getD .skip) [.sc (.slc s sl sc), .sc (.val f)] w := by kernel_rfl
  rw [e_] at h
  exact runs_fn h Tryd.func31 (by kernel_rfl) (fun args w => Tryd.call31 args w) (by kernel_rfl) (by kernel_rfl) rfl rfl

/-- slices.IndexFunc[[]shiftbell/api.Label,shiftbell/api.Label] -/
def wp_slices_IndexFunc_api_Label_api_Label (s : Option Addr) (sl : Nat) (sc : Nat) (f : Value) (w : World) (Q : Value → World → Prop) : Prop :=
  ∃ (I0 : Int → World → Prop) (M0 : Int → World → Nat), I0 0 w ∧
  ∀ (k1 : Int) (w2 : World), I0 k1 w2 →
   (((k1 < (sl : Int)) →
    s ≠ none ∧
    (0 : Int) ≤ k1 ∧
    (k1 : Int) < (sl : Int) ∧
    (pIdx s k1 2) ≠ none ∧
    ∃ t3 : ByteArray, cell w2 (pIdx s k1 2) 0 = some (.string t3) ∧
    ∃ t4 : ByteArray, cell w2 (pIdx s k1 2) 1 = some (.string t4) ∧
    ∀ w5, Ext w2 w5 →
    FnVP Tryd.prog f [(.agg #[(.string t3), (.string t4)])] w5 fun v6 w6 =>
     Ext w5 w6 ∧
     ∃ t7 : Bool, v6 = (.bool t7) ∧
     ((t7 = true) →
      ∀ w8, Ext w2 w8 →
      Q (.int .i64 k1) w8) ∧
     ((t7 = false) →
      InR .i64 (k1 + 1) ∧
      (I0 (k1 + 1) w2 ∧ M0 (k1 + 1) w2 < M0 k1 w2)))) ∧
   (((sl : Int) ≤ k1) →
    ∀ w3, Ext w2 w3 →
    Q (.int .i64 (-1)) w3)

theorem ok_slices_IndexFunc_api_Label_api_Label (s : Option Addr) (sl : Nat) (sc : Nat) (f : Value) (w : World) (Q : Value → World → Prop) (h : wp_slices_IndexFunc_api_Label_api_Label s sl sc f w Q) : FnP Tryd.prog F_slices_IndexFunc_api_Label_api_Label #[(.slice s sl sc), f] w Q := by
  have e_ : wp_slices_IndexFunc_api_Label_api_Label s sl sc f w Q = Runs Tryd.prog Q ({ N := 19, wrap := [], pub := [], muts := [], joins := [] } : Cfg) Tryd.f54 (Tryd.f54.body.getD .skip) [.sc (.slc s sl sc), .sc (.val f)] w := by kernel_rfl
  rw [e_] at h
  exact runs_fn h Tryd.func54 (by kernel_rfl) (fun args w => Tryd.call54 args w) (by kernel_rfl) (by kernel_rfl) rfl rfl

/-- shiftbell/shiftbellkeep.asks -/
def wp_shiftbellkeep_asks  (w : World) (Q : Value → World → Prop) : Prop :=
  ∀ w0, Ext w w0 →
  FnP Tryd.prog F_ask_Text #[(.agg #[(.int .i64 1), (.string (⟨#[97]⟩ : ByteArray)), (.string (⟨#[]⟩ : ByteArray)), (.int .i64 0), (.slice none 0 0)])] w0 fun v1 w1 =>
   Ext w0 w1 ∧
   ∃ t2 : ByteArray, ∃ t3 : Int, v1 = (.tuple #[(.string t2), (.int .i64 t3)]) ∧
   ∀ w4, Ext w w4 →
   Q (.bool ((decide (t3 = 0)) && (decide (t2 = (⟨#[63, 97]⟩ : ByteArray))))) w4

theorem ok_shiftbellkeep_asks  (w : World) (Q : Value → World → Prop) (h : wp_shiftbellkeep_asks  w Q) : FnP Tryd.prog F_shiftbellkeep_asks #[] w Q := by
  have e_ : wp_shiftbellkeep_asks  w Q = Runs Tryd.prog Q ({ N := 14, wrap := [], pub := [], muts := [], joins := [] } : Cfg) Tryd.f8 (Tryd.f8.body.getD .skip) [] w := by kernel_rfl
  rw [e_] at h
  exact runs_fn h Tryd.func8 (by kernel_rfl) (fun args w => Tryd.call8 args w) (by kernel_rfl) (by kernel_rfl) rfl rfl

/-- shiftbell/ask.Norm -/
def wp_ask_Norm (x_0 : Int) (x_1 : ByteArray) (x_2 : ByteArray) (x_3 : Int) (x_4 : Option Addr) (x_4l : Nat) (x_4c : Nat) (w : World) (Q : Value → World → Prop) : Prop :=
  ∀ b0 : Nat, w.heap.size ≤ b0 → ∀ b1 : Nat, w.heap.size ≤ b1 → ∀ w2, Ext w w2 →
  FnP Tryd.prog F_ask_Check #[(.agg #[(.int .i64 x_0), (.string x_1), (.string x_2), (.int .i64 x_3), (.slice x_4 x_4l x_4c)])] w2 fun v3 w3 =>
   Ext w2 w3 ∧
   ∃ t4 : Int, v3 = (.int .i64 t4) ∧
   ((t4 ≠ 0) →
    ∀ w5, Ext w w5 →
    Q (.tuple #[(.agg #[(.int .i64 0), (.string (⟨#[]⟩ : ByteArray)), (.string (⟨#[]⟩ : ByteArray)), (.int .i64 0), (.slice none 0 0)]), (.int .i64 t4)]) w5) ∧
   ((t4 = 0) →
    ∀ w5, ExtB [] [b0, b1] w w5 →
    FnP Tryd.prog F_ask_norm #[(.agg #[(.int .i64 x_0), (.string x_1), (.string x_2), (.int .i64 x_3), (.slice x_4 x_4l x_4c)]), (.bool false)] w5 fun v6 w6 =>
     Ext w5 w6 ∧
     ∃ t_07 : Int, ∃ t_18 : ByteArray, ∃ t_29 : ByteArray, ∃ t_310 : Int, ∃ t_411 : Option Addr, ∃ t_4l12 : Nat, ∃ t_4c13 : Nat, v6 = (.agg #[(.int .i64 t_07), (.string t_18), (.string t_29), (.int .i64 t_310), (.slice t_411 t_4l12 t_4c13)]) ∧
     ∀ b14 : Nat, w6.heap.size ≤ b14 → ∀ w15, Ext w6 w15 →
     FnP Tryd.prog F_ask_count #[(.agg #[(.int .i64 t_07), (.string t_18), (.string t_29), (.int .i64 t_310), (.slice t_411 t_4l12 t_4c13)])] w15 fun v16 w16 =>
      Ext w15 w16 ∧
      ∃ t17 : Int, v16 = (.int .i64 t17) ∧
      ((60 < t17) →
       ∀ w18, ExtB [b1] [] w6 w18 →
       Q (.tuple #[(.agg #[(.int .i64 0), (.string (⟨#[]⟩ : ByteArray)), (.string (⟨#[]⟩ : ByteArray)), (.int .i64 0), (.slice none 0 0)]), (.int .i64 2)]) w18) ∧
      ((t17 ≤ 60) →
       ∀ w18, ExtB [b1] [] w6 w18 →
       Q (.tuple #[(.agg #[(.int .i64 t_07), (.string t_18), (.string t_29), (.int .i64 t_310), (.slice t_411 t_4l12 t_4c13)]), (.int .i64 0)]) w18))

theorem ok_ask_Norm (x_0 : Int) (x_1 : ByteArray) (x_2 : ByteArray) (x_3 : Int) (x_4 : Option Addr) (x_4l : Nat) (x_4c : Nat) (w : World) (Q : Value → World → Prop) (h : wp_ask_Norm x_0 x_1 x_2 x_3 x_4 x_4l x_4c w Q) : FnP Tryd.prog F_ask_Norm #[(.agg #[(.int .i64 x_0), (.string x_1), (.string x_2), (.int .i64 x_3), (.slice x_4 x_4l x_4c)])] w Q := by
  have e_ : wp_ask_Norm x_0 x_1 x_2 x_3 x_4 x_4l x_4c w Q = Runs Tryd.prog Q ({ N := 19, wrap := [], pub := [], muts := [], joins := [] } : Cfg) Tryd.f12 (Tryd.f12.body.getD .skip) [.agg [.int .i64 x_0, .str x_1, .str x_2, .int .i64 x_3, .slc x_4 x_4l x_4c]] w := by kernel_rfl
  rw [e_] at h
  exact runs_fn h Tryd.func12 (by kernel_rfl) (fun args w => Tryd.call12 args w) (by kernel_rfl) (by kernel_rfl) rfl rfl

/-- shiftbell/ask.norm -/
def wp_ask_norm (x_0 : Int) (x_1 : ByteArray) (x_2 : ByteArray) (x_3 : Int) (x_4 : Option Addr) (x_4l : Nat) (x_4c : Nat) (not : Bool) (w : World) (Q : Value → World → Prop) : Prop :=
  ∀ b0 : Nat, w.heap.size ≤ b0 → ∀ b1 : Nat, w.heap.size ≤ b1 → (((x_0 = 4) →
   x_4 ≠ none ∧
   (0 : Int) ≤ 0 ∧
   (0 : Int) < (x_4l : Int) ∧
   (pIdx x_4 0 5) ≠ none ∧
   ∃ t2 : Int, cell w (pIdx x_4 0 5) 0 = some (.int .i64 t2) ∧
   ∃ t3 : ByteArray, cell w (pIdx x_4 0 5) 1 = some (.string t3) ∧
   ∃ t4 : ByteArray, cell w (pIdx x_4 0 5) 2 = some (.string t4) ∧
   ∃ t5 : Int, cell w (pIdx x_4 0 5) 3 = some (.int .i64 t5) ∧
   ∃ t6 : Option Addr, ∃ tl7 : Nat, ∃ tc8 : Nat, cell w (pIdx x_4 0 5) 4 = some (.slice t6 tl7 tc8) ∧
   ∀ w9, ExtB [] [b0, b1] w w9 →
   FnP Tryd.prog F_ask_norm #[(.agg #[(.int .i64 t2), (.string t3), (.string t4), (.int .i64 t5), (.slice t6 tl7 tc8)]), (.bool (!not))] w9 fun v10 w10 =>
    Ext w9 w10 ∧
    ∃ t_011 : Int, ∃ t_112 : ByteArray, ∃ t_213 : ByteArray, ∃ t_314 : Int, ∃ t_415 : Option Addr, ∃ t_4l16 : Nat, ∃ t_4c17 : Nat, v10 = (.agg #[(.int .i64 t_011), (.string t_112), (.string t_213), (.int .i64 t_314), (.slice t_415 t_4l16 t_4c17)]) ∧
    ∀ w18, ExtB [b1] [] w10 w18 →
    Q (.agg #[(.int .i64 t_011), (.string t_112), (.string t_213), (.int .i64 t_314), (.slice t_415 t_4l16 t_4c17)]) w18)) ∧
  ((x_0 ≠ 4) →
   (((x_0 = 5) →
    (((x_0 = 5) →
     (((not = true) →
      InR .i64 (11 - x_0) ∧
      x_4 ≠ none ∧
      (0 : Int) ≤ 0 ∧
      (0 : Int) < (x_4l : Int) ∧
      (pIdx x_4 0 5) ≠ none ∧
      ∃ t2 : Int, cell w (pIdx x_4 0 5) 0 = some (.int .i64 t2) ∧
      ∃ t3 : ByteArray, cell w (pIdx x_4 0 5) 1 = some (.string t3) ∧
      ∃ t4 : ByteArray, cell w (pIdx x_4 0 5) 2 = some (.string t4) ∧
      ∃ t5 : Int, cell w (pIdx x_4 0 5) 3 = some (.int .i64 t5) ∧
      ∃ t6 : Option Addr, ∃ tl7 : Nat, ∃ tc8 : Nat, cell w (pIdx x_4 0 5) 4 = some (.slice t6 tl7 tc8) ∧
      x_4 ≠ none ∧
      (0 : Int) ≤ 1 ∧
      (1 : Int) < (x_4l : Int) ∧
      (pIdx x_4 1 5) ≠ none ∧
      ∃ t9 : Int, cell w (pIdx x_4 1 5) 0 = some (.int .i64 t9) ∧
      ∃ t10 : ByteArray, cell w (pIdx x_4 1 5) 1 = some (.string t10) ∧
      ∃ t11 : ByteArray, cell w (pIdx x_4 1 5) 2 = some (.string t11) ∧
      ∃ t12 : Int, cell w (pIdx x_4 1 5) 3 = some (.int .i64 t12) ∧
      ∃ t13 : Option Addr, ∃ tl14 : Nat, ∃ tc15 : Nat, cell w (pIdx x_4 1 5) 4 = some (.slice t13 tl14 tc15) ∧
      ∀ w16, ExtB [] [b0, b1] w w16 →
      FnP Tryd.prog F_ask_norm #[(.agg #[(.int .i64 t2), (.string t3), (.string t4), (.int .i64 t5), (.slice t6 tl7 tc8)]), (.bool not)] w16 fun v17 w17 =>
       Ext w16 w17 ∧
       ∃ t_018 : Int, ∃ t_119 : ByteArray, ∃ t_220 : ByteArray, ∃ t_321 : Int, ∃ t_422 : Option Addr, ∃ t_4l23 : Nat, ∃ t_4c24 : Nat, v17 = (.agg #[(.int .i64 t_018), (.string t_119), (.string t_220), (.int .i64 t_321), (.slice t_422 t_4l23 t_4c24)]) ∧
       ∀ w25, ExtB [] [b0, b1] w17 w25 →
       FnP Tryd.prog F_ask_norm #[(.agg #[(.int .i64 t9), (.string t10), (.string t11), (.int .i64 t12), (.slice t13 tl14 tc15)]), (.bool not)] w25 fun v26 w26 =>
        Ext w25 w26 ∧
        ∃ t_027 : Int, ∃ t_128 : ByteArray, ∃ t_229 : ByteArray, ∃ t_330 : Int, ∃ t_431 : Option Addr, ∃ t_4l32 : Nat, ∃ t_4c33 : Nat, v26 = (.agg #[(.int .i64 t_027), (.string t_128), (.string t_229), (.int .i64 t_330), (.slice t_431 t_4l32 t_4c33)]) ∧
        ∀ w34, ExtB [] [b0, b1] w26 w34 →
        Run Tryd.prog (.buildSlice 22 2 [(0, (.agg #[(.int .i64 t_018), (.string t_119), (.string t_220), (.int .i64 t_321), (.slice t_422 t_4l23 t_4c24)])), (1, (.agg #[(.int .i64 t_027), (.string t_128), (.string t_229), (.int .i64 t_330), (.slice t_431 t_4l32 t_4c33)]))]) w34 fun v35 w35 =>
         Ext w34 w35 ∧
         ∃ t36 : Option Addr, ∃ tl37 : Nat, ∃ tc38 : Nat, v35 = (.slice t36 tl37 tc38) ∧
         ∀ w39, ExtB [b1] [] w35 w39 →
         Q (.agg #[(.int .i64 (11 - x_0)), (.string (⟨#[]⟩ : ByteArray)), (.string (⟨#[]⟩ : ByteArray)), (.int .i64 0), (.slice t36 tl37 tc38)]) w39)) ∧
     ((not = false) →
      x_4 ≠ none ∧
      (0 : Int) ≤ 0 ∧
      (0 : Int) < (x_4l : Int) ∧
      (pIdx x_4 0 5) ≠ none ∧
      ∃ t2 : Int, cell w (pIdx x_4 0 5) 0 = some (.int .i64 t2) ∧
      ∃ t3 : ByteArray, cell w (pIdx x_4 0 5) 1 = some (.string t3) ∧
      ∃ t4 : ByteArray, cell w (pIdx x_4 0 5) 2 = some (.string t4) ∧
      ∃ t5 : Int, cell w (pIdx x_4 0 5) 3 = some (.int .i64 t5) ∧
      ∃ t6 : Option Addr, ∃ tl7 : Nat, ∃ tc8 : Nat, cell w (pIdx x_4 0 5) 4 = some (.slice t6 tl7 tc8) ∧
      x_4 ≠ none ∧
      (0 : Int) ≤ 1 ∧
      (1 : Int) < (x_4l : Int) ∧
      (pIdx x_4 1 5) ≠ none ∧
      ∃ t9 : Int, cell w (pIdx x_4 1 5) 0 = some (.int .i64 t9) ∧
      ∃ t10 : ByteArray, cell w (pIdx x_4 1 5) 1 = some (.string t10) ∧
      ∃ t11 : ByteArray, cell w (pIdx x_4 1 5) 2 = some (.string t11) ∧
      ∃ t12 : Int, cell w (pIdx x_4 1 5) 3 = some (.int .i64 t12) ∧
      ∃ t13 : Option Addr, ∃ tl14 : Nat, ∃ tc15 : Nat, cell w (pIdx x_4 1 5) 4 = some (.slice t13 tl14 tc15) ∧
      ∀ w16, ExtB [] [b0, b1] w w16 →
      FnP Tryd.prog F_ask_norm #[(.agg #[(.int .i64 t2), (.string t3), (.string t4), (.int .i64 t5), (.slice t6 tl7 tc8)]), (.bool not)] w16 fun v17 w17 =>
       Ext w16 w17 ∧
       ∃ t_018 : Int, ∃ t_119 : ByteArray, ∃ t_220 : ByteArray, ∃ t_321 : Int, ∃ t_422 : Option Addr, ∃ t_4l23 : Nat, ∃ t_4c24 : Nat, v17 = (.agg #[(.int .i64 t_018), (.string t_119), (.string t_220), (.int .i64 t_321), (.slice t_422 t_4l23 t_4c24)]) ∧
       ∀ w25, ExtB [] [b0, b1] w17 w25 →
       FnP Tryd.prog F_ask_norm #[(.agg #[(.int .i64 t9), (.string t10), (.string t11), (.int .i64 t12), (.slice t13 tl14 tc15)]), (.bool not)] w25 fun v26 w26 =>
        Ext w25 w26 ∧
        ∃ t_027 : Int, ∃ t_128 : ByteArray, ∃ t_229 : ByteArray, ∃ t_330 : Int, ∃ t_431 : Option Addr, ∃ t_4l32 : Nat, ∃ t_4c33 : Nat, v26 = (.agg #[(.int .i64 t_027), (.string t_128), (.string t_229), (.int .i64 t_330), (.slice t_431 t_4l32 t_4c33)]) ∧
        ∀ w34, ExtB [] [b0, b1] w26 w34 →
        Run Tryd.prog (.buildSlice 22 2 [(0, (.agg #[(.int .i64 t_018), (.string t_119), (.string t_220), (.int .i64 t_321), (.slice t_422 t_4l23 t_4c24)])), (1, (.agg #[(.int .i64 t_027), (.string t_128), (.string t_229), (.int .i64 t_330), (.slice t_431 t_4l32 t_4c33)]))]) w34 fun v35 w35 =>
         Ext w34 w35 ∧
         ∃ t36 : Option Addr, ∃ tl37 : Nat, ∃ tc38 : Nat, v35 = (.slice t36 tl37 tc38) ∧
         ∀ w39, ExtB [b1] [] w35 w39 →
         Q (.agg #[(.int .i64 x_0), (.string (⟨#[]⟩ : ByteArray)), (.string (⟨#[]⟩ : ByteArray)), (.int .i64 0), (.slice t36 tl37 tc38)]) w39))) ∧
    ((x_0 ≠ 5) →
     (((not = true) →
      ∀ w2, ExtB [] [b0, b1] w w2 →
      Run Tryd.prog (.buildSlice 22 1 [(0, (.agg #[(.int .i64 x_0), (.string x_1), (.string x_2), (.int .i64 x_3), (.slice x_4 x_4l x_4c)]))]) w2 fun v3 w3 =>
       Ext w2 w3 ∧
       ∃ t4 : Option Addr, ∃ tl5 : Nat, ∃ tc6 : Nat, v3 = (.slice t4 tl5 tc6) ∧
       ∀ w7, ExtB [b1] [] w3 w7 →
       Q (.agg #[(.int .i64 4), (.string (⟨#[]⟩ : ByteArray)), (.string (⟨#[]⟩ : ByteArray)), (.int .i64 0), (.slice t4 tl5 tc6)]) w7)) ∧
     ((not = false) →
      ∀ w2, Ext w w2 →
      Q (.agg #[(.int .i64 x_0), (.string x_1), (.string x_2), (.int .i64 x_3), (.slice x_4 x_4l x_4c)]) w2)))) ∧
   ((x_0 ≠ 5) →
    (((x_0 = 6) →
     (((not = true) →
      InR .i64 (11 - x_0) ∧
      x_4 ≠ none ∧
      (0 : Int) ≤ 0 ∧
      (0 : Int) < (x_4l : Int) ∧
      (pIdx x_4 0 5) ≠ none ∧
      ∃ t2 : Int, cell w (pIdx x_4 0 5) 0 = some (.int .i64 t2) ∧
      ∃ t3 : ByteArray, cell w (pIdx x_4 0 5) 1 = some (.string t3) ∧
      ∃ t4 : ByteArray, cell w (pIdx x_4 0 5) 2 = some (.string t4) ∧
      ∃ t5 : Int, cell w (pIdx x_4 0 5) 3 = some (.int .i64 t5) ∧
      ∃ t6 : Option Addr, ∃ tl7 : Nat, ∃ tc8 : Nat, cell w (pIdx x_4 0 5) 4 = some (.slice t6 tl7 tc8) ∧
      x_4 ≠ none ∧
      (0 : Int) ≤ 1 ∧
      (1 : Int) < (x_4l : Int) ∧
      (pIdx x_4 1 5) ≠ none ∧
      ∃ t9 : Int, cell w (pIdx x_4 1 5) 0 = some (.int .i64 t9) ∧
      ∃ t10 : ByteArray, cell w (pIdx x_4 1 5) 1 = some (.string t10) ∧
      ∃ t11 : ByteArray, cell w (pIdx x_4 1 5) 2 = some (.string t11) ∧
      ∃ t12 : Int, cell w (pIdx x_4 1 5) 3 = some (.int .i64 t12) ∧
      ∃ t13 : Option Addr, ∃ tl14 : Nat, ∃ tc15 : Nat, cell w (pIdx x_4 1 5) 4 = some (.slice t13 tl14 tc15) ∧
      ∀ w16, ExtB [] [b0, b1] w w16 →
      FnP Tryd.prog F_ask_norm #[(.agg #[(.int .i64 t2), (.string t3), (.string t4), (.int .i64 t5), (.slice t6 tl7 tc8)]), (.bool not)] w16 fun v17 w17 =>
       Ext w16 w17 ∧
       ∃ t_018 : Int, ∃ t_119 : ByteArray, ∃ t_220 : ByteArray, ∃ t_321 : Int, ∃ t_422 : Option Addr, ∃ t_4l23 : Nat, ∃ t_4c24 : Nat, v17 = (.agg #[(.int .i64 t_018), (.string t_119), (.string t_220), (.int .i64 t_321), (.slice t_422 t_4l23 t_4c24)]) ∧
       ∀ w25, ExtB [] [b0, b1] w17 w25 →
       FnP Tryd.prog F_ask_norm #[(.agg #[(.int .i64 t9), (.string t10), (.string t11), (.int .i64 t12), (.slice t13 tl14 tc15)]), (.bool not)] w25 fun v26 w26 =>
        Ext w25 w26 ∧
        ∃ t_027 : Int, ∃ t_128 : ByteArray, ∃ t_229 : ByteArray, ∃ t_330 : Int, ∃ t_431 : Option Addr, ∃ t_4l32 : Nat, ∃ t_4c33 : Nat, v26 = (.agg #[(.int .i64 t_027), (.string t_128), (.string t_229), (.int .i64 t_330), (.slice t_431 t_4l32 t_4c33)]) ∧
        ∀ w34, ExtB [] [b0, b1] w26 w34 →
        Run Tryd.prog (.buildSlice 22 2 [(0, (.agg #[(.int .i64 t_018), (.string t_119), (.string t_220), (.int .i64 t_321), (.slice t_422 t_4l23 t_4c24)])), (1, (.agg #[(.int .i64 t_027), (.string t_128), (.string t_229), (.int .i64 t_330), (.slice t_431 t_4l32 t_4c33)]))]) w34 fun v35 w35 =>
         Ext w34 w35 ∧
         ∃ t36 : Option Addr, ∃ tl37 : Nat, ∃ tc38 : Nat, v35 = (.slice t36 tl37 tc38) ∧
         ∀ w39, ExtB [b1] [] w35 w39 →
         Q (.agg #[(.int .i64 (11 - x_0)), (.string (⟨#[]⟩ : ByteArray)), (.string (⟨#[]⟩ : ByteArray)), (.int .i64 0), (.slice t36 tl37 tc38)]) w39)) ∧
     ((not = false) →
      x_4 ≠ none ∧
      (0 : Int) ≤ 0 ∧
      (0 : Int) < (x_4l : Int) ∧
      (pIdx x_4 0 5) ≠ none ∧
      ∃ t2 : Int, cell w (pIdx x_4 0 5) 0 = some (.int .i64 t2) ∧
      ∃ t3 : ByteArray, cell w (pIdx x_4 0 5) 1 = some (.string t3) ∧
      ∃ t4 : ByteArray, cell w (pIdx x_4 0 5) 2 = some (.string t4) ∧
      ∃ t5 : Int, cell w (pIdx x_4 0 5) 3 = some (.int .i64 t5) ∧
      ∃ t6 : Option Addr, ∃ tl7 : Nat, ∃ tc8 : Nat, cell w (pIdx x_4 0 5) 4 = some (.slice t6 tl7 tc8) ∧
      x_4 ≠ none ∧
      (0 : Int) ≤ 1 ∧
      (1 : Int) < (x_4l : Int) ∧
      (pIdx x_4 1 5) ≠ none ∧
      ∃ t9 : Int, cell w (pIdx x_4 1 5) 0 = some (.int .i64 t9) ∧
      ∃ t10 : ByteArray, cell w (pIdx x_4 1 5) 1 = some (.string t10) ∧
      ∃ t11 : ByteArray, cell w (pIdx x_4 1 5) 2 = some (.string t11) ∧
      ∃ t12 : Int, cell w (pIdx x_4 1 5) 3 = some (.int .i64 t12) ∧
      ∃ t13 : Option Addr, ∃ tl14 : Nat, ∃ tc15 : Nat, cell w (pIdx x_4 1 5) 4 = some (.slice t13 tl14 tc15) ∧
      ∀ w16, ExtB [] [b0, b1] w w16 →
      FnP Tryd.prog F_ask_norm #[(.agg #[(.int .i64 t2), (.string t3), (.string t4), (.int .i64 t5), (.slice t6 tl7 tc8)]), (.bool not)] w16 fun v17 w17 =>
       Ext w16 w17 ∧
       ∃ t_018 : Int, ∃ t_119 : ByteArray, ∃ t_220 : ByteArray, ∃ t_321 : Int, ∃ t_422 : Option Addr, ∃ t_4l23 : Nat, ∃ t_4c24 : Nat, v17 = (.agg #[(.int .i64 t_018), (.string t_119), (.string t_220), (.int .i64 t_321), (.slice t_422 t_4l23 t_4c24)]) ∧
       ∀ w25, ExtB [] [b0, b1] w17 w25 →
       FnP Tryd.prog F_ask_norm #[(.agg #[(.int .i64 t9), (.string t10), (.string t11), (.int .i64 t12), (.slice t13 tl14 tc15)]), (.bool not)] w25 fun v26 w26 =>
        Ext w25 w26 ∧
        ∃ t_027 : Int, ∃ t_128 : ByteArray, ∃ t_229 : ByteArray, ∃ t_330 : Int, ∃ t_431 : Option Addr, ∃ t_4l32 : Nat, ∃ t_4c33 : Nat, v26 = (.agg #[(.int .i64 t_027), (.string t_128), (.string t_229), (.int .i64 t_330), (.slice t_431 t_4l32 t_4c33)]) ∧
        ∀ w34, ExtB [] [b0, b1] w26 w34 →
        Run Tryd.prog (.buildSlice 22 2 [(0, (.agg #[(.int .i64 t_018), (.string t_119), (.string t_220), (.int .i64 t_321), (.slice t_422 t_4l23 t_4c24)])), (1, (.agg #[(.int .i64 t_027), (.string t_128), (.string t_229), (.int .i64 t_330), (.slice t_431 t_4l32 t_4c33)]))]) w34 fun v35 w35 =>
         Ext w34 w35 ∧
         ∃ t36 : Option Addr, ∃ tl37 : Nat, ∃ tc38 : Nat, v35 = (.slice t36 tl37 tc38) ∧
         ∀ w39, ExtB [b1] [] w35 w39 →
         Q (.agg #[(.int .i64 x_0), (.string (⟨#[]⟩ : ByteArray)), (.string (⟨#[]⟩ : ByteArray)), (.int .i64 0), (.slice t36 tl37 tc38)]) w39))) ∧
    ((x_0 ≠ 6) →
     (((not = true) →
      ∀ w2, ExtB [] [b0, b1] w w2 →
      Run Tryd.prog (.buildSlice 22 1 [(0, (.agg #[(.int .i64 x_0), (.string x_1), (.string x_2), (.int .i64 x_3), (.slice x_4 x_4l x_4c)]))]) w2 fun v3 w3 =>
       Ext w2 w3 ∧
       ∃ t4 : Option Addr, ∃ tl5 : Nat, ∃ tc6 : Nat, v3 = (.slice t4 tl5 tc6) ∧
       ∀ w7, ExtB [b1] [] w3 w7 →
       Q (.agg #[(.int .i64 4), (.string (⟨#[]⟩ : ByteArray)), (.string (⟨#[]⟩ : ByteArray)), (.int .i64 0), (.slice t4 tl5 tc6)]) w7)) ∧
     ((not = false) →
      ∀ w2, Ext w w2 →
      Q (.agg #[(.int .i64 x_0), (.string x_1), (.string x_2), (.int .i64 x_3), (.slice x_4 x_4l x_4c)]) w2))))

theorem ok_ask_norm (x_0 : Int) (x_1 : ByteArray) (x_2 : ByteArray) (x_3 : Int) (x_4 : Option Addr) (x_4l : Nat) (x_4c : Nat) (not : Bool) (w : World) (Q : Value → World → Prop) (h : wp_ask_norm x_0 x_1 x_2 x_3 x_4 x_4l x_4c not w Q) : FnP Tryd.prog F_ask_norm #[(.agg #[(.int .i64 x_0), (.string x_1), (.string x_2), (.int .i64 x_3), (.slice x_4 x_4l x_4c)]), (.bool not)] w Q := by
  have e_ : wp_ask_norm x_0 x_1 x_2 x_3 x_4 x_4l x_4c not w Q = Runs Tryd.prog Q ({ N := 45, wrap := [], pub := [], muts := [], joins := [] } : Cfg) Tryd.f35 (Tryd.f35.body.getD .skip) [.agg [.int .i64 x_0, .str x_1, .str x_2, .int .i64 x_3, .slc x_4 x_4l x_4c], .sc (.bool (.atom true not))] w := by kernel_rfl
  rw [e_] at h
  exact runs_fn h Tryd.func35 (by kernel_rfl) (fun args w => Tryd.call35 args w) (by kernel_rfl) (by kernel_rfl) rfl rfl

/-- shiftbell/shiftbellkeep.sameAsk -/
def wp_shiftbellkeep_sameAsk (a_0 : Int) (a_1 : ByteArray) (a_2 : ByteArray) (a_3 : Int) (a_4 : Option Addr) (a_4l : Nat) (a_4c : Nat) (b_0 : Int) (b_1 : ByteArray) (b_2 : ByteArray) (b_3 : Int) (b_4 : Option Addr) (b_4l : Nat) (b_4c : Nat) (w : World) (Q : Value → World → Prop) : Prop :=
  ∀ b0 : Nat, w.heap.size ≤ b0 → ∀ b1 : Nat, w.heap.size ≤ b1 → ((((((a_0 = b_0) ∧ (a_1 = b_1)) ∧ (a_2 = b_2)) ∧ (a_3 = b_3)) →
   ∀ w2, Ext w w2 →
   FnP Tryd.prog F_slices_EqualFunc_api_Ask_api_Ask_api_Ask_api_Ask #[(.slice a_4 a_4l a_4c), (.slice b_4 b_4l b_4c), (.func (.func 15) #[] #[])] w2 fun v3 w3 =>
    Ext w2 w3 ∧
    ∃ t4 : Bool, v3 = (.bool t4) ∧
    ∀ w5, Ext w w5 →
    Q (.bool t4) w5)) ∧
  (((((a_0 ≠ b_0) ∨ (a_1 ≠ b_1)) ∨ (a_2 ≠ b_2)) ∨ (a_3 ≠ b_3)) →
   ∀ w2, Ext w w2 →
   Q (.bool false) w2)

theorem ok_shiftbellkeep_sameAsk (a_0 : Int) (a_1 : ByteArray) (a_2 : ByteArray) (a_3 : Int) (a_4 : Option Addr) (a_4l : Nat) (a_4c : Nat) (b_0 : Int) (b_1 : ByteArray) (b_2 : ByteArray) (b_3 : Int) (b_4 : Option Addr) (b_4l : Nat) (b_4c : Nat) (w : World) (Q : Value → World → Prop) (h : wp_shiftbellkeep_sameAsk a_0 a_1 a_2 a_3 a_4 a_4l a_4c b_0 b_1 b_2 b_3 b_4 b_4l b_4c w Q) : FnP Tryd.prog F_shiftbellkeep_sameAsk #[(.agg #[(.int .i64 a_0), (.string a_1), (.string a_2), (.int .i64 a_3), (.slice a_4 a_4l a_4c)]), (.agg #[(.int .i64 b_0), (.string b_1), (.string b_2), (.int .i64 b_3), (.slice b_4 b_4l b_4c)])] w Q := by
  have e_ : wp_shiftbellkeep_sameAsk a_0 a_1 a_2 a_3 a_4 a_4l a_4c b_0 b_1 b_2 b_3 b_4 b_4l b_4c w Q = Runs Tryd.prog Q ({ N := 38, wrap := [], pub := [], muts := [], joins := [] } : Cfg) Tryd.f15 (Tryd.f15.body.getD .skip) [.agg [.int .i64 a_0, .str a_1, .str a_2, .int .i64 a_3, .slc a_4 a_4l a_4c], .agg [.int .i64 b_0, .str b_1, .str b_2, .int .i64 b_3, .slc b_4 b_4l b_4c]] w := by kernel_rfl
  rw [e_] at h
  exact runs_fn h Tryd.func15 (by kernel_rfl) (fun args w => Tryd.call15 args w) (by kernel_rfl) (by kernel_rfl) rfl rfl

/-- slices.EqualFunc[[]shiftbell/api.Ask,[]shiftbell/api.Ask,shiftbell/api.Ask,shiftbell/api.Ask] -/
def wp_slices_EqualFunc_api_Ask_api_Ask_api_Ask_api_Ask (s1 : Option Addr) (s1l : Nat) (s1c : Nat) (s2 : Option Addr) (s2l : Nat) (s2c : Nat) (eq : Value) (w : World) (Q : Value → World → Prop) : Prop :=
  (((s1l : Int) ≠ (s2l : Int)) →
   ∀ w0, Ext w w0 →
   Q (.bool false) w0) ∧
  (((s1l : Int) = (s2l : Int)) →
   ∃ (I0 : Int → World → Prop) (M0 : Int → World → Nat), I0 0 w ∧
   ∀ (k1 : Int) (w2 : World), I0 k1 w2 →
    (((k1 < (s1l : Int)) →
     s1 ≠ none ∧
     (0 : Int) ≤ k1 ∧
     (k1 : Int) < (s1l : Int) ∧
     (pIdx s1 k1 5) ≠ none ∧
     ∃ t3 : Int, cell w2 (pIdx s1 k1 5) 0 = some (.int .i64 t3) ∧
     ∃ t4 : ByteArray, cell w2 (pIdx s1 k1 5) 1 = some (.string t4) ∧
     ∃ t5 : ByteArray, cell w2 (pIdx s1 k1 5) 2 = some (.string t5) ∧
     ∃ t6 : Int, cell w2 (pIdx s1 k1 5) 3 = some (.int .i64 t6) ∧
     ∃ t7 : Option Addr, ∃ tl8 : Nat, ∃ tc9 : Nat, cell w2 (pIdx s1 k1 5) 4 = some (.slice t7 tl8 tc9) ∧
     ∀ b10 : Nat, w2.heap.size ≤ b10 → s2 ≠ none ∧
     (0 : Int) ≤ k1 ∧
     (k1 : Int) < (s2l : Int) ∧
     (pIdx s2 k1 5) ≠ none ∧
     ∃ t11 : Int, cell w2 (pIdx s2 k1 5) 0 = some (.int .i64 t11) ∧
     ∃ t12 : ByteArray, cell w2 (pIdx s2 k1 5) 1 = some (.string t12) ∧
     ∃ t13 : ByteArray, cell w2 (pIdx s2 k1 5) 2 = some (.string t13) ∧
     ∃ t14 : Int, cell w2 (pIdx s2 k1 5) 3 = some (.int .i64 t14) ∧
     ∃ t15 : Option Addr, ∃ tl16 : Nat, ∃ tc17 : Nat, cell w2 (pIdx s2 k1 5) 4 = some (.slice t15 tl16 tc17) ∧
     ∀ b18 : Nat, w2.heap.size ≤ b18 → ∀ w19, Ext w2 w19 →
     FnVP Tryd.prog eq [(.agg #[(.int .i64 t3), (.string t4), (.string t5), (.int .i64 t6), (.slice t7 tl8 tc9)]), (.agg #[(.int .i64 t11), (.string t12), (.string t13), (.int .i64 t14), (.slice t15 tl16 tc17)])] w19 fun v20 w20 =>
      Ext w19 w20 ∧
      ∃ t21 : Bool, v20 = (.bool t21) ∧
      ((t21 = false) →
       ∀ w22, Ext w2 w22 →
       Q (.bool false) w22) ∧
      ((t21 = true) →
       InR .i64 (k1 + 1) ∧
       (I0 (k1 + 1) w2 ∧ M0 (k1 + 1) w2 < M0 k1 w2)))) ∧
    (((s1l : Int) ≤ k1) →
     ∀ w3, Ext w2 w3 →
     Q (.bool true) w3))

theorem ok_slices_EqualFunc_api_Ask_api_Ask_api_Ask_api_Ask (s1 : Option Addr) (s1l : Nat) (s1c : Nat) (s2 : Option Addr) (s2l : Nat) (s2c : Nat) (eq : Value) (w : World) (Q : Value → World → Prop) (h : wp_slices_EqualFunc_api_Ask_api_Ask_api_Ask_api_Ask s1 s1l s1c s2 s2l s2c eq w Q) : FnP Tryd.prog F_slices_EqualFunc_api_Ask_api_Ask_api_Ask_api_Ask #[(.slice s1 s1l s1c), (.slice s2 s2l s2c), eq] w Q := by
  have e_ : wp_slices_EqualFunc_api_Ask_api_Ask_api_Ask_api_Ask s1 s1l s1c s2 s2l s2c eq w Q = Runs Tryd.prog Q ({ N := 32, wrap := [], pub := [], muts := [], joins := [] } : Cfg) Tryd.f38 (Tryd.f38.body.getD .skip) [.sc (.slc s1 s1l s1c), .sc (.slc s2 s2l s2c), .sc (.val eq)] w := by kernel_rfl
  rw [e_] at h
  exact runs_fn h Tryd.func38 (by kernel_rfl) (fun args w => Tryd.call38 args w) (by kernel_rfl) (by kernel_rfl) rfl rfl

/-- shiftbell/ask.atoms -/
def wp_ask_atoms (x_0 : Int) (x_1 : ByteArray) (x_2 : ByteArray) (x_3 : Int) (x_4 : Option Addr) (x_4l : Nat) (x_4c : Nat) (l : Option Addr) (ll : Nat) (lc : Nat) (w : World) (Q : Value → World → Prop) : Prop :=
  ∀ b0 : Nat, w.heap.size ≤ b0 → ((((x_4l : Int) = 0) →
   ∀ w1, Ext w w1 →
   FnP Tryd.prog F_ask_text #[(.agg #[(.int .i64 x_0), (.string x_1), (.string x_2), (.int .i64 x_3), (.slice x_4 x_4l x_4c)])] w1 fun v2 w2 =>
    Ext w1 w2 ∧
    ∃ t3 : ByteArray, v2 = (.string t3) ∧
    ∀ w4, Ext w w4 →
    FnP Tryd.prog F_slices_Contains_string_string #[(.slice l ll lc), (.string t3)] w4 fun v5 w5 =>
     Ext w4 w5 ∧
     ∃ t6 : Bool, v5 = (.bool t6) ∧
     (((t6 = false) →
      ∀ w7, ExtB [] [b0] w w7 →
      Run Tryd.prog (.buildSlice 58 1 [(0, (.string t3))]) w7 fun v8 w8 =>
       Ext w7 w8 ∧
       ∃ t9 : Option Addr, ∃ tl10 : Nat, ∃ tc11 : Nat, v8 = (.slice t9 tl10 tc11) ∧
       ∀ w12, ExtB [] [b0] w8 w12 →
       Run Tryd.prog (.append #[58, 58] 58 [(.slice l ll lc), (.slice t9 tl10 tc11)]) w12 fun v13 w13 =>
        Kept [b0] w12 w13 ∧
        ∃ t14 : Option Addr, ∃ tl15 : Nat, ∃ tc16 : Nat, v13 = (.slice t14 tl15 tc16) ∧
        ∃ (I17 : Option Addr → Nat → Nat → Int → World → Prop) (M17 : Option Addr → Nat → Nat → Int → World → Nat), I17 t14 tl15 tc16 0 w13 ∧
        ∀ (l18 : Option Addr) (ll18 : Nat) (lc18 : Nat) (k19 : Int) (w20 : World), I17 l18 ll18 lc18 k19 w20 →
         (((k19 < (x_4l : Int)) →
          x_4 ≠ none ∧
          (0 : Int) ≤ k19 ∧
          (k19 : Int) < (x_4l : Int) ∧
          (pIdx x_4 k19 5) ≠ none ∧
          ∃ t21 : Int, cell w20 (pIdx x_4 k19 5) 0 = some (.int .i64 t21) ∧
          ∃ t22 : ByteArray, cell w20 (pIdx x_4 k19 5) 1 = some (.string t22) ∧
          ∃ t23 : ByteArray, cell w20 (pIdx x_4 k19 5) 2 = some (.string t23) ∧
          ∃ t24 : Int, cell w20 (pIdx x_4 k19 5) 3 = some (.int .i64 t24) ∧
          ∃ t25 : Option Addr, ∃ tl26 : Nat, ∃ tc27 : Nat, cell w20 (pIdx x_4 k19 5) 4 = some (.slice t25 tl26 tc27) ∧
          ∀ b28 : Nat, w20.heap.size ≤ b28 → ∀ w29, ExtB [] [b0, b28] w20 w29 →
          FnP Tryd.prog F_ask_atoms #[(.agg #[(.int .i64 t21), (.string t22), (.string t23), (.int .i64 t24), (.slice t25 tl26 tc27)]), (.slice l18 ll18 lc18)] w29 fun v30 w30 =>
           Kept [b0, b28] w29 w30 ∧
           ∃ t31 : Option Addr, ∃ tl32 : Nat, ∃ tc33 : Nat, v30 = (.slice t31 tl32 tc33) ∧
           InR .i64 (k19 + 1) ∧
           (I17 t31 tl32 tc33 (k19 + 1) w30 ∧ M17 t31 tl32 tc33 (k19 + 1) w30 < M17 l18 ll18 lc18 k19 w20))) ∧
         (((x_4l : Int) ≤ k19) →
          ∀ w21, Ext w20 w21 →
          Q (.slice l18 ll18 lc18) w21))) ∧
     ((t6 = true) →
      ∃ (I7 : Option Addr → Nat → Nat → Int → World → Prop) (M7 : Option Addr → Nat → Nat → Int → World → Nat), I7 l ll lc 0 w ∧
      ∀ (l8 : Option Addr) (ll8 : Nat) (lc8 : Nat) (k9 : Int) (w10 : World), I7 l8 ll8 lc8 k9 w10 →
       (((k9 < (x_4l : Int)) →
        x_4 ≠ none ∧
        (0 : Int) ≤ k9 ∧
        (k9 : Int) < (x_4l : Int) ∧
        (pIdx x_4 k9 5) ≠ none ∧
        ∃ t11 : Int, cell w10 (pIdx x_4 k9 5) 0 = some (.int .i64 t11) ∧
        ∃ t12 : ByteArray, cell w10 (pIdx x_4 k9 5) 1 = some (.string t12) ∧
        ∃ t13 : ByteArray, cell w10 (pIdx x_4 k9 5) 2 = some (.string t13) ∧
        ∃ t14 : Int, cell w10 (pIdx x_4 k9 5) 3 = some (.int .i64 t14) ∧
        ∃ t15 : Option Addr, ∃ tl16 : Nat, ∃ tc17 : Nat, cell w10 (pIdx x_4 k9 5) 4 = some (.slice t15 tl16 tc17) ∧
        ∀ b18 : Nat, w10.heap.size ≤ b18 → ∀ w19, ExtB [] [b0, b18] w10 w19 →
        FnP Tryd.prog F_ask_atoms #[(.agg #[(.int .i64 t11), (.string t12), (.string t13), (.int .i64 t14), (.slice t15 tl16 tc17)]), (.slice l8 ll8 lc8)] w19 fun v20 w20 =>
         Kept [b0, b18] w19 w20 ∧
         ∃ t21 : Option Addr, ∃ tl22 : Nat, ∃ tc23 : Nat, v20 = (.slice t21 tl22 tc23) ∧
         InR .i64 (k9 + 1) ∧
         (I7 t21 tl22 tc23 (k9 + 1) w20 ∧ M7 t21 tl22 tc23 (k9 + 1) w20 < M7 l8 ll8 lc8 k9 w10))) ∧
       (((x_4l : Int) ≤ k9) →
        ∀ w11, Ext w10 w11 →
        Q (.slice l8 ll8 lc8) w11)))) ∧
  (((x_4l : Int) ≠ 0) →
   ∃ (I1 : Option Addr → Nat → Nat → Int → World → Prop) (M1 : Option Addr → Nat → Nat → Int → World → Nat), I1 l ll lc 0 w ∧
   ∀ (l2 : Option Addr) (ll2 : Nat) (lc2 : Nat) (k3 : Int) (w4 : World), I1 l2 ll2 lc2 k3 w4 →
    (((k3 < (x_4l : Int)) →
     x_4 ≠ none ∧
     (0 : Int) ≤ k3 ∧
     (k3 : Int) < (x_4l : Int) ∧
     (pIdx x_4 k3 5) ≠ none ∧
     ∃ t5 : Int, cell w4 (pIdx x_4 k3 5) 0 = some (.int .i64 t5) ∧
     ∃ t6 : ByteArray, cell w4 (pIdx x_4 k3 5) 1 = some (.string t6) ∧
     ∃ t7 : ByteArray, cell w4 (pIdx x_4 k3 5) 2 = some (.string t7) ∧
     ∃ t8 : Int, cell w4 (pIdx x_4 k3 5) 3 = some (.int .i64 t8) ∧
     ∃ t9 : Option Addr, ∃ tl10 : Nat, ∃ tc11 : Nat, cell w4 (pIdx x_4 k3 5) 4 = some (.slice t9 tl10 tc11) ∧
     ∀ b12 : Nat, w4.heap.size ≤ b12 → ∀ w13, ExtB [] [b0, b12] w4 w13 →
     FnP Tryd.prog F_ask_atoms #[(.agg #[(.int .i64 t5), (.string t6), (.string t7), (.int .i64 t8), (.slice t9 tl10 tc11)]), (.slice l2 ll2 lc2)] w13 fun v14 w14 =>
      Kept [b0, b12] w13 w14 ∧
      ∃ t15 : Option Addr, ∃ tl16 : Nat, ∃ tc17 : Nat, v14 = (.slice t15 tl16 tc17) ∧
      InR .i64 (k3 + 1) ∧
      (I1 t15 tl16 tc17 (k3 + 1) w14 ∧ M1 t15 tl16 tc17 (k3 + 1) w14 < M1 l2 ll2 lc2 k3 w4))) ∧
    (((x_4l : Int) ≤ k3) →
     ∀ w5, Ext w4 w5 →
     Q (.slice l2 ll2 lc2) w5))

theorem ok_ask_atoms (x_0 : Int) (x_1 : ByteArray) (x_2 : ByteArray) (x_3 : Int) (x_4 : Option Addr) (x_4l : Nat) (x_4c : Nat) (l : Option Addr) (ll : Nat) (lc : Nat) (w : World) (Q : Value → World → Prop) (h : wp_ask_atoms x_0 x_1 x_2 x_3 x_4 x_4l x_4c l ll lc w Q) : FnP Tryd.prog F_ask_atoms #[(.agg #[(.int .i64 x_0), (.string x_1), (.string x_2), (.int .i64 x_3), (.slice x_4 x_4l x_4c)]), (.slice l ll lc)] w Q := by
  have e_ : wp_ask_atoms x_0 x_1 x_2 x_3 x_4 x_4l x_4c l ll lc w Q = Runs Tryd.prog Q ({ N := 34, wrap := [], pub := [], muts := [24], joins := [] } : Cfg) Tryd.f24 (Tryd.f24.body.getD .skip) [.agg [.int .i64 x_0, .str x_1, .str x_2, .int .i64 x_3, .slc x_4 x_4l x_4c], .sc (.slc l ll lc)] w := by kernel_rfl
  rw [e_] at h
  exact runs_fn h Tryd.func24 (by kernel_rfl) (fun args w => Tryd.call24 args w) (by kernel_rfl) (by kernel_rfl) rfl rfl

/-- shiftbell/ask.Alike -/
def wp_ask_Alike (x_0 : Int) (x_1 : ByteArray) (x_2 : ByteArray) (x_3 : Int) (x_4 : Option Addr) (x_4l : Nat) (x_4c : Nat) (y_0 : Int) (y_1 : ByteArray) (y_2 : ByteArray) (y_3 : Int) (y_4 : Option Addr) (y_4l : Nat) (y_4c : Nat) (w : World) (Q : Value → World → Prop) : Prop :=
  ∀ b0 : Nat, w.heap.size ≤ b0 → ∀ b1 : Nat, w.heap.size ≤ b1 → ∀ w2, ExtB [] [b0, b1] w w2 →
  Run Tryd.prog (.buildSlice 22 2 [(0, (.agg #[(.int .i64 x_0), (.string x_1), (.string x_2), (.int .i64 x_3), (.slice x_4 x_4l x_4c)])), (1, (.agg #[(.int .i64 y_0), (.string y_1), (.string y_2), (.int .i64 y_3), (.slice y_4 y_4l y_4c)]))]) w2 fun v3 w3 =>
   Ext w2 w3 ∧
   ∃ t4 : Option Addr, ∃ tl5 : Nat, ∃ tc6 : Nat, v3 = (.slice t4 tl5 tc6) ∧
   ∃ (I7 : Int → World → Prop) (M7 : Int → World → Nat), I7 0 w3 ∧
   ∀ (k8 : Int) (w9 : World), I7 k8 w9 →
    (((k8 < (tl5 : Int)) →
     t4 ≠ none ∧
     (0 : Int) ≤ k8 ∧
     (k8 : Int) < (tl5 : Int) ∧
     (pIdx t4 k8 5) ≠ none ∧
     ∃ t10 : Int, cell w9 (pIdx t4 k8 5) 0 = some (.int .i64 t10) ∧
     ∃ t11 : ByteArray, cell w9 (pIdx t4 k8 5) 1 = some (.string t11) ∧
     ∃ t12 : ByteArray, cell w9 (pIdx t4 k8 5) 2 = some (.string t12) ∧
     ∃ t13 : Int, cell w9 (pIdx t4 k8 5) 3 = some (.int .i64 t13) ∧
     ∃ t14 : Option Addr, ∃ tl15 : Nat, ∃ tc16 : Nat, cell w9 (pIdx t4 k8 5) 4 = some (.slice t14 tl15 tc16) ∧
     ∀ b17 : Nat, w9.heap.size ≤ b17 → ∀ w18, Ext w9 w18 →
     FnP Tryd.prog F_ask_Check #[(.agg #[(.int .i64 t10), (.string t11), (.string t12), (.int .i64 t13), (.slice t14 tl15 tc16)])] w18 fun v19 w19 =>
      Ext w18 w19 ∧
      ∃ t20 : Int, v19 = (.int .i64 t20) ∧
      ((t20 ≠ 0) →
       ∀ w21, Ext w9 w21 →
       Q (.tuple #[(.bool false), (.int .i64 t20)]) w21) ∧
      ((t20 = 0) →
       InR .i64 (k8 + 1) ∧
       (I7 (k8 + 1) w9 ∧ M7 (k8 + 1) w9 < M7 k8 w9)))) ∧
    (((tl5 : Int) ≤ k8) →
     ∃ (J10 : Option Addr → World → Prop), (((∀ w13, ExtB [] [b0, b1] w9 w13 →
      FnP Tryd.prog F_ask_atoms #[(.agg #[(.int .i64 x_0), (.string x_1), (.string x_2), (.int .i64 x_3), (.slice x_4 x_4l x_4c)]), (.slice none 0 0)] w13 fun v14 w14 =>
       Kept [b0, b1] w13 w14 ∧
       ∃ t15 : Option Addr, ∃ tl16 : Nat, ∃ tc17 : Nat, v14 = (.slice t15 tl16 tc17) ∧
       (∀ w18, ExtB [] [b0, b1] w14 w18 →
       FnP Tryd.prog F_ask_atoms #[(.agg #[(.int .i64 y_0), (.string y_1), (.string y_2), (.int .i64 y_3), (.slice y_4 y_4l y_4c)]), (.slice t15 tl16 tc17)] w18 fun v19 w19 =>
        Kept [b0, b1] w18 w19 ∧
        ∃ t20 : Option Addr, ∃ tl21 : Nat, ∃ tc22 : Nat, v19 = (.slice t20 tl21 tc22) ∧
        ∀ w23, ExtB [] [b0, b1] w19 w23 →
        New w23 58 [(.slice none 0 0)] fun p24 w24 =>
         Store w24 p24 [(.slice t20 tl21 tc22)] [b0, b1] fun w25 =>
          J10 p24 w25) ∧
       ∀ w18, ExtB [] [b0, b1] w14 w18 →
       New w18 58 [(.slice none 0 0)] fun p19 w19 =>
        ∀ w20, ExtB [] [b0, b1] w19 w20 →
        FnP Tryd.prog F_ask_atoms #[(.agg #[(.int .i64 y_0), (.string y_1), (.string y_2), (.int .i64 y_3), (.slice y_4 y_4l y_4c)]), (.slice t15 tl16 tc17)] w20 fun v21 w21 =>
         Kept [b0, b1] w20 w21 ∧
         ∃ t22 : Option Addr, ∃ tl23 : Nat, ∃ tc24 : Nat, v21 = (.slice t22 tl23 tc24) ∧
         Store w21 p19 [(.slice t22 tl23 tc24)] [b0, b1] fun w25 =>
          J10 p19 w25) ∧
      ∀ w13, ExtB [] [b0, b1] w9 w13 →
      New w13 58 [(.slice none 0 0)] fun p14 w14 =>
       ∀ w15, ExtB [] [b0, b1] w14 w15 →
       FnP Tryd.prog F_ask_atoms #[(.agg #[(.int .i64 x_0), (.string x_1), (.string x_2), (.int .i64 x_3), (.slice x_4 x_4l x_4c)]), (.slice none 0 0)] w15 fun v16 w16 =>
        Kept [b0, b1] w15 w16 ∧
        ∃ t17 : Option Addr, ∃ tl18 : Nat, ∃ tc19 : Nat, v16 = (.slice t17 tl18 tc19) ∧
        ∀ w20, ExtB [] [b0, b1] w16 w20 →
        FnP Tryd.prog F_ask_atoms #[(.agg #[(.int .i64 y_0), (.string y_1), (.string y_2), (.int .i64 y_3), (.slice y_4 y_4l y_4c)]), (.slice t17 tl18 tc19)] w20 fun v21 w21 =>
         Kept [b0, b1] w20 w21 ∧
         ∃ t22 : Option Addr, ∃ tl23 : Nat, ∃ tc24 : Nat, v21 = (.slice t22 tl23 tc24) ∧
         Store w21 p14 [(.slice t22 tl23 tc24)] [b0, b1] fun w25 =>
          J10 p14 w25) ∧
      (∀ w13, ExtB [] [b0, b1] w9 w13 →
      FnP Tryd.prog F_ask_atoms #[(.agg #[(.int .i64 x_0), (.string x_1), (.string x_2), (.int .i64 x_3), (.slice x_4 x_4l x_4c)]), (.slice none 0 0)] w13 fun v14 w14 =>
       Kept [b0, b1] w13 w14 ∧
       ∃ t15 : Option Addr, ∃ tl16 : Nat, ∃ tc17 : Nat, v14 = (.slice t15 tl16 tc17) ∧
       (∀ w18, ExtB [] [b0, b1] w14 w18 →
       FnP Tryd.prog F_ask_atoms #[(.agg #[(.int .i64 y_0), (.string y_1), (.string y_2), (.int .i64 y_3), (.slice y_4 y_4l y_4c)]), (.slice t15 tl16 tc17)] w18 fun v19 w19 =>
        Kept [b0, b1] w18 w19 ∧
        ∃ t20 : Option Addr, ∃ tl21 : Nat, ∃ tc22 : Nat, v19 = (.slice t20 tl21 tc22) ∧
        ∀ w23, ExtB [] [b0, b1] w19 w23 →
        New w23 58 [(.slice none 0 0)] fun p24 w24 =>
         Store w24 p24 [(.slice t20 tl21 tc22)] [b0, b1] fun w25 =>
          J10 p24 w25) ∧
       ∀ w18, ExtB [] [b0, b1] w14 w18 →
       New w18 58 [(.slice none 0 0)] fun p19 w19 =>
        ∀ w20, ExtB [] [b0, b1] w19 w20 →
        FnP Tryd.prog F_ask_atoms #[(.agg #[(.int .i64 y_0), (.string y_1), (.string y_2), (.int .i64 y_3), (.slice y_4 y_4l y_4c)]), (.slice t15 tl16 tc17)] w20 fun v21 w21 =>
         Kept [b0, b1] w20 w21 ∧
         ∃ t22 : Option Addr, ∃ tl23 : Nat, ∃ tc24 : Nat, v21 = (.slice t22 tl23 tc24) ∧
         Store w21 p19 [(.slice t22 tl23 tc24)] [b0, b1] fun w25 =>
          J10 p19 w25) ∧
      ∀ w13, ExtB [] [b0, b1] w9 w13 →
      New w13 58 [(.slice none 0 0)] fun p14 w14 =>
       (∀ w15, ExtB [] [b0, b1] w14 w15 →
       FnP Tryd.prog F_ask_atoms #[(.agg #[(.int .i64 x_0), (.string x_1), (.string x_2), (.int .i64 x_3), (.slice x_4 x_4l x_4c)]), (.slice none 0 0)] w15 fun v16 w16 =>
        Kept [b0, b1] w15 w16 ∧
        ∃ t17 : Option Addr, ∃ tl18 : Nat, ∃ tc19 : Nat, v16 = (.slice t17 tl18 tc19) ∧
        ∀ w20, ExtB [] [b0, b1] w16 w20 →
        FnP Tryd.prog F_ask_atoms #[(.agg #[(.int .i64 y_0), (.string y_1), (.string y_2), (.int .i64 y_3), (.slice y_4 y_4l y_4c)]), (.slice t17 tl18 tc19)] w20 fun v21 w21 =>
         Kept [b0, b1] w20 w21 ∧
         ∃ t22 : Option Addr, ∃ tl23 : Nat, ∃ tc24 : Nat, v21 = (.slice t22 tl23 tc24) ∧
         Store w21 p14 [(.slice t22 tl23 tc24)] [b0, b1] fun w25 =>
          J10 p14 w25) ∧
       ∀ w15, ExtB [] [b0, b1] w14 w15 →
       FnP Tryd.prog F_ask_atoms #[(.agg #[(.int .i64 x_0), (.string x_1), (.string x_2), (.int .i64 x_3), (.slice x_4 x_4l x_4c)]), (.slice none 0 0)] w15 fun v16 w16 =>
        Kept [b0, b1] w15 w16 ∧
        ∃ t17 : Option Addr, ∃ tl18 : Nat, ∃ tc19 : Nat, v16 = (.slice t17 tl18 tc19) ∧
        ∀ w20, ExtB [] [b0, b1] w16 w20 →
        FnP Tryd.prog F_ask_atoms #[(.agg #[(.int .i64 y_0), (.string y_1), (.string y_2), (.int .i64 y_3), (.slice y_4 y_4l y_4c)]), (.slice t17 tl18 tc19)] w20 fun v21 w21 =>
         Kept [b0, b1] w20 w21 ∧
         ∃ t22 : Option Addr, ∃ tl23 : Nat, ∃ tc24 : Nat, v21 = (.slice t22 tl23 tc24) ∧
         Store w21 p14 [(.slice t22 tl23 tc24)] [b0, b1] fun w25 =>
          J10 p14 w25) ∧
     ∀ (all11 : Option Addr) (w12 : World), J10 all11 w12 →
      ∃ t13 : Option Addr, ∃ tl14 : Nat, ∃ tc15 : Nat, cell w12 all11 0 = some (.slice t13 tl14 tc15) ∧
      ((12 < (tl14 : Int)) →
       ∀ w16, Ext w12 w16 →
       Q (.tuple #[(.bool false), (.int .i64 2)]) w16) ∧
      (((tl14 : Int) ≤ 12) →
       ∃ t16 : Option Addr, ∃ tl17 : Nat, ∃ tc18 : Nat, cell w12 all11 0 = some (.slice t16 tl17 tc18) ∧
       0 ≤ ((tl17 : Int) : Int) ∧
       ∃ (I19 : Int → World → Prop) (M19 : Int → World → Nat), I19 0 w12 ∧
       ∀ (k20 : Int) (w21 : World), I19 k20 w21 →
        (((k20 < (iBit .shl .i64 1 (tl17 : Int))) →
         ∀ w22, ExtB [] [b0, b1] w21 w22 →
         New w22 3 [(.int .i64 0)] fun p23 w23 =>
          Store w23 p23 [(.int .i64 k20)] [b0, b1] fun w24 =>
           ∀ w25, Ext w24 w25 →
           FnP Tryd.prog F_ask_value #[(.agg #[(.int .i64 x_0), (.string x_1), (.string x_2), (.int .i64 x_3), (.slice x_4 x_4l x_4c)]), (.func (.func 25) #[] #[(.pointer p23), (.pointer all11)])] w25 fun v26 w26 =>
            Ext w25 w26 ∧
            ∃ t27 : Bool, v26 = (.bool t27) ∧
            ∀ w28, Ext w24 w28 →
            FnP Tryd.prog F_ask_value #[(.agg #[(.int .i64 y_0), (.string y_1), (.string y_2), (.int .i64 y_3), (.slice y_4 y_4l y_4c)]), (.func (.func 25) #[] #[(.pointer p23), (.pointer all11)])] w28 fun v29 w29 =>
             Ext w28 w29 ∧
             ∃ t30 : Bool, v29 = (.bool t30) ∧
             (((((t27 = true) ∧ (t30 = false)) ∨ ((t27 = false) ∧ (t30 = true))) →
              ∀ w31, Ext w24 w31 →
              Q (.tuple #[(.bool false), (.int .i64 0)]) w31)) ∧
             ((((t27 = false) ∨ (t30 = true)) ∧ ((t27 = true) ∨ (t30 = false))) →
              InR .i64 (k20 + 1) ∧
              (I19 (k20 + 1) w24 ∧ M19 (k20 + 1) w24 < M19 k20 w21)))) ∧
        (((iBit .shl .i64 1 (tl17 : Int)) ≤ k20) →
         ∀ w22, Ext w21 w22 →
         Q (.tuple #[(.bool true), (.int .i64 0)]) w22)))

theorem ok_ask_Alike (x_0 : Int) (x_1 : ByteArray) (x_2 : ByteArray) (x_3 : Int) (x_4 : Option Addr) (x_4l : Nat) (x_4c : Nat) (y_0 : Int) (y_1 : ByteArray) (y_2 : ByteArray) (y_3 : Int) (y_4 : Option Addr) (y_4l : Nat) (y_4c : Nat) (w : World) (Q : Value → World → Prop) (h : wp_ask_Alike x_0 x_1 x_2 x_3 x_4 x_4l x_4c y_0 y_1 y_2 y_3 y_4 y_4l y_4c w Q) : FnP Tryd.prog F_ask_Alike #[(.agg #[(.int .i64 x_0), (.string x_1), (.string x_2), (.int .i64 x_3), (.slice x_4 x_4l x_4c)]), (.agg #[(.int .i64 y_0), (.string y_1), (.string y_2), (.int .i64 y_3), (.slice y_4 y_4l y_4c)])] w Q := by
  have e_ : wp_ask_Alike x_0 x_1 x_2 x_3 x_4 x_4l x_4c y_0 y_1 y_2 y_3 y_4 y_4l y_4c w Q = Runs Tryd.prog Q ({ N := 48, wrap := [], pub := [9, 10], muts := [24], joins := [] } : Cfg) Tryd.f9 (Tryd.f9.body.getD .skip) [.agg [.int .i64 x_0, .str x_1, .str x_2, .int .i64 x_3, .slc x_4 x_4l x_4c], .agg [.int .i64 y_0, .str y_1, .str y_2, .int .i64 y_3, .slc y_4 y_4l y_4c]] w := by kernel_rfl
  rw [e_] at h
  exact runs_fn h Tryd.func9 (by kernel_rfl) (fun args w => Tryd.call9 args w) (by kernel_rfl) (by kernel_rfl) rfl rfl

/-- shiftbell/ask.Alike$1 -/
def wp_ask_Alike_1 (z_0 : Int) (z_1 : ByteArray) (z_2 : ByteArray) (z_3 : Int) (z_4 : Option Addr) (z_4l : Nat) (z_4c : Nat) (c0 : Option Addr) (c1 : Option Addr) (w : World) (Q : Value → World → Prop) : Prop :=
  ∀ b0 : Nat, w.heap.size ≤ b0 → ∃ t1 : Int, cell w c0 0 = some (.int .i64 t1) ∧
  ∃ t2 : Option Addr, ∃ tl3 : Nat, ∃ tc4 : Nat, cell w c1 0 = some (.slice t2 tl3 tc4) ∧
  ∀ w5, Ext w w5 →
  FnP Tryd.prog F_ask_text #[(.agg #[(.int .i64 z_0), (.string z_1), (.string z_2), (.int .i64 z_3), (.slice z_4 z_4l z_4c)])] w5 fun v6 w6 =>
   Ext w5 w6 ∧
   ∃ t7 : ByteArray, v6 = (.string t7) ∧
   ∀ w8, Ext w w8 →
   FnP Tryd.prog F_slices_Index_string_string #[(.slice t2 tl3 tc4), (.string t7)] w8 fun v9 w9 =>
    Ext w8 w9 ∧
    ∃ t10 : Int, v9 = (.int .i64 t10) ∧
    0 ≤ (t10 : Int) ∧
    ∀ w11, Ext w w11 →
    Q (.bool (decide ((iBit .and .i64 (iBit .shr .i64 t1 t10) 1) = 1))) w11

theorem ok_ask_Alike_1 (z_0 : Int) (z_1 : ByteArray) (z_2 : ByteArray) (z_3 : Int) (z_4 : Option Addr) (z_4l : Nat) (z_4c : Nat) (c0 : Option Addr) (c1 : Option Addr) (w : World) (Q : Value → World → Prop) (h : wp_ask_Alike_1 z_0 z_1 z_2 z_3 z_4 z_4l z_4c c0 c1 w Q) : FnP Tryd.prog F_ask_Alike_1 #[(.agg #[(.int .i64 z_0), (.string z_1), (.string z_2), (.int .i64 z_3), (.slice z_4 z_4l z_4c)]), (.pointer c0), (.pointer c1)] w Q := by
  have e_ : wp_ask_Alike_1 z_0 z_1 z_2 z_3 z_4 z_4l z_4c c0 c1 w Q = Runs Tryd.prog Q ({ N := 13, wrap := [], pub := [], muts := [], joins := [] } : Cfg) Tryd.f25 (Tryd.f25.body.getD .skip) [.agg [.int .i64 z_0, .str z_1, .str z_2, .int .i64 z_3, .slc z_4 z_4l z_4c], .sc (.ptr c0), .sc (.ptr c1)] w := by kernel_rfl
  rw [e_] at h
  exact runs_fn h Tryd.func25 (by kernel_rfl) (fun args w => Tryd.call25 args w) (by kernel_rfl) (by kernel_rfl) rfl rfl

/-- slices.Index[[]string,string] -/
def wp_slices_Index_string_string (s : Option Addr) (sl : Nat) (sc : Nat) (v : ByteArray) (w : World) (Q : Value → World → Prop) : Prop :=
  ∃ (I0 : Int → World → Prop) (M0 : Int → World → Nat), I0 0 w ∧
  ∀ (k1 : Int) (w2 : World), I0 k1 w2 →
   (((k1 < (sl : Int)) →
    s ≠ none ∧
    (0 : Int) ≤ k1 ∧
    (k1 : Int) < (sl : Int) ∧
    ∃ t3 : ByteArray, cell w2 (pIdx s k1 1) 0 = some (.string t3) ∧
    ((v = t3) →
     ∀ w4, Ext w2 w4 →
     Q (.int .i64 k1) w4) ∧
    ((v ≠ t3) →
     InR .i64 (k1 + 1) ∧
     (I0 (k1 + 1) w2 ∧ M0 (k1 + 1) w2 < M0 k1 w2)))) ∧
   (((sl : Int) ≤ k1) →
    ∀ w3, Ext w2 w3 →
    Q (.int .i64 (-1)) w3)

theorem ok_slices_Index_string_string (s : Option Addr) (sl : Nat) (sc : Nat) (v : ByteArray) (w : World) (Q : Value → World → Prop) (h : wp_slices_Index_string_string s sl sc v w Q) : FnP Tryd.prog F_slices_Index_string_string #[(.slice s sl sc), (.string v)] w Q := by
  have e_ : wp_slices_Index_string_string s sl sc v w Q = Runs Tryd.prog Q ({ N := 19, wrap := [], pub := [], muts := [], joins := [] } : Cfg) Tryd.f26 (Tryd.f26.body.getD .skip) [.sc (.slc s sl sc), .sc (.str v)] w := by kernel_rfl
  rw [e_] at h
  exact runs_fn h Tryd.func26 (by kernel_rfl) (fun args w => Tryd.call26 args w) (by kernel_rfl) (by kernel_rfl) rfl rfl

/-- slices.Contains[[]string,string] -/
def wp_slices_Contains_string_string (s : Option Addr) (sl : Nat) (sc : Nat) (v : ByteArray) (w : World) (Q : Value → World → Prop) : Prop :=
  ∀ w0, Ext w w0 →
  FnP Tryd.prog F_slices_Index_string_string #[(.slice s sl sc), (.string v)] w0 fun v1 w1 =>
   Ext w0 w1 ∧
   ∃ t2 : Int, v1 = (.int .i64 t2) ∧
   ∀ w3, Ext w w3 →
   Q (.bool (decide (0 ≤ t2))) w3

theorem ok_slices_Contains_string_string (s : Option Addr) (sl : Nat) (sc : Nat) (v : ByteArray) (w : World) (Q : Value → World → Prop) (h : wp_slices_Contains_string_string s sl sc v w Q) : FnP Tryd.prog F_slices_Contains_string_string #[(.slice s sl sc), (.string v)] w Q := by
  have e_ : wp_slices_Contains_string_string s sl sc v w Q = Runs Tryd.prog Q ({ N := 9, wrap := [], pub := [], muts := [], joins := [] } : Cfg) Tryd.f52 (Tryd.f52.body.getD .skip) [.sc (.slc s sl sc), .sc (.str v)] w := by kernel_rfl
  rw [e_] at h
  exact runs_fn h Tryd.func52 (by kernel_rfl) (fun args w => Tryd.call52 args w) (by kernel_rfl) (by kernel_rfl) rfl rfl

/-- (*shiftbell/ask.reader).take -/
def wp_ask_reader_take (r : Option Addr) (c : Int) (w : World) (Q : Value → World → Prop) : Prop :=
  r ≠ none ∧
  r ≠ none ∧
  ∃ t0 : ByteArray, cell w (pAdd r 0) 0 = some (.string t0) ∧
  ((t0 ≠ (⟨#[]⟩ : ByteArray)) →
   r ≠ none) ∧
  ((t0 ≠ (⟨#[]⟩ : ByteArray)) →
   r ≠ none) ∧
  ((t0 = (⟨#[]⟩ : ByteArray)) →
   ∀ w1, Ext w w1 →
   Q (.bool false) w1) ∧
  ((t0 ≠ (⟨#[]⟩ : ByteArray)) →
   ∃ t1 : ByteArray, cell w (pAdd r 0) 0 = some (.string t1) ∧
   (0 : Int) ≤ 0 ∧
   (0 : Int) < (t1.size : Int) ∧
   (((sAt t1 0) ≠ c) →
    ∀ w2, Ext w w2 →
    Q (.bool false) w2) ∧
   (((sAt t1 0) = c) →
    r ≠ none ∧
    r ≠ none ∧
    ∃ t2 : ByteArray, cell w (pAdd r 0) 0 = some (.string t2) ∧
    (0 : Int) ≤ 1 ∧
    (1 : Int) ≤ (t2.size : Int) ∧
    ((t2.size : Int) : Int) ≤ (t2.size : Int) ∧
    r ≠ none ∧
    r ≠ none ∧
    Store w (pAdd r 0) [(.string (t2.extract (1 : Int).toNat (t2.size : Int).toNat))] [] fun w3 =>
     ∀ w4, Ext w3 w4 →
     Q (.bool true) w4))

theorem ok_ask_reader_take (r : Option Addr) (c : Int) (w : World) (Q : Value → World → Prop) (h : wp_ask_reader_take r c w Q) : FnP Tryd.prog F_ask_reader_take #[(.pointer r), (.int .u8 c)] w Q := by
  have e_ : wp_ask_reader_take r c w Q = Runs Tryd.prog Q ({ N := 27, wrap := [], pub := [], muts := [], joins := [] } : Cfg) Tryd.f56 (Tryd.f56.body.getD .skip) [.sc (.ptr r), .sc (.int .u8 c)] w := by kernel_rfl
  rw [e_] at h
  exact runs_fn h Tryd.func56 (by kernel_rfl) (fun args w => Tryd.call56 args w) (by kernel_rfl) (by kernel_rfl) rfl rfl

/-- (*shiftbell/ask.reader).word -/
def wp_ask_reader_word (r : Option Addr) (w : World) (Q : Value → World → Prop) : Prop :=
  r ≠ none ∧
  r ≠ none ∧
  ∃ t0 : ByteArray, cell w (pAdd r 0) 0 = some (.string t0) ∧
  ∀ w1, Ext w w1 →
  FnP Tryd.prog F_strings_IndexAny #[(.string t0), (.string (⟨#[63, 61, 62, 33, 40, 41, 38, 124]⟩ : ByteArray))] w1 fun v2 w2 =>
   Ext w1 w2 ∧
   ∃ t3 : Int, v2 = (.int .i64 t3) ∧
   (((t3 < 0) →
    r ≠ none ∧
    r ≠ none ∧
    ∃ t4 : ByteArray, cell w (pAdd r 0) 0 = some (.string t4) ∧
    r ≠ none ∧
    r ≠ none ∧
    ∃ t5 : ByteArray, cell w (pAdd r 0) 0 = some (.string t5) ∧
    (0 : Int) ≤ 0 ∧
    (0 : Int) ≤ (t4.size : Int) ∧
    ((t4.size : Int) : Int) ≤ (t5.size : Int) ∧
    r ≠ none ∧
    r ≠ none ∧
    ∃ t6 : ByteArray, cell w (pAdd r 0) 0 = some (.string t6) ∧
    (0 : Int) ≤ (t4.size : Int) ∧
    ((t4.size : Int) : Int) ≤ (t6.size : Int) ∧
    ((t6.size : Int) : Int) ≤ (t6.size : Int) ∧
    r ≠ none ∧
    r ≠ none ∧
    Store w (pAdd r 0) [(.string (t6.extract (t4.size : Int).toNat (t6.size : Int).toNat))] [] fun w7 =>
     ∀ w8, Ext w7 w8 →
     Q (.string (t5.extract (0 : Int).toNat (t4.size : Int).toNat)) w8)) ∧
   ((0 ≤ t3) →
    r ≠ none ∧
    r ≠ none ∧
    ∃ t4 : ByteArray, cell w (pAdd r 0) 0 = some (.string t4) ∧
    (0 : Int) ≤ 0 ∧
    (0 : Int) ≤ t3 ∧
    (t3 : Int) ≤ (t4.size : Int) ∧
    r ≠ none ∧
    r ≠ none ∧
    ∃ t5 : ByteArray, cell w (pAdd r 0) 0 = some (.string t5) ∧
    (0 : Int) ≤ t3 ∧
    (t3 : Int) ≤ (t5.size : Int) ∧
    ((t5.size : Int) : Int) ≤ (t5.size : Int) ∧
    r ≠ none ∧
    r ≠ none ∧
    Store w (pAdd r 0) [(.string (t5.extract t3.toNat (t5.size : Int).toNat))] [] fun w6 =>
     ∀ w7, Ext w6 w7 →
     Q (.string (t4.extract (0 : Int).toNat t3.toNat)) w7)

theorem ok_ask_reader_word (r : Option Addr) (w : World) (Q : Value → World → Prop) (h : wp_ask_reader_word r w Q) : FnP Tryd.prog F_ask_reader_word #[(.pointer r)] w Q := by
  have e_ : wp_ask_reader_word r w Q = Runs Tryd.prog Q ({ N := 33, wrap := [], pub := [], muts := [], joins := [] } : Cfg) Tryd.f57 (Tryd.f57.body.getD .skip) [.sc (.ptr r)] w := by kernel_rfl
  rw [e_] at h
  exact runs_fn h Tryd.func57 (by kernel_rfl) (fun args w => Tryd.call57 args w) (by kernel_rfl) (by kernel_rfl) rfl rfl

/-- shiftbell/shiftbellkeep.AskAlike -/
def wp_shiftbellkeep_AskAlike (x_0 : Int) (x_1 : ByteArray) (x_2 : ByteArray) (x_3 : Int) (x_4 : Option Addr) (x_4l : Nat) (x_4c : Nat) (y_0 : Int) (y_1 : ByteArray) (y_2 : ByteArray) (y_3 : Int) (y_4 : Option Addr) (y_4l : Nat) (y_4c : Nat) (h_v_0 : ByteArray) (h_v_1 : Option Addr) (h_v_1l : Nat) (h_v_1c : Nat) (h_v_2 : Int) (h_v_3 : Int) (h_v_4 : Int) (h_v_5 : Int) (h_v_6 : Int) (h_v_7 : Int) (w : World) (Q : Value → World → Prop) : Prop :=
  ∀ b0 : Nat, w.heap.size ≤ b0 → ∀ b1 : Nat, w.heap.size ≤ b1 → ∀ b2 : Nat, w.heap.size ≤ b2 → ∀ w3, Ext w w3 →
  FnP Tryd.prog F_shiftbellkeep_asks #[] w3 fun v4 w4 =>
   Ext w3 w4 ∧
   ∃ t5 : Bool, v4 = (.bool t5) ∧
   ((t5 = false) →
    ∀ w6, Ext w w6 →
    Q (.bool false) w6) ∧
   ((t5 = true) →
    ∀ w6, Ext w w6 →
    FnP Tryd.prog F_ask_Alike #[(.agg #[(.int .i64 x_0), (.string x_1), (.string x_2), (.int .i64 x_3), (.slice x_4 x_4l x_4c)]), (.agg #[(.int .i64 y_0), (.string y_1), (.string y_2), (.int .i64 y_3), (.slice y_4 y_4l y_4c)])] w6 fun v7 w7 =>
     Ext w6 w7 ∧
     ∃ t8 : Bool, ∃ t9 : Int, v7 = (.tuple #[(.bool t8), (.int .i64 t9)]) ∧
     ∀ w10, Ext w w10 →
     FnP Tryd.prog F_ask_Holds #[(.agg #[(.int .i64 x_0), (.string x_1), (.string x_2), (.int .i64 x_3), (.slice x_4 x_4l x_4c)]), (.agg #[(.string h_v_0), (.slice h_v_1 h_v_1l h_v_1c), (.int .i64 h_v_2), (.int .i64 h_v_3), (.int .i64 h_v_4), (.int .i64 h_v_5), (.int .i64 h_v_6), (.int .i64 h_v_7)])] w10 fun v11 w11 =>
      Ext w10 w11 ∧
      ∃ t12 : Bool, ∃ t13 : Int, v11 = (.tuple #[(.bool t12), (.int .i64 t13)]) ∧
      ∀ w14, Ext w w14 →
      FnP Tryd.prog F_ask_Holds #[(.agg #[(.int .i64 y_0), (.string y_1), (.string y_2), (.int .i64 y_3), (.slice y_4 y_4l y_4c)]), (.agg #[(.string h_v_0), (.slice h_v_1 h_v_1l h_v_1c), (.int .i64 h_v_2), (.int .i64 h_v_3), (.int .i64 h_v_4), (.int .i64 h_v_5), (.int .i64 h_v_6), (.int .i64 h_v_7)])] w14 fun v15 w15 =>
       Ext w14 w15 ∧
       ∃ t16 : Bool, ∃ t17 : Int, v15 = (.tuple #[(.bool t16), (.int .i64 t17)]) ∧
       (((t9 = 0) →
        ∀ w18, ExtB [] [b0, b1, b2] w w18 →
        Run Tryd.prog (.buildSlice 69 2 [(0, (.int .i64 t13)), (1, (.int .i64 t17))]) w18 fun v19 w19 =>
         Ext w18 w19 ∧
         ∃ t20 : Option Addr, ∃ tl21 : Nat, ∃ tc22 : Nat, v19 = (.slice t20 tl21 tc22) ∧
         ∀ w23, Ext w19 w23 →
         FnP Tryd.prog F_shiftbellkeep_good #[(.slice t20 tl21 tc22)] w23 fun v24 w24 =>
          Ext w23 w24 ∧
          ∃ t25 : Bool, v24 = (.bool t25) ∧
          ((((t25 = false) ∨ ((t8 = true) ∧ (((t12 = true) ∧ (t16 = false)) ∨ ((t12 = false) ∧ (t16 = true))))) →
           ∀ w26, Ext w19 w26 →
           Q (.bool false) w26)) ∧
          (((t25 = true) ∧ ((t8 = false) ∨ (((t12 = false) ∨ (t16 = true)) ∧ ((t12 = true) ∨ (t16 = false))))) →
           ∀ w26, ExtB [] [b0, b1, b2] w19 w26 →
           FnP Tryd.prog F_ask_Norm #[(.agg #[(.int .i64 x_0), (.string x_1), (.string x_2), (.int .i64 x_3), (.slice x_4 x_4l x_4c)])] w26 fun v27 w27 =>
            Ext w26 w27 ∧
            ∃ t_028 : Int, ∃ t_129 : ByteArray, ∃ t_230 : ByteArray, ∃ t_331 : Int, ∃ t_432 : Option Addr, ∃ t_4l33 : Nat, ∃ t_4c34 : Nat, ∃ t35 : Int, v27 = (.tuple #[(.agg #[(.int .i64 t_028), (.string t_129), (.string t_230), (.int .i64 t_331), (.slice t_432 t_4l33 t_4c34)]), (.int .i64 t35)]) ∧
            ∀ b36 : Nat, w27.heap.size ≤ b36 → ∀ w37, Ext w27 w37 →
            FnP Tryd.prog F_ask_Alike #[(.agg #[(.int .i64 x_0), (.string x_1), (.string x_2), (.int .i64 x_3), (.slice x_4 x_4l x_4c)]), (.agg #[(.int .i64 t_028), (.string t_129), (.string t_230), (.int .i64 t_331), (.slice t_432 t_4l33 t_4c34)])] w37 fun v38 w38 =>
             Ext w37 w38 ∧
             ∃ t39 : Bool, ∃ t40 : Int, v38 = (.tuple #[(.bool t39), (.int .i64 t40)]) ∧
             ∀ w41, Ext w27 w41 →
             FnP Tryd.prog F_ask_Alike #[(.agg #[(.int .i64 y_0), (.string y_1), (.string y_2), (.int .i64 y_3), (.slice y_4 y_4l y_4c)]), (.agg #[(.int .i64 x_0), (.string x_1), (.string x_2), (.int .i64 x_3), (.slice x_4 x_4l x_4c)])] w41 fun v42 w42 =>
              Ext w41 w42 ∧
              ∃ t43 : Bool, ∃ t44 : Int, v42 = (.tuple #[(.bool t43), (.int .i64 t44)]) ∧
              ∀ w45, Ext w27 w45 →
              Q (.bool ((((decide (t35 ≠ 0)) || (decide (t40 ≠ 0))) || t39) && ((decide (t9 ≠ 0)) || ((decide (t44 = 0)) && ((t43 && t8) || ((!t43) && (!t8))))))) w45))) ∧
       ((t9 ≠ 0) →
        ∀ w18, ExtB [] [b0, b1, b2] w w18 →
        FnP Tryd.prog F_ask_Norm #[(.agg #[(.int .i64 x_0), (.string x_1), (.string x_2), (.int .i64 x_3), (.slice x_4 x_4l x_4c)])] w18 fun v19 w19 =>
         Ext w18 w19 ∧
         ∃ t_020 : Int, ∃ t_121 : ByteArray, ∃ t_222 : ByteArray, ∃ t_323 : Int, ∃ t_424 : Option Addr, ∃ t_4l25 : Nat, ∃ t_4c26 : Nat, ∃ t27 : Int, v19 = (.tuple #[(.agg #[(.int .i64 t_020), (.string t_121), (.string t_222), (.int .i64 t_323), (.slice t_424 t_4l25 t_4c26)]), (.int .i64 t27)]) ∧
         ∀ b28 : Nat, w19.heap.size ≤ b28 → ∀ w29, Ext w19 w29 →
         FnP Tryd.prog F_ask_Alike #[(.agg #[(.int .i64 x_0), (.string x_1), (.string x_2), (.int .i64 x_3), (.slice x_4 x_4l x_4c)]), (.agg #[(.int .i64 t_020), (.string t_121), (.string t_222), (.int .i64 t_323), (.slice t_424 t_4l25 t_4c26)])] w29 fun v30 w30 =>
          Ext w29 w30 ∧
          ∃ t31 : Bool, ∃ t32 : Int, v30 = (.tuple #[(.bool t31), (.int .i64 t32)]) ∧
          ∀ w33, Ext w19 w33 →
          FnP Tryd.prog F_ask_Alike #[(.agg #[(.int .i64 y_0), (.string y_1), (.string y_2), (.int .i64 y_3), (.slice y_4 y_4l y_4c)]), (.agg #[(.int .i64 x_0), (.string x_1), (.string x_2), (.int .i64 x_3), (.slice x_4 x_4l x_4c)])] w33 fun v34 w34 =>
           Ext w33 w34 ∧
           ∃ t35 : Bool, ∃ t36 : Int, v34 = (.tuple #[(.bool t35), (.int .i64 t36)]) ∧
           ∀ w37, Ext w19 w37 →
           Q (.bool ((((decide (t27 ≠ 0)) || (decide (t32 ≠ 0))) || t31) && ((decide (t9 ≠ 0)) || ((decide (t36 = 0)) && ((t35 && t8) || ((!t35) && (!t8))))))) w37))

theorem ok_shiftbellkeep_AskAlike (x_0 : Int) (x_1 : ByteArray) (x_2 : ByteArray) (x_3 : Int) (x_4 : Option Addr) (x_4l : Nat) (x_4c : Nat) (y_0 : Int) (y_1 : ByteArray) (y_2 : ByteArray) (y_3 : Int) (y_4 : Option Addr) (y_4l : Nat) (y_4c : Nat) (h_v_0 : ByteArray) (h_v_1 : Option Addr) (h_v_1l : Nat) (h_v_1c : Nat) (h_v_2 : Int) (h_v_3 : Int) (h_v_4 : Int) (h_v_5 : Int) (h_v_6 : Int) (h_v_7 : Int) (w : World) (Q : Value → World → Prop) (h : wp_shiftbellkeep_AskAlike x_0 x_1 x_2 x_3 x_4 x_4l x_4c y_0 y_1 y_2 y_3 y_4 y_4l y_4c h_v_0 h_v_1 h_v_1l h_v_1c h_v_2 h_v_3 h_v_4 h_v_5 h_v_6 h_v_7 w Q) : FnP Tryd.prog F_shiftbellkeep_AskAlike #[(.agg #[(.int .i64 x_0), (.string x_1), (.string x_2), (.int .i64 x_3), (.slice x_4 x_4l x_4c)]), (.agg #[(.int .i64 y_0), (.string y_1), (.string y_2), (.int .i64 y_3), (.slice y_4 y_4l y_4c)]), (.agg #[(.string h_v_0), (.slice h_v_1 h_v_1l h_v_1c), (.int .i64 h_v_2), (.int .i64 h_v_3), (.int .i64 h_v_4), (.int .i64 h_v_5), (.int .i64 h_v_6), (.int .i64 h_v_7)])] w Q := by
  have e_ : wp_shiftbellkeep_AskAlike x_0 x_1 x_2 x_3 x_4 x_4l x_4c y_0 y_1 y_2 y_3 y_4 y_4l y_4c h_v_0 h_v_1 h_v_1l h_v_1c h_v_2 h_v_3 h_v_4 h_v_5 h_v_6 h_v_7 w Q = Runs Tryd.prog Q ({ N := 95, wrap := [], pub := [], muts := [], joins := [] } : Cfg) Tryd.f3 (Tryd.f3.body.getD .skip) [.agg [.int .i64 x_0, .str x_1, .str x_2, .int .i64 x_3, .slc x_4 x_4l x_4c], .agg [.int .i64 y_0, .str y_1, .str y_2, .int .i64 y_3, .slc y_4 y_4l y_4c], .agg [.str h_v_0, .slc h_v_1 h_v_1l h_v_1c, .int .i64 h_v_2, .int .i64 h_v_3, .int .i64 h_v_4, .int .i64 h_v_5, .int .i64 h_v_6, .int .i64 h_v_7]] w := by kernel_rfl
  rw [e_] at h
  exact runs_fn h Tryd.func3 (by kernel_rfl) (fun args w => Tryd.call3 args w) (by kernel_rfl) (by kernel_rfl) rfl rfl

theorem open_shiftbellkeep_AskAlike (W : World) (R : Array Value → Prop) (h : ∀ x_0 : Int, InR .i64 x_0 → ∀ x_1 : ByteArray, x_1.size ≤ 9223372036854775807 → ∀ x_2 : ByteArray, x_2.size ≤ 9223372036854775807 → ∀ x_3 : Int, InR .i64 x_3 → ∀ x_4 : Option Addr, ∀ x_4l : Nat, ∀ x_4c : Nat, SlcArg Tryd.prog W 24 x_4 x_4l x_4c → ∀ y_0 : Int, InR .i64 y_0 → ∀ y_1 : ByteArray, y_1.size ≤ 9223372036854775807 → ∀ y_2 : ByteArray, y_2.size ≤ 9223372036854775807 → ∀ y_3 : Int, InR .i64 y_3 → ∀ y_4 : Option Addr, ∀ y_4l : Nat, ∀ y_4c : Nat, SlcArg Tryd.prog W 24 y_4 y_4l y_4c → ∀ h_v_0 : ByteArray, h_v_0.size ≤ 9223372036854775807 → ∀ h_v_1 : Option Addr, ∀ h_v_1l : Nat, ∀ h_v_1c : Nat, SlcArg Tryd.prog W 67 h_v_1 h_v_1l h_v_1c → ∀ h_v_2 : Int, InR .i64 h_v_2 → ∀ h_v_3 : Int, InR .i64 h_v_3 → ∀ h_v_4 : Int, InR .i64 h_v_4 → ∀ h_v_5 : Int, InR .i64 h_v_5 → ∀ h_v_6 : Int, InR .i64 h_v_6 → ∀ h_v_7 : Int, InR .i64 h_v_7 → R #[(.agg #[(.int .i64 x_0), (.string x_1), (.string x_2), (.int .i64 x_3), (.slice x_4 x_4l x_4c)]), (.agg #[(.int .i64 y_0), (.string y_1), (.string y_2), (.int .i64 y_3), (.slice y_4 y_4l y_4c)]), (.agg #[(.string h_v_0), (.slice h_v_1 h_v_1l h_v_1c), (.int .i64 h_v_2), (.int .i64 h_v_3), (.int .i64 h_v_4), (.int .i64 h_v_5), (.int .i64 h_v_6), (.int .i64 h_v_7)])]) (args : Array Value) (hg : GoodAll Tryd.prog W Tryd.f3.params.toList args.toList) : R args := by
  have e_ : (ArgsAll Tryd.prog W Tryd.f3.params.toList fun l => R l.toArray) = (∀ x_0 : Int, InR .i64 x_0 → ∀ x_1 : ByteArray, x_1.size ≤ 9223372036854775807 → ∀ x_2 : ByteArray, x_2.size ≤ 9223372036854775807 → ∀ x_3 : Int, InR .i64 x_3 → ∀ x_4 : Option Addr, ∀ x_4l : Nat, ∀ x_4c : Nat, SlcArg Tryd.prog W 24 x_4 x_4l x_4c → ∀ y_0 : Int, InR .i64 y_0 → ∀ y_1 : ByteArray, y_1.size ≤ 9223372036854775807 → ∀ y_2 : ByteArray, y_2.size ≤ 9223372036854775807 → ∀ y_3 : Int, InR .i64 y_3 → ∀ y_4 : Option Addr, ∀ y_4l : Nat, ∀ y_4c : Nat, SlcArg Tryd.prog W 24 y_4 y_4l y_4c → ∀ h_v_0 : ByteArray, h_v_0.size ≤ 9223372036854775807 → ∀ h_v_1 : Option Addr, ∀ h_v_1l : Nat, ∀ h_v_1c : Nat, SlcArg Tryd.prog W 67 h_v_1 h_v_1l h_v_1c → ∀ h_v_2 : Int, InR .i64 h_v_2 → ∀ h_v_3 : Int, InR .i64 h_v_3 → ∀ h_v_4 : Int, InR .i64 h_v_4 → ∀ h_v_5 : Int, InR .i64 h_v_5 → ∀ h_v_6 : Int, InR .i64 h_v_6 → ∀ h_v_7 : Int, InR .i64 h_v_7 → R #[(.agg #[(.int .i64 x_0), (.string x_1), (.string x_2), (.int .i64 x_3), (.slice x_4 x_4l x_4c)]), (.agg #[(.int .i64 y_0), (.string y_1), (.string y_2), (.int .i64 y_3), (.slice y_4 y_4l y_4c)]), (.agg #[(.string h_v_0), (.slice h_v_1 h_v_1l h_v_1c), (.int .i64 h_v_2), (.int .i64 h_v_3), (.int .i64 h_v_4), (.int .i64 h_v_5), (.int .i64 h_v_6), (.int .i64 h_v_7)])]) := by kernel_rfl
  exact args_open (by rw [e_]; exact h) args hg
-- wit 3 #[(.agg #[(.int .i64 0), (.string (⟨#[]⟩ : ByteArray)), (.string (⟨#[]⟩ : ByteArray)), (.int .i64 0), (.slice none 0 0)]), (.agg #[(.int .i64 0), (.string (⟨#[]⟩ : ByteArray)), (.string (⟨#[]⟩ : ByteArray)), (.int .i64 0), (.slice none 0 0)]), (.agg #[(.string (⟨#[]⟩ : ByteArray)), (.slice none 0 0), (.int .i64 0), (.int .i64 0), (.int .i64 0), (.int .i64 0), (.int .i64 0), (.int .i64 0)])]

end Go.Proofs.YteelndoflikliaaDoor
