/- The texts of this seat's functions: what each computes, as its symbolic run says it. -/
import Derived.Test.YtcliejgmehlojaaDoorRows
import Derived.Test.YtcliejgmehlojaaDoorSxD
import Derived.Test.YtcliejgmehlojaaDoorSxN
set_option linter.unusedVariables false
set_option linter.unusedSimpArgs false
set_option maxRecDepth 100000
namespace Go.Proofs.YtcliejgmehlojaaDoor
open Go.Sx Go.RowKit

abbrev F_shiftbellkeep_CivilBack : FuncId := 3
abbrev F_shiftbellkeep_CivilWeek : FuncId := 4
abbrev F_shiftbellkeep_CivilNext : FuncId := 5
abbrev F_shiftbellkeep_CivilMonths : FuncId := 6
abbrev F_shiftbellkeep_CivilYears : FuncId := 7
abbrev F_shiftbellkeep_CivilCut : FuncId := 8
abbrev F_shiftbellkeep_days : FuncId := 10
abbrev F_civil_Date : FuncId := 11
abbrev F_civil_Days : FuncId := 12
abbrev F_civil_Weekday : FuncId := 13
abbrev F_civil_Length : FuncId := 14
abbrev F_shiftbellkeep_good : FuncId := 15
abbrev F_civil_Add : FuncId := 16
abbrev F_civil_before : FuncId := 19
abbrev F_civil_length : FuncId := 20
abbrev F_civil_long : FuncId := 21
abbrev F_slices_ContainsFunc_api_Errno_api_Errno : FuncId := 22
abbrev F_shiftbellkeep_good_1 : FuncId := 23
abbrev F_slices_IndexFunc_api_Errno_api_Errno : FuncId := 25
abbrev T__0 : TypeId := 0
abbrev T_int64 : TypeId := 2
abbrev T_int : TypeId := 3
abbrev T_bool : TypeId := 4
abbrev T_uint8 : TypeId := 5
abbrev T_string : TypeId := 9
abbrev T_uintptr : TypeId := 12
abbrev T_int32 : TypeId := 21
abbrev T_Errno : TypeId := 23
abbrev T_int_int_int_Errno : TypeId := 24
abbrev T_int_Errno : TypeId := 26
abbrev T_string_Errno : TypeId := 34
abbrev T_sl_Errno : TypeId := 41
abbrev T_sl_uint8 : TypeId := 46
abbrev T_uint32 : TypeId := 55
abbrev T_ptr_uint8 : TypeId := 59
abbrev T_unsafe_Pointer : TypeId := 64
theorem elem_sl_Errno : slEl Tryd.prog 41 = some (23, 1, 8, (.int .i64 0)) := by kernel_rfl
theorem elem_sl_uint8 : slEl Tryd.prog 46 = some (5, 1, 1, (.int .u8 0)) := by kernel_rfl

/-- shiftbell/civil.long -/
def wp_civil_long (y : Int) (w : World) (Q : Value → World → Prop) : Prop :=
  ∀ w0, Ext w w0 →
  Q (.bool (((decide ((y.tmod 4) = 0)) && (decide ((y.tmod 100) ≠ 0))) || (decide ((y.tmod 400) = 0)))) w0

theorem ok_civil_long (y : Int) (w : World) (Q : Value → World → Prop) (h : wp_civil_long y w Q) : FnP Tryd.prog F_civil_long #[(.int .i64 y)] w Q := by
  have e_ : wp_civil_long y w Q = Runs Tryd.prog Q ({ N := 16, wrap := [], pub := [], muts := [], joins := [] } : Cfg) Tryd.f21 (Tryd.f21.body.getD .skip) [.sc (.int .i64 y)] w := by kernel_rfl
  rw [e_] at h
  exact runs_fn h Tryd.func21 (by kernel_rfl) (fun args w => Tryd.call21 args w) (by kernel_rfl) (by kernel_rfl) rfl rfl

/-- shiftbell/civil.before -/
def wp_civil_before (y : Int) (w : World) (Q : Value → World → Prop) : Prop :=
  InR .i64 (y - 1) ∧
  InR .i64 (365 * (y - 1)) ∧
  InR .i64 ((y - 1).tdiv 4) ∧
  InR .i64 ((365 * (y - 1)) + ((y - 1).tdiv 4)) ∧
  InR .i64 ((y - 1).tdiv 100) ∧
  InR .i64 (((365 * (y - 1)) + ((y - 1).tdiv 4)) - ((y - 1).tdiv 100)) ∧
  InR .i64 ((y - 1).tdiv 400) ∧
  InR .i64 ((((365 * (y - 1)) + ((y - 1).tdiv 4)) - ((y - 1).tdiv 100)) + ((y - 1).tdiv 400)) ∧
  ∀ w0, Ext w w0 →
  Q (.int .i64 ((((365 * (y - 1)) + ((y - 1).tdiv 4)) - ((y - 1).tdiv 100)) + ((y - 1).tdiv 400))) w0

theorem ok_civil_before (y : Int) (w : World) (Q : Value → World → Prop) (h : wp_civil_before y w Q) : FnP Tryd.prog F_civil_before #[(.int .i64 y)] w Q := by
  have e_ : wp_civil_before y w Q = Runs Tryd.prog Q ({ N := 16, wrap := [], pub := [], muts := [], joins := [] } : Cfg) Tryd.f19 (Tryd.f19.body.getD .skip) [.sc (.int .i64 y)] w := by kernel_rfl
  rw [e_] at h
  exact runs_fn h Tryd.func19 (by kernel_rfl) (fun args w => Tryd.call19 args w) (by kernel_rfl) (by kernel_rfl) rfl rfl

/-- shiftbell/civil.length -/
def wp_civil_length (y : Int) (m : Int) (w : World) (Q : Value → World → Prop) : Prop :=
  (((m = 2) →
   ∀ w0, Ext w w0 →
   FnP Tryd.prog F_civil_long #[(.int .i64 y)] w0 fun v1 w1 =>
    Ext w0 w1 ∧
    ∃ t2 : Bool, v1 = (.bool t2) ∧
    ((t2 = true) →
     ∀ w3, Ext w w3 →
     Q (.int .i64 29) w3) ∧
    ((t2 = false) →
     ((m = 12) →
      ∀ w3, Ext w w3 →
      Q (.int .i64 31) w3) ∧
     ((m ≠ 12) →
      InR .i64 (m + 1) ∧
      (some (⟨0, 0, none⟩ : Addr)) ≠ none ∧
      (0 : Int) ≤ (m + 1) ∧
      ((m + 1) : Int) < 13 ∧
      ∃ t3 : Int, cell w (pIdx (some (⟨0, 0, none⟩ : Addr)) (m + 1) 1) 0 = some (.int .i64 t3) ∧
      (some (⟨0, 0, none⟩ : Addr)) ≠ none ∧
      (0 : Int) ≤ m ∧
      (m : Int) < 13 ∧
      ∃ t4 : Int, cell w (pIdx (some (⟨0, 0, none⟩ : Addr)) m 1) 0 = some (.int .i64 t4) ∧
      InR .i64 (t3 - t4) ∧
      ∀ w5, Ext w w5 →
      Q (.int .i64 (t3 - t4)) w5)))) ∧
  ((m ≠ 2) →
   ((m = 12) →
    ∀ w0, Ext w w0 →
    Q (.int .i64 31) w0) ∧
   ((m ≠ 12) →
    InR .i64 (m + 1) ∧
    (some (⟨0, 0, none⟩ : Addr)) ≠ none ∧
    (0 : Int) ≤ (m + 1) ∧
    ((m + 1) : Int) < 13 ∧
    ∃ t0 : Int, cell w (pIdx (some (⟨0, 0, none⟩ : Addr)) (m + 1) 1) 0 = some (.int .i64 t0) ∧
    (some (⟨0, 0, none⟩ : Addr)) ≠ none ∧
    (0 : Int) ≤ m ∧
    (m : Int) < 13 ∧
    ∃ t1 : Int, cell w (pIdx (some (⟨0, 0, none⟩ : Addr)) m 1) 0 = some (.int .i64 t1) ∧
    InR .i64 (t0 - t1) ∧
    ∀ w2, Ext w w2 →
    Q (.int .i64 (t0 - t1)) w2))

theorem ok_civil_length (y : Int) (m : Int) (w : World) (Q : Value → World → Prop) (h : wp_civil_length y m w Q) : FnP Tryd.prog F_civil_length #[(.int .i64 y), (.int .i64 m)] w Q := by
  have e_ : wp_civil_length y m w Q = Runs Tryd.prog Q ({ N := 23, wrap := [], pub := [], muts := [], joins := [] } : Cfg) Tryd.f20 (Tryd.f20.body.getD .skip) [.sc (.int .i64 y), .sc (.int .i64 m)] w := by kernel_rfl
  rw [e_] at h
  exact runs_fn h Tryd.func20 (by kernel_rfl) (fun args w => Tryd.call20 args w) (by kernel_rfl) (by kernel_rfl) rfl rfl

/-- shiftbell/civil.Length -/
def wp_civil_Length (y : Int) (m : Int) (w : World) (Q : Value → World → Prop) : Prop :=
  (((((y < 1) ∨ (9999 < y)) ∨ (m < 1)) ∨ (12 < m)) →
   ∀ w0, Ext w w0 →
   Q (.tuple #[(.int .i64 0), (.int .i64 4)]) w0) ∧
  (((((1 ≤ y) ∧ (y ≤ 9999)) ∧ (1 ≤ m)) ∧ (m ≤ 12)) →
   ∀ w0, Ext w w0 →
   FnP Tryd.prog F_civil_length #[(.int .i64 y), (.int .i64 m)] w0 fun v1 w1 =>
    Ext w0 w1 ∧
    ∃ t2 : Int, v1 = (.int .i64 t2) ∧
    ∀ w3, Ext w w3 →
    Q (.tuple #[(.int .i64 t2), (.int .i64 0)]) w3)

theorem ok_civil_Length (y : Int) (m : Int) (w : World) (Q : Value → World → Prop) (h : wp_civil_Length y m w Q) : FnP Tryd.prog F_civil_Length #[(.int .i64 y), (.int .i64 m)] w Q := by
  have e_ : wp_civil_Length y m w Q = Runs Tryd.prog Q ({ N := 23, wrap := [], pub := [], muts := [], joins := [] } : Cfg) Tryd.f14 (Tryd.f14.body.getD .skip) [.sc (.int .i64 y), .sc (.int .i64 m)] w := by kernel_rfl
  rw [e_] at h
  exact runs_fn h Tryd.func14 (by kernel_rfl) (fun args w => Tryd.call14 args w) (by kernel_rfl) (by kernel_rfl) rfl rfl

/-- shiftbell/civil.Days -/
def wp_civil_Days (y : Int) (m : Int) (d : Int) (w : World) (Q : Value → World → Prop) : Prop :=
  ∀ w0, Ext w w0 →
  FnP Tryd.prog F_civil_Length #[(.int .i64 y), (.int .i64 m)] w0 fun v1 w1 =>
   Ext w0 w1 ∧
   ∃ t2 : Int, ∃ t3 : Int, v1 = (.tuple #[(.int .i64 t2), (.int .i64 t3)]) ∧
   ((((t3 ≠ 0) ∨ (d < 1)) ∨ (t2 < d)) →
    ∀ w4, Ext w w4 →
    Q (.tuple #[(.int .i64 0), (.int .i64 4)]) w4) ∧
   ((((t3 = 0) ∧ (1 ≤ d)) ∧ (d ≤ t2)) →
    (some (⟨0, 0, none⟩ : Addr)) ≠ none ∧
    (0 : Int) ≤ m ∧
    (m : Int) < 13 ∧
    ∃ t4 : Int, cell w (pIdx (some (⟨0, 0, none⟩ : Addr)) m 1) 0 = some (.int .i64 t4) ∧
    ∀ w5, Ext w w5 →
    FnP Tryd.prog F_civil_before #[(.int .i64 y)] w5 fun v6 w6 =>
     Ext w5 w6 ∧
     ∃ t7 : Int, v6 = (.int .i64 t7) ∧
     InR .i64 (t7 + t4) ∧
     InR .i64 ((t7 + t4) + d) ∧
     InR .i64 (((t7 + t4) + d) - 1) ∧
     (((2 < m) →
      ∀ w8, Ext w w8 →
      FnP Tryd.prog F_civil_long #[(.int .i64 y)] w8 fun v9 w9 =>
       Ext w8 w9 ∧
       ∃ t10 : Bool, v9 = (.bool t10) ∧
       (((t10 = true) →
        InR .i64 ((((t7 + t4) + d) - 1) + 1) ∧
        ∀ w11, Ext w w11 →
        Q (.tuple #[(.int .i64 ((((t7 + t4) + d) - 1) + 1)), (.int .i64 0)]) w11)) ∧
       ((t10 = false) →
        ∀ w11, Ext w w11 →
        Q (.tuple #[(.int .i64 (((t7 + t4) + d) - 1)), (.int .i64 0)]) w11))) ∧
     ((m ≤ 2) →
      ∀ w8, Ext w w8 →
      Q (.tuple #[(.int .i64 (((t7 + t4) + d) - 1)), (.int .i64 0)]) w8))

theorem ok_civil_Days (y : Int) (m : Int) (d : Int) (w : World) (Q : Value → World → Prop) (h : wp_civil_Days y m d w Q) : FnP Tryd.prog F_civil_Days #[(.int .i64 y), (.int .i64 m), (.int .i64 d)] w Q := by
  have e_ : wp_civil_Days y m d w Q = Runs Tryd.prog Q ({ N := 45, wrap := [], pub := [], muts := [], joins := [] } : Cfg) Tryd.f12 (Tryd.f12.body.getD .skip) [.sc (.int .i64 y), .sc (.int .i64 m), .sc (.int .i64 d)] w := by kernel_rfl
  rw [e_] at h
  exact runs_fn h Tryd.func12 (by kernel_rfl) (fun args w => Tryd.call12 args w) (by kernel_rfl) (by kernel_rfl) rfl rfl

/-- shiftbell/civil.Date -/
def wp_civil_Date (n : Int) (w : World) (Q : Value → World → Prop) : Prop :=
  (((n < 0) ∨ (3652058 < n)) →
   ∀ w0, Ext w w0 →
   Q (.tuple #[(.int .i64 0), (.int .i64 0), (.int .i64 0), (.int .i64 4)]) w0) ∧
  (((0 ≤ n) ∧ (n ≤ 3652058)) →
   InR .i64 (n.tdiv 366) ∧
   InR .i64 ((n.tdiv 366) + 1) ∧
   ∃ (I0 : Int → World → Prop) (M0 : Int → World → Nat), I0 ((n.tdiv 366) + 1) w ∧
   ∀ (y1 : Int) (w2 : World), I0 y1 w2 →
    InR .i64 (y1 + 1) ∧
    ∀ w3, Ext w2 w3 →
    FnP Tryd.prog F_civil_before #[(.int .i64 (y1 + 1))] w3 fun v4 w4 =>
     Ext w3 w4 ∧
     ∃ t5 : Int, v4 = (.int .i64 t5) ∧
     (((t5 ≤ n) →
      InR .i64 (y1 + 1) ∧
      (I0 (y1 + 1) w2 ∧ M0 (y1 + 1) w2 < M0 y1 w2))) ∧
     ((n < t5) →
      ∀ w6, Ext w2 w6 →
      FnP Tryd.prog F_civil_before #[(.int .i64 y1)] w6 fun v7 w7 =>
       Ext w6 w7 ∧
       ∃ t8 : Int, v7 = (.int .i64 t8) ∧
       InR .i64 (n - t8) ∧
       ∃ (I9 : Int → Int → World → Prop) (M9 : Int → Int → World → Nat), I9 (n - t8) 1 w2 ∧
       ∀ (n10 : Int) (m11 : Int) (w12 : World), I9 n10 m11 w12 →
        ∀ w13, Ext w12 w13 →
        FnP Tryd.prog F_civil_length #[(.int .i64 y1), (.int .i64 m11)] w13 fun v14 w14 =>
         Ext w13 w14 ∧
         ∃ t15 : Int, v14 = (.int .i64 t15) ∧
         (((t15 ≤ n10) →
          ∀ w16, Ext w12 w16 →
          FnP Tryd.prog F_civil_length #[(.int .i64 y1), (.int .i64 m11)] w16 fun v17 w17 =>
           Ext w16 w17 ∧
           ∃ t18 : Int, v17 = (.int .i64 t18) ∧
           InR .i64 (n10 - t18) ∧
           InR .i64 (m11 + 1) ∧
           (I9 (n10 - t18) (m11 + 1) w12 ∧ M9 (n10 - t18) (m11 + 1) w12 < M9 n10 m11 w12))) ∧
         ((n10 < t15) →
          InR .i64 (n10 + 1) ∧
          ∀ w16, Ext w12 w16 →
          Q (.tuple #[(.int .i64 y1), (.int .i64 m11), (.int .i64 (n10 + 1)), (.int .i64 0)]) w16)))

theorem ok_civil_Date (n : Int) (w : World) (Q : Value → World → Prop) (h : wp_civil_Date n w Q) : FnP Tryd.prog F_civil_Date #[(.int .i64 n)] w Q := by
  have e_ : wp_civil_Date n w Q = Runs Tryd.prog Q ({ N := 42, wrap := [], pub := [], muts := [], joins := [] } : Cfg) Tryd.f11 (Tryd.f11.body.getD .skip) [.sc (.int .i64 n)] w := by kernel_rfl
  rw [e_] at h
  exact runs_fn h Tryd.func11 (by kernel_rfl) (fun args w => Tryd.call11 args w) (by kernel_rfl) (by kernel_rfl) rfl rfl

/-- shiftbell/civil.Weekday -/
def wp_civil_Weekday (n : Int) (w : World) (Q : Value → World → Prop) : Prop :=
  (((n < 0) ∨ (3652058 < n)) →
   ∀ w0, Ext w w0 →
   Q (.tuple #[(.int .i64 0), (.int .i64 4)]) w0) ∧
  (((0 ≤ n) ∧ (n ≤ 3652058)) →
   InR .i64 (n + 1) ∧
   ∀ w0, Ext w w0 →
   Q (.tuple #[(.int .i64 ((n + 1).tmod 7)), (.int .i64 0)]) w0)

theorem ok_civil_Weekday (n : Int) (w : World) (Q : Value → World → Prop) (h : wp_civil_Weekday n w Q) : FnP Tryd.prog F_civil_Weekday #[(.int .i64 n)] w Q := by
  have e_ : wp_civil_Weekday n w Q = Runs Tryd.prog Q ({ N := 13, wrap := [], pub := [], muts := [], joins := [] } : Cfg) Tryd.f13 (Tryd.f13.body.getD .skip) [.sc (.int .i64 n)] w := by kernel_rfl
  rw [e_] at h
  exact runs_fn h Tryd.func13 (by kernel_rfl) (fun args w => Tryd.call13 args w) (by kernel_rfl) (by kernel_rfl) rfl rfl

/-- shiftbell/civil.Add -/
def wp_civil_Add (n : Int) (months : Int) (w : World) (Q : Value → World → Prop) : Prop :=
  ∀ w0, Ext w w0 →
  FnP Tryd.prog F_civil_Date #[(.int .i64 n)] w0 fun v1 w1 =>
   Ext w0 w1 ∧
   ∃ t2 : Int, ∃ t3 : Int, ∃ t4 : Int, ∃ t5 : Int, v1 = (.tuple #[(.int .i64 t2), (.int .i64 t3), (.int .i64 t4), (.int .i64 t5)]) ∧
   ((t5 ≠ 0) →
    ∀ w6, Ext w w6 →
    Q (.tuple #[(.int .i64 0), (.int .i64 t5)]) w6) ∧
   ((t5 = 0) →
    (((months < (-120000)) ∨ (120000 < months)) →
     ∀ w6, Ext w w6 →
     Q (.tuple #[(.int .i64 0), (.int .i64 1)]) w6) ∧
    ((((-120000) ≤ months) ∧ (months ≤ 120000)) →
     InR .i64 (12 * t2) ∧
     InR .i64 ((12 * t2) - 1) ∧
     InR .i64 (((12 * t2) - 1) + months) ∧
     InR .i64 (t3 + (((12 * t2) - 1) + months)) ∧
     InR .i64 ((t3 + (((12 * t2) - 1) + months)).tdiv 12) ∧
     InR .i64 (((t3 + (((12 * t2) - 1) + months)).tmod 12) + 1) ∧
     ((((((t3 + (((12 * t2) - 1) + months)).tdiv 12) < 1) ∨ (9999 < ((t3 + (((12 * t2) - 1) + months)).tdiv 12))) ∨ ((((t3 + (((12 * t2) - 1) + months)).tmod 12) + 1) < 1)) →
      ∀ w6, Ext w w6 →
      Q (.tuple #[(.int .i64 0), (.int .i64 4)]) w6) ∧
     ((((1 ≤ ((t3 + (((12 * t2) - 1) + months)).tdiv 12)) ∧ (((t3 + (((12 * t2) - 1) + months)).tdiv 12) ≤ 9999)) ∧ (1 ≤ (((t3 + (((12 * t2) - 1) + months)).tmod 12) + 1))) →
      ∀ w6, Ext w w6 →
      FnP Tryd.prog F_civil_length #[(.int .i64 ((t3 + (((12 * t2) - 1) + months)).tdiv 12)), (.int .i64 (((t3 + (((12 * t2) - 1) + months)).tmod 12) + 1))] w6 fun v7 w7 =>
       Ext w6 w7 ∧
       ∃ t8 : Int, v7 = (.int .i64 t8) ∧
       ∀ w9, Ext w w9 →
       FnP Tryd.prog F_civil_Days #[(.int .i64 ((t3 + (((12 * t2) - 1) + months)).tdiv 12)), (.int .i64 (((t3 + (((12 * t2) - 1) + months)).tmod 12) + 1)), (.int .i64 (min t4 t8))] w9 fun v10 w10 =>
        Ext w9 w10 ∧
        ∃ t11 : Int, ∃ t12 : Int, v10 = (.tuple #[(.int .i64 t11), (.int .i64 t12)]) ∧
        ∀ w13, Ext w w13 →
        Q (.tuple #[(.int .i64 t11), (.int .i64 t12)]) w13)))

theorem ok_civil_Add (n : Int) (months : Int) (w : World) (Q : Value → World → Prop) (h : wp_civil_Add n months w Q) : FnP Tryd.prog F_civil_Add #[(.int .i64 n), (.int .i64 months)] w Q := by
  have e_ : wp_civil_Add n months w Q = Runs Tryd.prog Q ({ N := 60, wrap := [], pub := [], muts := [], joins := [] } : Cfg) Tryd.f16 (Tryd.f16.body.getD .skip) [.sc (.int .i64 n), .sc (.int .i64 months)] w := by kernel_rfl
  rw [e_] at h
  exact runs_fn h Tryd.func16 (by kernel_rfl) (fun args w => Tryd.call16 args w) (by kernel_rfl) (by kernel_rfl) rfl rfl

/-- shiftbell/shiftbellkeep.days -/
def wp_shiftbellkeep_days  (w : World) (Q : Value → World → Prop) : Prop :=
  ∀ w0, Ext w w0 →
  FnP Tryd.prog F_civil_Days #[(.int .i64 1), (.int .i64 1), (.int .i64 2)] w0 fun v1 w1 =>
   Ext w0 w1 ∧
   ∃ t2 : Int, ∃ t3 : Int, v1 = (.tuple #[(.int .i64 t2), (.int .i64 t3)]) ∧
   ∀ w4, Ext w w4 →
   Q (.bool ((decide (t3 = 0)) && (decide (t2 = 1)))) w4

theorem ok_shiftbellkeep_days  (w : World) (Q : Value → World → Prop) (h : wp_shiftbellkeep_days  w Q) : FnP Tryd.prog F_shiftbellkeep_days #[] w Q := by
  have e_ : wp_shiftbellkeep_days  w Q = Runs Tryd.prog Q ({ N := 13, wrap := [], pub := [], muts := [], joins := [] } : Cfg) Tryd.f10 (Tryd.f10.body.getD .skip) [] w := by kernel_rfl
  rw [e_] at h
  exact runs_fn h Tryd.func10 (by kernel_rfl) (fun args w => Tryd.call10 args w) (by kernel_rfl) (by kernel_rfl) rfl rfl

/-- shiftbell/shiftbellkeep.good -/
def wp_shiftbellkeep_good (l : Option Addr) (ll : Nat) (lc : Nat) (w : World) (Q : Value → World → Prop) : Prop :=
  ∀ w0, Ext w w0 →
  FnP Tryd.prog F_slices_ContainsFunc_api_Errno_api_Errno #[(.slice l ll lc), (.func (.func 23) #[] #[])] w0 fun v1 w1 =>
   Ext w0 w1 ∧
   ∃ t2 : Bool, v1 = (.bool t2) ∧
   ∀ w3, Ext w w3 →
   Q (.bool (!t2)) w3

theorem ok_shiftbellkeep_good (l : Option Addr) (ll : Nat) (lc : Nat) (w : World) (Q : Value → World → Prop) (h : wp_shiftbellkeep_good l ll lc w Q) : FnP Tryd.prog F_shiftbellkeep_good #[(.slice l ll lc)] w Q := by
  have e_ : wp_shiftbellkeep_good l ll lc w Q = Runs Tryd.prog Q ({ N := 6, wrap := [], pub := [], muts := [], joins := [] } : Cfg) Tryd.f15 (Tryd.f15.body.getD .skip) [.sc (.slc l ll lc)] w := by kernel_rfl
  rw [e_] at h
  exact runs_fn h Tryd.func15 (by kernel_rfl) (fun args w => Tryd.call15 args w) (by kernel_rfl) (by kernel_rfl) rfl rfl

/-- shiftbell/shiftbellkeep.good$1 -/
def wp_shiftbellkeep_good_1 (e : Int) (w : World) (Q : Value → World → Prop) : Prop :=
  ∀ w0, Ext w w0 →
  Q (.bool (decide (e ≠ 0))) w0

theorem ok_shiftbellkeep_good_1 (e : Int) (w : World) (Q : Value → World → Prop) (h : wp_shiftbellkeep_good_1 e w Q) : FnP Tryd.prog F_shiftbellkeep_good_1 #[(.int .i64 e)] w Q := by
  have e_ : wp_shiftbellkeep_good_1 e w Q = Runs Tryd.prog Q ({ N := 5, wrap := [], pub := [], muts := [], joins := [] } : Cfg) Tryd.f23 (Tryd.f23.body.getD .skip) [.sc (.int .i64 e)] w := by kernel_rfl
  rw [e_] at h
  exact runs_fn h Tryd.func23 (by kernel_rfl) (fun args w => Tryd.call23 args w) (by kernel_rfl) (by kernel_rfl) rfl rfl

/-- shiftbell/shiftbellkeep.CivilBack -/
def wp_shiftbellkeep_CivilBack (n : Int) (y : Int) (m : Int) (d : Int) (w : World) (Q : Value → World → Prop) : Prop :=
  ∀ w0, Ext w w0 →
  FnP Tryd.prog F_shiftbellkeep_days #[] w0 fun v1 w1 =>
   Ext w0 w1 ∧
   ∃ t2 : Bool, v1 = (.bool t2) ∧
   ((t2 = false) →
    ∀ w3, Ext w w3 →
    Q (.bool false) w3) ∧
   ((t2 = true) →
    ∀ w3, Ext w w3 →
    FnP Tryd.prog F_civil_Date #[(.int .i64 n)] w3 fun v4 w4 =>
     Ext w3 w4 ∧
     ∃ t5 : Int, ∃ t6 : Int, ∃ t7 : Int, ∃ t8 : Int, v4 = (.tuple #[(.int .i64 t5), (.int .i64 t6), (.int .i64 t7), (.int .i64 t8)]) ∧
     (((t8 = 0) →
      ∀ w9, Ext w w9 →
      FnP Tryd.prog F_civil_Days #[(.int .i64 t5), (.int .i64 t6), (.int .i64 t7)] w9 fun v10 w10 =>
       Ext w9 w10 ∧
       ∃ t11 : Int, ∃ t12 : Int, v10 = (.tuple #[(.int .i64 t11), (.int .i64 t12)]) ∧
       (((t12 ≠ 0) ∨ (t11 ≠ n)) →
        ∀ w13, Ext w w13 →
        Q (.bool false) w13) ∧
       (((t12 = 0) ∧ (t11 = n)) →
        ∀ w13, Ext w w13 →
        FnP Tryd.prog F_civil_Days #[(.int .i64 y), (.int .i64 m), (.int .i64 d)] w13 fun v14 w14 =>
         Ext w13 w14 ∧
         ∃ t15 : Int, ∃ t16 : Int, v14 = (.tuple #[(.int .i64 t15), (.int .i64 t16)]) ∧
         ((t16 ≠ 0) →
          ∀ w17, Ext w w17 →
          Q (.bool (decide (t15 = 0))) w17) ∧
         ((t16 = 0) →
          ∀ w17, Ext w w17 →
          FnP Tryd.prog F_civil_Date #[(.int .i64 t15)] w17 fun v18 w18 =>
           Ext w17 w18 ∧
           ∃ t19 : Int, ∃ t20 : Int, ∃ t21 : Int, ∃ t22 : Int, v18 = (.tuple #[(.int .i64 t19), (.int .i64 t20), (.int .i64 t21), (.int .i64 t22)]) ∧
           ∀ w23, Ext w w23 →
           Q (.bool ((((decide (t22 = 0)) && (decide (t19 = y))) && (decide (t20 = m))) && (decide (t21 = d)))) w23)))) ∧
     ((t8 ≠ 0) →
      ((((0 ≤ n) ∧ (n ≤ 3652058)) →
       ∀ w9, Ext w w9 →
       Q (.bool false) w9)) ∧
      (((n < 0) ∨ (3652058 < n)) →
       ∀ w9, Ext w w9 →
       FnP Tryd.prog F_civil_Days #[(.int .i64 y), (.int .i64 m), (.int .i64 d)] w9 fun v10 w10 =>
        Ext w9 w10 ∧
        ∃ t11 : Int, ∃ t12 : Int, v10 = (.tuple #[(.int .i64 t11), (.int .i64 t12)]) ∧
        ((t12 ≠ 0) →
         ∀ w13, Ext w w13 →
         Q (.bool (decide (t11 = 0))) w13) ∧
        ((t12 = 0) →
         ∀ w13, Ext w w13 →
         FnP Tryd.prog F_civil_Date #[(.int .i64 t11)] w13 fun v14 w14 =>
          Ext w13 w14 ∧
          ∃ t15 : Int, ∃ t16 : Int, ∃ t17 : Int, ∃ t18 : Int, v14 = (.tuple #[(.int .i64 t15), (.int .i64 t16), (.int .i64 t17), (.int .i64 t18)]) ∧
          ∀ w19, Ext w w19 →
          Q (.bool ((((decide (t18 = 0)) && (decide (t15 = y))) && (decide (t16 = m))) && (decide (t17 = d)))) w19))))

theorem ok_shiftbellkeep_CivilBack (n : Int) (y : Int) (m : Int) (d : Int) (w : World) (Q : Value → World → Prop) (h : wp_shiftbellkeep_CivilBack n y m d w Q) : FnP Tryd.prog F_shiftbellkeep_CivilBack #[(.int .i64 n), (.int .i64 y), (.int .i64 m), (.int .i64 d)] w Q := by
  have e_ : wp_shiftbellkeep_CivilBack n y m d w Q = Runs Tryd.prog Q ({ N := 87, wrap := [], pub := [], muts := [], joins := [] } : Cfg) Tryd.f3 (Tryd.f3.body.getD .skip) [.sc (.int .i64 n), .sc (.int .i64 y), .sc (.int .i64 m), .sc (.int .i64 d)] w := by kernel_rfl
  rw [e_] at h
  exact runs_fn h Tryd.func3 (by kernel_rfl) (fun args w => Tryd.call3 args w) (by kernel_rfl) (by kernel_rfl) rfl rfl

theorem open_shiftbellkeep_CivilBack (W : World) (R : Array Value → Prop) (h : ∀ n : Int, InR .i64 n → ∀ y : Int, InR .i64 y → ∀ m : Int, InR .i64 m → ∀ d : Int, InR .i64 d → R #[(.int .i64 n), (.int .i64 y), (.int .i64 m), (.int .i64 d)]) (args : Array Value) (hg : GoodAll Tryd.prog W Tryd.f3.params.toList args.toList) : R args := by
  have e_ : (ArgsAll Tryd.prog W Tryd.f3.params.toList fun l => R l.toArray) = (∀ n : Int, InR .i64 n → ∀ y : Int, InR .i64 y → ∀ m : Int, InR .i64 m → ∀ d : Int, InR .i64 d → R #[(.int .i64 n), (.int .i64 y), (.int .i64 m), (.int .i64 d)]) := by kernel_rfl
  exact args_open (by rw [e_]; exact h) args hg
-- wit 3 #[(.int .i64 0), (.int .i64 0), (.int .i64 0), (.int .i64 0)]

/-- shiftbell/shiftbellkeep.CivilWeek -/
def wp_shiftbellkeep_CivilWeek (n : Int) (w : World) (Q : Value → World → Prop) : Prop :=
  ∀ w0, Ext w w0 →
  FnP Tryd.prog F_shiftbellkeep_days #[] w0 fun v1 w1 =>
   Ext w0 w1 ∧
   ∃ t2 : Bool, v1 = (.bool t2) ∧
   ((t2 = false) →
    ∀ w3, Ext w w3 →
    Q (.bool false) w3) ∧
   ((t2 = true) →
    ∀ w3, Ext w w3 →
    FnP Tryd.prog F_civil_Weekday #[(.int .i64 n)] w3 fun v4 w4 =>
     Ext w3 w4 ∧
     ∃ t5 : Int, ∃ t6 : Int, v4 = (.tuple #[(.int .i64 t5), (.int .i64 t6)]) ∧
     ∀ w7, Ext w w7 →
     FnP Tryd.prog F_civil_Date #[(.int .i64 n)] w7 fun v8 w8 =>
      Ext w7 w8 ∧
      ∃ t9 : Int, ∃ t10 : Int, ∃ t11 : Int, ∃ t12 : Int, v8 = (.tuple #[(.int .i64 t9), (.int .i64 t10), (.int .i64 t11), (.int .i64 t12)]) ∧
      (((t6 ≠ 0) ∨ (t12 ≠ 0)) →
       ∀ w13, Ext w w13 →
       Q (.bool ((decide (t6 = t12)) && (decide (t5 = 0)))) w13) ∧
      (((t6 = 0) ∧ (t12 = 0)) →
       (((t10 < 3) →
        InR .i64 (t10 + 12) ∧
        InR .i64 (t9 - 1) ∧
        InR .i64 ((t9 - 1).tdiv 100) ∧
        InR .i64 ((t10 + 12) + 1) ∧
        InR .i64 (13 * ((t10 + 12) + 1)) ∧
        InR .i64 ((13 * ((t10 + 12) + 1)).tdiv 5) ∧
        InR .i64 (t11 + ((13 * ((t10 + 12) + 1)).tdiv 5)) ∧
        InR .i64 ((t11 + ((13 * ((t10 + 12) + 1)).tdiv 5)) + ((t9 - 1).tmod 100)) ∧
        InR .i64 (((t9 - 1).tmod 100).tdiv 4) ∧
        InR .i64 (((t11 + ((13 * ((t10 + 12) + 1)).tdiv 5)) + ((t9 - 1).tmod 100)) + (((t9 - 1).tmod 100).tdiv 4)) ∧
        InR .i64 (((t9 - 1).tdiv 100).tdiv 4) ∧
        InR .i64 ((((t11 + ((13 * ((t10 + 12) + 1)).tdiv 5)) + ((t9 - 1).tmod 100)) + (((t9 - 1).tmod 100).tdiv 4)) + (((t9 - 1).tdiv 100).tdiv 4)) ∧
        InR .i64 (5 * ((t9 - 1).tdiv 100)) ∧
        InR .i64 (((((t11 + ((13 * ((t10 + 12) + 1)).tdiv 5)) + ((t9 - 1).tmod 100)) + (((t9 - 1).tmod 100).tdiv 4)) + (((t9 - 1).tdiv 100).tdiv 4)) + (5 * ((t9 - 1).tdiv 100))) ∧
        InR .i64 ((((((t11 + ((13 * ((t10 + 12) + 1)).tdiv 5)) + ((t9 - 1).tmod 100)) + (((t9 - 1).tmod 100).tdiv 4)) + (((t9 - 1).tdiv 100).tdiv 4)) + (5 * ((t9 - 1).tdiv 100))) + 6) ∧
        ∀ w13, Ext w w13 →
        Q (.bool (decide ((((((((t11 + ((13 * ((t10 + 12) + 1)).tdiv 5)) + ((t9 - 1).tmod 100)) + (((t9 - 1).tmod 100).tdiv 4)) + (((t9 - 1).tdiv 100).tdiv 4)) + (5 * ((t9 - 1).tdiv 100))) + 6).tmod 7) = t5))) w13)) ∧
       ((3 ≤ t10) →
        InR .i64 (t9.tdiv 100) ∧
        InR .i64 (t10 + 1) ∧
        InR .i64 (13 * (t10 + 1)) ∧
        InR .i64 ((13 * (t10 + 1)).tdiv 5) ∧
        InR .i64 (t11 + ((13 * (t10 + 1)).tdiv 5)) ∧
        InR .i64 ((t11 + ((13 * (t10 + 1)).tdiv 5)) + (t9.tmod 100)) ∧
        InR .i64 ((t9.tmod 100).tdiv 4) ∧
        InR .i64 (((t11 + ((13 * (t10 + 1)).tdiv 5)) + (t9.tmod 100)) + ((t9.tmod 100).tdiv 4)) ∧
        InR .i64 ((t9.tdiv 100).tdiv 4) ∧
        InR .i64 ((((t11 + ((13 * (t10 + 1)).tdiv 5)) + (t9.tmod 100)) + ((t9.tmod 100).tdiv 4)) + ((t9.tdiv 100).tdiv 4)) ∧
        InR .i64 (5 * (t9.tdiv 100)) ∧
        InR .i64 (((((t11 + ((13 * (t10 + 1)).tdiv 5)) + (t9.tmod 100)) + ((t9.tmod 100).tdiv 4)) + ((t9.tdiv 100).tdiv 4)) + (5 * (t9.tdiv 100))) ∧
        InR .i64 ((((((t11 + ((13 * (t10 + 1)).tdiv 5)) + (t9.tmod 100)) + ((t9.tmod 100).tdiv 4)) + ((t9.tdiv 100).tdiv 4)) + (5 * (t9.tdiv 100))) + 6) ∧
        ∀ w13, Ext w w13 →
        Q (.bool (decide ((((((((t11 + ((13 * (t10 + 1)).tdiv 5)) + (t9.tmod 100)) + ((t9.tmod 100).tdiv 4)) + ((t9.tdiv 100).tdiv 4)) + (5 * (t9.tdiv 100))) + 6).tmod 7) = t5))) w13)))

theorem ok_shiftbellkeep_CivilWeek (n : Int) (w : World) (Q : Value → World → Prop) (h : wp_shiftbellkeep_CivilWeek n w Q) : FnP Tryd.prog F_shiftbellkeep_CivilWeek #[(.int .i64 n)] w Q := by
  have e_ : wp_shiftbellkeep_CivilWeek n w Q = Runs Tryd.prog Q ({ N := 69, wrap := [], pub := [], muts := [], joins := [] } : Cfg) Tryd.f4 (Tryd.f4.body.getD .skip) [.sc (.int .i64 n)] w := by kernel_rfl
  rw [e_] at h
  exact runs_fn h Tryd.func4 (by kernel_rfl) (fun args w => Tryd.call4 args w) (by kernel_rfl) (by kernel_rfl) rfl rfl

theorem open_shiftbellkeep_CivilWeek (W : World) (R : Array Value → Prop) (h : ∀ n : Int, InR .i64 n → R #[(.int .i64 n)]) (args : Array Value) (hg : GoodAll Tryd.prog W Tryd.f4.params.toList args.toList) : R args := by
  have e_ : (ArgsAll Tryd.prog W Tryd.f4.params.toList fun l => R l.toArray) = (∀ n : Int, InR .i64 n → R #[(.int .i64 n)]) := by kernel_rfl
  exact args_open (by rw [e_]; exact h) args hg
-- wit 4 #[(.int .i64 0)]

/-- shiftbell/shiftbellkeep.CivilNext -/
def wp_shiftbellkeep_CivilNext (n : Int) (w : World) (Q : Value → World → Prop) : Prop :=
  ∀ w0, Ext w w0 →
  FnP Tryd.prog F_shiftbellkeep_days #[] w0 fun v1 w1 =>
   Ext w0 w1 ∧
   ∃ t2 : Bool, v1 = (.bool t2) ∧
   ((t2 = false) →
    ∀ w3, Ext w w3 →
    Q (.bool false) w3) ∧
   ((t2 = true) →
    ∀ w3, Ext w w3 →
    FnP Tryd.prog F_civil_Date #[(.int .i64 n)] w3 fun v4 w4 =>
     Ext w3 w4 ∧
     ∃ t5 : Int, ∃ t6 : Int, ∃ t7 : Int, ∃ t8 : Int, v4 = (.tuple #[(.int .i64 t5), (.int .i64 t6), (.int .i64 t7), (.int .i64 t8)]) ∧
     ∀ w9, Ext w w9 →
     FnP Tryd.prog F_civil_Date #[(.int .i64 (IntKind.wrap .i64 (n + 1)))] w9 fun v10 w10 =>
      Ext w9 w10 ∧
      ∃ t11 : Int, ∃ t12 : Int, ∃ t13 : Int, ∃ t14 : Int, v10 = (.tuple #[(.int .i64 t11), (.int .i64 t12), (.int .i64 t13), (.int .i64 t14)]) ∧
      (((n < 0) ∨ (3652058 ≤ n)) →
       ∀ w15, Ext w w15 →
       Q (.bool ((((decide (n < 0)) && (decide (t8 = 4))) || (((decide (n = 3652058)) && (decide (t8 = 0))) && (decide (t14 = 4)))) || ((decide (3652058 < n)) && (decide (t8 = 4))))) w15) ∧
      (((0 ≤ n) ∧ (n < 3652058)) →
       ∀ w15, Ext w w15 →
       FnP Tryd.prog F_civil_Length #[(.int .i64 t5), (.int .i64 t6)] w15 fun v16 w16 =>
        Ext w15 w16 ∧
        ∃ t17 : Int, ∃ t18 : Int, v16 = (.tuple #[(.int .i64 t17), (.int .i64 t18)]) ∧
        ∀ w19, Ext w w19 →
        Run Tryd.prog (.buildSlice 41 3 [(0, (.int .i64 t8)), (1, (.int .i64 t14)), (2, (.int .i64 t18))]) w19 fun v20 w20 =>
         Ext w19 w20 ∧
         ∃ t21 : Option Addr, ∃ tl22 : Nat, ∃ tc23 : Nat, v20 = (.slice t21 tl22 tc23) ∧
         ∀ w24, Ext w20 w24 →
         FnP Tryd.prog F_shiftbellkeep_good #[(.slice t21 tl22 tc23)] w24 fun v25 w25 =>
          Ext w24 w25 ∧
          ∃ t26 : Bool, v25 = (.bool t26) ∧
          ((t26 = false) →
           ∀ w27, Ext w20 w27 →
           Q (.bool false) w27) ∧
          ((t26 = true) →
           (((t7 < t17) →
            ((((t11 = t5) ∧ (t12 = t6)) →
             InR .i64 (t7 + 1))) ∧
            ∀ w27, Ext w20 w27 →
            Q (.bool (((decide (t11 = t5)) && (decide (t12 = t6))) && (decide (t13 = (t7 + 1))))) w27)) ∧
           ((t17 ≤ t7) →
            (((t13 = 1) →
             (((t6 < 12) ∧ (t11 = t5)) →
              InR .i64 (t6 + 1)))) ∧
            ((t13 = 1) →
             ((((12 ≤ t6) ∨ (t11 ≠ t5)) ∨ (t12 ≠ (t6 + 1))) →
              ((t6 = 12) →
               InR .i64 (t5 + 1)))) ∧
            ∀ w27, Ext w20 w27 →
            Q (.bool ((decide (t13 = 1)) && ((((decide (t6 < 12)) && (decide (t11 = t5))) && (decide (t12 = (t6 + 1)))) || (((decide (t6 = 12)) && (decide (t11 = (t5 + 1)))) && (decide (t12 = 1)))))) w27))))

theorem ok_shiftbellkeep_CivilNext (n : Int) (w : World) (Q : Value → World → Prop) (h : wp_shiftbellkeep_CivilNext n w Q) : FnP Tryd.prog F_shiftbellkeep_CivilNext #[(.int .i64 n)] w Q := by
  have e_ : wp_shiftbellkeep_CivilNext n w Q = Runs Tryd.prog Q ({ N := 122, wrap := [24], pub := [], muts := [], joins := [] } : Cfg) Tryd.f5 (Tryd.f5.body.getD .skip) [.sc (.int .i64 n)] w := by kernel_rfl
  rw [e_] at h
  exact runs_fn h Tryd.func5 (by kernel_rfl) (fun args w => Tryd.call5 args w) (by kernel_rfl) (by kernel_rfl) rfl rfl

theorem open_shiftbellkeep_CivilNext (W : World) (R : Array Value → Prop) (h : ∀ n : Int, InR .i64 n → R #[(.int .i64 n)]) (args : Array Value) (hg : GoodAll Tryd.prog W Tryd.f5.params.toList args.toList) : R args := by
  have e_ : (ArgsAll Tryd.prog W Tryd.f5.params.toList fun l => R l.toArray) = (∀ n : Int, InR .i64 n → R #[(.int .i64 n)]) := by kernel_rfl
  exact args_open (by rw [e_]; exact h) args hg
-- wit 5 #[(.int .i64 0)]

/-- shiftbell/shiftbellkeep.CivilMonths -/
def wp_shiftbellkeep_CivilMonths (n : Int) (a : Int) (b : Int) (w : World) (Q : Value → World → Prop) : Prop :=
  ∀ w0, Ext w w0 →
  FnP Tryd.prog F_shiftbellkeep_days #[] w0 fun v1 w1 =>
   Ext w0 w1 ∧
   ∃ t2 : Bool, v1 = (.bool t2) ∧
   ((t2 = false) →
    ∀ w3, Ext w w3 →
    Q (.bool false) w3) ∧
   ((t2 = true) →
    ∀ w3, Ext w w3 →
    FnP Tryd.prog F_civil_Date #[(.int .i64 n)] w3 fun v4 w4 =>
     Ext w3 w4 ∧
     ∃ t5 : Int, ∃ t6 : Int, ∃ t7 : Int, ∃ t8 : Int, v4 = (.tuple #[(.int .i64 t5), (.int .i64 t6), (.int .i64 t7), (.int .i64 t8)]) ∧
     ((((((((t8 = 0) ∧ (t7 ≤ 28)) ∧ ((-120000) ≤ a)) ∧ (a ≤ 120000)) ∧ ((-120000) ≤ b)) ∧ (b ≤ 120000)) →
      InR .i64 (a + b))) ∧
     (((((((((t8 = 0) ∧ (t7 ≤ 28)) ∧ ((-120000) ≤ a)) ∧ (a ≤ 120000)) ∧ ((-120000) ≤ b)) ∧ (b ≤ 120000)) ∧ ((-120000) ≤ (a + b))) →
      InR .i64 (a + b))) ∧
     (((((((((t8 ≠ 0) ∨ (28 < t7)) ∨ (a < (-120000))) ∨ (120000 < a)) ∨ (b < (-120000))) ∨ (120000 < b)) ∨ ((a + b) < (-120000))) ∨ (120000 < (a + b))) →
      ∀ w9, Ext w w9 →
      Q (.bool true) w9) ∧
     (((((((((t8 = 0) ∧ (t7 ≤ 28)) ∧ ((-120000) ≤ a)) ∧ (a ≤ 120000)) ∧ ((-120000) ≤ b)) ∧ (b ≤ 120000)) ∧ ((-120000) ≤ (a + b))) ∧ ((a + b) ≤ 120000)) →
      ∀ w9, Ext w w9 →
      FnP Tryd.prog F_civil_Add #[(.int .i64 n), (.int .i64 a)] w9 fun v10 w10 =>
       Ext w9 w10 ∧
       ∃ t11 : Int, ∃ t12 : Int, v10 = (.tuple #[(.int .i64 t11), (.int .i64 t12)]) ∧
       ((t12 ≠ 0) →
        ∀ w13, Ext w w13 →
        Q (.bool (decide (t11 = 0))) w13) ∧
       ((t12 = 0) →
        ∀ w13, Ext w w13 →
        FnP Tryd.prog F_civil_Add #[(.int .i64 t11), (.int .i64 b)] w13 fun v14 w14 =>
         Ext w13 w14 ∧
         ∃ t15 : Int, ∃ t16 : Int, v14 = (.tuple #[(.int .i64 t15), (.int .i64 t16)]) ∧
         InR .i64 (a + b) ∧
         ∀ w17, Ext w w17 →
         FnP Tryd.prog F_civil_Add #[(.int .i64 n), (.int .i64 (a + b))] w17 fun v18 w18 =>
          Ext w17 w18 ∧
          ∃ t19 : Int, ∃ t20 : Int, v18 = (.tuple #[(.int .i64 t19), (.int .i64 t20)]) ∧
          InR .i64 (0 - a) ∧
          ∀ w21, Ext w w21 →
          FnP Tryd.prog F_civil_Add #[(.int .i64 t11), (.int .i64 (0 - a))] w21 fun v22 w22 =>
           Ext w21 w22 ∧
           ∃ t23 : Int, ∃ t24 : Int, v22 = (.tuple #[(.int .i64 t23), (.int .i64 t24)]) ∧
           ∀ w25, Ext w w25 →
           Q (.bool ((((decide (t15 = t19)) && (decide (t16 = t20))) && (decide (t24 = 0))) && (decide (t23 = n)))) w25)))

theorem ok_shiftbellkeep_CivilMonths (n : Int) (a : Int) (b : Int) (w : World) (Q : Value → World → Prop) (h : wp_shiftbellkeep_CivilMonths n a b w Q) : FnP Tryd.prog F_shiftbellkeep_CivilMonths #[(.int .i64 n), (.int .i64 a), (.int .i64 b)] w Q := by
  have e_ : wp_shiftbellkeep_CivilMonths n a b w Q = Runs Tryd.prog Q ({ N := 110, wrap := [], pub := [], muts := [], joins := [] } : Cfg) Tryd.f6 (Tryd.f6.body.getD .skip) [.sc (.int .i64 n), .sc (.int .i64 a), .sc (.int .i64 b)] w := by kernel_rfl
  rw [e_] at h
  exact runs_fn h Tryd.func6 (by kernel_rfl) (fun args w => Tryd.call6 args w) (by kernel_rfl) (by kernel_rfl) rfl rfl

theorem open_shiftbellkeep_CivilMonths (W : World) (R : Array Value → Prop) (h : ∀ n : Int, InR .i64 n → ∀ a : Int, InR .i64 a → ∀ b : Int, InR .i64 b → R #[(.int .i64 n), (.int .i64 a), (.int .i64 b)]) (args : Array Value) (hg : GoodAll Tryd.prog W Tryd.f6.params.toList args.toList) : R args := by
  have e_ : (ArgsAll Tryd.prog W Tryd.f6.params.toList fun l => R l.toArray) = (∀ n : Int, InR .i64 n → ∀ a : Int, InR .i64 a → ∀ b : Int, InR .i64 b → R #[(.int .i64 n), (.int .i64 a), (.int .i64 b)]) := by kernel_rfl
  exact args_open (by rw [e_]; exact h) args hg
-- wit 6 #[(.int .i64 0), (.int .i64 0), (.int .i64 0)]

/-- shiftbell/shiftbellkeep.CivilYears -/
def wp_shiftbellkeep_CivilYears (n : Int) (w : World) (Q : Value → World → Prop) : Prop :=
  ∀ w0, Ext w w0 →
  FnP Tryd.prog F_shiftbellkeep_days #[] w0 fun v1 w1 =>
   Ext w0 w1 ∧
   ∃ t2 : Bool, v1 = (.bool t2) ∧
   ((t2 = false) →
    ∀ w3, Ext w w3 →
    Q (.bool false) w3) ∧
   ((t2 = true) →
    ∀ w3, Ext w w3 →
    FnP Tryd.prog F_civil_Date #[(.int .i64 n)] w3 fun v4 w4 =>
     Ext w3 w4 ∧
     ∃ t5 : Int, ∃ t6 : Int, ∃ t7 : Int, ∃ t8 : Int, v4 = (.tuple #[(.int .i64 t5), (.int .i64 t6), (.int .i64 t7), (.int .i64 t8)]) ∧
     ∀ w9, Ext w w9 →
     FnP Tryd.prog F_civil_Date #[(.int .i64 (IntKind.wrap .i64 (n + 146097)))] w9 fun v10 w10 =>
      Ext w9 w10 ∧
      ∃ t11 : Int, ∃ t12 : Int, ∃ t13 : Int, ∃ t14 : Int, v10 = (.tuple #[(.int .i64 t11), (.int .i64 t12), (.int .i64 t13), (.int .i64 t14)]) ∧
      (((n < 0) ∨ (3505961 < n)) →
       ∀ w15, Ext w w15 →
       Q (.bool true) w15) ∧
      (((0 ≤ n) ∧ (n ≤ 3505961)) →
       ∀ w15, Ext w w15 →
       FnP Tryd.prog F_civil_Weekday #[(.int .i64 n)] w15 fun v16 w16 =>
        Ext w15 w16 ∧
        ∃ t17 : Int, ∃ t18 : Int, v16 = (.tuple #[(.int .i64 t17), (.int .i64 t18)]) ∧
        InR .i64 (n + 146097) ∧
        ∀ w19, Ext w w19 →
        FnP Tryd.prog F_civil_Weekday #[(.int .i64 (n + 146097))] w19 fun v20 w20 =>
         Ext w19 w20 ∧
         ∃ t21 : Int, ∃ t22 : Int, v20 = (.tuple #[(.int .i64 t21), (.int .i64 t22)]) ∧
         ∀ w23, Ext w w23 →
         Run Tryd.prog (.buildSlice 41 4 [(0, (.int .i64 t8)), (1, (.int .i64 t14)), (2, (.int .i64 t18)), (3, (.int .i64 t22))]) w23 fun v24 w24 =>
          Ext w23 w24 ∧
          ∃ t25 : Option Addr, ∃ tl26 : Nat, ∃ tc27 : Nat, v24 = (.slice t25 tl26 tc27) ∧
          ∀ w28, Ext w24 w28 →
          FnP Tryd.prog F_shiftbellkeep_good #[(.slice t25 tl26 tc27)] w28 fun v29 w29 =>
           Ext w28 w29 ∧
           ∃ t30 : Bool, v29 = (.bool t30) ∧
           ((t30 = true) →
            InR .i64 (t5 + 400)) ∧
           ∀ w31, Ext w24 w31 →
           Q (.bool ((((t30 && (decide (t11 = (t5 + 400)))) && (decide (t12 = t6))) && (decide (t13 = t7))) && (decide (t17 = t21)))) w31))

theorem ok_shiftbellkeep_CivilYears (n : Int) (w : World) (Q : Value → World → Prop) (h : wp_shiftbellkeep_CivilYears n w Q) : FnP Tryd.prog F_shiftbellkeep_CivilYears #[(.int .i64 n)] w Q := by
  have e_ : wp_shiftbellkeep_CivilYears n w Q = Runs Tryd.prog Q ({ N := 76, wrap := [26], pub := [], muts := [], joins := [] } : Cfg) Tryd.f7 (Tryd.f7.body.getD .skip) [.sc (.int .i64 n)] w := by kernel_rfl
  rw [e_] at h
  exact runs_fn h Tryd.func7 (by kernel_rfl) (fun args w => Tryd.call7 args w) (by kernel_rfl) (by kernel_rfl) rfl rfl

theorem open_shiftbellkeep_CivilYears (W : World) (R : Array Value → Prop) (h : ∀ n : Int, InR .i64 n → R #[(.int .i64 n)]) (args : Array Value) (hg : GoodAll Tryd.prog W Tryd.f7.params.toList args.toList) : R args := by
  have e_ : (ArgsAll Tryd.prog W Tryd.f7.params.toList fun l => R l.toArray) = (∀ n : Int, InR .i64 n → R #[(.int .i64 n)]) := by kernel_rfl
  exact args_open (by rw [e_]; exact h) args hg
-- wit 7 #[(.int .i64 0)]

/-- shiftbell/shiftbellkeep.CivilCut -/
def wp_shiftbellkeep_CivilCut (n : Int) (w : World) (Q : Value → World → Prop) : Prop :=
  ∀ w0, Ext w w0 →
  FnP Tryd.prog F_shiftbellkeep_days #[] w0 fun v1 w1 =>
   Ext w0 w1 ∧
   ∃ t2 : Bool, v1 = (.bool t2) ∧
   ((t2 = false) →
    ∀ w3, Ext w w3 →
    Q (.bool false) w3) ∧
   ((t2 = true) →
    ∀ w3, Ext w w3 →
    FnP Tryd.prog F_civil_Date #[(.int .i64 n)] w3 fun v4 w4 =>
     Ext w3 w4 ∧
     ∃ t5 : Int, ∃ t6 : Int, ∃ t7 : Int, ∃ t8 : Int, v4 = (.tuple #[(.int .i64 t5), (.int .i64 t6), (.int .i64 t7), (.int .i64 t8)]) ∧
     ∀ w9, Ext w w9 →
     FnP Tryd.prog F_civil_Add #[(.int .i64 n), (.int .i64 1)] w9 fun v10 w10 =>
      Ext w9 w10 ∧
      ∃ t11 : Int, ∃ t12 : Int, v10 = (.tuple #[(.int .i64 t11), (.int .i64 t12)]) ∧
      (((t8 ≠ 0) ∨ (t12 ≠ 0)) →
       ∀ w13, Ext w w13 →
       Q (.bool (decide (t11 = 0))) w13) ∧
      (((t8 = 0) ∧ (t12 = 0)) →
       ∀ w13, Ext w w13 →
       FnP Tryd.prog F_civil_Date #[(.int .i64 t11)] w13 fun v14 w14 =>
        Ext w13 w14 ∧
        ∃ t15 : Int, ∃ t16 : Int, ∃ t17 : Int, ∃ t18 : Int, v14 = (.tuple #[(.int .i64 t15), (.int .i64 t16), (.int .i64 t17), (.int .i64 t18)]) ∧
        ∀ w19, Ext w w19 →
        FnP Tryd.prog F_civil_Length #[(.int .i64 t15), (.int .i64 t16)] w19 fun v20 w20 =>
         Ext w19 w20 ∧
         ∃ t21 : Int, ∃ t22 : Int, v20 = (.tuple #[(.int .i64 t21), (.int .i64 t22)]) ∧
         ∀ w23, Ext w w23 →
         Run Tryd.prog (.buildSlice 41 2 [(0, (.int .i64 t18)), (1, (.int .i64 t22))]) w23 fun v24 w24 =>
          Ext w23 w24 ∧
          ∃ t25 : Option Addr, ∃ tl26 : Nat, ∃ tc27 : Nat, v24 = (.slice t25 tl26 tc27) ∧
          ∀ w28, Ext w24 w28 →
          FnP Tryd.prog F_shiftbellkeep_good #[(.slice t25 tl26 tc27)] w28 fun v29 w29 =>
           Ext w28 w29 ∧
           ∃ t30 : Bool, v29 = (.bool t30) ∧
           ((t30 = true) →
            InR .i64 (12 * t15)) ∧
           ((t30 = true) →
            InR .i64 ((12 * t15) + t16)) ∧
           ((t30 = true) →
            InR .i64 (12 * t5)) ∧
           ((t30 = true) →
            InR .i64 ((12 * t5) + t6)) ∧
           ((t30 = true) →
            InR .i64 (((12 * t5) + t6) + 1)) ∧
           ∀ w31, Ext w24 w31 →
           Q (.bool (((t30 && (decide (((12 * t15) + t16) = (((12 * t5) + t6) + 1)))) && (decide (t17 = (min t7 t21)))) && (decide (n < t11)))) w31))

theorem ok_shiftbellkeep_CivilCut (n : Int) (w : World) (Q : Value → World → Prop) (h : wp_shiftbellkeep_CivilCut n w Q) : FnP Tryd.prog F_shiftbellkeep_CivilCut #[(.int .i64 n)] w Q := by
  have e_ : wp_shiftbellkeep_CivilCut n w Q = Runs Tryd.prog Q ({ N := 78, wrap := [], pub := [], muts := [], joins := [] } : Cfg) Tryd.f8 (Tryd.f8.body.getD .skip) [.sc (.int .i64 n)] w := by kernel_rfl
  rw [e_] at h
  exact runs_fn h Tryd.func8 (by kernel_rfl) (fun args w => Tryd.call8 args w) (by kernel_rfl) (by kernel_rfl) rfl rfl

theorem open_shiftbellkeep_CivilCut (W : World) (R : Array Value → Prop) (h : ∀ n : Int, InR .i64 n → R #[(.int .i64 n)]) (args : Array Value) (hg : GoodAll Tryd.prog W Tryd.f8.params.toList args.toList) : R args := by
  have e_ : (ArgsAll Tryd.prog W Tryd.f8.params.toList fun l => R l.toArray) = (∀ n : Int, InR .i64 n → R #[(.int .i64 n)]) := by kernel_rfl
  exact args_open (by rw [e_]; exact h) args hg
-- wit 8 #[(.int .i64 0)]

/-- slices.ContainsFunc[[]shiftbell/api.Errno,shiftbell/api.Errno] -/
def wp_slices_ContainsFunc_api_Errno_api_Errno (s : Option Addr) (sl : Nat) (sc : Nat) (f : Value) (w : World) (Q : Value → World → Prop) : Prop :=
  ∀ w0, Ext w w0 →
  FnP Tryd.prog F_slices_IndexFunc_api_Errno_api_Errno #[(.slice s sl sc), f] w0 fun v1 w1 =>
   Ext w0 w1 ∧
   ∃ t2 : Int, v1 = (.int .i64 t2) ∧
   ∀ w3, Ext w w3 →
   Q (.bool (decide (0 ≤ t2))) w3

theorem ok_slices_ContainsFunc_api_Errno_api_Errno (s : Option Addr) (sl : Nat) (sc : Nat) (f : Value) (w : World) (Q : Value → World → Prop) (h : wp_slices_ContainsFunc_api_Errno_api_Errno s sl sc f w Q) : FnP Tryd.prog F_slices_ContainsFunc_api_Errno_api_Errno #[(.slice s sl sc), f] w Q := by
  have e_ : wp_slices_ContainsFunc_api_Errno_api_Errno s sl sc f w Q = Runs Tryd.prog Q ({ N := 9, wrap := [], pub := [], muts := [], joins := [] } : Cfg) Tryd.f22 (Tryd.f22.body.getD .skip) [.sc (.slc s sl sc), .sc (.val f)] w := by kernel_rfl
  rw [e_] at h
  exact runs_fn h Tryd.func22 (by kernel_rfl) (fun args w => Tryd.call22 args w) (by kernel_rfl) (by kernel_rfl) rfl rfl

/-- slices.IndexFunc[[]shiftbell/api.Errno,shiftbell/api.Errno] -/
def wp_slices_IndexFunc_api_Errno_api_Errno (s : Option Addr) (sl : Nat) (sc : Nat) (f : Value) (w : World) (Q : Value → World → Prop) : Prop :=
  ∃ (I0 : Int → World → Prop) (M0 : Int → World → Nat), I0 0 w ∧
  ∀ (k1 : Int) (w2 : World), I0 k1 w2 →
   (((k1 < (sl : Int)) →
    s ≠ none ∧
    (0 : Int) ≤ k1 ∧
    (k1 : Int) < (sl : Int) ∧
    ∃ t3 : Int, cell w2 (pIdx s k1 1) 0 = some (.int .i64 t3) ∧
    ∀ w4, Ext w2 w4 →
    FnVP Tryd.prog f [(.int .i64 t3)] w4 fun v5 w5 =>
     Ext w4 w5 ∧
     ∃ t6 : Bool, v5 = (.bool t6) ∧
     ((t6 = true) →
      ∀ w7, Ext w2 w7 →
      Q (.int .i64 k1) w7) ∧
     ((t6 = false) →
      InR .i64 (k1 + 1) ∧
      (I0 (k1 + 1) w2 ∧ M0 (k1 + 1) w2 < M0 k1 w2)))) ∧
   (((sl : Int) ≤ k1) →
    ∀ w3, Ext w2 w3 →
    Q (.int .i64 (-1)) w3)

theorem ok_slices_IndexFunc_api_Errno_api_Errno (s : Option Addr) (sl : Nat) (sc : Nat) (f : Value) (w : World) (Q : Value → World → Prop) (h : wp_slices_IndexFunc_api_Errno_api_Errno s sl sc f w Q) : FnP Tryd.prog F_slices_IndexFunc_api_Errno_api_Errno #[(.slice s sl sc), f] w Q := by
  have e_ : wp_slices_IndexFunc_api_Errno_api_Errno s sl sc f w Q = Runs Tryd.prog Q ({ N := 19, wrap := [], pub := [], muts := [], joins := [] } : Cfg) Tryd.f25 (Tryd.f25.body.getD .skip) [.sc (.slc s sl sc), .sc (.val f)] w := by kernel_rfl
  rw [e_] at h
  exact runs_fn h Tryd.func25 (by kernel_rfl) (fun args w => Tryd.call25 args w) (by kernel_rfl) (by kernel_rfl) rfl rfl

end Go.Proofs.YtcliejgmehlojaaDoor
