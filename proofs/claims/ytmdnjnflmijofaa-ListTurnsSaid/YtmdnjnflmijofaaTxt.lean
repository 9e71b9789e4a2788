/- The texts of this seat's functions: what each computes, as its symbolic run says it. -/
import Derived.Test.YtmdnjnflmijofaaRows
import Derived.Test.YtmdnjnflmijofaaSxD
import Derived.Test.YtmdnjnflmijofaaSxN
set_option linter.unusedVariables false
set_option linter.unusedSimpArgs false
set_option maxRecDepth 100000
namespace Go.Proofs.Ytmdnjnflmijofaa
open Go.Sx Go.RowKit

abbrev F_shiftbellkeep_ListGraham : FuncId := 3
abbrev F_shiftbellkeep_PackLeast : FuncId := 4
abbrev F_shiftbellkeep_PackHalf : FuncId := 7
abbrev F_shiftbellkeep_PackFits : FuncId := 8
abbrev F_shiftbellkeep_PackDown : FuncId := 9
abbrev F_shiftbellkeep_ListLong : FuncId := 10
abbrev F_shiftbellkeep_ListLeast : FuncId := 11
abbrev F_shiftbellkeep_lists : FuncId := 12
abbrev F_list_Run : FuncId := 13
abbrev F_list_Span : FuncId := 14
abbrev F_shiftbellkeep_sum : FuncId := 15
abbrev F_shiftbellkeep_packs : FuncId := 16
abbrev F_pack_Least : FuncId := 17
abbrev F_pack_Boxes : FuncId := 18
abbrev F_pack_First : FuncId := 21
abbrev F_pack_Down : FuncId := 22
abbrev F_shiftbellkeep_good : FuncId := 23
abbrev F_list_Long : FuncId := 24
abbrev F_list_Least : FuncId := 25
abbrev F_list_check : FuncId := 26
abbrev F_list_run : FuncId := 27
abbrev F_list_numbers : FuncId := 28
abbrev F_slices_Max_int64_int64 : FuncId := 29
abbrev F_pack_Check : FuncId := 30
abbrev F_pack_least : FuncId := 31
abbrev F_pack_first : FuncId := 37
abbrev F_pack_numbers : FuncId := 38
abbrev F_slices_SortStableFunc_int_int : FuncId := 39
abbrev F_pack_Down_1 : FuncId := 40
abbrev F_cmp_Compare_int64 : FuncId := 41
abbrev F_slices_ContainsFunc_api_Errno_api_Errno : FuncId := 42
abbrev F_shiftbellkeep_good_1 : FuncId := 43
abbrev F_list_Long_1 : FuncId := 44
abbrev F_list_least : FuncId := 45
abbrev F_slices_Index_int64_int64 : FuncId := 46
abbrev F_slices_Min_int64_int64 : FuncId := 47
abbrev F_slices_Clone_int64_int64 : FuncId := 48
abbrev F_slices_stableCmpFunc_int : FuncId := 56
abbrev F_cmp_isNaN_int64 : FuncId := 57
abbrev F_slices_IndexFunc_api_Errno_api_Errno : FuncId := 58
abbrev F_slices_insertionSortCmpFunc_int : FuncId := 60
abbrev F_slices_symMergeCmpFunc_int : FuncId := 61
abbrev F_slices_rotateCmpFunc_int : FuncId := 62
abbrev F_slices_swapRangeCmpFunc_int : FuncId := 63
abbrev T__0 : TypeId := 0
abbrev T_int64 : TypeId := 2
abbrev T_int : TypeId := 3
abbrev T_bool : TypeId := 4
abbrev T_uint8 : TypeId := 5
abbrev T_string : TypeId := 9
abbrev T_uintptr : TypeId := 12
abbrev T_int32 : TypeId := 21
abbrev T_sl_int64 : TypeId := 22
abbrev T_sl_int : TypeId := 24
abbrev T_Errno : TypeId := 25
abbrev T_sl_int_int64_Errno : TypeId := 26
abbrev T_int64_Errno : TypeId := 28
abbrev T_int_Errno : TypeId := 32
abbrev T_sl_Edge : TypeId := 36
abbrev T_sl_Turn : TypeId := 37
abbrev T_sl_Turn_int64_Errno : TypeId := 38
abbrev T_Plan : TypeId := 41
abbrev T_Plan_Errno : TypeId := 42
abbrev T_Turn : TypeId := 46
abbrev T_Edge : TypeId := 48
abbrev T_sl_int_int_Errno : TypeId := 49
abbrev T_sl_int_int64 : TypeId := 56
abbrev T_map_int_int64 : TypeId := 61
abbrev T_ptr_list_table : TypeId := 62
abbrev T_sl_bool : TypeId := 63
abbrev T_list_table : TypeId := 65
abbrev T_sl_int_Errno : TypeId := 70
abbrev T_sl_int_int : TypeId := 72
abbrev T_sl_Errno : TypeId := 77
abbrev T_sl_uint64 : TypeId := 93
abbrev T_uint64 : TypeId := 94
abbrev T_uint : TypeId := 97
abbrev T_uint32 : TypeId := 105
abbrev T_ptr_uint8 : TypeId := 109
abbrev T_unsafe_Pointer : TypeId := 114
theorem elem_sl_int64 : slEl Try.prog 22 = some (2, 1, 8, (.int .i64 0)) := by kernel_rfl
theorem elem_sl_int : slEl Try.prog 24 = some (3, 1, 8, (.int .i64 0)) := by kernel_rfl
theorem elem_sl_Edge : slEl Try.prog 36 = some (48, 2, 16, (.agg #[(.int .i64 0), (.int .i64 0)])) := by kernel_rfl
theorem elem_sl_Turn : slEl Try.prog 37 = some (46, 2, 16, (.agg #[(.int .i64 0), (.int .i64 0)])) := by kernel_rfl
theorem elem_sl_bool : slEl Try.prog 63 = some (4, 1, 1, (.bool false)) := by kernel_rfl
theorem elem_sl_Errno : slEl Try.prog 77 = some (25, 1, 8, (.int .i64 0)) := by kernel_rfl
theorem elem_sl_uint64 : slEl Try.prog 93 = some (94, 1, 8, (.int .u64 0)) := by kernel_rfl

/-- shiftbell/list.check -/
def wp_list_check (m : Int) (d : Option Addr) (dl : Nat) (dc : Nat) (w : World) (Q : Value → World → Prop) : Prop :=
  (((m < 1) ∨ (20 < m)) →
   ∀ w0, Ext w w0 →
   Q (.int .i64 1) w0) ∧
  (((1 ≤ m) ∧ (m ≤ 20)) →
   ((60 < (dl : Int)) →
    ∀ w0, Ext w w0 →
    Q (.int .i64 2) w0) ∧
   (((dl : Int) ≤ 60) →
    ∃ (I0 : Int → World → Prop) (M0 : Int → World → Nat), I0 0 w ∧
    ∀ (k1 : Int) (w2 : World), I0 k1 w2 →
     ((k1 < (dl : Int)) →
      d ≠ none ∧
      (0 : Int) ≤ k1 ∧
      (k1 : Int) < (dl : Int) ∧
      ∃ t3 : Int, cell w2 (pIdx d k1 1) 0 = some (.int .i64 t3) ∧
      (((t3 < 0) ∨ (1000000000 < t3)) →
       ∀ w4, Ext w2 w4 →
       Q (.int .i64 4) w4) ∧
      (((0 ≤ t3) ∧ (t3 ≤ 1000000000)) →
       InR .i64 (k1 + 1) ∧
       (I0 (k1 + 1) w2 ∧ M0 (k1 + 1) w2 < M0 k1 w2))) ∧
     (((dl : Int) ≤ k1) →
      ∀ w3, Ext w2 w3 →
      Q (.int .i64 0) w3)))

theorem ok_list_check (m : Int) (d : Option Addr) (dl : Nat) (dc : Nat) (w : World) (Q : Value → World → Prop) (h : wp_list_check m d dl dc w Q) : FnP Try.prog F_list_check #[(.int .i64 m), (.slice d dl dc)] w Q := by
  have e_ : wp_list_check m d dl dc w Q = Runs Try.prog Q ({ N := 31, wrap := [], pub := [], muts := [] } : Cfg) Try.f26 (Try.f26.body.getD .skip) [.sc (.int .i64 m), .sc (.slc d dl dc)] w := by kernel_rfl
  rw [e_] at h
  exact runs_fn h Try.func26 (by kernel_rfl) (fun args w => Try.call26 args w) (by kernel_rfl) (by kernel_rfl) rfl rfl

/-- shiftbell/list.Span -/
def wp_list_Span (m : Int) (d : Option Addr) (dl : Nat) (dc : Nat) (on : Option Addr) (onl : Nat) (onc : Nat) (w : World) (Q : Value → World → Prop) : Prop :=
  ∀ w0, Ext w w0 →
  FnP Try.prog F_list_check #[(.int .i64 m), (.slice d dl dc)] w0 fun v1 w1 =>
   Ext w0 w1 ∧
   ∃ t2 : Int, v1 = (.int .i64 t2) ∧
   ((t2 ≠ 0) →
    ∀ w3, Ext w w3 →
    Q (.tuple #[(.int .i64 0), (.int .i64 t2)]) w3) ∧
   ((t2 = 0) →
    (((onl : Int) ≠ (dl : Int)) →
     ∀ w3, Ext w w3 →
     Q (.tuple #[(.int .i64 0), (.int .i64 1)]) w3) ∧
    (((onl : Int) = (dl : Int)) →
     ∀ w3, Ext w w3 →
     Run Try.prog (.makeSlice 22 (.int .i64 m) (.int .i64 m)) w3 fun v4 w4 =>
      Ext w3 w4 ∧
      ∃ t5 : Option Addr, ∃ tl6 : Nat, ∃ tc7 : Nat, v4 = (.slice t5 tl6 tc7) ∧
      ∃ (I8 : Int → World → Prop) (M8 : Int → World → Nat), I8 0 w4 ∧
      ∀ (k9 : Int) (w10 : World), I8 k9 w10 →
       ((k9 < (onl : Int)) →
        on ≠ none ∧
        (0 : Int) ≤ k9 ∧
        (k9 : Int) < (onl : Int) ∧
        ∃ t11 : Int, cell w10 (pIdx on k9 1) 0 = some (.int .i64 t11) ∧
        (((t11 < 0) ∨ (m ≤ t11)) →
         ∀ w12, Ext w10 w12 →
         Q (.tuple #[(.int .i64 0), (.int .i64 1)]) w12) ∧
        (((0 ≤ t11) ∧ (t11 < m)) →
         t5 ≠ none ∧
         (0 : Int) ≤ t11 ∧
         (t11 : Int) < (tl6 : Int) ∧
         ∃ t12 : Int, cell w10 (pIdx t5 t11 1) 0 = some (.int .i64 t12) ∧
         d ≠ none ∧
         (0 : Int) ≤ k9 ∧
         (k9 : Int) < (dl : Int) ∧
         ∃ t13 : Int, cell w10 (pIdx d k9 1) 0 = some (.int .i64 t13) ∧
         InR .i64 (t12 + t13) ∧
         t5 ≠ none ∧
         (0 : Int) ≤ t11 ∧
         (t11 : Int) < (tl6 : Int) ∧
         Store w10 (pIdx t5 t11 1) [(.int .i64 (t12 + t13))] [] fun w14 =>
          InR .i64 (k9 + 1) ∧
          (I8 (k9 + 1) w14 ∧ M8 (k9 + 1) w14 < M8 k9 w10))) ∧
       (((onl : Int) ≤ k9) →
        ∀ w11, Ext w10 w11 →
        FnP Try.prog F_slices_Max_int64_int64 #[(.slice t5 tl6 tc7)] w11 fun v12 w12 =>
         Ext w11 w12 ∧
         ∃ t13 : Int, v12 = (.int .i64 t13) ∧
         ∀ w14, Ext w10 w14 →
         Q (.tuple #[(.int .i64 t13), (.int .i64 0)]) w14)))

theorem ok_list_Span (m : Int) (d : Option Addr) (dl : Nat) (dc : Nat) (on : Option Addr) (onl : Nat) (onc : Nat) (w : World) (Q : Value → World → Prop) (h : wp_list_Span m d dl dc on onl onc w Q) : FnP Try.prog F_list_Span #[(.int .i64 m), (.slice d dl dc), (.slice on onl onc)] w Q := by
  have e_ : wp_list_Span m d dl dc on onl onc w Q = Runs Try.prog Q ({ N := 52, wrap := [], pub := [], muts := [] } : Cfg) Try.f14 (Try.f14.body.getD .skip) [.sc (.int .i64 m), .sc (.slc d dl dc), .sc (.slc on onl onc)] w := by kernel_rfl
  rw [e_] at h
  exact runs_fn h Try.func14 (by kernel_rfl) (fun args w => Try.call14 args w) (by kernel_rfl) (by kernel_rfl) rfl rfl

/-- shiftbell/list.run -/
def wp_list_run (m : Int) (d : Option Addr) (dl : Nat) (dc : Nat) (row : Option Addr) (rowl : Nat) (rowc : Nat) (w : World) (Q : Value → World → Prop) : Prop :=
  ∀ w0, Ext w w0 →
  Run Try.prog (.makeSlice 22 (.int .i64 m) (.int .i64 m)) w0 fun v1 w1 =>
   Ext w0 w1 ∧
   ∃ t2 : Option Addr, ∃ tl3 : Nat, ∃ tc4 : Nat, v1 = (.slice t2 tl3 tc4) ∧
   ∀ w5, Ext w1 w5 →
   Run Try.prog (.makeSlice 24 (.int .i64 (dl : Int)) (.int .i64 (dl : Int))) w5 fun v6 w6 =>
    Ext w5 w6 ∧
    ∃ t7 : Option Addr, ∃ tl8 : Nat, ∃ tc9 : Nat, v6 = (.slice t7 tl8 tc9) ∧
    ∃ (I10 : Int → World → Prop) (M10 : Int → World → Nat), I10 0 w6 ∧
    ∀ (k11 : Int) (w12 : World), I10 k11 w12 →
     ((k11 < (rowl : Int)) →
      row ≠ none ∧
      (0 : Int) ≤ k11 ∧
      (k11 : Int) < (rowl : Int) ∧
      ∃ t13 : Int, cell w12 (pIdx row k11 1) 0 = some (.int .i64 t13) ∧
      ∀ w14, Ext w12 w14 →
      FnP Try.prog F_slices_Min_int64_int64 #[(.slice t2 tl3 tc4)] w14 fun v15 w15 =>
       Ext w14 w15 ∧
       ∃ t16 : Int, v15 = (.int .i64 t16) ∧
       ∀ w17, Ext w12 w17 →
       FnP Try.prog F_slices_Index_int64_int64 #[(.slice t2 tl3 tc4), (.int .i64 t16)] w17 fun v18 w18 =>
        Ext w17 w18 ∧
        ∃ t19 : Int, v18 = (.int .i64 t19) ∧
        t7 ≠ none ∧
        (0 : Int) ≤ t13 ∧
        (t13 : Int) < (tl8 : Int) ∧
        Store w12 (pIdx t7 t13 1) [(.int .i64 t19)] [] fun w20 =>
         t2 ≠ none ∧
         (0 : Int) ≤ t19 ∧
         (t19 : Int) < (tl3 : Int) ∧
         ∃ t21 : Int, cell w20 (pIdx t2 t19 1) 0 = some (.int .i64 t21) ∧
         d ≠ none ∧
         (0 : Int) ≤ t13 ∧
         (t13 : Int) < (dl : Int) ∧
         ∃ t22 : Int, cell w20 (pIdx d t13 1) 0 = some (.int .i64 t22) ∧
         InR .i64 (t21 + t22) ∧
         t2 ≠ none ∧
         (0 : Int) ≤ t19 ∧
         (t19 : Int) < (tl3 : Int) ∧
         Store w20 (pIdx t2 t19 1) [(.int .i64 (t21 + t22))] [] fun w23 =>
          InR .i64 (k11 + 1) ∧
          (I10 (k11 + 1) w23 ∧ M10 (k11 + 1) w23 < M10 k11 w12)) ∧
     (((rowl : Int) ≤ k11) →
      ∀ w13, Ext w12 w13 →
      FnP Try.prog F_slices_Max_int64_int64 #[(.slice t2 tl3 tc4)] w13 fun v14 w14 =>
       Ext w13 w14 ∧
       ∃ t15 : Int, v14 = (.int .i64 t15) ∧
       ∀ w16, Ext w12 w16 →
       Q (.tuple #[(.slice t7 tl8 tc9), (.int .i64 t15)]) w16)

theorem ok_list_run (m : Int) (d : Option Addr) (dl : Nat) (dc : Nat) (row : Option Addr) (rowl : Nat) (rowc : Nat) (w : World) (Q : Value → World → Prop) (h : wp_list_run m d dl dc row rowl rowc w Q) : FnP Try.prog F_list_run #[(.int .i64 m), (.slice d dl dc), (.slice row rowl rowc)] w Q := by
  have e_ : wp_list_run m d dl dc row rowl rowc w Q = Runs Try.prog Q ({ N := 46, wrap := [], pub := [], muts := [] } : Cfg) Try.f27 (Try.f27.body.getD .skip) [.sc (.int .i64 m), .sc (.slc d dl dc), .sc (.slc row rowl rowc)] w := by kernel_rfl
  rw [e_] at h
  exact runs_fn h Try.func27 (by kernel_rfl) (fun args w => Try.call27 args w) (by kernel_rfl) (by kernel_rfl) rfl rfl

/-- shiftbell/list.numbers -/
def wp_list_numbers (n : Int) (w : World) (Q : Value → World → Prop) : Prop :=
  ∃ (I0 : Option Addr → Nat → Nat → Int → World → Prop) (M0 : Option Addr → Nat → Nat → Int → World → Nat), I0 none 0 0 0 w ∧
  ∀ (out1 : Option Addr) (outl1 : Nat) (outc1 : Nat) (k2 : Int) (w3 : World), I0 out1 outl1 outc1 k2 w3 →
   ((k2 < n) →
    ∀ w4, Ext w3 w4 →
    Run Try.prog (.buildSlice 24 1 [(0, (.int .i64 k2))]) w4 fun v5 w5 =>
     Ext w4 w5 ∧
     ∃ t6 : Option Addr, ∃ tl7 : Nat, ∃ tc8 : Nat, v5 = (.slice t6 tl7 tc8) ∧
     ∀ w9, Ext w5 w9 →
     Run Try.prog (.append #[24, 24] 24 [(.slice out1 outl1 outc1), (.slice t6 tl7 tc8)]) w9 fun v10 w10 =>
      ∃ t11 : Option Addr, ∃ tl12 : Nat, ∃ tc13 : Nat, v10 = (.slice t11 tl12 tc13) ∧
      InR .i64 (k2 + 1) ∧
      (I0 t11 tl12 tc13 (k2 + 1) w10 ∧ M0 t11 tl12 tc13 (k2 + 1) w10 < M0 out1 outl1 outc1 k2 w3)) ∧
   ((n ≤ k2) →
    ∀ w4, Ext w3 w4 →
    Q (.slice out1 outl1 outc1) w4)

theorem ok_list_numbers (n : Int) (w : World) (Q : Value → World → Prop) (h : wp_list_numbers n w Q) : FnP Try.prog F_list_numbers #[(.int .i64 n)] w Q := by
  have e_ : wp_list_numbers n w Q = Runs Try.prog Q ({ N := 15, wrap := [], pub := [], muts := [] } : Cfg) Try.f28 (Try.f28.body.getD .skip) [.sc (.int .i64 n)] w := by kernel_rfl
  rw [e_] at h
  exact runs_fn h Try.func28 (by kernel_rfl) (fun args w => Try.call28 args w) (by kernel_rfl) (by kernel_rfl) rfl rfl

/-- shiftbell/list.Run -/
def wp_list_Run (m : Int) (d : Option Addr) (dl : Nat) (dc : Nat) (w : World) (Q : Value → World → Prop) : Prop :=
  ∀ w0, Ext w w0 →
  FnP Try.prog F_list_check #[(.int .i64 m), (.slice d dl dc)] w0 fun v1 w1 =>
   Ext w0 w1 ∧
   ∃ t2 : Int, v1 = (.int .i64 t2) ∧
   ((t2 ≠ 0) →
    ∀ w3, Ext w w3 →
    Q (.tuple #[(.slice none 0 0), (.int .i64 0), (.int .i64 t2)]) w3) ∧
   ((t2 = 0) →
    ∀ w3, Ext w w3 →
    FnP Try.prog F_list_numbers #[(.int .i64 (dl : Int))] w3 fun v4 w4 =>
     Ext w3 w4 ∧
     ∃ t5 : Option Addr, ∃ tl6 : Nat, ∃ tc7 : Nat, v4 = (.slice t5 tl6 tc7) ∧
     ∀ w8, Ext w4 w8 →
     FnP Try.prog F_list_run #[(.int .i64 m), (.slice d dl dc), (.slice t5 tl6 tc7)] w8 fun v9 w9 =>
      Ext w8 w9 ∧
      ∃ t10 : Option Addr, ∃ tl11 : Nat, ∃ tc12 : Nat, ∃ t13 : Int, v9 = (.tuple #[(.slice t10 tl11 tc12), (.int .i64 t13)]) ∧
      ∀ w14, Ext w9 w14 →
      Q (.tuple #[(.slice t10 tl11 tc12), (.int .i64 t13), (.int .i64 0)]) w14)

theorem ok_list_Run (m : Int) (d : Option Addr) (dl : Nat) (dc : Nat) (w : World) (Q : Value → World → Prop) (h : wp_list_Run m d dl dc w Q) : FnP Try.prog F_list_Run #[(.int .i64 m), (.slice d dl dc)] w Q := by
  have e_ : wp_list_Run m d dl dc w Q = Runs Try.prog Q ({ N := 27, wrap := [], pub := [], muts := [] } : Cfg) Try.f13 (Try.f13.body.getD .skip) [.sc (.int .i64 m), .sc (.slc d dl dc)] w := by kernel_rfl
  rw [e_] at h
  exact runs_fn h Try.func13 (by kernel_rfl) (fun args w => Try.call13 args w) (by kernel_rfl) (by kernel_rfl) rfl rfl

/-- slices.Max[[]int64,int64] -/
def wp_slices_Max_int64_int64 (x : Option Addr) (xl : Nat) (xc : Nat) (w : World) (Q : Value → World → Prop) : Prop :=
  (((xl : Int) < 1) →
   ∀ w0, Ext w w0 →
   Run Try.prog (.makeInterface 9 (.string (⟨#[115, 108, 105, 99, 101, 115, 46, 77, 97, 120, 58, 32, 101, 109, 112, 116, 121, 32, 108, 105, 115, 116]⟩ : ByteArray))) w0 fun v1 w1 =>
    Ext w0 w1 ∧
    ∃ t2 : Value, v1 = t2 ∧
    sxFail) ∧
  ((1 ≤ (xl : Int)) →
   x ≠ none ∧
   (0 : Int) ≤ 0 ∧
   (0 : Int) < (xl : Int) ∧
   ∃ t0 : Int, cell w (pIdx x 0 1) 0 = some (.int .i64 t0) ∧
   ∃ (I1 : Int → Int → World → Prop) (M1 : Int → Int → World → Nat), I1 t0 1 w ∧
   ∀ (m2 : Int) (i3 : Int) (w4 : World), I1 m2 i3 w4 →
    ((i3 < (xl : Int)) →
     x ≠ none ∧
     (0 : Int) ≤ i3 ∧
     (i3 : Int) < (xl : Int) ∧
     ∃ t5 : Int, cell w4 (pIdx x i3 1) 0 = some (.int .i64 t5) ∧
     InR .i64 (i3 + 1) ∧
     (I1 (max m2 t5) (i3 + 1) w4 ∧ M1 (max m2 t5) (i3 + 1) w4 < M1 m2 i3 w4)) ∧
    (((xl : Int) ≤ i3) →
     ∀ w5, Ext w4 w5 →
     Q (.int .i64 m2) w5))

theorem ok_slices_Max_int64_int64 (x : Option Addr) (xl : Nat) (xc : Nat) (w : World) (Q : Value → World → Prop) (h : wp_slices_Max_int64_int64 x xl xc w Q) : FnP Try.prog F_slices_Max_int64_int64 #[(.slice x xl xc)] w Q := by
  have e_ : wp_slices_Max_int64_int64 x xl xc w Q = Runs Try.prog Q ({ N := 25, wrap := [], pub := [], muts := [] } : Cfg) Try.f29 (Try.f29.body.getD .skip) [.sc (.slc x xl xc)] w := by kernel_rfl
  rw [e_] at h
  exact runs_fn h Try.func29 (by kernel_rfl) (fun args w => Try.call29 args w) (by kernel_rfl) (by kernel_rfl) rfl rfl

/-- slices.Min[[]int64,int64] -/
def wp_slices_Min_int64_int64 (x : Option Addr) (xl : Nat) (xc : Nat) (w : World) (Q : Value → World → Prop) : Prop :=
  (((xl : Int) < 1) →
   ∀ w0, Ext w w0 →
   Run Try.prog (.makeInterface 9 (.string (⟨#[115, 108, 105, 99, 101, 115, 46, 77, 105, 110, 58, 32, 101, 109, 112, 116, 121, 32, 108, 105, 115, 116]⟩ : ByteArray))) w0 fun v1 w1 =>
    Ext w0 w1 ∧
    ∃ t2 : Value, v1 = t2 ∧
    sxFail) ∧
  ((1 ≤ (xl : Int)) →
   x ≠ none ∧
   (0 : Int) ≤ 0 ∧
   (0 : Int) < (xl : Int) ∧
   ∃ t0 : Int, cell w (pIdx x 0 1) 0 = some (.int .i64 t0) ∧
   ∃ (I1 : Int → Int → World → Prop) (M1 : Int → Int → World → Nat), I1 t0 1 w ∧
   ∀ (m2 : Int) (i3 : Int) (w4 : World), I1 m2 i3 w4 →
    ((i3 < (xl : Int)) →
     x ≠ none ∧
     (0 : Int) ≤ i3 ∧
     (i3 : Int) < (xl : Int) ∧
     ∃ t5 : Int, cell w4 (pIdx x i3 1) 0 = some (.int .i64 t5) ∧
     InR .i64 (i3 + 1) ∧
     (I1 (min m2 t5) (i3 + 1) w4 ∧ M1 (min m2 t5) (i3 + 1) w4 < M1 m2 i3 w4)) ∧
    (((xl : Int) ≤ i3) →
     ∀ w5, Ext w4 w5 →
     Q (.int .i64 m2) w5))

theorem ok_slices_Min_int64_int64 (x : Option Addr) (xl : Nat) (xc : Nat) (w : World) (Q : Value → World → Prop) (h : wp_slices_Min_int64_int64 x xl xc w Q) : FnP Try.prog F_slices_Min_int64_int64 #[(.slice x xl xc)] w Q := by
  have e_ : wp_slices_Min_int64_int64 x xl xc w Q = Runs Try.prog Q ({ N := 25, wrap := [], pub := [], muts := [] } : Cfg) Try.f47 (Try.f47.body.getD .skip) [.sc (.slc x xl xc)] w := by kernel_rfl
  rw [e_] at h
  exact runs_fn h Try.func47 (by kernel_rfl) (fun args w => Try.call47 args w) (by kernel_rfl) (by kernel_rfl) rfl rfl

/-- slices.Index[[]int64,int64] -/
def wp_slices_Index_int64_int64 (s : Option Addr) (sl : Nat) (sc : Nat) (v : Int) (w : World) (Q : Value → World → Prop) : Prop :=
  ∃ (I0 : Int → World → Prop) (M0 : Int → World → Nat), I0 0 w ∧
  ∀ (k1 : Int) (w2 : World), I0 k1 w2 →
   ((k1 < (sl : Int)) →
    s ≠ none ∧
    (0 : Int) ≤ k1 ∧
    (k1 : Int) < (sl : Int) ∧
    ∃ t3 : Int, cell w2 (pIdx s k1 1) 0 = some (.int .i64 t3) ∧
    ((v = t3) →
     ∀ w4, Ext w2 w4 →
     Q (.int .i64 k1) w4) ∧
    ((v ≠ t3) →
     InR .i64 (k1 + 1) ∧
     (I0 (k1 + 1) w2 ∧ M0 (k1 + 1) w2 < M0 k1 w2))) ∧
   (((sl : Int) ≤ k1) →
    ∀ w3, Ext w2 w3 →
    Q (.int .i64 (-1)) w3)

theorem ok_slices_Index_int64_int64 (s : Option Addr) (sl : Nat) (sc : Nat) (v : Int) (w : World) (Q : Value → World → Prop) (h : wp_slices_Index_int64_int64 s sl sc v w Q) : FnP Try.prog F_slices_Index_int64_int64 #[(.slice s sl sc), (.int .i64 v)] w Q := by
  have e_ : wp_slices_Index_int64_int64 s sl sc v w Q = Runs Try.prog Q ({ N := 19, wrap := [], pub := [], muts := [] } : Cfg) Try.f46 (Try.f46.body.getD .skip) [.sc (.slc s sl sc), .sc (.int .i64 v)] w := by kernel_rfl
  rw [e_] at h
  exact runs_fn h Try.func46 (by kernel_rfl) (fun args w => Try.call46 args w) (by kernel_rfl) (by kernel_rfl) rfl rfl

/-- shiftbell/shiftbellkeep.sum -/
def wp_shiftbellkeep_sum (l : Option Addr) (ll : Nat) (lc : Nat) (w : World) (Q : Value → World → Prop) : Prop :=
  ∃ (I0 : Int → Int → World → Prop) (M0 : Int → Int → World → Nat), I0 0 0 w ∧
  ∀ (n1 : Int) (k2 : Int) (w3 : World), I0 n1 k2 w3 →
   ((k2 < (ll : Int)) →
    l ≠ none ∧
    (0 : Int) ≤ k2 ∧
    (k2 : Int) < (ll : Int) ∧
    ∃ t4 : Int, cell w3 (pIdx l k2 1) 0 = some (.int .i64 t4) ∧
    InR .i64 (n1 + t4) ∧
    InR .i64 (k2 + 1) ∧
    (I0 (n1 + t4) (k2 + 1) w3 ∧ M0 (n1 + t4) (k2 + 1) w3 < M0 n1 k2 w3)) ∧
   (((ll : Int) ≤ k2) →
    ∀ w4, Ext w3 w4 →
    Q (.int .i64 n1) w4)

theorem ok_shiftbellkeep_sum (l : Option Addr) (ll : Nat) (lc : Nat) (w : World) (Q : Value → World → Prop) (h : wp_shiftbellkeep_sum l ll lc w Q) : FnP Try.prog F_shiftbellkeep_sum #[(.slice l ll lc)] w Q := by
  have e_ : wp_shiftbellkeep_sum l ll lc w Q = Runs Try.prog Q ({ N := 17, wrap := [], pub := [], muts := [] } : Cfg) Try.f15 (Try.f15.body.getD .skip) [.sc (.slc l ll lc)] w := by kernel_rfl
  rw [e_] at h
  exact runs_fn h Try.func15 (by kernel_rfl) (fun args w => Try.call15 args w) (by kernel_rfl) (by kernel_rfl) rfl rfl

/-- shiftbell/shiftbellkeep.lists -/
def wp_shiftbellkeep_lists  (w : World) (Q : Value → World → Prop) : Prop :=
  ∀ w0, Ext w w0 →
  Run Try.prog (.buildSlice 22 2 [(0, (.int .i64 3)), (1, (.int .i64 4))]) w0 fun v1 w1 =>
   Ext w0 w1 ∧
   ∃ t2 : Option Addr, ∃ tl3 : Nat, ∃ tc4 : Nat, v1 = (.slice t2 tl3 tc4) ∧
   ∀ w5, Ext w1 w5 →
   FnP Try.prog F_list_Run #[(.int .i64 2), (.slice t2 tl3 tc4)] w5 fun v6 w6 =>
    Ext w5 w6 ∧
    ∃ t7 : Option Addr, ∃ tl8 : Nat, ∃ tc9 : Nat, ∃ t10 : Int, ∃ t11 : Int, v6 = (.tuple #[(.slice t7 tl8 tc9), (.int .i64 t10), (.int .i64 t11)]) ∧
    ∀ w12, Ext w6 w12 →
    Q (.bool ((decide (t11 = 0)) && (decide (t10 = 4)))) w12

theorem ok_shiftbellkeep_lists  (w : World) (Q : Value → World → Prop) (h : wp_shiftbellkeep_lists  w Q) : FnP Try.prog F_shiftbellkeep_lists #[] w Q := by
  have e_ : wp_shiftbellkeep_lists  w Q = Runs Try.prog Q ({ N := 16, wrap := [], pub := [], muts := [] } : Cfg) Try.f12 (Try.f12.body.getD .skip) [] w := by kernel_rfl
  rw [e_] at h
  exact runs_fn h Try.func12 (by kernel_rfl) (fun args w => Try.call12 args w) (by kernel_rfl) (by kernel_rfl) rfl rfl

/-- shiftbell/shiftbellkeep.ListGraham -/
def wp_shiftbellkeep_ListGraham (m : Int) (d : Option Addr) (dl : Nat) (dc : Nat) (w : World) (Q : Value → World → Prop) : Prop :=
  ∀ w0, Ext w w0 →
  FnP Try.prog F_shiftbellkeep_lists #[] w0 fun v1 w1 =>
   Ext w0 w1 ∧
   ∃ t2 : Bool, v1 = (.bool t2) ∧
   ((t2 = false) →
    ∀ w3, Ext w w3 →
    Q (.bool false) w3) ∧
   ((t2 = true) →
    ∀ w3, Ext w w3 →
    FnP Try.prog F_list_Run #[(.int .i64 m), (.slice d dl dc)] w3 fun v4 w4 =>
     Ext w3 w4 ∧
     ∃ t5 : Option Addr, ∃ tl6 : Nat, ∃ tc7 : Nat, ∃ t8 : Int, ∃ t9 : Int, v4 = (.tuple #[(.slice t5 tl6 tc7), (.int .i64 t8), (.int .i64 t9)]) ∧
     ((t9 ≠ 0) →
      ∀ w10, Ext w4 w10 →
      Q (.bool ((decide ((tl6 : Int) = 0)) && (decide (t8 = 0)))) w10) ∧
     ((t9 = 0) →
      ∀ w10, Ext w4 w10 →
      FnP Try.prog F_list_Span #[(.int .i64 m), (.slice d dl dc), (.slice t5 tl6 tc7)] w10 fun v11 w11 =>
       Ext w10 w11 ∧
       ∃ t12 : Int, ∃ t13 : Int, v11 = (.tuple #[(.int .i64 t12), (.int .i64 t13)]) ∧
       ∃ (I14 : Int → Int → World → Prop) (M14 : Int → Int → World → Nat), I14 0 0 w4 ∧
       ∀ (longest15 : Int) (k16 : Int) (w17 : World), I14 longest15 k16 w17 →
        ((k16 < (dl : Int)) →
         d ≠ none ∧
         (0 : Int) ≤ k16 ∧
         (k16 : Int) < (dl : Int) ∧
         ∃ t18 : Int, cell w17 (pIdx d k16 1) 0 = some (.int .i64 t18) ∧
         InR .i64 (k16 + 1) ∧
         (I14 (max longest15 t18) (k16 + 1) w17 ∧ M14 (max longest15 t18) (k16 + 1) w17 < M14 longest15 k16 w17)) ∧
        (((dl : Int) ≤ k16) →
         (((t13 = 0) ∧ (t12 = t8)) →
          InR .i64 (m * t8)) ∧
         (((t13 = 0) ∧ (t12 = t8)) →
          ∀ w18, Ext w17 w18 →
          FnP Try.prog F_shiftbellkeep_sum #[(.slice d dl dc)] w18 fun v19 w19 =>
           Ext w18 w19 ∧
           ∃ t20 : Int, v19 = (.int .i64 t20) ∧
           InR .i64 (m - 1) ∧
           InR .i64 ((m - 1) * longest15) ∧
           InR .i64 (t20 + ((m - 1) * longest15)) ∧
           ((((m * t8) ≤ (t20 + ((m - 1) * longest15))) ∧ (longest15 ≤ t8)) →
            InR .i64 (m * t8)) ∧
           ((((m * t8) ≤ (t20 + ((m - 1) * longest15))) ∧ (longest15 ≤ t8)) →
            ∀ w21, Ext w17 w21 →
            FnP Try.prog F_shiftbellkeep_sum #[(.slice d dl dc)] w21 fun v22 w22 =>
             Ext w21 w22 ∧
             ∃ t23 : Int, v22 = (.int .i64 t23) ∧
             ∀ w24, Ext w17 w24 →
             Q (.bool (decide (t23 ≤ (m * t8)))) w24) ∧
           ((((t20 + ((m - 1) * longest15)) < (m * t8)) ∨ (t8 < longest15)) →
            ∀ w21, Ext w17 w21 →
            Q (.bool false) w21)) ∧
         (((t13 ≠ 0) ∨ (t12 ≠ t8)) →
          ∀ w18, Ext w17 w18 →
          Q (.bool false) w18))))

theorem ok_shiftbellkeep_ListGraham (m : Int) (d : Option Addr) (dl : Nat) (dc : Nat) (w : World) (Q : Value → World → Prop) (h : wp_shiftbellkeep_ListGraham m d dl dc w Q) : FnP Try.prog F_shiftbellkeep_ListGraham #[(.int .i64 m), (.slice d dl dc)] w Q := by
  have e_ : wp_shiftbellkeep_ListGraham m d dl dc w Q = Runs Try.prog Q ({ N := 81, wrap := [], pub := [], muts := [] } : Cfg) Try.f3 (Try.f3.body.getD .skip) [.sc (.int .i64 m), .sc (.slc d dl dc)] w := by kernel_rfl
  rw [e_] at h
  exact runs_fn h Try.func3 (by kernel_rfl) (fun args w => Try.call3 args w) (by kernel_rfl) (by kernel_rfl) rfl rfl

theorem open_shiftbellkeep_ListGraham (W : World) (R : Array Value → Prop) (h : ∀ m : Int, InR .i64 m → ∀ d : Option Addr, ∀ dl : Nat, ∀ dc : Nat, SlcArg Try.prog W 2 d dl dc → R #[(.int .i64 m), (.slice d dl dc)]) (args : Array Value) (hg : GoodAll Try.prog W Try.f3.params.toList args.toList) : R args := by
  have e_ : (ArgsAll Try.prog W Try.f3.params.toList fun l => R l.toArray) = (∀ m : Int, InR .i64 m → ∀ d : Option Addr, ∀ dl : Nat, ∀ dc : Nat, SlcArg Try.prog W 2 d dl dc → R #[(.int .i64 m), (.slice d dl dc)]) := by kernel_rfl
  exact args_open (by rw [e_]; exact h) args hg
-- wit 3 #[(.int .i64 0), (.slice none 0 0)]

/-- shiftbell/pack.First -/
def wp_pack_First (l : Option Addr) (ll : Nat) (lc : Nat) (size : Int) (w : World) (Q : Value → World → Prop) : Prop :=
  ∀ w0, Ext w w0 →
  FnP Try.prog F_pack_Check #[(.slice l ll lc), (.int .i64 size)] w0 fun v1 w1 =>
   Ext w0 w1 ∧
   ∃ t2 : Int, v1 = (.int .i64 t2) ∧
   ((t2 ≠ 0) →
    ∀ w3, Ext w w3 →
    Q (.tuple #[(.slice none 0 0), (.int .i64 0), (.int .i64 t2)]) w3) ∧
   ((t2 = 0) →
    ∀ w3, Ext w w3 →
    FnP Try.prog F_pack_numbers #[(.int .i64 (ll : Int))] w3 fun v4 w4 =>
     Ext w3 w4 ∧
     ∃ t5 : Option Addr, ∃ tl6 : Nat, ∃ tc7 : Nat, v4 = (.slice t5 tl6 tc7) ∧
     ∀ w8, Ext w4 w8 →
     FnP Try.prog F_pack_first #[(.slice l ll lc), (.int .i64 size), (.slice t5 tl6 tc7)] w8 fun v9 w9 =>
      Ext w8 w9 ∧
      ∃ t10 : Option Addr, ∃ tl11 : Nat, ∃ tc12 : Nat, ∃ t13 : Int, v9 = (.tuple #[(.slice t10 tl11 tc12), (.int .i64 t13)]) ∧
      ∀ w14, Ext w9 w14 →
      Q (.tuple #[(.slice t10 tl11 tc12), (.int .i64 t13), (.int .i64 0)]) w14)

theorem ok_pack_First (l : Option Addr) (ll : Nat) (lc : Nat) (size : Int) (w : World) (Q : Value → World → Prop) (h : wp_pack_First l ll lc size w Q) : FnP Try.prog F_pack_First #[(.slice l ll lc), (.int .i64 size)] w Q := by
  have e_ : wp_pack_First l ll lc size w Q = Runs Try.prog Q ({ N := 27, wrap := [], pub := [], muts := [] } : Cfg) Try.f21 (Try.f21.body.getD .skip) [.sc (.slc l ll lc), .sc (.int .i64 size)] w := by kernel_rfl
  rw [e_] at h
  exact runs_fn h Try.func21 (by kernel_rfl) (fun args w => Try.call21 args w) (by kernel_rfl) (by kernel_rfl) rfl rfl

/-- shiftbell/pack.first -/
def wp_pack_first (l : Option Addr) (ll : Nat) (lc : Nat) (size : Int) (row : Option Addr) (rowl : Nat) (rowc : Nat) (w : World) (Q : Value → World → Prop) : Prop :=
  ∀ w0, Ext w w0 →
  Run Try.prog (.makeSlice 24 (.int .i64 (ll : Int)) (.int .i64 (ll : Int))) w0 fun v1 w1 =>
   Ext w0 w1 ∧
   ∃ t2 : Option Addr, ∃ tl3 : Nat, ∃ tc4 : Nat, v1 = (.slice t2 tl3 tc4) ∧
   ∃ (I5 : Option Addr → Nat → Nat → Int → World → Prop) (M5 : Option Addr → Nat → Nat → Int → World → Nat), I5 none 0 0 0 w1 ∧
   ∀ (full6 : Option Addr) (fulll6 : Nat) (fullc6 : Nat) (k7 : Int) (w8 : World), I5 full6 fulll6 fullc6 k7 w8 →
    ((k7 < (rowl : Int)) →
     row ≠ none ∧
     (0 : Int) ≤ k7 ∧
     (k7 : Int) < (rowl : Int) ∧
     ∃ t9 : Int, cell w8 (pIdx row k7 1) 0 = some (.int .i64 t9) ∧
     ∃ (I10 : Int → World → Prop) (M10 : Int → World → Nat), I10 0 w8 ∧
     ∀ (k11 : Int) (w12 : World), I10 k11 w12 →
      ((k11 < (fulll6 : Int)) →
       full6 ≠ none) ∧
      ((k11 < (fulll6 : Int)) →
       (0 : Int) ≤ k11) ∧
      ((k11 < (fulll6 : Int)) →
       (k11 : Int) < (fulll6 : Int)) ∧
      ((k11 < (fulll6 : Int)) →
       ∃ t13 : Int, cell w12 (pIdx full6 k11 1) 0 = some (.int .i64 t13) ∧
       l ≠ none ∧
       (0 : Int) ≤ t9 ∧
       (t9 : Int) < (ll : Int) ∧
       ∃ t14 : Int, cell w12 (pIdx l t9 1) 0 = some (.int .i64 t14) ∧
       InR .i64 (t13 + t14) ∧
       ((size < (t13 + t14)) →
        InR .i64 (k11 + 1) ∧
        (I10 (k11 + 1) w12 ∧ M10 (k11 + 1) w12 < M10 k11 w12)) ∧
       (((t13 + t14) ≤ size) →
        ((k11 = (fulll6 : Int)) →
         ∀ w15, Ext w12 w15 →
         Run Try.prog (.buildSlice 22 1 [(0, (.int .i64 0))]) w15 fun v16 w16 =>
          Ext w15 w16 ∧
          ∃ t17 : Option Addr, ∃ tl18 : Nat, ∃ tc19 : Nat, v16 = (.slice t17 tl18 tc19) ∧
          ∀ w20, Ext w16 w20 →
          Run Try.prog (.append #[22, 22] 22 [(.slice full6 fulll6 fullc6), (.slice t17 tl18 tc19)]) w20 fun v21 w21 =>
           ∃ t22 : Option Addr, ∃ tl23 : Nat, ∃ tc24 : Nat, v21 = (.slice t22 tl23 tc24) ∧
           t22 ≠ none ∧
           (0 : Int) ≤ k11 ∧
           (k11 : Int) < (tl23 : Int) ∧
           ∃ t25 : Int, cell w21 (pIdx t22 k11 1) 0 = some (.int .i64 t25) ∧
           l ≠ none ∧
           (0 : Int) ≤ t9 ∧
           (t9 : Int) < (ll : Int) ∧
           ∃ t26 : Int, cell w21 (pIdx l t9 1) 0 = some (.int .i64 t26) ∧
           InR .i64 (t25 + t26) ∧
           t22 ≠ none ∧
           (0 : Int) ≤ k11 ∧
           (k11 : Int) < (tl23 : Int) ∧
           Store w21 (pIdx t22 k11 1) [(.int .i64 (t25 + t26))] [] fun w27 =>
            t2 ≠ none ∧
            (0 : Int) ≤ t9 ∧
            (t9 : Int) < (tl3 : Int) ∧
            Store w27 (pIdx t2 t9 1) [(.int .i64 k11)] [] fun w28 =>
             InR .i64 (k7 + 1) ∧
             (I5 t22 tl23 tc24 (k7 + 1) w28 ∧ M5 t22 tl23 tc24 (k7 + 1) w28 < M5 full6 fulll6 fullc6 k7 w8)) ∧
        ((k11 ≠ (fulll6 : Int)) →
         full6 ≠ none ∧
         (0 : Int) ≤ k11 ∧
         (k11 : Int) < (fulll6 : Int) ∧
         ∃ t15 : Int, cell w12 (pIdx full6 k11 1) 0 = some (.int .i64 t15) ∧
         l ≠ none ∧
         (0 : Int) ≤ t9 ∧
         (t9 : Int) < (ll : Int) ∧
         ∃ t16 : Int, cell w12 (pIdx l t9 1) 0 = some (.int .i64 t16) ∧
         InR .i64 (t15 + t16) ∧
         full6 ≠ none ∧
         (0 : Int) ≤ k11 ∧
         (k11 : Int) < (fulll6 : Int) ∧
         Store w12 (pIdx full6 k11 1) [(.int .i64 (t15 + t16))] [] fun w17 =>
          t2 ≠ none ∧
          (0 : Int) ≤ t9 ∧
          (t9 : Int) < (tl3 : Int) ∧
          Store w17 (pIdx t2 t9 1) [(.int .i64 k11)] [] fun w18 =>
           InR .i64 (k7 + 1) ∧
           (I5 full6 fulll6 fullc6 (k7 + 1) w18 ∧ M5 full6 fulll6 fullc6 (k7 + 1) w18 < M5 full6 fulll6 fullc6 k7 w8)))) ∧
      (((fulll6 : Int) ≤ k11) →
       ((k11 = (fulll6 : Int)) →
        ∀ w13, Ext w12 w13 →
        Run Try.prog (.buildSlice 22 1 [(0, (.int .i64 0))]) w13 fun v14 w14 =>
         Ext w13 w14 ∧
         ∃ t15 : Option Addr, ∃ tl16 : Nat, ∃ tc17 : Nat, v14 = (.slice t15 tl16 tc17) ∧
         ∀ w18, Ext w14 w18 →
         Run Try.prog (.append #[22, 22] 22 [(.slice full6 fulll6 fullc6), (.slice t15 tl16 tc17)]) w18 fun v19 w19 =>
          ∃ t20 : Option Addr, ∃ tl21 : Nat, ∃ tc22 : Nat, v19 = (.slice t20 tl21 tc22) ∧
          t20 ≠ none ∧
          (0 : Int) ≤ k11 ∧
          (k11 : Int) < (tl21 : Int) ∧
          ∃ t23 : Int, cell w19 (pIdx t20 k11 1) 0 = some (.int .i64 t23) ∧
          l ≠ none ∧
          (0 : Int) ≤ t9 ∧
          (t9 : Int) < (ll : Int) ∧
          ∃ t24 : Int, cell w19 (pIdx l t9 1) 0 = some (.int .i64 t24) ∧
          InR .i64 (t23 + t24) ∧
          t20 ≠ none ∧
          (0 : Int) ≤ k11 ∧
          (k11 : Int) < (tl21 : Int) ∧
          Store w19 (pIdx t20 k11 1) [(.int .i64 (t23 + t24))] [] fun w25 =>
           t2 ≠ none ∧
           (0 : Int) ≤ t9 ∧
           (t9 : Int) < (tl3 : Int) ∧
           Store w25 (pIdx t2 t9 1) [(.int .i64 k11)] [] fun w26 =>
            InR .i64 (k7 + 1) ∧
            (I5 t20 tl21 tc22 (k7 + 1) w26 ∧ M5 t20 tl21 tc22 (k7 + 1) w26 < M5 full6 fulll6 fullc6 k7 w8)) ∧
       ((k11 ≠ (fulll6 : Int)) →
        full6 ≠ none ∧
        (0 : Int) ≤ k11 ∧
        (k11 : Int) < (fulll6 : Int) ∧
        ∃ t13 : Int, cell w12 (pIdx full6 k11 1) 0 = some (.int .i64 t13) ∧
        l ≠ none ∧
        (0 : Int) ≤ t9 ∧
        (t9 : Int) < (ll : Int) ∧
        ∃ t14 : Int, cell w12 (pIdx l t9 1) 0 = some (.int .i64 t14) ∧
        InR .i64 (t13 + t14) ∧
        full6 ≠ none ∧
        (0 : Int) ≤ k11 ∧
        (k11 : Int) < (fulll6 : Int) ∧
        Store w12 (pIdx full6 k11 1) [(.int .i64 (t13 + t14))] [] fun w15 =>
         t2 ≠ none ∧
         (0 : Int) ≤ t9 ∧
         (t9 : Int) < (tl3 : Int) ∧
         Store w15 (pIdx t2 t9 1) [(.int .i64 k11)] [] fun w16 =>
          InR .i64 (k7 + 1) ∧
          (I5 full6 fulll6 fullc6 (k7 + 1) w16 ∧ M5 full6 fulll6 fullc6 (k7 + 1) w16 < M5 full6 fulll6 fullc6 k7 w8)))) ∧
    (((rowl : Int) ≤ k7) →
     ∀ w9, Ext w8 w9 →
     Q (.tuple #[(.slice t2 tl3 tc4), (.int .i64 (fulll6 : Int))]) w9)

theorem ok_pack_first (l : Option Addr) (ll : Nat) (lc : Nat) (size : Int) (row : Option Addr) (rowl : Nat) (rowc : Nat) (w : World) (Q : Value → World → Prop) (h : wp_pack_first l ll lc size row rowl rowc w Q) : FnP Try.prog F_pack_first #[(.slice l ll lc), (.int .i64 size), (.slice row rowl rowc)] w Q := by
  have e_ : wp_pack_first l ll lc size row rowl rowc w Q = Runs Try.prog Q ({ N := 66, wrap := [], pub := [], muts := [] } : Cfg) Try.f37 (Try.f37.body.getD .skip) [.sc (.slc l ll lc), .sc (.int .i64 size), .sc (.slc row rowl rowc)] w := by kernel_rfl
  rw [e_] at h
  exact runs_fn h Try.func37 (by kernel_rfl) (fun args w => Try.call37 args w) (by kernel_rfl) (by kernel_rfl) rfl rfl

/-- shiftbell/pack.numbers -/
def wp_pack_numbers (n : Int) (w : World) (Q : Value → World → Prop) : Prop :=
  ∃ (I0 : Option Addr → Nat → Nat → Int → World → Prop) (M0 : Option Addr → Nat → Nat → Int → World → Nat), I0 none 0 0 0 w ∧
  ∀ (out1 : Option Addr) (outl1 : Nat) (outc1 : Nat) (k2 : Int) (w3 : World), I0 out1 outl1 outc1 k2 w3 →
   ((k2 < n) →
    ∀ w4, Ext w3 w4 →
    Run Try.prog (.buildSlice 24 1 [(0, (.int .i64 k2))]) w4 fun v5 w5 =>
     Ext w4 w5 ∧
     ∃ t6 : Option Addr, ∃ tl7 : Nat, ∃ tc8 : Nat, v5 = (.slice t6 tl7 tc8) ∧
     ∀ w9, Ext w5 w9 →
     Run Try.prog (.append #[24, 24] 24 [(.slice out1 outl1 outc1), (.slice t6 tl7 tc8)]) w9 fun v10 w10 =>
      ∃ t11 : Option Addr, ∃ tl12 : Nat, ∃ tc13 : Nat, v10 = (.slice t11 tl12 tc13) ∧
      InR .i64 (k2 + 1) ∧
      (I0 t11 tl12 tc13 (k2 + 1) w10 ∧ M0 t11 tl12 tc13 (k2 + 1) w10 < M0 out1 outl1 outc1 k2 w3)) ∧
   ((n ≤ k2) →
    ∀ w4, Ext w3 w4 →
    Q (.slice out1 outl1 outc1) w4)

theorem ok_pack_numbers (n : Int) (w : World) (Q : Value → World → Prop) (h : wp_pack_numbers n w Q) : FnP Try.prog F_pack_numbers #[(.int .i64 n)] w Q := by
  have e_ : wp_pack_numbers n w Q = Runs Try.prog Q ({ N := 15, wrap := [], pub := [], muts := [] } : Cfg) Try.f38 (Try.f38.body.getD .skip) [.sc (.int .i64 n)] w := by kernel_rfl
  rw [e_] at h
  exact runs_fn h Try.func38 (by kernel_rfl) (fun args w => Try.call38 args w) (by kernel_rfl) (by kernel_rfl) rfl rfl

/-- shiftbell/pack.Check -/
def wp_pack_Check (l : Option Addr) (ll : Nat) (lc : Nat) (size : Int) (w : World) (Q : Value → World → Prop) : Prop :=
  ((100 < (ll : Int)) →
   ∀ w0, Ext w w0 →
   Q (.int .i64 2) w0) ∧
  (((ll : Int) ≤ 100) →
   (((size < 1) ∨ (1099511627776 < size)) →
    ∀ w0, Ext w w0 →
    Q (.int .i64 1) w0) ∧
   (((1 ≤ size) ∧ (size ≤ 1099511627776)) →
    ∃ (I0 : Int → World → Prop) (M0 : Int → World → Nat), I0 0 w ∧
    ∀ (k1 : Int) (w2 : World), I0 k1 w2 →
     ((k1 < (ll : Int)) →
      l ≠ none ∧
      (0 : Int) ≤ k1 ∧
      (k1 : Int) < (ll : Int) ∧
      ∃ t3 : Int, cell w2 (pIdx l k1 1) 0 = some (.int .i64 t3) ∧
      (((t3 < 1) ∨ (size < t3)) →
       ∀ w4, Ext w2 w4 →
       Q (.int .i64 4) w4) ∧
      (((1 ≤ t3) ∧ (t3 ≤ size)) →
       InR .i64 (k1 + 1) ∧
       (I0 (k1 + 1) w2 ∧ M0 (k1 + 1) w2 < M0 k1 w2))) ∧
     (((ll : Int) ≤ k1) →
      ∀ w3, Ext w2 w3 →
      Q (.int .i64 0) w3)))

theorem ok_pack_Check (l : Option Addr) (ll : Nat) (lc : Nat) (size : Int) (w : World) (Q : Value → World → Prop) (h : wp_pack_Check l ll lc size w Q) : FnP Try.prog F_pack_Check #[(.slice l ll lc), (.int .i64 size)] w Q := by
  have e_ : wp_pack_Check l ll lc size w Q = Runs Try.prog Q ({ N := 32, wrap := [], pub := [], muts := [] } : Cfg) Try.f30 (Try.f30.body.getD .skip) [.sc (.slc l ll lc), .sc (.int .i64 size)] w := by kernel_rfl
  rw [e_] at h
  exact runs_fn h Try.func30 (by kernel_rfl) (fun args w => Try.call30 args w) (by kernel_rfl) (by kernel_rfl) rfl rfl

/-- shiftbell/pack.least -/
def wp_pack_least (l : Option Addr) (ll : Nat) (lc : Nat) (size : Int) (full : Option Addr) (fulll : Nat) (fullc : Nat) (best : Int) (w : World) (Q : Value → World → Prop) : Prop :=
  ((best ≤ (fulll : Int)) →
   ∀ w0, Ext w w0 →
   Q (.int .i64 best) w0) ∧
  (((fulll : Int) < best) →
   (((ll : Int) = 0) →
    ∀ w0, Ext w w0 →
    Q (.int .i64 (fulll : Int)) w0) ∧
   (((ll : Int) ≠ 0) →
    ∃ (I0 : Int → Int → World → Prop) (M0 : Int → Int → World → Nat), I0 best 0 w ∧
    ∀ (best1 : Int) (k2 : Int) (w3 : World), I0 best1 k2 w3 →
     ((k2 < (fulll : Int)) →
      full ≠ none ∧
      (0 : Int) ≤ k2 ∧
      (k2 : Int) < (fulll : Int) ∧
      ∃ t4 : Int, cell w3 (pIdx full k2 1) 0 = some (.int .i64 t4) ∧
      l ≠ none ∧
      (0 : Int) ≤ 0 ∧
      (0 : Int) < (ll : Int) ∧
      ∃ t5 : Int, cell w3 (pIdx l 0 1) 0 = some (.int .i64 t5) ∧
      InR .i64 (t4 + t5) ∧
      (((t4 + t5) ≤ size) →
       full ≠ none ∧
       (0 : Int) ≤ k2 ∧
       (k2 : Int) < (fulll : Int) ∧
       ∃ t6 : Int, cell w3 (pIdx full k2 1) 0 = some (.int .i64 t6) ∧
       l ≠ none ∧
       (0 : Int) ≤ 0 ∧
       (0 : Int) < (ll : Int) ∧
       ∃ t7 : Int, cell w3 (pIdx l 0 1) 0 = some (.int .i64 t7) ∧
       InR .i64 (t6 + t7) ∧
       full ≠ none ∧
       (0 : Int) ≤ k2 ∧
       (k2 : Int) < (fulll : Int) ∧
       Store w3 (pIdx full k2 1) [(.int .i64 (t6 + t7))] [] fun w8 =>
        (0 : Int) ≤ 1 ∧
        (1 : Int) ≤ (ll : Int) ∧
        ((ll : Int) : Int) ≤ (lc : Int) ∧
        ∀ w9, Ext w8 w9 →
        FnP Try.prog F_pack_least #[(.slice (pCut l lc 1 1) ((ll : Int) - 1).toNat (lc - (1 : Int).toNat)), (.int .i64 size), (.slice full fulll fullc), (.int .i64 best1)] w9 fun v10 w10 =>
         Ext w9 w10 ∧
         ∃ t11 : Int, v10 = (.int .i64 t11) ∧
         full ≠ none ∧
         (0 : Int) ≤ k2 ∧
         (k2 : Int) < (fulll : Int) ∧
         ∃ t12 : Int, cell w8 (pIdx full k2 1) 0 = some (.int .i64 t12) ∧
         l ≠ none ∧
         (0 : Int) ≤ 0 ∧
         (0 : Int) < (ll : Int) ∧
         ∃ t13 : Int, cell w8 (pIdx l 0 1) 0 = some (.int .i64 t13) ∧
         InR .i64 (t12 - t13) ∧
         full ≠ none ∧
         (0 : Int) ≤ k2 ∧
         (k2 : Int) < (fulll : Int) ∧
         Store w8 (pIdx full k2 1) [(.int .i64 (t12 - t13))] [] fun w14 =>
          InR .i64 (k2 + 1) ∧
          (I0 t11 (k2 + 1) w14 ∧ M0 t11 (k2 + 1) w14 < M0 best1 k2 w3)) ∧
      ((size < (t4 + t5)) →
       InR .i64 (k2 + 1) ∧
       (I0 best1 (k2 + 1) w3 ∧ M0 best1 (k2 + 1) w3 < M0 best1 k2 w3))) ∧
     (((fulll : Int) ≤ k2) →
      ∃ (J4 : Int → World → Prop), ((0 : Int) ≤ 1 ∧
       (1 : Int) ≤ (ll : Int) ∧
       ((ll : Int) : Int) ≤ (lc : Int) ∧
       l ≠ none ∧
       (0 : Int) ≤ 0 ∧
       (0 : Int) < (ll : Int) ∧
       ∃ t7 : Int, cell w3 (pIdx l 0 1) 0 = some (.int .i64 t7) ∧
       (∀ w8, Ext w3 w8 →
       FnP Try.prog F_slices_Clone_int64_int64 #[(.slice full fulll fullc)] w8 fun v9 w9 =>
        Ext w8 w9 ∧
        ∃ t10 : Option Addr, ∃ tl11 : Nat, ∃ tc12 : Nat, v9 = (.slice t10 tl11 tc12) ∧
        ∀ w13, Ext w9 w13 →
        Run Try.prog (.buildSlice 22 1 [(0, (.int .i64 t7))]) w13 fun v14 w14 =>
         Ext w13 w14 ∧
         ∃ t15 : Option Addr, ∃ tl16 : Nat, ∃ tc17 : Nat, v14 = (.slice t15 tl16 tc17) ∧
         ∀ w18, Ext w14 w18 →
         Run Try.prog (.append #[22, 22] 22 [(.slice t10 tl11 tc12), (.slice t15 tl16 tc17)]) w18 fun v19 w19 =>
          ∃ t20 : Option Addr, ∃ tl21 : Nat, ∃ tc22 : Nat, v19 = (.slice t20 tl21 tc22) ∧
          ∀ w23, Ext w19 w23 →
          FnP Try.prog F_pack_least #[(.slice (pCut l lc 1 1) ((ll : Int) - 1).toNat (lc - (1 : Int).toNat)), (.int .i64 size), (.slice t20 tl21 tc22), (.int .i64 best1)] w23 fun v24 w24 =>
           Ext w23 w24 ∧
           ∃ t25 : Int, v24 = (.int .i64 t25) ∧
           J4 t25 w19) ∧
       ∀ w8, Ext w3 w8 →
       Run Try.prog (.buildSlice 22 1 [(0, (.int .i64 t7))]) w8 fun v9 w9 =>
        Ext w8 w9 ∧
        ∃ t10 : Option Addr, ∃ tl11 : Nat, ∃ tc12 : Nat, v9 = (.slice t10 tl11 tc12) ∧
        ∀ w13, Ext w9 w13 →
        FnP Try.prog F_slices_Clone_int64_int64 #[(.slice full fulll fullc)] w13 fun v14 w14 =>
         Ext w13 w14 ∧
         ∃ t15 : Option Addr, ∃ tl16 : Nat, ∃ tc17 : Nat, v14 = (.slice t15 tl16 tc17) ∧
         ∀ w18, Ext w14 w18 →
         Run Try.prog (.append #[22, 22] 22 [(.slice t15 tl16 tc17), (.slice t10 tl11 tc12)]) w18 fun v19 w19 =>
          ∃ t20 : Option Addr, ∃ tl21 : Nat, ∃ tc22 : Nat, v19 = (.slice t20 tl21 tc22) ∧
          ∀ w23, Ext w19 w23 →
          FnP Try.prog F_pack_least #[(.slice (pCut l lc 1 1) ((ll : Int) - 1).toNat (lc - (1 : Int).toNat)), (.int .i64 size), (.slice t20 tl21 tc22), (.int .i64 best1)] w23 fun v24 w24 =>
           Ext w23 w24 ∧
           ∃ t25 : Int, v24 = (.int .i64 t25) ∧
           J4 t25 w19) ∧
      ∀ (k5 : Int) (w6 : World), J4 k5 w6 →
       ∀ w7, Ext w6 w7 →
       Q (.int .i64 k5) w7)))

theorem ok_pack_least (l : Option Addr) (ll : Nat) (lc : Nat) (size : Int) (full : Option Addr) (fulll : Nat) (fullc : Nat) (best : Int) (w : World) (Q : Value → World → Prop) (h : wp_pack_least l ll lc size full fulll fullc best w Q) : FnP Try.prog F_pack_least #[(.slice l ll lc), (.int .i64 size), (.slice full fulll fullc), (.int .i64 best)] w Q := by
  have e_ : wp_pack_least l ll lc size full fulll fullc best w Q = Runs Try.prog Q ({ N := 72, wrap := [], pub := [], muts := [] } : Cfg) Try.f31 (Try.f31.body.getD .skip) [.sc (.slc l ll lc), .sc (.int .i64 size), .sc (.slc full fulll fullc), .sc (.int .i64 best)] w := by kernel_rfl
  rw [e_] at h
  exact runs_fn h Try.func31 (by kernel_rfl) (fun args w => Try.call31 args w) (by kernel_rfl) (by kernel_rfl) rfl rfl

/-- shiftbell/pack.Least -/
def wp_pack_Least (l : Option Addr) (ll : Nat) (lc : Nat) (size : Int) (w : World) (Q : Value → World → Prop) : Prop :=
  ∀ w0, Ext w w0 →
  FnP Try.prog F_pack_Check #[(.slice l ll lc), (.int .i64 size)] w0 fun v1 w1 =>
   Ext w0 w1 ∧
   ∃ t2 : Int, v1 = (.int .i64 t2) ∧
   ((t2 ≠ 0) →
    ∀ w3, Ext w w3 →
    Q (.tuple #[(.int .i64 0), (.int .i64 t2)]) w3) ∧
   ((t2 = 0) →
    ((9 < (ll : Int)) →
     ∀ w3, Ext w w3 →
     Q (.tuple #[(.int .i64 0), (.int .i64 2)]) w3) ∧
    (((ll : Int) ≤ 9) →
     InR .i64 ((ll : Int) + 1) ∧
     ∀ w3, Ext w w3 →
     FnP Try.prog F_pack_least #[(.slice l ll lc), (.int .i64 size), (.slice none 0 0), (.int .i64 ((ll : Int) + 1))] w3 fun v4 w4 =>
      Ext w3 w4 ∧
      ∃ t5 : Int, v4 = (.int .i64 t5) ∧
      ∀ w6, Ext w w6 →
      Q (.tuple #[(.int .i64 t5), (.int .i64 0)]) w6))

theorem ok_pack_Least (l : Option Addr) (ll : Nat) (lc : Nat) (size : Int) (w : World) (Q : Value → World → Prop) (h : wp_pack_Least l ll lc size w Q) : FnP Try.prog F_pack_Least #[(.slice l ll lc), (.int .i64 size)] w Q := by
  have e_ : wp_pack_Least l ll lc size w Q = Runs Try.prog Q ({ N := 22, wrap := [], pub := [], muts := [] } : Cfg) Try.f17 (Try.f17.body.getD .skip) [.sc (.slc l ll lc), .sc (.int .i64 size)] w := by kernel_rfl
  rw [e_] at h
  exact runs_fn h Try.func17 (by kernel_rfl) (fun args w => Try.call17 args w) (by kernel_rfl) (by kernel_rfl) rfl rfl

/-- shiftbell/pack.Boxes -/
def wp_pack_Boxes (l : Option Addr) (ll : Nat) (lc : Nat) (size : Int) (in_v : Option Addr) (in_vl : Nat) (in_vc : Nat) (w : World) (Q : Value → World → Prop) : Prop :=
  ∀ w0, Ext w w0 →
  FnP Try.prog F_pack_Check #[(.slice l ll lc), (.int .i64 size)] w0 fun v1 w1 =>
   Ext w0 w1 ∧
   ∃ t2 : Int, v1 = (.int .i64 t2) ∧
   ((t2 ≠ 0) →
    ∀ w3, Ext w w3 →
    Q (.tuple #[(.int .i64 0), (.int .i64 t2)]) w3) ∧
   ((t2 = 0) →
    (((in_vl : Int) ≠ (ll : Int)) →
     ∀ w3, Ext w w3 →
     Q (.tuple #[(.int .i64 0), (.int .i64 1)]) w3) ∧
    (((in_vl : Int) = (ll : Int)) →
     ∀ w3, Ext w w3 →
     Run Try.prog (.makeMap 61) w3 fun v4 w4 =>
      Ext w3 w4 ∧
      ∃ t5 : Value, v4 = t5 ∧
      ∃ (I6 : Int → World → Prop) (M6 : Int → World → Nat), I6 0 w4 ∧
      ∀ (k7 : Int) (w8 : World), I6 k7 w8 →
       ((k7 < (in_vl : Int)) →
        in_v ≠ none ∧
        (0 : Int) ≤ k7 ∧
        (k7 : Int) < (in_vl : Int) ∧
        ∃ t9 : Int, cell w8 (pIdx in_v k7 1) 0 = some (.int .i64 t9) ∧
        l ≠ none ∧
        (0 : Int) ≤ k7 ∧
        (k7 : Int) < (ll : Int) ∧
        ∃ t10 : Int, cell w8 (pIdx l k7 1) 0 = some (.int .i64 t10) ∧
        ∀ w11, Ext w8 w11 →
        Run Try.prog (.lookup 61 t5 (.int .i64 t9) false) w11 fun v12 w12 =>
         Ext w11 w12 ∧
         ∃ t13 : Int, v12 = (.int .i64 t13) ∧
         InR .i64 (t13 + t10) ∧
         ∀ w14, Ext w8 w14 →
         Run Try.prog (.mapUpdate 61 t5 (.int .i64 t9) (.int .i64 (t13 + t10))) w14 fun v15 w15 =>
          ((t9 < 0) →
           ∀ w16, Ext w15 w16 →
           Q (.tuple #[(.int .i64 0), (.int .i64 1)]) w16) ∧
          ((0 ≤ t9) →
           ∀ w16, Ext w15 w16 →
           Run Try.prog (.lookup 61 t5 (.int .i64 t9) false) w16 fun v17 w17 =>
            Ext w16 w17 ∧
            ∃ t18 : Int, v17 = (.int .i64 t18) ∧
            ((size < t18) →
             ∀ w19, Ext w15 w19 →
             Q (.tuple #[(.int .i64 0), (.int .i64 1)]) w19) ∧
            ((t18 ≤ size) →
             InR .i64 (k7 + 1) ∧
             (I6 (k7 + 1) w15 ∧ M6 (k7 + 1) w15 < M6 k7 w8)))) ∧
       (((in_vl : Int) ≤ k7) →
        ∀ w9, Ext w8 w9 →
        Run Try.prog (.len #[61] 3 [t5]) w9 fun v10 w10 =>
         Ext w9 w10 ∧
         ∃ t11 : Int, v10 = (.int .i64 t11) ∧
         ∀ w12, Ext w8 w12 →
         Q (.tuple #[(.int .i64 t11), (.int .i64 0)]) w12)))

theorem ok_pack_Boxes (l : Option Addr) (ll : Nat) (lc : Nat) (size : Int) (in_v : Option Addr) (in_vl : Nat) (in_vc : Nat) (w : World) (Q : Value → World → Prop) (h : wp_pack_Boxes l ll lc size in_v in_vl in_vc w Q) : FnP Try.prog F_pack_Boxes #[(.slice l ll lc), (.int .i64 size), (.slice in_v in_vl in_vc)] w Q := by
  have e_ : wp_pack_Boxes l ll lc size in_v in_vl in_vc w Q = Runs Try.prog Q ({ N := 51, wrap := [], pub := [], muts := [] } : Cfg) Try.f18 (Try.f18.body.getD .skip) [.sc (.slc l ll lc), .sc (.int .i64 size), .sc (.slc in_v in_vl in_vc)] w := by kernel_rfl
  rw [e_] at h
  exact runs_fn h Try.func18 (by kernel_rfl) (fun args w => Try.call18 args w) (by kernel_rfl) (by kernel_rfl) rfl rfl

/-- shiftbell/shiftbellkeep.packs -/
def wp_shiftbellkeep_packs  (w : World) (Q : Value → World → Prop) : Prop :=
  ∀ w0, Ext w w0 →
  Run Try.prog (.buildSlice 22 1 [(0, (.int .i64 3))]) w0 fun v1 w1 =>
   Ext w0 w1 ∧
   ∃ t2 : Option Addr, ∃ tl3 : Nat, ∃ tc4 : Nat, v1 = (.slice t2 tl3 tc4) ∧
   ∀ w5, Ext w1 w5 →
   FnP Try.prog F_pack_First #[(.slice t2 tl3 tc4), (.int .i64 4)] w5 fun v6 w6 =>
    Ext w5 w6 ∧
    ∃ t7 : Option Addr, ∃ tl8 : Nat, ∃ tc9 : Nat, ∃ t10 : Int, ∃ t11 : Int, v6 = (.tuple #[(.slice t7 tl8 tc9), (.int .i64 t10), (.int .i64 t11)]) ∧
    ∀ w12, Ext w6 w12 →
    Q (.bool ((decide (t11 = 0)) && (decide (t10 = 1)))) w12

theorem ok_shiftbellkeep_packs  (w : World) (Q : Value → World → Prop) (h : wp_shiftbellkeep_packs  w Q) : FnP Try.prog F_shiftbellkeep_packs #[] w Q := by
  have e_ : wp_shiftbellkeep_packs  w Q = Runs Try.prog Q ({ N := 16, wrap := [], pub := [], muts := [] } : Cfg) Try.f16 (Try.f16.body.getD .skip) [] w := by kernel_rfl
  rw [e_] at h
  exact runs_fn h Try.func16 (by kernel_rfl) (fun args w => Try.call16 args w) (by kernel_rfl) (by kernel_rfl) rfl rfl

/-- slices.Clone[[]int64,int64] -/
def wp_slices_Clone_int64_int64 (s : Option Addr) (sl : Nat) (sc : Nat) (w : World) (Q : Value → World → Prop) : Prop :=
  ((s = none) →
   ∀ w0, Ext w w0 →
   Q (.slice none 0 0) w0) ∧
  ((s ≠ none) →
   ∀ w0, Ext w w0 →
   Run Try.prog (.buildSlice 22 0 []) w0 fun v1 w1 =>
    Ext w0 w1 ∧
    ∃ t2 : Option Addr, ∃ tl3 : Nat, ∃ tc4 : Nat, v1 = (.slice t2 tl3 tc4) ∧
    ∀ w5, Ext w1 w5 →
    Run Try.prog (.append #[22, 22] 22 [(.slice t2 tl3 tc4), (.slice s sl sc)]) w5 fun v6 w6 =>
     ∃ t7 : Option Addr, ∃ tl8 : Nat, ∃ tc9 : Nat, v6 = (.slice t7 tl8 tc9) ∧
     ∀ w10, Ext w6 w10 →
     Q (.slice t7 tl8 tc9) w10)

theorem ok_slices_Clone_int64_int64 (s : Option Addr) (sl : Nat) (sc : Nat) (w : World) (Q : Value → World → Prop) (h : wp_slices_Clone_int64_int64 s sl sc w Q) : FnP Try.prog F_slices_Clone_int64_int64 #[(.slice s sl sc)] w Q := by
  have e_ : wp_slices_Clone_int64_int64 s sl sc w Q = Runs Try.prog Q ({ N := 8, wrap := [], pub := [], muts := [] } : Cfg) Try.f48 (Try.f48.body.getD .skip) [.sc (.slc s sl sc)] w := by kernel_rfl
  rw [e_] at h
  exact runs_fn h Try.func48 (by kernel_rfl) (fun args w => Try.call48 args w) (by kernel_rfl) (by kernel_rfl) rfl rfl

/-- shiftbell/shiftbellkeep.PackLeast -/
def wp_shiftbellkeep_PackLeast (l : Option Addr) (ll : Nat) (lc : Nat) (size : Int) (in_v : Option Addr) (in_vl : Nat) (in_vc : Nat) (w : World) (Q : Value → World → Prop) : Prop :=
  ∀ w0, Ext w w0 →
  FnP Try.prog F_shiftbellkeep_packs #[] w0 fun v1 w1 =>
   Ext w0 w1 ∧
   ∃ t2 : Bool, v1 = (.bool t2) ∧
   ((t2 = false) →
    ∀ w3, Ext w w3 →
    Q (.bool false) w3) ∧
   ((t2 = true) →
    ∀ w3, Ext w w3 →
    FnP Try.prog F_pack_Least #[(.slice l ll lc), (.int .i64 size)] w3 fun v4 w4 =>
     Ext w3 w4 ∧
     ∃ t5 : Int, ∃ t6 : Int, v4 = (.tuple #[(.int .i64 t5), (.int .i64 t6)]) ∧
     ∀ w7, Ext w w7 →
     FnP Try.prog F_pack_Boxes #[(.slice l ll lc), (.int .i64 size), (.slice in_v in_vl in_vc)] w7 fun v8 w8 =>
      Ext w7 w8 ∧
      ∃ t9 : Int, ∃ t10 : Int, v8 = (.tuple #[(.int .i64 t9), (.int .i64 t10)]) ∧
      ((t6 ≠ 0) →
       ∀ w11, Ext w w11 →
       Q (.bool (decide (t5 = 0))) w11) ∧
      ((t6 = 0) →
       (((t10 ≠ 0) ∨ (t5 ≤ t9)) →
        InR .i64 (t5 * size)) ∧
       (((t10 ≠ 0) ∨ (t5 ≤ t9)) →
        ∀ w11, Ext w w11 →
        FnP Try.prog F_shiftbellkeep_sum #[(.slice l ll lc)] w11 fun v12 w12 =>
         Ext w11 w12 ∧
         ∃ t13 : Int, v12 = (.int .i64 t13) ∧
         ∀ w14, Ext w w14 →
         Q (.bool (((decide (t13 ≤ (t5 * size))) && (decide (t5 ≤ (ll : Int)))) && (((decide (0 < t5)) && (decide (0 < (ll : Int)))) || ((decide (t5 ≤ 0)) && (decide ((ll : Int) ≤ 0)))))) w14) ∧
       (((t10 = 0) ∧ (t9 < t5)) →
        ∀ w11, Ext w w11 →
        Q (.bool false) w11)))

theorem ok_shiftbellkeep_PackLeast (l : Option Addr) (ll : Nat) (lc : Nat) (size : Int) (in_v : Option Addr) (in_vl : Nat) (in_vc : Nat) (w : World) (Q : Value → World → Prop) (h : wp_shiftbellkeep_PackLeast l ll lc size in_v in_vl in_vc w Q) : FnP Try.prog F_shiftbellkeep_PackLeast #[(.slice l ll lc), (.int .i64 size), (.slice in_v in_vl in_vc)] w Q := by
  have e_ : wp_shiftbellkeep_PackLeast l ll lc size in_v in_vl in_vc w Q = Runs Try.prog Q ({ N := 59, wrap := [], pub := [], muts := [] } : Cfg) Try.f4 (Try.f4.body.getD .skip) [.sc (.slc l ll lc), .sc (.int .i64 size), .sc (.slc in_v in_vl in_vc)] w := by kernel_rfl
  rw [e_] at h
  exact runs_fn h Try.func4 (by kernel_rfl) (fun args w => Try.call4 args w) (by kernel_rfl) (by kernel_rfl) rfl rfl

theorem open_shiftbellkeep_PackLeast (W : World) (R : Array Value → Prop) (h : ∀ l : Option Addr, ∀ ll : Nat, ∀ lc : Nat, SlcArg Try.prog W 2 l ll lc → ∀ size : Int, InR .i64 size → ∀ in_v : Option Addr, ∀ in_vl : Nat, ∀ in_vc : Nat, SlcArg Try.prog W 3 in_v in_vl in_vc → R #[(.slice l ll lc), (.int .i64 size), (.slice in_v in_vl in_vc)]) (args : Array Value) (hg : GoodAll Try.prog W Try.f4.params.toList args.toList) : R args := by
  have e_ : (ArgsAll Try.prog W Try.f4.params.toList fun l => R l.toArray) = (∀ l : Option Addr, ∀ ll : Nat, ∀ lc : Nat, SlcArg Try.prog W 2 l ll lc → ∀ size : Int, InR .i64 size → ∀ in_v : Option Addr, ∀ in_vl : Nat, ∀ in_vc : Nat, SlcArg Try.prog W 3 in_v in_vl in_vc → R #[(.slice l ll lc), (.int .i64 size), (.slice in_v in_vl in_vc)]) := by kernel_rfl
  exact args_open (by rw [e_]; exact h) args hg
-- wit 4 #[(.slice none 0 0), (.int .i64 0), (.slice none 0 0)]

/-- shiftbell/shiftbellkeep.good -/
def wp_shiftbellkeep_good (l : Option Addr) (ll : Nat) (lc : Nat) (w : World) (Q : Value → World → Prop) : Prop :=
  ∀ w0, Ext w w0 →
  FnP Try.prog F_slices_ContainsFunc_api_Errno_api_Errno #[(.slice l ll lc), (.func (.func 43) #[] #[])] w0 fun v1 w1 =>
   Ext w0 w1 ∧
   ∃ t2 : Bool, v1 = (.bool t2) ∧
   ∀ w3, Ext w w3 →
   Q (.bool (!t2)) w3

theorem ok_shiftbellkeep_good (l : Option Addr) (ll : Nat) (lc : Nat) (w : World) (Q : Value → World → Prop) (h : wp_shiftbellkeep_good l ll lc w Q) : FnP Try.prog F_shiftbellkeep_good #[(.slice l ll lc)] w Q := by
  have e_ : wp_shiftbellkeep_good l ll lc w Q = Runs Try.prog Q ({ N := 6, wrap := [], pub := [], muts := [] } : Cfg) Try.f23 (Try.f23.body.getD .skip) [.sc (.slc l ll lc)] w := by kernel_rfl
  rw [e_] at h
  exact runs_fn h Try.func23 (by kernel_rfl) (fun args w => Try.call23 args w) (by kernel_rfl) (by kernel_rfl) rfl rfl

/-- shiftbell/shiftbellkeep.good$1 -/
def wp_shiftbellkeep_good_1 (e : Int) (w : World) (Q : Value → World → Prop) : Prop :=
  ∀ w0, Ext w w0 →
  Q (.bool (decide (e ≠ 0))) w0

theorem ok_shiftbellkeep_good_1 (e : Int) (w : World) (Q : Value → World → Prop) (h : wp_shiftbellkeep_good_1 e w Q) : FnP Try.prog F_shiftbellkeep_good_1 #[(.int .i64 e)] w Q := by
  have e_ : wp_shiftbellkeep_good_1 e w Q = Runs Try.prog Q ({ N := 5, wrap := [], pub := [], muts := [] } : Cfg) Try.f43 (Try.f43.body.getD .skip) [.sc (.int .i64 e)] w := by kernel_rfl
  rw [e_] at h
  exact runs_fn h Try.func43 (by kernel_rfl) (fun args w => Try.call43 args w) (by kernel_rfl) (by kernel_rfl) rfl rfl

/-- slices.ContainsFunc[[]shiftbell/api.Errno,shiftbell/api.Errno] -/
def wp_slices_ContainsFunc_api_Errno_api_Errno (s : Option Addr) (sl : Nat) (sc : Nat) (f : Value) (w : World) (Q : Value → World → Prop) : Prop :=
  ∀ w0, Ext w w0 →
  FnP Try.prog F_slices_IndexFunc_api_Errno_api_Errno #[(.slice s sl sc), f] w0 fun v1 w1 =>
   Ext w0 w1 ∧
   ∃ t2 : Int, v1 = (.int .i64 t2) ∧
   ∀ w3, Ext w w3 →
   Q (.bool (decide (0 ≤ t2))) w3

theorem ok_slices_ContainsFunc_api_Errno_api_Errno (s : Option Addr) (sl : Nat) (sc : Nat) (f : Value) (w : World) (Q : Value → World → Prop) (h : wp_slices_ContainsFunc_api_Errno_api_Errno s sl sc f w Q) : FnP Try.prog F_slices_ContainsFunc_api_Errno_api_Errno #[(.slice s sl sc), f] w Q := by
  have e_ : wp_slices_ContainsFunc_api_Errno_api_Errno s sl sc f w Q = Runs Try.prog Q ({ N := 9, wrap := [], pub := [], muts := [] } : Cfg) Try.f42 (Try.f42.body.getD .skip) [.sc (.slc s sl sc), .sc (.val f)] w := by kernel_rfl
  rw [e_] at h
  exact runs_fn h Try.func42 (by kernel_rfl) (fun args w => Try.call42 args w) (by kernel_rfl) (by kernel_rfl) rfl rfl

/-- slices.IndexFunc[[]shiftbell/api.Errno,shiftbell/api.Errno] -/
def wp_slices_IndexFunc_api_Errno_api_Errno (s : Option Addr) (sl : Nat) (sc : Nat) (f : Value) (w : World) (Q : Value → World → Prop) : Prop :=
  ∃ (I0 : Int → World → Prop) (M0 : Int → World → Nat), I0 0 w ∧
  ∀ (k1 : Int) (w2 : World), I0 k1 w2 →
   ((k1 < (sl : Int)) →
    s ≠ none ∧
    (0 : Int) ≤ k1 ∧
    (k1 : Int) < (sl : Int) ∧
    ∃ t3 : Int, cell w2 (pIdx s k1 1) 0 = some (.int .i64 t3) ∧
    ∀ w4, Ext w2 w4 →
    FnVP Try.prog f [(.int .i64 t3)] w4 fun v5 w5 =>
     Ext w4 w5 ∧
     ∃ t6 : Bool, v5 = (.bool t6) ∧
     ((t6 = true) →
      ∀ w7, Ext w2 w7 →
      Q (.int .i64 k1) w7) ∧
     ((t6 = false) →
      InR .i64 (k1 + 1) ∧
      (I0 (k1 + 1) w2 ∧ M0 (k1 + 1) w2 < M0 k1 w2))) ∧
   (((sl : Int) ≤ k1) →
    ∀ w3, Ext w2 w3 →
    Q (.int .i64 (-1)) w3)

theorem ok_slices_IndexFunc_api_Errno_api_Errno (s : Option Addr) (sl : Nat) (sc : Nat) (f : Value) (w : World) (Q : Value → World → Prop) (h : wp_slices_IndexFunc_api_Errno_api_Errno s sl sc f w Q) : FnP Try.prog F_slices_IndexFunc_api_Errno_api_Errno #[(.slice s sl sc), f] w Q := by
  have e_ : wp_slices_IndexFunc_api_Errno_api_Errno s sl sc f w Q = Runs Try.prog Q ({ N := 19, wrap := [], pub := [], muts := [] } : Cfg) Try.f58 (Try.f58.body.getD .skip) [.sc (.slc s sl sc), .sc (.val f)] w := by kernel_rfl
  rw [e_] at h
  exact runs_fn h Try.func58 (by kernel_rfl) (fun args w => Try.call58 args w) (by kernel_rfl) (by kernel_rfl) rfl rfl

/-- shiftbell/list.least -/
def wp_list_least (load : Option Addr) (loadl : Nat) (loadc : Nat) (d : Option Addr) (dl : Nat) (dc : Nat) (best : Int) (w : World) (Q : Value → World → Prop) : Prop :=
  ∀ w0, Ext w w0 →
  FnP Try.prog F_slices_Max_int64_int64 #[(.slice load loadl loadc)] w0 fun v1 w1 =>
   Ext w0 w1 ∧
   ∃ t2 : Int, v1 = (.int .i64 t2) ∧
   (((best ≤ t2) ∨ ((dl : Int) = 0)) →
    ∀ w3, Ext w w3 →
    Q (.int .i64 (min best t2)) w3) ∧
   (((t2 < best) ∧ ((dl : Int) ≠ 0)) →
    ∃ (I3 : Int → Int → World → Prop) (M3 : Int → Int → World → Nat), I3 best 0 w ∧
    ∀ (best4 : Int) (k5 : Int) (w6 : World), I3 best4 k5 w6 →
     ((k5 < (loadl : Int)) →
      load ≠ none ∧
      (0 : Int) ≤ k5 ∧
      (k5 : Int) < (loadl : Int) ∧
      ∃ t7 : Int, cell w6 (pIdx load k5 1) 0 = some (.int .i64 t7) ∧
      ∀ w8, Ext w6 w8 →
      FnP Try.prog F_slices_Index_int64_int64 #[(.slice load loadl loadc), (.int .i64 t7)] w8 fun v9 w9 =>
       Ext w8 w9 ∧
       ∃ t10 : Int, v9 = (.int .i64 t10) ∧
       ((t10 < k5) →
        InR .i64 (k5 + 1) ∧
        (I3 best4 (k5 + 1) w6 ∧ M3 best4 (k5 + 1) w6 < M3 best4 k5 w6)) ∧
       ((k5 ≤ t10) →
        load ≠ none ∧
        (0 : Int) ≤ k5 ∧
        (k5 : Int) < (loadl : Int) ∧
        ∃ t11 : Int, cell w6 (pIdx load k5 1) 0 = some (.int .i64 t11) ∧
        d ≠ none ∧
        (0 : Int) ≤ 0 ∧
        (0 : Int) < (dl : Int) ∧
        ∃ t12 : Int, cell w6 (pIdx d 0 1) 0 = some (.int .i64 t12) ∧
        InR .i64 (t11 + t12) ∧
        load ≠ none ∧
        (0 : Int) ≤ k5 ∧
        (k5 : Int) < (loadl : Int) ∧
        Store w6 (pIdx load k5 1) [(.int .i64 (t11 + t12))] [] fun w13 =>
         (0 : Int) ≤ 1 ∧
         (1 : Int) ≤ (dl : Int) ∧
         ((dl : Int) : Int) ≤ (dc : Int) ∧
         ∀ w14, Ext w13 w14 →
         FnP Try.prog F_list_least #[(.slice load loadl loadc), (.slice (pCut d dc 1 1) ((dl : Int) - 1).toNat (dc - (1 : Int).toNat)), (.int .i64 best4)] w14 fun v15 w15 =>
          Ext w14 w15 ∧
          ∃ t16 : Int, v15 = (.int .i64 t16) ∧
          load ≠ none ∧
          (0 : Int) ≤ k5 ∧
          (k5 : Int) < (loadl : Int) ∧
          ∃ t17 : Int, cell w13 (pIdx load k5 1) 0 = some (.int .i64 t17) ∧
          d ≠ none ∧
          (0 : Int) ≤ 0 ∧
          (0 : Int) < (dl : Int) ∧
          ∃ t18 : Int, cell w13 (pIdx d 0 1) 0 = some (.int .i64 t18) ∧
          InR .i64 (t17 - t18) ∧
          load ≠ none ∧
          (0 : Int) ≤ k5 ∧
          (k5 : Int) < (loadl : Int) ∧
          Store w13 (pIdx load k5 1) [(.int .i64 (t17 - t18))] [] fun w19 =>
           InR .i64 (k5 + 1) ∧
           (I3 t16 (k5 + 1) w19 ∧ M3 t16 (k5 + 1) w19 < M3 best4 k5 w6))) ∧
     (((loadl : Int) ≤ k5) →
      ∀ w7, Ext w6 w7 →
      Q (.int .i64 best4) w7))

theorem ok_list_least (load : Option Addr) (loadl : Nat) (loadc : Nat) (d : Option Addr) (dl : Nat) (dc : Nat) (best : Int) (w : World) (Q : Value → World → Prop) (h : wp_list_least load loadl loadc d dl dc best w Q) : FnP Try.prog F_list_least #[(.slice load loadl loadc), (.slice d dl dc), (.int .i64 best)] w Q := by
  have e_ : wp_list_least load loadl loadc d dl dc best w Q = Runs Try.prog Q ({ N := 60, wrap := [], pub := [], muts := [] } : Cfg) Try.f45 (Try.f45.body.getD .skip) [.sc (.slc load loadl loadc), .sc (.slc d dl dc), .sc (.int .i64 best)] w := by kernel_rfl
  rw [e_] at h
  exact runs_fn h Try.func45 (by kernel_rfl) (fun args w => Try.call45 args w) (by kernel_rfl) (by kernel_rfl) rfl rfl

/-- shiftbell/list.Least -/
def wp_list_Least (m : Int) (d : Option Addr) (dl : Nat) (dc : Nat) (w : World) (Q : Value → World → Prop) : Prop :=
  ∀ w0, Ext w w0 →
  FnP Try.prog F_list_check #[(.int .i64 m), (.slice d dl dc)] w0 fun v1 w1 =>
   Ext w0 w1 ∧
   ∃ t2 : Int, v1 = (.int .i64 t2) ∧
   ((t2 ≠ 0) →
    ∀ w3, Ext w w3 →
    Q (.tuple #[(.int .i64 0), (.int .i64 t2)]) w3) ∧
   ((t2 = 0) →
    ((9 < (dl : Int)) →
     ∀ w3, Ext w w3 →
     Q (.tuple #[(.int .i64 0), (.int .i64 2)]) w3) ∧
    (((dl : Int) ≤ 9) →
     ∀ w3, Ext w w3 →
     FnP Try.prog F_list_Long #[(.int .i64 m), (.slice d dl dc)] w3 fun v4 w4 =>
      Ext w3 w4 ∧
      ∃ t5 : Option Addr, ∃ tl6 : Nat, ∃ tc7 : Nat, ∃ t8 : Int, ∃ t9 : Int, v4 = (.tuple #[(.slice t5 tl6 tc7), (.int .i64 t8), (.int .i64 t9)]) ∧
      ∀ w10, Ext w4 w10 →
      Run Try.prog (.makeSlice 22 (.int .i64 m) (.int .i64 m)) w10 fun v11 w11 =>
       Ext w10 w11 ∧
       ∃ t12 : Option Addr, ∃ tl13 : Nat, ∃ tc14 : Nat, v11 = (.slice t12 tl13 tc14) ∧
       ∀ w15, Ext w11 w15 →
       FnP Try.prog F_list_least #[(.slice t12 tl13 tc14), (.slice d dl dc), (.int .i64 t8)] w15 fun v16 w16 =>
        Ext w15 w16 ∧
        ∃ t17 : Int, v16 = (.int .i64 t17) ∧
        ∀ w18, Ext w11 w18 →
        Q (.tuple #[(.int .i64 t17), (.int .i64 0)]) w18))

theorem ok_list_Least (m : Int) (d : Option Addr) (dl : Nat) (dc : Nat) (w : World) (Q : Value → World → Prop) (h : wp_list_Least m d dl dc w Q) : FnP Try.prog F_list_Least #[(.int .i64 m), (.slice d dl dc)] w Q := by
  have e_ : wp_list_Least m d dl dc w Q = Runs Try.prog Q ({ N := 31, wrap := [], pub := [], muts := [] } : Cfg) Try.f25 (Try.f25.body.getD .skip) [.sc (.int .i64 m), .sc (.slc d dl dc)] w := by kernel_rfl
  rw [e_] at h
  exact runs_fn h Try.func25 (by kernel_rfl) (fun args w => Try.call25 args w) (by kernel_rfl) (by kernel_rfl) rfl rfl

/-- shiftbell/list.Long -/
def wp_list_Long (m : Int) (d : Option Addr) (dl : Nat) (dc : Nat) (w : World) (Q : Value → World → Prop) : Prop :=
  ∀ w0, Ext w w0 →
  New w0 22 [(.slice d dl dc)] fun p1 w1 =>
   ∃ t2 : Option Addr, ∃ tl3 : Nat, ∃ tc4 : Nat, cell w1 p1 0 = some (.slice t2 tl3 tc4) ∧
   ∀ w5, Ext w1 w5 →
   FnP Try.prog F_list_check #[(.int .i64 m), (.slice t2 tl3 tc4)] w5 fun v6 w6 =>
    Ext w5 w6 ∧
    ∃ t7 : Int, v6 = (.int .i64 t7) ∧
    ((t7 ≠ 0) →
     ∀ w8, Ext w1 w8 →
     Q (.tuple #[(.slice none 0 0), (.int .i64 0), (.int .i64 t7)]) w8) ∧
    ((t7 = 0) →
     ∃ t8 : Option Addr, ∃ tl9 : Nat, ∃ tc10 : Nat, cell w1 p1 0 = some (.slice t8 tl9 tc10) ∧
     ∀ w11, Ext w1 w11 →
     FnP Try.prog F_list_numbers #[(.int .i64 (tl9 : Int))] w11 fun v12 w12 =>
      Ext w11 w12 ∧
      ∃ t13 : Option Addr, ∃ tl14 : Nat, ∃ tc15 : Nat, v12 = (.slice t13 tl14 tc15) ∧
      ∀ w16, Ext w12 w16 →
      FnP Try.prog F_slices_SortStableFunc_int_int #[(.slice t13 tl14 tc15), (.func (.func 44) #[] #[(.pointer p1)])] w16 fun v17 w17 =>
       v17 = (.tuple #[]) ∧
       ∃ t18 : Option Addr, ∃ tl19 : Nat, ∃ tc20 : Nat, cell w17 p1 0 = some (.slice t18 tl19 tc20) ∧
       ∀ w21, Ext w17 w21 →
       FnP Try.prog F_list_run #[(.int .i64 m), (.slice t18 tl19 tc20), (.slice t13 tl14 tc15)] w21 fun v22 w22 =>
        Ext w21 w22 ∧
        ∃ t23 : Option Addr, ∃ tl24 : Nat, ∃ tc25 : Nat, ∃ t26 : Int, v22 = (.tuple #[(.slice t23 tl24 tc25), (.int .i64 t26)]) ∧
        ∀ w27, Ext w22 w27 →
        Q (.tuple #[(.slice t23 tl24 tc25), (.int .i64 t26), (.int .i64 0)]) w27)

theorem ok_list_Long (m : Int) (d : Option Addr) (dl : Nat) (dc : Nat) (w : World) (Q : Value → World → Prop) (h : wp_list_Long m d dl dc w Q) : FnP Try.prog F_list_Long #[(.int .i64 m), (.slice d dl dc)] w Q := by
  have e_ : wp_list_Long m d dl dc w Q = Runs Try.prog Q ({ N := 32, wrap := [], pub := [3], muts := [39] } : Cfg) Try.f24 (Try.f24.body.getD .skip) [.sc (.int .i64 m), .sc (.slc d dl dc)] w := by kernel_rfl
  rw [e_] at h
  exact runs_fn h Try.func24 (by kernel_rfl) (fun args w => Try.call24 args w) (by kernel_rfl) (by kernel_rfl) rfl rfl

/-- shiftbell/list.Long$1 -/
def wp_list_Long_1 (i : Int) (k : Int) (c0 : Option Addr) (w : World) (Q : Value → World → Prop) : Prop :=
  ∃ t0 : Option Addr, ∃ tl1 : Nat, ∃ tc2 : Nat, cell w c0 0 = some (.slice t0 tl1 tc2) ∧
  t0 ≠ none ∧
  (0 : Int) ≤ k ∧
  (k : Int) < (tl1 : Int) ∧
  ∃ t3 : Int, cell w (pIdx t0 k 1) 0 = some (.int .i64 t3) ∧
  ∃ t4 : Option Addr, ∃ tl5 : Nat, ∃ tc6 : Nat, cell w c0 0 = some (.slice t4 tl5 tc6) ∧
  t4 ≠ none ∧
  (0 : Int) ≤ i ∧
  (i : Int) < (tl5 : Int) ∧
  ∃ t7 : Int, cell w (pIdx t4 i 1) 0 = some (.int .i64 t7) ∧
  ∀ w8, Ext w w8 →
  FnP Try.prog F_cmp_Compare_int64 #[(.int .i64 t3), (.int .i64 t7)] w8 fun v9 w9 =>
   Ext w8 w9 ∧
   ∃ t10 : Int, v9 = (.int .i64 t10) ∧
   ∀ w11, Ext w w11 →
   Q (.int .i64 t10) w11

theorem ok_list_Long_1 (i : Int) (k : Int) (c0 : Option Addr) (w : World) (Q : Value → World → Prop) (h : wp_list_Long_1 i k c0 w Q) : FnP Try.prog F_list_Long_1 #[(.int .i64 i), (.int .i64 k), (.pointer c0)] w Q := by
  have e_ : wp_list_Long_1 i k c0 w Q = Runs Try.prog Q ({ N := 15, wrap := [], pub := [], muts := [] } : Cfg) Try.f44 (Try.f44.body.getD .skip) [.sc (.int .i64 i), .sc (.int .i64 k), .sc (.ptr c0)] w := by kernel_rfl
  rw [e_] at h
  exact runs_fn h Try.func44 (by kernel_rfl) (fun args w => Try.call44 args w) (by kernel_rfl) (by kernel_rfl) rfl rfl

/-- cmp.Compare[int64] -/
def wp_cmp_Compare_int64 (x : Int) (y : Int) (w : World) (Q : Value → World → Prop) : Prop :=
  ∀ w0, Ext w w0 →
  FnP Try.prog F_cmp_isNaN_int64 #[(.int .i64 x)] w0 fun v1 w1 =>
   Ext w0 w1 ∧
   ∃ t2 : Bool, v1 = (.bool t2) ∧
   ∀ w3, Ext w w3 →
   FnP Try.prog F_cmp_isNaN_int64 #[(.int .i64 y)] w3 fun v4 w4 =>
    Ext w3 w4 ∧
    ∃ t5 : Bool, v4 = (.bool t5) ∧
    ((t2 = true) →
     ((t5 = true) →
      ∀ w6, Ext w w6 →
      Q (.int .i64 0) w6) ∧
     ((t5 = false) →
      ∀ w6, Ext w w6 →
      Q (.int .i64 (-1)) w6)) ∧
    ((t2 = false) →
     ((t5 = true) →
      ∀ w6, Ext w w6 →
      Q (.int .i64 1) w6) ∧
     ((t5 = false) →
      ((x < y) →
       ∀ w6, Ext w w6 →
       Q (.int .i64 (-1)) w6) ∧
      ((y ≤ x) →
       ((y < x) →
        ∀ w6, Ext w w6 →
        Q (.int .i64 1) w6) ∧
       ((x ≤ y) →
        ∀ w6, Ext w w6 →
        Q (.int .i64 0) w6))))

theorem ok_cmp_Compare_int64 (x : Int) (y : Int) (w : World) (Q : Value → World → Prop) (h : wp_cmp_Compare_int64 x y w Q) : FnP Try.prog F_cmp_Compare_int64 #[(.int .i64 x), (.int .i64 y)] w Q := by
  have e_ : wp_cmp_Compare_int64 x y w Q = Runs Try.prog Q ({ N := 20, wrap := [], pub := [], muts := [] } : Cfg) Try.f41 (Try.f41.body.getD .skip) [.sc (.int .i64 x), .sc (.int .i64 y)] w := by kernel_rfl
  rw [e_] at h
  exact runs_fn h Try.func41 (by kernel_rfl) (fun args w => Try.call41 args w) (by kernel_rfl) (by kernel_rfl) rfl rfl

/-- cmp.isNaN[int64] -/
def wp_cmp_isNaN_int64 (x : Int) (w : World) (Q : Value → World → Prop) : Prop :=
  ∀ w0, Ext w w0 →
  Q (.bool (decide (x ≠ x))) w0

theorem ok_cmp_isNaN_int64 (x : Int) (w : World) (Q : Value → World → Prop) (h : wp_cmp_isNaN_int64 x w Q) : FnP Try.prog F_cmp_isNaN_int64 #[(.int .i64 x)] w Q := by
  have e_ : wp_cmp_isNaN_int64 x w Q = Runs Try.prog Q ({ N := 6, wrap := [], pub := [], muts := [] } : Cfg) Try.f57 (Try.f57.body.getD .skip) [.sc (.int .i64 x)] w := by kernel_rfl
  rw [e_] at h
  exact runs_fn h Try.func57 (by kernel_rfl) (fun args w => Try.call57 args w) (by kernel_rfl) (by kernel_rfl) rfl rfl

/-- slices.SortStableFunc[[]int,int] -/
def wp_slices_SortStableFunc_int_int (x : Option Addr) (xl : Nat) (xc : Nat) (cmp : Value) (w : World) (Q : Value → World → Prop) : Prop :=
  ∀ w0, Ext w w0 →
  FnP Try.prog F_slices_stableCmpFunc_int #[(.slice x xl xc), (.int .i64 (xl : Int)), cmp] w0 fun v1 w1 =>
   v1 = (.tuple #[]) ∧
   ∀ w2, Ext w1 w2 →
   Q (.tuple #[]) w2

theorem ok_slices_SortStableFunc_int_int (x : Option Addr) (xl : Nat) (xc : Nat) (cmp : Value) (w : World) (Q : Value → World → Prop) (h : wp_slices_SortStableFunc_int_int x xl xc cmp w Q) : FnP Try.prog F_slices_SortStableFunc_int_int #[(.slice x xl xc), cmp] w Q := by
  have e_ : wp_slices_SortStableFunc_int_int x xl xc cmp w Q = Runs Try.prog Q ({ N := 9, wrap := [], pub := [], muts := [56] } : Cfg) Try.f39 (Try.f39.body.getD .skip) [.sc (.slc x xl xc), .sc (.val cmp)] w := by kernel_rfl
  rw [e_] at h
  exact runs_fn h Try.func39 (by kernel_rfl) (fun args w => Try.call39 args w) (by kernel_rfl) (by kernel_rfl) rfl rfl

/-- slices.stableCmpFunc[int] -/
def wp_slices_stableCmpFunc_int (data : Option Addr) (datal : Nat) (datac : Nat) (n : Int) (cmp : Value) (w : World) (Q : Value → World → Prop) : Prop :=
  ∃ (I0 : Int → Int → World → Prop) (M0 : Int → Int → World → Nat), I0 0 20 w ∧
  ∀ (a1 : Int) (b2 : Int) (w3 : World), I0 a1 b2 w3 →
   ((b2 ≤ n) →
    ∀ w4, Ext w3 w4 →
    FnP Try.prog F_slices_insertionSortCmpFunc_int #[(.slice data datal datac), (.int .i64 a1), (.int .i64 b2), cmp] w4 fun v5 w5 =>
     v5 = (.tuple #[]) ∧
     InR .i64 (b2 + 20) ∧
     (I0 b2 (b2 + 20) w5 ∧ M0 b2 (b2 + 20) w5 < M0 a1 b2 w3)) ∧
   ((n < b2) →
    ∀ w4, Ext w3 w4 →
    FnP Try.prog F_slices_insertionSortCmpFunc_int #[(.slice data datal datac), (.int .i64 a1), (.int .i64 n), cmp] w4 fun v5 w5 =>
     v5 = (.tuple #[]) ∧
     ∃ (I6 : Int → Int → Int → World → Prop) (M6 : Int → Int → Int → World → Nat), I6 a1 b2 20 w5 ∧
     ∀ (a7 : Int) (b8 : Int) (blockSize9 : Int) (w10 : World), I6 a7 b8 blockSize9 w10 →
      ((blockSize9 < n) →
       InR .i64 (2 * blockSize9) ∧
       ∃ (I11 : Int → Int → World → Prop) (M11 : Int → Int → World → Nat), I11 0 (2 * blockSize9) w10 ∧
       ∀ (a12 : Int) (b13 : Int) (w14 : World), I11 a12 b13 w14 →
        ((b13 ≤ n) →
         InR .i64 (a12 + blockSize9) ∧
         ∀ w15, Ext w14 w15 →
         FnP Try.prog F_slices_symMergeCmpFunc_int #[(.slice data datal datac), (.int .i64 a12), (.int .i64 (a12 + blockSize9)), (.int .i64 b13), cmp] w15 fun v16 w16 =>
          v16 = (.tuple #[]) ∧
          InR .i64 (2 * blockSize9) ∧
          InR .i64 (b13 + (2 * blockSize9)) ∧
          (I11 b13 (b13 + (2 * blockSize9)) w16 ∧ M11 b13 (b13 + (2 * blockSize9)) w16 < M11 a12 b13 w14)) ∧
        ((n < b13) →
         InR .i64 (a12 + blockSize9) ∧
         (((a12 + blockSize9) < n) →
          ∀ w15, Ext w14 w15 →
          FnP Try.prog F_slices_symMergeCmpFunc_int #[(.slice data datal datac), (.int .i64 a12), (.int .i64 (a12 + blockSize9)), (.int .i64 n), cmp] w15 fun v16 w16 =>
           v16 = (.tuple #[]) ∧
           InR .i64 (blockSize9 * 2) ∧
           (I6 a12 b13 (blockSize9 * 2) w16 ∧ M6 a12 b13 (blockSize9 * 2) w16 < M6 a7 b8 blockSize9 w10)) ∧
         ((n ≤ (a12 + blockSize9)) →
          InR .i64 (blockSize9 * 2) ∧
          (I6 a12 b13 (blockSize9 * 2) w14 ∧ M6 a12 b13 (blockSize9 * 2) w14 < M6 a7 b8 blockSize9 w10)))) ∧
      ((n ≤ blockSize9) →
       ∀ w11, Ext w10 w11 →
       Q (.tuple #[]) w11))

theorem ok_slices_stableCmpFunc_int (data : Option Addr) (datal : Nat) (datac : Nat) (n : Int) (cmp : Value) (w : World) (Q : Value → World → Prop) (h : wp_slices_stableCmpFunc_int data datal datac n cmp w Q) : FnP Try.prog F_slices_stableCmpFunc_int #[(.slice data datal datac), (.int .i64 n), cmp] w Q := by
  have e_ : wp_slices_stableCmpFunc_int data datal datac n cmp w Q = Runs Try.prog Q ({ N := 63, wrap := [], pub := [], muts := [60, 61] } : Cfg) Try.f56 (Try.f56.body.getD .skip) [.sc (.slc data datal datac), .sc (.int .i64 n), .sc (.val cmp)] w := by kernel_rfl
  rw [e_] at h
  exact runs_fn h Try.func56 (by kernel_rfl) (fun args w => Try.call56 args w) (by kernel_rfl) (by kernel_rfl) rfl rfl

/-- slices.insertionSortCmpFunc[int] -/
def wp_slices_insertionSortCmpFunc_int (data : Option Addr) (datal : Nat) (datac : Nat) (a : Int) (b : Int) (cmp : Value) (w : World) (Q : Value → World → Prop) : Prop :=
  InR .i64 (a + 1) ∧
  ∃ (I0 : Int → World → Prop) (M0 : Int → World → Nat), I0 (a + 1) w ∧
  ∀ (i1 : Int) (w2 : World), I0 i1 w2 →
   ((i1 < b) →
    ∃ (I3 : Int → World → Prop) (M3 : Int → World → Nat), I3 i1 w2 ∧
    ∀ (j4 : Int) (w5 : World), I3 j4 w5 →
     ((a < j4) →
      data ≠ none) ∧
     ((a < j4) →
      (0 : Int) ≤ j4) ∧
     ((a < j4) →
      (j4 : Int) < (datal : Int)) ∧
     ((a < j4) →
      ∃ t6 : Int, cell w5 (pIdx data j4 1) 0 = some (.int .i64 t6) ∧
      InR .i64 (j4 - 1) ∧
      data ≠ none ∧
      (0 : Int) ≤ (j4 - 1) ∧
      ((j4 - 1) : Int) < (datal : Int) ∧
      ∃ t7 : Int, cell w5 (pIdx data (j4 - 1) 1) 0 = some (.int .i64 t7) ∧
      ∀ w8, Ext w5 w8 →
      FnVP Try.prog cmp [(.int .i64 t6), (.int .i64 t7)] w8 fun v9 w9 =>
       Ext w8 w9 ∧
       ∃ t10 : Int, v9 = (.int .i64 t10) ∧
       ((t10 < 0) →
        InR .i64 (j4 - 1) ∧
        InR .i64 (j4 - 1) ∧
        data ≠ none ∧
        (0 : Int) ≤ (j4 - 1) ∧
        ((j4 - 1) : Int) < (datal : Int) ∧
        ∃ t11 : Int, cell w5 (pIdx data (j4 - 1) 1) 0 = some (.int .i64 t11) ∧
        data ≠ none ∧
        (0 : Int) ≤ j4 ∧
        (j4 : Int) < (datal : Int) ∧
        ∃ t12 : Int, cell w5 (pIdx data j4 1) 0 = some (.int .i64 t12) ∧
        data ≠ none ∧
        (0 : Int) ≤ j4 ∧
        (j4 : Int) < (datal : Int) ∧
        Store w5 (pIdx data j4 1) [(.int .i64 t11)] [] fun w13 =>
         data ≠ none ∧
         (0 : Int) ≤ (j4 - 1) ∧
         ((j4 - 1) : Int) < (datal : Int) ∧
         Store w13 (pIdx data (j4 - 1) 1) [(.int .i64 t12)] [] fun w14 =>
          InR .i64 (j4 - 1) ∧
          (I3 (j4 - 1) w14 ∧ M3 (j4 - 1) w14 < M3 j4 w5)) ∧
       ((0 ≤ t10) →
        InR .i64 (i1 + 1) ∧
        (I0 (i1 + 1) w5 ∧ M0 (i1 + 1) w5 < M0 i1 w2))) ∧
     ((j4 ≤ a) →
      InR .i64 (i1 + 1) ∧
      (I0 (i1 + 1) w5 ∧ M0 (i1 + 1) w5 < M0 i1 w2))) ∧
   ((b ≤ i1) →
    ∀ w3, Ext w2 w3 →
    Q (.tuple #[]) w3)

theorem ok_slices_insertionSortCmpFunc_int (data : Option Addr) (datal : Nat) (datac : Nat) (a : Int) (b : Int) (cmp : Value) (w : World) (Q : Value → World → Prop) (h : wp_slices_insertionSortCmpFunc_int data datal datac a b cmp w Q) : FnP Try.prog F_slices_insertionSortCmpFunc_int #[(.slice data datal datac), (.int .i64 a), (.int .i64 b), cmp] w Q := by
  have e_ : wp_slices_insertionSortCmpFunc_int data datal datac a b cmp w Q = Runs Try.prog Q ({ N := 53, wrap := [], pub := [], muts := [] } : Cfg) Try.f60 (Try.f60.body.getD .skip) [.sc (.slc data datal datac), .sc (.int .i64 a), .sc (.int .i64 b), .sc (.val cmp)] w := by kernel_rfl
  rw [e_] at h
  exact runs_fn h Try.func60 (by kernel_rfl) (fun args w => Try.call60 args w) (by kernel_rfl) (by kernel_rfl) rfl rfl

/-- shiftbell/shiftbellkeep.ListLeast -/
def wp_shiftbellkeep_ListLeast (m : Int) (d : Option Addr) (dl : Nat) (dc : Nat) (on : Option Addr) (onl : Nat) (onc : Nat) (w : World) (Q : Value → World → Prop) : Prop :=
  ∀ w0, Ext w w0 →
  FnP Try.prog F_shiftbellkeep_lists #[] w0 fun v1 w1 =>
   Ext w0 w1 ∧
   ∃ t2 : Bool, v1 = (.bool t2) ∧
   ((t2 = false) →
    ∀ w3, Ext w w3 →
    Q (.bool false) w3) ∧
   ((t2 = true) →
    ∀ w3, Ext w w3 →
    FnP Try.prog F_list_Least #[(.int .i64 m), (.slice d dl dc)] w3 fun v4 w4 =>
     Ext w3 w4 ∧
     ∃ t5 : Int, ∃ t6 : Int, v4 = (.tuple #[(.int .i64 t5), (.int .i64 t6)]) ∧
     ∀ w7, Ext w w7 →
     FnP Try.prog F_list_Span #[(.int .i64 m), (.slice d dl dc), (.slice on onl onc)] w7 fun v8 w8 =>
      Ext w7 w8 ∧
      ∃ t9 : Int, ∃ t10 : Int, v8 = (.tuple #[(.int .i64 t9), (.int .i64 t10)]) ∧
      ((t6 ≠ 0) →
       ∀ w11, Ext w w11 →
       Q (.bool (decide (t5 = 0))) w11) ∧
      ((t6 = 0) →
       (((t10 ≠ 0) ∨ (t5 ≤ t9)) →
        InR .i64 (m * t5)) ∧
       (((t10 ≠ 0) ∨ (t5 ≤ t9)) →
        ∀ w11, Ext w w11 →
        FnP Try.prog F_shiftbellkeep_sum #[(.slice d dl dc)] w11 fun v12 w12 =>
         Ext w11 w12 ∧
         ∃ t13 : Int, v12 = (.int .i64 t13) ∧
         ∀ w14, Ext w w14 →
         Q (.bool (decide (t13 ≤ (m * t5)))) w14) ∧
       (((t10 = 0) ∧ (t9 < t5)) →
        ∀ w11, Ext w w11 →
        Q (.bool false) w11)))

theorem ok_shiftbellkeep_ListLeast (m : Int) (d : Option Addr) (dl : Nat) (dc : Nat) (on : Option Addr) (onl : Nat) (onc : Nat) (w : World) (Q : Value → World → Prop) (h : wp_shiftbellkeep_ListLeast m d dl dc on onl onc w Q) : FnP Try.prog F_shiftbellkeep_ListLeast #[(.int .i64 m), (.slice d dl dc), (.slice on onl onc)] w Q := by
  have e_ : wp_shiftbellkeep_ListLeast m d dl dc on onl onc w Q = Runs Try.prog Q ({ N := 45, wrap := [], pub := [], muts := [] } : Cfg) Try.f11 (Try.f11.body.getD .skip) [.sc (.int .i64 m), .sc (.slc d dl dc), .sc (.slc on onl onc)] w := by kernel_rfl
  rw [e_] at h
  exact runs_fn h Try.func11 (by kernel_rfl) (fun args w => Try.call11 args w) (by kernel_rfl) (by kernel_rfl) rfl rfl

theorem open_shiftbellkeep_ListLeast (W : World) (R : Array Value → Prop) (h : ∀ m : Int, InR .i64 m → ∀ d : Option Addr, ∀ dl : Nat, ∀ dc : Nat, SlcArg Try.prog W 2 d dl dc → ∀ on : Option Addr, ∀ onl : Nat, ∀ onc : Nat, SlcArg Try.prog W 3 on onl onc → R #[(.int .i64 m), (.slice d dl dc), (.slice on onl onc)]) (args : Array Value) (hg : GoodAll Try.prog W Try.f11.params.toList args.toList) : R args := by
  have e_ : (ArgsAll Try.prog W Try.f11.params.toList fun l => R l.toArray) = (∀ m : Int, InR .i64 m → ∀ d : Option Addr, ∀ dl : Nat, ∀ dc : Nat, SlcArg Try.prog W 2 d dl dc → ∀ on : Option Addr, ∀ onl : Nat, ∀ onc : Nat, SlcArg Try.prog W 3 on onl onc → R #[(.int .i64 m), (.slice d dl dc), (.slice on onl onc)]) := by kernel_rfl
  exact args_open (by rw [e_]; exact h) args hg
-- wit 11 #[(.int .i64 0), (.slice none 0 0), (.slice none 0 0)]

/-- slices.symMergeCmpFunc[int] -/
def wp_slices_symMergeCmpFunc_int (data : Option Addr) (datal : Nat) (datac : Nat) (a : Int) (m : Int) (b : Int) (cmp : Value) (w : World) (Q : Value → World → Prop) : Prop :=
  InR .i64 (m - a) ∧
  (((m - a) = 1) →
   ∃ (I0 : Int → Int → World → Prop) (M0 : Int → Int → World → Nat), I0 m b w ∧
   ∀ (i1 : Int) (j2 : Int) (w3 : World), I0 i1 j2 w3 →
    ((i1 < j2) →
     InR .i64 (i1 + j2) ∧
     InR .u64 (i1 + j2) ∧
     InR .i64 (iBit .shr .u64 (i1 + j2) 1) ∧
     data ≠ none ∧
     (0 : Int) ≤ (iBit .shr .u64 (i1 + j2) 1) ∧
     ((iBit .shr .u64 (i1 + j2) 1) : Int) < (datal : Int) ∧
     ∃ t4 : Int, cell w3 (pIdx data (iBit .shr .u64 (i1 + j2) 1) 1) 0 = some (.int .i64 t4) ∧
     data ≠ none ∧
     (0 : Int) ≤ a ∧
     (a : Int) < (datal : Int) ∧
     ∃ t5 : Int, cell w3 (pIdx data a 1) 0 = some (.int .i64 t5) ∧
     ∀ w6, Ext w3 w6 →
     FnVP Try.prog cmp [(.int .i64 t4), (.int .i64 t5)] w6 fun v7 w7 =>
      Ext w6 w7 ∧
      ∃ t8 : Int, v7 = (.int .i64 t8) ∧
      ((t8 < 0) →
       InR .i64 ((iBit .shr .u64 (i1 + j2) 1) + 1) ∧
       (I0 ((iBit .shr .u64 (i1 + j2) 1) + 1) j2 w3 ∧ M0 ((iBit .shr .u64 (i1 + j2) 1) + 1) j2 w3 < M0 i1 j2 w3)) ∧
      ((0 ≤ t8) →
       (I0 i1 (iBit .shr .u64 (i1 + j2) 1) w3 ∧ M0 i1 (iBit .shr .u64 (i1 + j2) 1) w3 < M0 i1 j2 w3))) ∧
    ((j2 ≤ i1) →
     ∃ (I4 : Int → World → Prop) (M4 : Int → World → Nat), I4 a w3 ∧
     ∀ (k5 : Int) (w6 : World), I4 k5 w6 →
      InR .i64 (i1 - 1) ∧
      ((k5 < (i1 - 1)) →
       InR .i64 (k5 + 1) ∧
       InR .i64 (k5 + 1) ∧
       data ≠ none ∧
       (0 : Int) ≤ (k5 + 1) ∧
       ((k5 + 1) : Int) < (datal : Int) ∧
       ∃ t7 : Int, cell w6 (pIdx data (k5 + 1) 1) 0 = some (.int .i64 t7) ∧
       data ≠ none ∧
       (0 : Int) ≤ k5 ∧
       (k5 : Int) < (datal : Int) ∧
       ∃ t8 : Int, cell w6 (pIdx data k5 1) 0 = some (.int .i64 t8) ∧
       data ≠ none ∧
       (0 : Int) ≤ k5 ∧
       (k5 : Int) < (datal : Int) ∧
       Store w6 (pIdx data k5 1) [(.int .i64 t7)] [] fun w9 =>
        data ≠ none ∧
        (0 : Int) ≤ (k5 + 1) ∧
        ((k5 + 1) : Int) < (datal : Int) ∧
        Store w9 (pIdx data (k5 + 1) 1) [(.int .i64 t8)] [] fun w10 =>
         InR .i64 (k5 + 1) ∧
         (I4 (k5 + 1) w10 ∧ M4 (k5 + 1) w10 < M4 k5 w6)) ∧
      (((i1 - 1) ≤ k5) →
       ∀ w7, Ext w6 w7 →
       Q (.tuple #[]) w7))) ∧
  (((m - a) ≠ 1) →
   InR .i64 (b - m) ∧
   (((b - m) = 1) →
    ∃ (I0 : Int → Int → World → Prop) (M0 : Int → Int → World → Nat), I0 a m w ∧
    ∀ (i1 : Int) (j2 : Int) (w3 : World), I0 i1 j2 w3 →
     ((i1 < j2) →
      InR .i64 (i1 + j2) ∧
      InR .u64 (i1 + j2) ∧
      InR .i64 (iBit .shr .u64 (i1 + j2) 1) ∧
      data ≠ none ∧
      (0 : Int) ≤ m ∧
      (m : Int) < (datal : Int) ∧
      ∃ t4 : Int, cell w3 (pIdx data m 1) 0 = some (.int .i64 t4) ∧
      data ≠ none ∧
      (0 : Int) ≤ (iBit .shr .u64 (i1 + j2) 1) ∧
      ((iBit .shr .u64 (i1 + j2) 1) : Int) < (datal : Int) ∧
      ∃ t5 : Int, cell w3 (pIdx data (iBit .shr .u64 (i1 + j2) 1) 1) 0 = some (.int .i64 t5) ∧
      ∀ w6, Ext w3 w6 →
      FnVP Try.prog cmp [(.int .i64 t4), (.int .i64 t5)] w6 fun v7 w7 =>
       Ext w6 w7 ∧
       ∃ t8 : Int, v7 = (.int .i64 t8) ∧
       ((0 ≤ t8) →
        InR .i64 ((iBit .shr .u64 (i1 + j2) 1) + 1) ∧
        (I0 ((iBit .shr .u64 (i1 + j2) 1) + 1) j2 w3 ∧ M0 ((iBit .shr .u64 (i1 + j2) 1) + 1) j2 w3 < M0 i1 j2 w3)) ∧
       ((t8 < 0) →
        (I0 i1 (iBit .shr .u64 (i1 + j2) 1) w3 ∧ M0 i1 (iBit .shr .u64 (i1 + j2) 1) w3 < M0 i1 j2 w3))) ∧
     ((j2 ≤ i1) →
      ∃ (I4 : Int → World → Prop) (M4 : Int → World → Nat), I4 m w3 ∧
      ∀ (k5 : Int) (w6 : World), I4 k5 w6 →
       ((i1 < k5) →
        InR .i64 (k5 - 1) ∧
        InR .i64 (k5 - 1) ∧
        data ≠ none ∧
        (0 : Int) ≤ (k5 - 1) ∧
        ((k5 - 1) : Int) < (datal : Int) ∧
        ∃ t7 : Int, cell w6 (pIdx data (k5 - 1) 1) 0 = some (.int .i64 t7) ∧
        data ≠ none ∧
        (0 : Int) ≤ k5 ∧
        (k5 : Int) < (datal : Int) ∧
        ∃ t8 : Int, cell w6 (pIdx data k5 1) 0 = some (.int .i64 t8) ∧
        data ≠ none ∧
        (0 : Int) ≤ k5 ∧
        (k5 : Int) < (datal : Int) ∧
        Store w6 (pIdx data k5 1) [(.int .i64 t7)] [] fun w9 =>
         data ≠ none ∧
         (0 : Int) ≤ (k5 - 1) ∧
         ((k5 - 1) : Int) < (datal : Int) ∧
         Store w9 (pIdx data (k5 - 1) 1) [(.int .i64 t8)] [] fun w10 =>
          InR .i64 (k5 - 1) ∧
          (I4 (k5 - 1) w10 ∧ M4 (k5 - 1) w10 < M4 k5 w6)) ∧
       ((k5 ≤ i1) →
        ∀ w7, Ext w6 w7 →
        Q (.tuple #[]) w7))) ∧
   (((b - m) ≠ 1) →
    InR .i64 (a + b) ∧
    InR .u64 (a + b) ∧
    InR .i64 (iBit .shr .u64 (a + b) 1) ∧
    InR .i64 ((iBit .shr .u64 (a + b) 1) + m) ∧
    (((iBit .shr .u64 (a + b) 1) < m) →
     InR .i64 (((iBit .shr .u64 (a + b) 1) + m) - b) ∧
     InR .i64 (((iBit .shr .u64 (a + b) 1) + m) - 1) ∧
     ∃ (I0 : Int → Int → World → Prop) (M0 : Int → Int → World → Nat), I0 (((iBit .shr .u64 (a + b) 1) + m) - b) (iBit .shr .u64 (a + b) 1) w ∧
     ∀ (start1 : Int) (r2 : Int) (w3 : World), I0 start1 r2 w3 →
      ((start1 < r2) →
       InR .i64 (start1 + r2) ∧
       InR .u64 (start1 + r2) ∧
       InR .i64 (iBit .shr .u64 (start1 + r2) 1) ∧
       InR .i64 ((((iBit .shr .u64 (a + b) 1) + m) - 1) - (iBit .shr .u64 (start1 + r2) 1)) ∧
       data ≠ none ∧
       (0 : Int) ≤ ((((iBit .shr .u64 (a + b) 1) + m) - 1) - (iBit .shr .u64 (start1 + r2) 1)) ∧
       (((((iBit .shr .u64 (a + b) 1) + m) - 1) - (iBit .shr .u64 (start1 + r2) 1)) : Int) < (datal : Int) ∧
       ∃ t4 : Int, cell w3 (pIdx data ((((iBit .shr .u64 (a + b) 1) + m) - 1) - (iBit .shr .u64 (start1 + r2) 1)) 1) 0 = some (.int .i64 t4) ∧
       data ≠ none ∧
       (0 : Int) ≤ (iBit .shr .u64 (start1 + r2) 1) ∧
       ((iBit .shr .u64 (start1 + r2) 1) : Int) < (datal : Int) ∧
       ∃ t5 : Int, cell w3 (pIdx data (iBit .shr .u64 (start1 + r2) 1) 1) 0 = some (.int .i64 t5) ∧
       ∀ w6, Ext w3 w6 →
       FnVP Try.prog cmp [(.int .i64 t4), (.int .i64 t5)] w6 fun v7 w7 =>
        Ext w6 w7 ∧
        ∃ t8 : Int, v7 = (.int .i64 t8) ∧
        ((0 ≤ t8) →
         InR .i64 ((iBit .shr .u64 (start1 + r2) 1) + 1) ∧
         (I0 ((iBit .shr .u64 (start1 + r2) 1) + 1) r2 w3 ∧ M0 ((iBit .shr .u64 (start1 + r2) 1) + 1) r2 w3 < M0 start1 r2 w3)) ∧
        ((t8 < 0) →
         (I0 start1 (iBit .shr .u64 (start1 + r2) 1) w3 ∧ M0 start1 (iBit .shr .u64 (start1 + r2) 1) w3 < M0 start1 r2 w3))) ∧
      ((r2 ≤ start1) →
       InR .i64 (((iBit .shr .u64 (a + b) 1) + m) - start1) ∧
       (((start1 < m) ∧ (m < (((iBit .shr .u64 (a + b) 1) + m) - start1))) →
        ∀ w4, Ext w3 w4 →
        FnP Try.prog F_slices_rotateCmpFunc_int #[(.slice data datal datac), (.int .i64 start1), (.int .i64 m), (.int .i64 (((iBit .shr .u64 (a + b) 1) + m) - start1)), cmp] w4 fun v5 w5 =>
         v5 = (.tuple #[]) ∧
         (((a < start1) ∧ (start1 < (iBit .shr .u64 (a + b) 1))) →
          ∀ w6, Ext w5 w6 →
          FnP Try.prog F_slices_symMergeCmpFunc_int #[(.slice data datal datac), (.int .i64 a), (.int .i64 start1), (.int .i64 (iBit .shr .u64 (a + b) 1)), cmp] w6 fun v7 w7 =>
           v7 = (.tuple #[]) ∧
           ((((iBit .shr .u64 (a + b) 1) < (((iBit .shr .u64 (a + b) 1) + m) - start1)) ∧ ((((iBit .shr .u64 (a + b) 1) + m) - start1) < b)) →
            ∀ w8, Ext w7 w8 →
            FnP Try.prog F_slices_symMergeCmpFunc_int #[(.slice data datal datac), (.int .i64 (iBit .shr .u64 (a + b) 1)), (.int .i64 (((iBit .shr .u64 (a + b) 1) + m) - start1)), (.int .i64 b), cmp] w8 fun v9 w9 =>
             v9 = (.tuple #[]) ∧
             ∀ w10, Ext w9 w10 →
             Q (.tuple #[]) w10) ∧
           ((((((iBit .shr .u64 (a + b) 1) + m) - start1) ≤ (iBit .shr .u64 (a + b) 1)) ∨ (b ≤ (((iBit .shr .u64 (a + b) 1) + m) - start1))) →
            ∀ w8, Ext w7 w8 →
            Q (.tuple #[]) w8)) ∧
         (((start1 ≤ a) ∨ ((iBit .shr .u64 (a + b) 1) ≤ start1)) →
          ((((iBit .shr .u64 (a + b) 1) < (((iBit .shr .u64 (a + b) 1) + m) - start1)) ∧ ((((iBit .shr .u64 (a + b) 1) + m) - start1) < b)) →
           ∀ w6, Ext w5 w6 →
           FnP Try.prog F_slices_symMergeCmpFunc_int #[(.slice data datal datac), (.int .i64 (iBit .shr .u64 (a + b) 1)), (.int .i64 (((iBit .shr .u64 (a + b) 1) + m) - start1)), (.int .i64 b), cmp] w6 fun v7 w7 =>
            v7 = (.tuple #[]) ∧
            ∀ w8, Ext w7 w8 →
            Q (.tuple #[]) w8) ∧
          ((((((iBit .shr .u64 (a + b) 1) + m) - start1) ≤ (iBit .shr .u64 (a + b) 1)) ∨ (b ≤ (((iBit .shr .u64 (a + b) 1) + m) - start1))) →
           ∀ w6, Ext w5 w6 →
           Q (.tuple #[]) w6))) ∧
       (((m ≤ start1) ∨ ((((iBit .shr .u64 (a + b) 1) + m) - start1) ≤ m)) →
        (((a < start1) ∧ (start1 < (iBit .shr .u64 (a + b) 1))) →
         ∀ w4, Ext w3 w4 →
         FnP Try.prog F_slices_symMergeCmpFunc_int #[(.slice data datal datac), (.int .i64 a), (.int .i64 start1), (.int .i64 (iBit .shr .u64 (a + b) 1)), cmp] w4 fun v5 w5 =>
          v5 = (.tuple #[]) ∧
          ((((iBit .shr .u64 (a + b) 1) < (((iBit .shr .u64 (a + b) 1) + m) - start1)) ∧ ((((iBit .shr .u64 (a + b) 1) + m) - start1) < b)) →
           ∀ w6, Ext w5 w6 →
           FnP Try.prog F_slices_symMergeCmpFunc_int #[(.slice data datal datac), (.int .i64 (iBit .shr .u64 (a + b) 1)), (.int .i64 (((iBit .shr .u64 (a + b) 1) + m) - start1)), (.int .i64 b), cmp] w6 fun v7 w7 =>
            v7 = (.tuple #[]) ∧
            ∀ w8, Ext w7 w8 →
            Q (.tuple #[]) w8) ∧
          ((((((iBit .shr .u64 (a + b) 1) + m) - start1) ≤ (iBit .shr .u64 (a + b) 1)) ∨ (b ≤ (((iBit .shr .u64 (a + b) 1) + m) - start1))) →
           ∀ w6, Ext w5 w6 →
           Q (.tuple #[]) w6)) ∧
        (((start1 ≤ a) ∨ ((iBit .shr .u64 (a + b) 1) ≤ start1)) →
         ((((iBit .shr .u64 (a + b) 1) < (((iBit .shr .u64 (a + b) 1) + m) - start1)) ∧ ((((iBit .shr .u64 (a + b) 1) + m) - start1) < b)) →
          ∀ w4, Ext w3 w4 →
          FnP Try.prog F_slices_symMergeCmpFunc_int #[(.slice data datal datac), (.int .i64 (iBit .shr .u64 (a + b) 1)), (.int .i64 (((iBit .shr .u64 (a + b) 1) + m) - start1)), (.int .i64 b), cmp] w4 fun v5 w5 =>
           v5 = (.tuple #[]) ∧
           ∀ w6, Ext w5 w6 →
           Q (.tuple #[]) w6) ∧
         ((((((iBit .shr .u64 (a + b) 1) + m) - start1) ≤ (iBit .shr .u64 (a + b) 1)) ∨ (b ≤ (((iBit .shr .u64 (a + b) 1) + m) - start1))) →
          ∀ w4, Ext w3 w4 →
          Q (.tuple #[]) w4))))) ∧
    ((m ≤ (iBit .shr .u64 (a + b) 1)) →
     InR .i64 (((iBit .shr .u64 (a + b) 1) + m) - 1) ∧
     ∃ (I0 : Int → Int → World → Prop) (M0 : Int → Int → World → Nat), I0 a m w ∧
     ∀ (start1 : Int) (r2 : Int) (w3 : World), I0 start1 r2 w3 →
      ((start1 < r2) →
       InR .i64 (start1 + r2) ∧
       InR .u64 (start1 + r2) ∧
       InR .i64 (iBit .shr .u64 (start1 + r2) 1) ∧
       InR .i64 ((((iBit .shr .u64 (a + b) 1) + m) - 1) - (iBit .shr .u64 (start1 + r2) 1)) ∧
       data ≠ none ∧
       (0 : Int) ≤ ((((iBit .shr .u64 (a + b) 1) + m) - 1) - (iBit .shr .u64 (start1 + r2) 1)) ∧
       (((((iBit .shr .u64 (a + b) 1) + m) - 1) - (iBit .shr .u64 (start1 + r2) 1)) : Int) < (datal : Int) ∧
       ∃ t4 : Int, cell w3 (pIdx data ((((iBit .shr .u64 (a + b) 1) + m) - 1) - (iBit .shr .u64 (start1 + r2) 1)) 1) 0 = some (.int .i64 t4) ∧
       data ≠ none ∧
       (0 : Int) ≤ (iBit .shr .u64 (start1 + r2) 1) ∧
       ((iBit .shr .u64 (start1 + r2) 1) : Int) < (datal : Int) ∧
       ∃ t5 : Int, cell w3 (pIdx data (iBit .shr .u64 (start1 + r2) 1) 1) 0 = some (.int .i64 t5) ∧
       ∀ w6, Ext w3 w6 →
       FnVP Try.prog cmp [(.int .i64 t4), (.int .i64 t5)] w6 fun v7 w7 =>
        Ext w6 w7 ∧
        ∃ t8 : Int, v7 = (.int .i64 t8) ∧
        ((0 ≤ t8) →
         InR .i64 ((iBit .shr .u64 (start1 + r2) 1) + 1) ∧
         (I0 ((iBit .shr .u64 (start1 + r2) 1) + 1) r2 w3 ∧ M0 ((iBit .shr .u64 (start1 + r2) 1) + 1) r2 w3 < M0 start1 r2 w3)) ∧
        ((t8 < 0) →
         (I0 start1 (iBit .shr .u64 (start1 + r2) 1) w3 ∧ M0 start1 (iBit .shr .u64 (start1 + r2) 1) w3 < M0 start1 r2 w3))) ∧
      ((r2 ≤ start1) →
       InR .i64 (((iBit .shr .u64 (a + b) 1) + m) - start1) ∧
       (((start1 < m) ∧ (m < (((iBit .shr .u64 (a + b) 1) + m) - start1))) →
        ∀ w4, Ext w3 w4 →
        FnP Try.prog F_slices_rotateCmpFunc_int #[(.slice data datal datac), (.int .i64 start1), (.int .i64 m), (.int .i64 (((iBit .shr .u64 (a + b) 1) + m) - start1)), cmp] w4 fun v5 w5 =>
         v5 = (.tuple #[]) ∧
         (((a < start1) ∧ (start1 < (iBit .shr .u64 (a + b) 1))) →
          ∀ w6, Ext w5 w6 →
          FnP Try.prog F_slices_symMergeCmpFunc_int #[(.slice data datal datac), (.int .i64 a), (.int .i64 start1), (.int .i64 (iBit .shr .u64 (a + b) 1)), cmp] w6 fun v7 w7 =>
           v7 = (.tuple #[]) ∧
           ((((iBit .shr .u64 (a + b) 1) < (((iBit .shr .u64 (a + b) 1) + m) - start1)) ∧ ((((iBit .shr .u64 (a + b) 1) + m) - start1) < b)) →
            ∀ w8, Ext w7 w8 →
            FnP Try.prog F_slices_symMergeCmpFunc_int #[(.slice data datal datac), (.int .i64 (iBit .shr .u64 (a + b) 1)), (.int .i64 (((iBit .shr .u64 (a + b) 1) + m) - start1)), (.int .i64 b), cmp] w8 fun v9 w9 =>
             v9 = (.tuple #[]) ∧
             ∀ w10, Ext w9 w10 →
             Q (.tuple #[]) w10) ∧
           ((((((iBit .shr .u64 (a + b) 1) + m) - start1) ≤ (iBit .shr .u64 (a + b) 1)) ∨ (b ≤ (((iBit .shr .u64 (a + b) 1) + m) - start1))) →
            ∀ w8, Ext w7 w8 →
            Q (.tuple #[]) w8)) ∧
         (((start1 ≤ a) ∨ ((iBit .shr .u64 (a + b) 1) ≤ start1)) →
          ((((iBit .shr .u64 (a + b) 1) < (((iBit .shr .u64 (a + b) 1) + m) - start1)) ∧ ((((iBit .shr .u64 (a + b) 1) + m) - start1) < b)) →
           ∀ w6, Ext w5 w6 →
           FnP Try.prog F_slices_symMergeCmpFunc_int #[(.slice data datal datac), (.int .i64 (iBit .shr .u64 (a + b) 1)), (.int .i64 (((iBit .shr .u64 (a + b) 1) + m) - start1)), (.int .i64 b), cmp] w6 fun v7 w7 =>
            v7 = (.tuple #[]) ∧
            ∀ w8, Ext w7 w8 →
            Q (.tuple #[]) w8) ∧
          ((((((iBit .shr .u64 (a + b) 1) + m) - start1) ≤ (iBit .shr .u64 (a + b) 1)) ∨ (b ≤ (((iBit .shr .u64 (a + b) 1) + m) - start1))) →
           ∀ w6, Ext w5 w6 →
           Q (.tuple #[]) w6))) ∧
       (((m ≤ start1) ∨ ((((iBit .shr .u64 (a + b) 1) + m) - start1) ≤ m)) →
        (((a < start1) ∧ (start1 < (iBit .shr .u64 (a + b) 1))) →
         ∀ w4, Ext w3 w4 →
         FnP Try.prog F_slices_symMergeCmpFunc_int #[(.slice data datal datac), (.int .i64 a), (.int .i64 start1), (.int .i64 (iBit .shr .u64 (a + b) 1)), cmp] w4 fun v5 w5 =>
          v5 = (.tuple #[]) ∧
          ((((iBit .shr .u64 (a + b) 1) < (((iBit .shr .u64 (a + b) 1) + m) - start1)) ∧ ((((iBit .shr .u64 (a + b) 1) + m) - start1) < b)) →
           ∀ w6, Ext w5 w6 →
           FnP Try.prog F_slices_symMergeCmpFunc_int #[(.slice data datal datac), (.int .i64 (iBit .shr .u64 (a + b) 1)), (.int .i64 (((iBit .shr .u64 (a + b) 1) + m) - start1)), (.int .i64 b), cmp] w6 fun v7 w7 =>
            v7 = (.tuple #[]) ∧
            ∀ w8, Ext w7 w8 →
            Q (.tuple #[]) w8) ∧
          ((((((iBit .shr .u64 (a + b) 1) + m) - start1) ≤ (iBit .shr .u64 (a + b) 1)) ∨ (b ≤ (((iBit .shr .u64 (a + b) 1) + m) - start1))) →
           ∀ w6, Ext w5 w6 →
           Q (.tuple #[]) w6)) ∧
        (((start1 ≤ a) ∨ ((iBit .shr .u64 (a + b) 1) ≤ start1)) →
         ((((iBit .shr .u64 (a + b) 1) < (((iBit .shr .u64 (a + b) 1) + m) - start1)) ∧ ((((iBit .shr .u64 (a + b) 1) + m) - start1) < b)) →
          ∀ w4, Ext w3 w4 →
          FnP Try.prog F_slices_symMergeCmpFunc_int #[(.slice data datal datac), (.int .i64 (iBit .shr .u64 (a + b) 1)), (.int .i64 (((iBit .shr .u64 (a + b) 1) + m) - start1)), (.int .i64 b), cmp] w4 fun v5 w5 =>
           v5 = (.tuple #[]) ∧
           ∀ w6, Ext w5 w6 →
           Q (.tuple #[]) w6) ∧
         ((((((iBit .shr .u64 (a + b) 1) + m) - start1) ≤ (iBit .shr .u64 (a + b) 1)) ∨ (b ≤ (((iBit .shr .u64 (a + b) 1) + m) - start1))) →
          ∀ w4, Ext w3 w4 →
          Q (.tuple #[]) w4)))))))

theorem ok_slices_symMergeCmpFunc_int (data : Option Addr) (datal : Nat) (datac : Nat) (a : Int) (m : Int) (b : Int) (cmp : Value) (w : World) (Q : Value → World → Prop) (h : wp_slices_symMergeCmpFunc_int data datal datac a m b cmp w Q) : FnP Try.prog F_slices_symMergeCmpFunc_int #[(.slice data datal datac), (.int .i64 a), (.int .i64 m), (.int .i64 b), cmp] w Q := by
  have e_ : wp_slices_symMergeCmpFunc_int data datal datac a m b cmp w Q = Runs Try.prog Q ({ N := 220, wrap := [], pub := [], muts := [61, 62, 63] } : Cfg) Try.f61 (Try.f61.body.getD .skip) [.sc (.slc data datal datac), .sc (.int .i64 a), .sc (.int .i64 m), .sc (.int .i64 b), .sc (.val cmp)] w := by kernel_rfl
  rw [e_] at h
  exact runs_fn h Try.func61 (by kernel_rfl) (fun args w => Try.call61 args w) (by kernel_rfl) (by kernel_rfl) rfl rfl

/-- slices.rotateCmpFunc[int] -/
def wp_slices_rotateCmpFunc_int (data : Option Addr) (datal : Nat) (datac : Nat) (a : Int) (m : Int) (b : Int) (cmp : Value) (w : World) (Q : Value → World → Prop) : Prop :=
  InR .i64 (m - a) ∧
  InR .i64 (b - m) ∧
  ∃ (I0 : Int → Int → World → Prop) (M0 : Int → Int → World → Nat), I0 (m - a) (b - m) w ∧
  ∀ (i1 : Int) (j2 : Int) (w3 : World), I0 i1 j2 w3 →
   ((i1 ≠ j2) →
    ((j2 < i1) →
     InR .i64 (m - i1) ∧
     ∀ w4, Ext w3 w4 →
     FnP Try.prog F_slices_swapRangeCmpFunc_int #[(.slice data datal datac), (.int .i64 (m - i1)), (.int .i64 m), (.int .i64 j2), cmp] w4 fun v5 w5 =>
      v5 = (.tuple #[]) ∧
      InR .i64 (i1 - j2) ∧
      (I0 (i1 - j2) j2 w5 ∧ M0 (i1 - j2) j2 w5 < M0 i1 j2 w3)) ∧
    ((i1 ≤ j2) →
     InR .i64 (m - i1) ∧
     InR .i64 (m + j2) ∧
     InR .i64 ((m + j2) - i1) ∧
     ∀ w4, Ext w3 w4 →
     FnP Try.prog F_slices_swapRangeCmpFunc_int #[(.slice data datal datac), (.int .i64 (m - i1)), (.int .i64 ((m + j2) - i1)), (.int .i64 i1), cmp] w4 fun v5 w5 =>
      v5 = (.tuple #[]) ∧
      InR .i64 (j2 - i1) ∧
      (I0 i1 (j2 - i1) w5 ∧ M0 i1 (j2 - i1) w5 < M0 i1 j2 w3))) ∧
   ((i1 = j2) →
    InR .i64 (m - i1) ∧
    ∀ w4, Ext w3 w4 →
    FnP Try.prog F_slices_swapRangeCmpFunc_int #[(.slice data datal datac), (.int .i64 (m - i1)), (.int .i64 m), (.int .i64 i1), cmp] w4 fun v5 w5 =>
     v5 = (.tuple #[]) ∧
     ∀ w6, Ext w5 w6 →
     Q (.tuple #[]) w6)

theorem ok_slices_rotateCmpFunc_int (data : Option Addr) (datal : Nat) (datac : Nat) (a : Int) (m : Int) (b : Int) (cmp : Value) (w : World) (Q : Value → World → Prop) (h : wp_slices_rotateCmpFunc_int data datal datac a m b cmp w Q) : FnP Try.prog F_slices_rotateCmpFunc_int #[(.slice data datal datac), (.int .i64 a), (.int .i64 m), (.int .i64 b), cmp] w Q := by
  have e_ : wp_slices_rotateCmpFunc_int data datal datac a m b cmp w Q = Runs Try.prog Q ({ N := 58, wrap := [], pub := [], muts := [63] } : Cfg) Try.f62 (Try.f62.body.getD .skip) [.sc (.slc data datal datac), .sc (.int .i64 a), .sc (.int .i64 m), .sc (.int .i64 b), .sc (.val cmp)] w := by kernel_rfl
  rw [e_] at h
  exact runs_fn h Try.func62 (by kernel_rfl) (fun args w => Try.call62 args w) (by kernel_rfl) (by kernel_rfl) rfl rfl

/-- slices.swapRangeCmpFunc[int] -/
def wp_slices_swapRangeCmpFunc_int (data : Option Addr) (datal : Nat) (datac : Nat) (a : Int) (b : Int) (n : Int) (cmp : Value) (w : World) (Q : Value → World → Prop) : Prop :=
  ∃ (I0 : Int → World → Prop) (M0 : Int → World → Nat), I0 0 w ∧
  ∀ (i1 : Int) (w2 : World), I0 i1 w2 →
   ((i1 < n) →
    InR .i64 (a + i1) ∧
    InR .i64 (b + i1) ∧
    InR .i64 (b + i1) ∧
    data ≠ none ∧
    (0 : Int) ≤ (b + i1) ∧
    ((b + i1) : Int) < (datal : Int) ∧
    ∃ t3 : Int, cell w2 (pIdx data (b + i1) 1) 0 = some (.int .i64 t3) ∧
    InR .i64 (a + i1) ∧
    data ≠ none ∧
    (0 : Int) ≤ (a + i1) ∧
    ((a + i1) : Int) < (datal : Int) ∧
    ∃ t4 : Int, cell w2 (pIdx data (a + i1) 1) 0 = some (.int .i64 t4) ∧
    data ≠ none ∧
    (0 : Int) ≤ (a + i1) ∧
    ((a + i1) : Int) < (datal : Int) ∧
    Store w2 (pIdx data (a + i1) 1) [(.int .i64 t3)] [] fun w5 =>
     data ≠ none ∧
     (0 : Int) ≤ (b + i1) ∧
     ((b + i1) : Int) < (datal : Int) ∧
     Store w5 (pIdx data (b + i1) 1) [(.int .i64 t4)] [] fun w6 =>
      InR .i64 (i1 + 1) ∧
      (I0 (i1 + 1) w6 ∧ M0 (i1 + 1) w6 < M0 i1 w2)) ∧
   ((n ≤ i1) →
    ∀ w3, Ext w2 w3 →
    Q (.tuple #[]) w3)

theorem ok_slices_swapRangeCmpFunc_int (data : Option Addr) (datal : Nat) (datac : Nat) (a : Int) (b : Int) (n : Int) (cmp : Value) (w : World) (Q : Value → World → Prop) (h : wp_slices_swapRangeCmpFunc_int data datal datac a b n cmp w Q) : FnP Try.prog F_slices_swapRangeCmpFunc_int #[(.slice data datal datac), (.int .i64 a), (.int .i64 b), (.int .i64 n), cmp] w Q := by
  have e_ : wp_slices_swapRangeCmpFunc_int data datal datac a b n cmp w Q = Runs Try.prog Q ({ N := 38, wrap := [], pub := [], muts := [] } : Cfg) Try.f63 (Try.f63.body.getD .skip) [.sc (.slc data datal datac), .sc (.int .i64 a), .sc (.int .i64 b), .sc (.int .i64 n), .sc (.val cmp)] w := by kernel_rfl
  rw [e_] at h
  exact runs_fn h Try.func63 (by kernel_rfl) (fun args w => Try.call63 args w) (by kernel_rfl) (by kernel_rfl) rfl rfl

/-- shiftbell/pack.Down -/
def wp_pack_Down (l : Option Addr) (ll : Nat) (lc : Nat) (size : Int) (w : World) (Q : Value → World → Prop) : Prop :=
  ∀ w0, Ext w w0 →
  New w0 22 [(.slice l ll lc)] fun p1 w1 =>
   ∃ t2 : Option Addr, ∃ tl3 : Nat, ∃ tc4 : Nat, cell w1 p1 0 = some (.slice t2 tl3 tc4) ∧
   ∀ w5, Ext w1 w5 →
   FnP Try.prog F_pack_Check #[(.slice t2 tl3 tc4), (.int .i64 size)] w5 fun v6 w6 =>
    Ext w5 w6 ∧
    ∃ t7 : Int, v6 = (.int .i64 t7) ∧
    ((t7 ≠ 0) →
     ∀ w8, Ext w1 w8 →
     Q (.tuple #[(.slice none 0 0), (.int .i64 0), (.int .i64 t7)]) w8) ∧
    ((t7 = 0) →
     ∃ t8 : Option Addr, ∃ tl9 : Nat, ∃ tc10 : Nat, cell w1 p1 0 = some (.slice t8 tl9 tc10) ∧
     ∀ w11, Ext w1 w11 →
     FnP Try.prog F_pack_numbers #[(.int .i64 (tl9 : Int))] w11 fun v12 w12 =>
      Ext w11 w12 ∧
      ∃ t13 : Option Addr, ∃ tl14 : Nat, ∃ tc15 : Nat, v12 = (.slice t13 tl14 tc15) ∧
      ∀ w16, Ext w12 w16 →
      FnP Try.prog F_slices_SortStableFunc_int_int #[(.slice t13 tl14 tc15), (.func (.func 40) #[] #[(.pointer p1)])] w16 fun v17 w17 =>
       v17 = (.tuple #[]) ∧
       ∃ t18 : Option Addr, ∃ tl19 : Nat, ∃ tc20 : Nat, cell w17 p1 0 = some (.slice t18 tl19 tc20) ∧
       ∀ w21, Ext w17 w21 →
       FnP Try.prog F_pack_first #[(.slice t18 tl19 tc20), (.int .i64 size), (.slice t13 tl14 tc15)] w21 fun v22 w22 =>
        Ext w21 w22 ∧
        ∃ t23 : Option Addr, ∃ tl24 : Nat, ∃ tc25 : Nat, ∃ t26 : Int, v22 = (.tuple #[(.slice t23 tl24 tc25), (.int .i64 t26)]) ∧
        ∀ w27, Ext w22 w27 →
        Q (.tuple #[(.slice t23 tl24 tc25), (.int .i64 t26), (.int .i64 0)]) w27)

theorem ok_pack_Down (l : Option Addr) (ll : Nat) (lc : Nat) (size : Int) (w : World) (Q : Value → World → Prop) (h : wp_pack_Down l ll lc size w Q) : FnP Try.prog F_pack_Down #[(.slice l ll lc), (.int .i64 size)] w Q := by
  have e_ : wp_pack_Down l ll lc size w Q = Runs Try.prog Q ({ N := 32, wrap := [], pub := [2], muts := [39] } : Cfg) Try.f22 (Try.f22.body.getD .skip) [.sc (.slc l ll lc), .sc (.int .i64 size)] w := by kernel_rfl
  rw [e_] at h
  exact runs_fn h Try.func22 (by kernel_rfl) (fun args w => Try.call22 args w) (by kernel_rfl) (by kernel_rfl) rfl rfl

/-- shiftbell/pack.Down$1 -/
def wp_pack_Down_1 (i : Int) (k : Int) (c0 : Option Addr) (w : World) (Q : Value → World → Prop) : Prop :=
  ∃ t0 : Option Addr, ∃ tl1 : Nat, ∃ tc2 : Nat, cell w c0 0 = some (.slice t0 tl1 tc2) ∧
  t0 ≠ none ∧
  (0 : Int) ≤ k ∧
  (k : Int) < (tl1 : Int) ∧
  ∃ t3 : Int, cell w (pIdx t0 k 1) 0 = some (.int .i64 t3) ∧
  ∃ t4 : Option Addr, ∃ tl5 : Nat, ∃ tc6 : Nat, cell w c0 0 = some (.slice t4 tl5 tc6) ∧
  t4 ≠ none ∧
  (0 : Int) ≤ i ∧
  (i : Int) < (tl5 : Int) ∧
  ∃ t7 : Int, cell w (pIdx t4 i 1) 0 = some (.int .i64 t7) ∧
  ∀ w8, Ext w w8 →
  FnP Try.prog F_cmp_Compare_int64 #[(.int .i64 t3), (.int .i64 t7)] w8 fun v9 w9 =>
   Ext w8 w9 ∧
   ∃ t10 : Int, v9 = (.int .i64 t10) ∧
   ∀ w11, Ext w w11 →
   Q (.int .i64 t10) w11

theorem ok_pack_Down_1 (i : Int) (k : Int) (c0 : Option Addr) (w : World) (Q : Value → World → Prop) (h : wp_pack_Down_1 i k c0 w Q) : FnP Try.prog F_pack_Down_1 #[(.int .i64 i), (.int .i64 k), (.pointer c0)] w Q := by
  have e_ : wp_pack_Down_1 i k c0 w Q = Runs Try.prog Q ({ N := 15, wrap := [], pub := [], muts := [] } : Cfg) Try.f40 (Try.f40.body.getD .skip) [.sc (.int .i64 i), .sc (.int .i64 k), .sc (.ptr c0)] w := by kernel_rfl
  rw [e_] at h
  exact runs_fn h Try.func40 (by kernel_rfl) (fun args w => Try.call40 args w) (by kernel_rfl) (by kernel_rfl) rfl rfl

/-- shiftbell/shiftbellkeep.PackHalf -/
def wp_shiftbellkeep_PackHalf (l : Option Addr) (ll : Nat) (lc : Nat) (size : Int) (w : World) (Q : Value → World → Prop) : Prop :=
  ∀ w0, Ext w w0 →
  FnP Try.prog F_shiftbellkeep_packs #[] w0 fun v1 w1 =>
   Ext w0 w1 ∧
   ∃ t2 : Bool, v1 = (.bool t2) ∧
   ((t2 = false) →
    ∀ w3, Ext w w3 →
    Q (.bool false) w3) ∧
   ((t2 = true) →
    ∀ w3, Ext w w3 →
    FnP Try.prog F_pack_First #[(.slice l ll lc), (.int .i64 size)] w3 fun v4 w4 =>
     Ext w3 w4 ∧
     ∃ t5 : Option Addr, ∃ tl6 : Nat, ∃ tc7 : Nat, ∃ t8 : Int, ∃ t9 : Int, v4 = (.tuple #[(.slice t5 tl6 tc7), (.int .i64 t8), (.int .i64 t9)]) ∧
     ∀ w10, Ext w4 w10 →
     FnP Try.prog F_pack_Down #[(.slice l ll lc), (.int .i64 size)] w10 fun v11 w11 =>
      Ext w10 w11 ∧
      ∃ t12 : Option Addr, ∃ tl13 : Nat, ∃ tc14 : Nat, ∃ t15 : Int, ∃ t16 : Int, v11 = (.tuple #[(.slice t12 tl13 tc14), (.int .i64 t15), (.int .i64 t16)]) ∧
      (((t9 ≠ 0) ∨ ((ll : Int) = 0)) →
       ∀ w17, Ext w11 w17 →
       Q (.bool ((decide (t8 = 0)) && (decide (t15 = 0)))) w17) ∧
      (((t9 = 0) ∧ ((ll : Int) ≠ 0)) →
       ((t16 = 0) →
        ∀ w17, Ext w11 w17 →
        FnP Try.prog F_shiftbellkeep_sum #[(.slice l ll lc)] w17 fun v18 w18 =>
         Ext w17 w18 ∧
         ∃ t19 : Int, v18 = (.int .i64 t19) ∧
         InR .i64 (2 * t19) ∧
         InR .i64 (t8 - 1) ∧
         InR .i64 ((t8 - 1) * size) ∧
         ((((t8 - 1) * size) < (2 * t19)) →
          ∀ w20, Ext w11 w20 →
          FnP Try.prog F_shiftbellkeep_sum #[(.slice l ll lc)] w20 fun v21 w21 =>
           Ext w20 w21 ∧
           ∃ t22 : Int, v21 = (.int .i64 t22) ∧
           InR .i64 (2 * t22) ∧
           InR .i64 (t15 - 1) ∧
           InR .i64 ((t15 - 1) * size) ∧
           ((((t15 - 1) * size) < (2 * t22)) →
            InR .i64 (t8 * size)) ∧
           ((((t15 - 1) * size) < (2 * t22)) →
            ∀ w23, Ext w11 w23 →
            FnP Try.prog F_shiftbellkeep_sum #[(.slice l ll lc)] w23 fun v24 w24 =>
             Ext w23 w24 ∧
             ∃ t25 : Int, v24 = (.int .i64 t25) ∧
             ∀ w26, Ext w11 w26 →
             Q (.bool (decide (t25 ≤ (t8 * size)))) w26) ∧
           (((2 * t22) ≤ ((t15 - 1) * size)) →
            ∀ w23, Ext w11 w23 →
            Q (.bool false) w23)) ∧
         (((2 * t19) ≤ ((t8 - 1) * size)) →
          ∀ w20, Ext w11 w20 →
          Q (.bool false) w20)) ∧
       ((t16 ≠ 0) →
        ∀ w17, Ext w11 w17 →
        Q (.bool false) w17)))

theorem ok_shiftbellkeep_PackHalf (l : Option Addr) (ll : Nat) (lc : Nat) (size : Int) (w : World) (Q : Value → World → Prop) (h : wp_shiftbellkeep_PackHalf l ll lc size w Q) : FnP Try.prog F_shiftbellkeep_PackHalf #[(.slice l ll lc), (.int .i64 size)] w Q := by
  have e_ : wp_shiftbellkeep_PackHalf l ll lc size w Q = Runs Try.prog Q ({ N := 70, wrap := [], pub := [], muts := [] } : Cfg) Try.f7 (Try.f7.body.getD .skip) [.sc (.slc l ll lc), .sc (.int .i64 size)] w := by kernel_rfl
  rw [e_] at h
  exact runs_fn h Try.func7 (by kernel_rfl) (fun args w => Try.call7 args w) (by kernel_rfl) (by kernel_rfl) rfl rfl

theorem open_shiftbellkeep_PackHalf (W : World) (R : Array Value → Prop) (h : ∀ l : Option Addr, ∀ ll : Nat, ∀ lc : Nat, SlcArg Try.prog W 2 l ll lc → ∀ size : Int, InR .i64 size → R #[(.slice l ll lc), (.int .i64 size)]) (args : Array Value) (hg : GoodAll Try.prog W Try.f7.params.toList args.toList) : R args := by
  have e_ : (ArgsAll Try.prog W Try.f7.params.toList fun l => R l.toArray) = (∀ l : Option Addr, ∀ ll : Nat, ∀ lc : Nat, SlcArg Try.prog W 2 l ll lc → ∀ size : Int, InR .i64 size → R #[(.slice l ll lc), (.int .i64 size)]) := by kernel_rfl
  exact args_open (by rw [e_]; exact h) args hg
-- wit 7 #[(.slice none 0 0), (.int .i64 0)]

/-- shiftbell/shiftbellkeep.PackFits -/
def wp_shiftbellkeep_PackFits (l : Option Addr) (ll : Nat) (lc : Nat) (size : Int) (w : World) (Q : Value → World → Prop) : Prop :=
  ∀ w0, Ext w w0 →
  FnP Try.prog F_shiftbellkeep_packs #[] w0 fun v1 w1 =>
   Ext w0 w1 ∧
   ∃ t2 : Bool, v1 = (.bool t2) ∧
   ((t2 = false) →
    ∀ w3, Ext w w3 →
    Q (.bool false) w3) ∧
   ((t2 = true) →
    ∀ w3, Ext w w3 →
    FnP Try.prog F_pack_First #[(.slice l ll lc), (.int .i64 size)] w3 fun v4 w4 =>
     Ext w3 w4 ∧
     ∃ t5 : Option Addr, ∃ tl6 : Nat, ∃ tc7 : Nat, ∃ t8 : Int, ∃ t9 : Int, v4 = (.tuple #[(.slice t5 tl6 tc7), (.int .i64 t8), (.int .i64 t9)]) ∧
     ∀ w10, Ext w4 w10 →
     FnP Try.prog F_pack_Down #[(.slice l ll lc), (.int .i64 size)] w10 fun v11 w11 =>
      Ext w10 w11 ∧
      ∃ t12 : Option Addr, ∃ tl13 : Nat, ∃ tc14 : Nat, ∃ t15 : Int, ∃ t16 : Int, v11 = (.tuple #[(.slice t12 tl13 tc14), (.int .i64 t15), (.int .i64 t16)]) ∧
      ((t9 ≠ 0) →
       ((t9 = t16) →
        InR .i64 ((tl6 : Int) + (tl13 : Int))) ∧
       ∀ w17, Ext w11 w17 →
       Q (.bool ((((decide (t9 = t16)) && (decide (((tl6 : Int) + (tl13 : Int)) = 0))) && (decide (t8 = 0))) && (decide (t15 = 0)))) w17) ∧
      ((t9 = 0) →
       ∀ w17, Ext w11 w17 →
       FnP Try.prog F_pack_Boxes #[(.slice l ll lc), (.int .i64 size), (.slice t5 tl6 tc7)] w17 fun v18 w18 =>
        Ext w17 w18 ∧
        ∃ t19 : Int, ∃ t20 : Int, v18 = (.tuple #[(.int .i64 t19), (.int .i64 t20)]) ∧
        ∀ w21, Ext w11 w21 →
        FnP Try.prog F_pack_Boxes #[(.slice l ll lc), (.int .i64 size), (.slice t12 tl13 tc14)] w21 fun v22 w22 =>
         Ext w21 w22 ∧
         ∃ t23 : Int, ∃ t24 : Int, v22 = (.tuple #[(.int .i64 t23), (.int .i64 t24)]) ∧
         ∀ w25, Ext w11 w25 →
         Run Try.prog (.buildSlice 77 3 [(0, (.int .i64 t16)), (1, (.int .i64 t20)), (2, (.int .i64 t24))]) w25 fun v26 w26 =>
          Ext w25 w26 ∧
          ∃ t27 : Option Addr, ∃ tl28 : Nat, ∃ tc29 : Nat, v26 = (.slice t27 tl28 tc29) ∧
          ∀ w30, Ext w26 w30 →
          FnP Try.prog F_shiftbellkeep_good #[(.slice t27 tl28 tc29)] w30 fun v31 w31 =>
           Ext w30 w31 ∧
           ∃ t32 : Bool, v31 = (.bool t32) ∧
           ∀ w33, Ext w26 w33 →
           Q (.bool ((((t32 && (decide (t19 = t8))) && (decide (t23 = t15))) && (decide (t8 ≤ (ll : Int)))) && (decide (t15 ≤ (ll : Int))))) w33))

theorem ok_shiftbellkeep_PackFits (l : Option Addr) (ll : Nat) (lc : Nat) (size : Int) (w : World) (Q : Value → World → Prop) (h : wp_shiftbellkeep_PackFits l ll lc size w Q) : FnP Try.prog F_shiftbellkeep_PackFits #[(.slice l ll lc), (.int .i64 size)] w Q := by
  have e_ : wp_shiftbellkeep_PackFits l ll lc size w Q = Runs Try.prog Q ({ N := 93, wrap := [], pub := [], muts := [] } : Cfg) Try.f8 (Try.f8.body.getD .skip) [.sc (.slc l ll lc), .sc (.int .i64 size)] w := by kernel_rfl
  rw [e_] at h
  exact runs_fn h Try.func8 (by kernel_rfl) (fun args w => Try.call8 args w) (by kernel_rfl) (by kernel_rfl) rfl rfl

theorem open_shiftbellkeep_PackFits (W : World) (R : Array Value → Prop) (h : ∀ l : Option Addr, ∀ ll : Nat, ∀ lc : Nat, SlcArg Try.prog W 2 l ll lc → ∀ size : Int, InR .i64 size → R #[(.slice l ll lc), (.int .i64 size)]) (args : Array Value) (hg : GoodAll Try.prog W Try.f8.params.toList args.toList) : R args := by
  have e_ : (ArgsAll Try.prog W Try.f8.params.toList fun l => R l.toArray) = (∀ l : Option Addr, ∀ ll : Nat, ∀ lc : Nat, SlcArg Try.prog W 2 l ll lc → ∀ size : Int, InR .i64 size → R #[(.slice l ll lc), (.int .i64 size)]) := by kernel_rfl
  exact args_open (by rw [e_]; exact h) args hg
-- wit 8 #[(.slice none 0 0), (.int .i64 0)]

/-- shiftbell/shiftbellkeep.PackDown -/
def wp_shiftbellkeep_PackDown (l : Option Addr) (ll : Nat) (lc : Nat) (size : Int) (w : World) (Q : Value → World → Prop) : Prop :=
  ∀ w0, Ext w w0 →
  FnP Try.prog F_shiftbellkeep_packs #[] w0 fun v1 w1 =>
   Ext w0 w1 ∧
   ∃ t2 : Bool, v1 = (.bool t2) ∧
   ((t2 = false) →
    ∀ w3, Ext w w3 →
    Q (.bool false) w3) ∧
   ((t2 = true) →
    ∀ w3, Ext w w3 →
    FnP Try.prog F_pack_Down #[(.slice l ll lc), (.int .i64 size)] w3 fun v4 w4 =>
     Ext w3 w4 ∧
     ∃ t5 : Option Addr, ∃ tl6 : Nat, ∃ tc7 : Nat, ∃ t8 : Int, ∃ t9 : Int, v4 = (.tuple #[(.slice t5 tl6 tc7), (.int .i64 t8), (.int .i64 t9)]) ∧
     ∀ w10, Ext w4 w10 →
     FnP Try.prog F_pack_Least #[(.slice l ll lc), (.int .i64 size)] w10 fun v11 w11 =>
      Ext w10 w11 ∧
      ∃ t12 : Int, ∃ t13 : Int, v11 = (.tuple #[(.int .i64 t12), (.int .i64 t13)]) ∧
      ∀ w14, Ext w4 w14 →
      Run Try.prog (.buildSlice 77 2 [(0, (.int .i64 t9)), (1, (.int .i64 t13))]) w14 fun v15 w15 =>
       Ext w14 w15 ∧
       ∃ t16 : Option Addr, ∃ tl17 : Nat, ∃ tc18 : Nat, v15 = (.slice t16 tl17 tc18) ∧
       ∀ w19, Ext w15 w19 →
       FnP Try.prog F_shiftbellkeep_good #[(.slice t16 tl17 tc18)] w19 fun v20 w20 =>
        Ext w19 w20 ∧
        ∃ t21 : Bool, v20 = (.bool t21) ∧
        ((t21 = false) →
         ∀ w22, Ext w15 w22 →
         Q (.bool (((decide (t9 ≠ 0)) && (decide (t8 = 0))) || ((decide (t13 = 2)) && (decide (9 < (ll : Int)))))) w22) ∧
        ((t21 = true) →
         ((t12 ≤ t8) →
          InR .i64 (2 * t8)) ∧
         ((t12 ≤ t8) →
          InR .i64 (3 * t12)) ∧
         ∀ w22, Ext w15 w22 →
         Q (.bool ((decide (t12 ≤ t8)) && (decide ((2 * t8) ≤ (3 * t12))))) w22))

theorem ok_shiftbellkeep_PackDown (l : Option Addr) (ll : Nat) (lc : Nat) (size : Int) (w : World) (Q : Value → World → Prop) (h : wp_shiftbellkeep_PackDown l ll lc size w Q) : FnP Try.prog F_shiftbellkeep_PackDown #[(.slice l ll lc), (.int .i64 size)] w Q := by
  have e_ : wp_shiftbellkeep_PackDown l ll lc size w Q = Runs Try.prog Q ({ N := 55, wrap := [], pub := [], muts := [] } : Cfg) Try.f9 (Try.f9.body.getD .skip) [.sc (.slc l ll lc), .sc (.int .i64 size)] w := by kernel_rfl
  rw [e_] at h
  exact runs_fn h Try.func9 (by kernel_rfl) (fun args w => Try.call9 args w) (by kernel_rfl) (by kernel_rfl) rfl rfl

theorem open_shiftbellkeep_PackDown (W : World) (R : Array Value → Prop) (h : ∀ l : Option Addr, ∀ ll : Nat, ∀ lc : Nat, SlcArg Try.prog W 2 l ll lc → ∀ size : Int, InR .i64 size → R #[(.slice l ll lc), (.int .i64 size)]) (args : Array Value) (hg : GoodAll Try.prog W Try.f9.params.toList args.toList) : R args := by
  have e_ : (ArgsAll Try.prog W Try.f9.params.toList fun l => R l.toArray) = (∀ l : Option Addr, ∀ ll : Nat, ∀ lc : Nat, SlcArg Try.prog W 2 l ll lc → ∀ size : Int, InR .i64 size → R #[(.slice l ll lc), (.int .i64 size)]) := by kernel_rfl
  exact args_open (by rw [e_]; exact h) args hg
-- wit 9 #[(.slice none 0 0), (.int .i64 0)]

/-- shiftbell/shiftbellkeep.ListLong -/
def wp_shiftbellkeep_ListLong (m : Int) (d : Option Addr) (dl : Nat) (dc : Nat) (w : World) (Q : Value → World → Prop) : Prop :=
  ∀ w0, Ext w w0 →
  FnP Try.prog F_shiftbellkeep_lists #[] w0 fun v1 w1 =>
   Ext w0 w1 ∧
   ∃ t2 : Bool, v1 = (.bool t2) ∧
   ((t2 = false) →
    ∀ w3, Ext w w3 →
    Q (.bool false) w3) ∧
   ((t2 = true) →
    ∀ w3, Ext w w3 →
    FnP Try.prog F_list_Long #[(.int .i64 m), (.slice d dl dc)] w3 fun v4 w4 =>
     Ext w3 w4 ∧
     ∃ t5 : Option Addr, ∃ tl6 : Nat, ∃ tc7 : Nat, ∃ t8 : Int, ∃ t9 : Int, v4 = (.tuple #[(.slice t5 tl6 tc7), (.int .i64 t8), (.int .i64 t9)]) ∧
     ∀ w10, Ext w4 w10 →
     FnP Try.prog F_list_Least #[(.int .i64 m), (.slice d dl dc)] w10 fun v11 w11 =>
      Ext w10 w11 ∧
      ∃ t12 : Int, ∃ t13 : Int, v11 = (.tuple #[(.int .i64 t12), (.int .i64 t13)]) ∧
      ∀ w14, Ext w4 w14 →
      Run Try.prog (.buildSlice 77 2 [(0, (.int .i64 t9)), (1, (.int .i64 t13))]) w14 fun v15 w15 =>
       Ext w14 w15 ∧
       ∃ t16 : Option Addr, ∃ tl17 : Nat, ∃ tc18 : Nat, v15 = (.slice t16 tl17 tc18) ∧
       ∀ w19, Ext w15 w19 →
       FnP Try.prog F_shiftbellkeep_good #[(.slice t16 tl17 tc18)] w19 fun v20 w20 =>
        Ext w19 w20 ∧
        ∃ t21 : Bool, v20 = (.bool t21) ∧
        ((t21 = false) →
         ∀ w22, Ext w15 w22 →
         Q (.bool (((decide (t9 ≠ 0)) && (decide ((tl6 : Int) = 0))) || ((decide (t13 = 2)) && (decide (9 < (dl : Int)))))) w22) ∧
        ((t21 = true) →
         ((t12 ≤ t8) →
          InR .i64 (3 * m)) ∧
         ((t12 ≤ t8) →
          InR .i64 ((3 * m) * t8)) ∧
         ((t12 ≤ t8) →
          InR .i64 (4 * m)) ∧
         ((t12 ≤ t8) →
          InR .i64 ((4 * m) - 1)) ∧
         ((t12 ≤ t8) →
          InR .i64 (((4 * m) - 1) * t12)) ∧
         ∀ w22, Ext w15 w22 →
         Q (.bool ((decide (t12 ≤ t8)) && (decide (((3 * m) * t8) ≤ (((4 * m) - 1) * t12))))) w22))

theorem ok_shiftbellkeep_ListLong (m : Int) (d : Option Addr) (dl : Nat) (dc : Nat) (w : World) (Q : Value → World → Prop) (h : wp_shiftbellkeep_ListLong m d dl dc w Q) : FnP Try.prog F_shiftbellkeep_ListLong #[(.int .i64 m), (.slice d dl dc)] w Q := by
  have e_ : wp_shiftbellkeep_ListLong m d dl dc w Q = Runs Try.prog Q ({ N := 61, wrap := [], pub := [], muts := [] } : Cfg) Try.f10 (Try.f10.body.getD .skip) [.sc (.int .i64 m), .sc (.slc d dl dc)] w := by kernel_rfl
  rw [e_] at h
  exact runs_fn h Try.func10 (by kernel_rfl) (fun args w => Try.call10 args w) (by kernel_rfl) (by kernel_rfl) rfl rfl

theorem open_shiftbellkeep_ListLong (W : World) (R : Array Value → Prop) (h : ∀ m : Int, InR .i64 m → ∀ d : Option Addr, ∀ dl : Nat, ∀ dc : Nat, SlcArg Try.prog W 2 d dl dc → R #[(.int .i64 m), (.slice d dl dc)]) (args : Array Value) (hg : GoodAll Try.prog W Try.f10.params.toList args.toList) : R args := by
  have e_ : (ArgsAll Try.prog W Try.f10.params.toList fun l => R l.toArray) = (∀ m : Int, InR .i64 m → ∀ d : Option Addr, ∀ dl : Nat, ∀ dc : Nat, SlcArg Try.prog W 2 d dl dc → R #[(.int .i64 m), (.slice d dl dc)]) := by kernel_rfl
  exact args_open (by rw [e_]; exact h) args hg
-- wit 10 #[(.int .i64 0), (.slice none 0 0)]

end Go.Proofs.Ytmdnjnflmijofaa
