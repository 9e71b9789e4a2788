/- The texts of this seat's functions: what each computes, as its symbolic run says it. -/
import Derived.Test.YthndjkpnllanpaaRows
import Derived.Test.YthndjkpnllanpaaSxD
import Derived.Test.YthndjkpnllanpaaSxN
set_option linter.unusedVariables false
set_option linter.unusedSimpArgs false
set_option maxRecDepth 100000
namespace Go.Proofs.Ythndjkpnllanpaa
open Go.Sx Go.RowKit

abbrev F_shiftbellkeep_ShareParts : FuncId := 6
abbrev F_shiftbellkeep_ShareEven : FuncId := 7
abbrev F_shiftbellkeep_shares : FuncId := 8
abbrev F_shiftbellkeep_sum : FuncId := 10
abbrev F_share_Level : FuncId := 11
abbrev F_share_Whole : FuncId := 12
abbrev F_share_Check : FuncId := 13
abbrev F_share_level : FuncId := 14
abbrev F_share_upTo : FuncId := 15
abbrev F_math_bits_Mul64 : FuncId := 16
abbrev F_math_bits_Div64 : FuncId := 17
abbrev F_slices_SortStableFunc_int_int : FuncId := 18
abbrev F_share_Whole_1 : FuncId := 19
abbrev F_cmp_Compare_uint64 : FuncId := 20
abbrev F_sort_Search : FuncId := 21
abbrev F_share_level_1 : FuncId := 22
abbrev F_slices_stableCmpFunc_int : FuncId := 24
abbrev F_cmp_isNaN_uint64 : FuncId := 25
abbrev F_slices_insertionSortCmpFunc_int : FuncId := 27
abbrev F_slices_symMergeCmpFunc_int : FuncId := 28
abbrev F_slices_rotateCmpFunc_int : FuncId := 29
abbrev F_slices_swapRangeCmpFunc_int : FuncId := 30
abbrev T__0 : TypeId := 0
abbrev T_int64 : TypeId := 2
abbrev T_int : TypeId := 3
abbrev T_bool : TypeId := 4
abbrev T_uint8 : TypeId := 5
abbrev T_string : TypeId := 9
abbrev T_uintptr : TypeId := 12
abbrev T_int32 : TypeId := 21
abbrev T_sl_int64 : TypeId := 22
abbrev T_Errno : TypeId := 24
abbrev T_sl_int64_Errno : TypeId := 25
abbrev T_int64_Errno : TypeId := 29
abbrev T_sl_int : TypeId := 36
abbrev T_sl_uint64 : TypeId := 37
abbrev T_uint64 : TypeId := 38
abbrev T_uint64_uint64 : TypeId := 39
abbrev T_uint : TypeId := 47
abbrev T_error : TypeId := 49
abbrev T_ptr_errors_errorString : TypeId := 55
abbrev T_uint32 : TypeId := 63
abbrev T_ptr_uint8 : TypeId := 67
abbrev T_errors_errorString : TypeId := 73
abbrev T_unsafe_Pointer : TypeId := 74
theorem elem_sl_int64 : slEl Try.prog 22 = some (2, 1, 8, (.int .i64 0)) := by kernel_rfl
theorem elem_sl_int : slEl Try.prog 36 = some (3, 1, 8, (.int .i64 0)) := by kernel_rfl
theorem elem_sl_uint64 : slEl Try.prog 37 = some (38, 1, 8, (.int .u64 0)) := by kernel_rfl

/-- shiftbell/share.Check -/
def wp_share_Check (all_v : Int) (l : Option Addr) (ll : Nat) (lc : Nat) (w : World) (Q : Value → World → Prop) : Prop :=
  (((all_v < 0) ∨ (1099511627776 < all_v)) →
   ∀ w0, Ext w w0 →
   Q (.int .i64 1) w0) ∧
  (((0 ≤ all_v) ∧ (all_v ≤ 1099511627776)) →
   ((100 < (ll : Int)) →
    ∀ w0, Ext w w0 →
    Q (.int .i64 2) w0) ∧
   (((ll : Int) ≤ 100) →
    ∃ (I0 : Int → World → Prop) (M0 : Int → World → Nat), I0 0 w ∧
    ∀ (k1 : Int) (w2 : World), I0 k1 w2 →
     (((k1 < (ll : Int)) →
      l ≠ none ∧
      (0 : Int) ≤ k1 ∧
      (k1 : Int) < (ll : Int) ∧
      ∃ t3 : Int, cell w2 (pIdx l k1 1) 0 = some (.int .i64 t3) ∧
      (((t3 < 0) ∨ (1099511627776 < t3)) →
       ∀ w4, Ext w2 w4 →
       Q (.int .i64 4) w4) ∧
      (((0 ≤ t3) ∧ (t3 ≤ 1099511627776)) →
       InR .i64 (k1 + 1) ∧
       (I0 (k1 + 1) w2 ∧ M0 (k1 + 1) w2 < M0 k1 w2)))) ∧
     (((ll : Int) ≤ k1) →
      ∀ w3, Ext w2 w3 →
      Q (.int .i64 0) w3)))

theorem ok_share_Check (all_v : Int) (l : Option Addr) (ll : Nat) (lc : Nat) (w : World) (Q : Value → World → Prop) (h : wp_share_Check all_v l ll lc w Q) : FnP Try.prog F_share_Check #[(.int .i64 all_v), (.slice l ll lc)] w Q := by
  have e_ : wp_share_Check all_v l ll lc w Q = Runs Try.prog Q ({ N := 31, wrap := [], pub := [], muts := [], joins := [] } : Cfg) Try.f13 (Try.f13.body.getD .skip) [.sc (.int .i64 all_v), .sc (.slc l ll lc)] w := by kernel_rfl
  rw [e_] at h
  exact runs_fn h Try.func13 (by kernel_rfl) (fun args w => Try.call13 args w) (by kernel_rfl) (by kernel_rfl) rfl rfl

/-- shiftbell/share.upTo -/
def wp_share_upTo (l : Option Addr) (ll : Nat) (lc : Nat) (level : Int) (w : World) (Q : Value → World → Prop) : Prop :=
  ∃ (I0 : Int → Int → World → Prop) (M0 : Int → Int → World → Nat), I0 0 0 w ∧
  ∀ (n1 : Int) (k2 : Int) (w3 : World), I0 n1 k2 w3 →
   (((k2 < (ll : Int)) →
    l ≠ none ∧
    (0 : Int) ≤ k2 ∧
    (k2 : Int) < (ll : Int) ∧
    ∃ t4 : Int, cell w3 (pIdx l k2 1) 0 = some (.int .i64 t4) ∧
    InR .i64 (n1 + (min t4 level)) ∧
    InR .i64 (k2 + 1) ∧
    (I0 (n1 + (min t4 level)) (k2 + 1) w3 ∧ M0 (n1 + (min t4 level)) (k2 + 1) w3 < M0 n1 k2 w3))) ∧
   (((ll : Int) ≤ k2) →
    ∀ w4, Ext w3 w4 →
    Q (.int .i64 n1) w4)

theorem ok_share_upTo (l : Option Addr) (ll : Nat) (lc : Nat) (level : Int) (w : World) (Q : Value → World → Prop) (h : wp_share_upTo l ll lc level w Q) : FnP Try.prog F_share_upTo #[(.slice l ll lc), (.int .i64 level)] w Q := by
  have e_ : wp_share_upTo l ll lc level w Q = Runs Try.prog Q ({ N := 21, wrap := [], pub := [], muts := [], joins := [] } : Cfg) Try.f15 (Try.f15.body.getD .skip) [.sc (.slc l ll lc), .sc (.int .i64 level)] w := by kernel_rfl
  rw [e_] at h
  exact runs_fn h Try.func15 (by kernel_rfl) (fun args w => Try.call15 args w) (by kernel_rfl) (by kernel_rfl) rfl rfl

/-- shiftbell/share.level -/
def wp_share_level (all_v : Int) (l : Option Addr) (ll : Nat) (lc : Nat) (w : World) (Q : Value → World → Prop) : Prop :=
  ∀ w0, Ext w w0 →
  New w0 2 [(.int .i64 all_v)] fun p1 w1 =>
   ∀ w2, Ext w1 w2 →
   New w2 22 [(.slice l ll lc)] fun p3 w3 =>
    ∀ w4, Ext w3 w4 →
    FnP Try.prog F_sort_Search #[(.int .i64 1099511627776), (.func (.func 22) #[] #[(.pointer p3), (.pointer p1)])] w4 fun v5 w5 =>
     Ext w4 w5 ∧
     ∃ t6 : Int, v5 = (.int .i64 t6) ∧
     ∀ w7, Ext w3 w7 →
     Q (.int .i64 t6) w7

theorem ok_share_level (all_v : Int) (l : Option Addr) (ll : Nat) (lc : Nat) (w : World) (Q : Value → World → Prop) (h : wp_share_level all_v l ll lc w Q) : FnP Try.prog F_share_level #[(.int .i64 all_v), (.slice l ll lc)] w Q := by
  have e_ : wp_share_level all_v l ll lc w Q = Runs Try.prog Q ({ N := 7, wrap := [], pub := [2, 3], muts := [], joins := [] } : Cfg) Try.f14 (Try.f14.body.getD .skip) [.sc (.int .i64 all_v), .sc (.slc l ll lc)] w := by kernel_rfl
  rw [e_] at h
  exact runs_fn h Try.func14 (by kernel_rfl) (fun args w => Try.call14 args w) (by kernel_rfl) (by kernel_rfl) rfl rfl

/-- shiftbell/share.level$1 -/
def wp_share_level_1 (n : Int) (c0 : Option Addr) (c1 : Option Addr) (w : World) (Q : Value → World → Prop) : Prop :=
  ∃ t0 : Option Addr, ∃ tl1 : Nat, ∃ tc2 : Nat, cell w c0 0 = some (.slice t0 tl1 tc2) ∧
  InR .i64 (n + 1) ∧
  ∃ t3 : Int, cell w c1 0 = some (.int .i64 t3) ∧
  ∀ w4, Ext w w4 →
  FnP Try.prog F_share_upTo #[(.slice t0 tl1 tc2), (.int .i64 (n + 1))] w4 fun v5 w5 =>
   Ext w4 w5 ∧
   ∃ t6 : Int, v5 = (.int .i64 t6) ∧
   ∀ w7, Ext w w7 →
   Q (.bool (decide (t3 < t6))) w7

theorem ok_share_level_1 (n : Int) (c0 : Option Addr) (c1 : Option Addr) (w : World) (Q : Value → World → Prop) (h : wp_share_level_1 n c0 c1 w Q) : FnP Try.prog F_share_level_1 #[(.int .i64 n), (.pointer c0), (.pointer c1)] w Q := by
  have e_ : wp_share_level_1 n c0 c1 w Q = Runs Try.prog Q ({ N := 11, wrap := [], pub := [], muts := [], joins := [] } : Cfg) Try.f22 (Try.f22.body.getD .skip) [.sc (.int .i64 n), .sc (.ptr c0), .sc (.ptr c1)] w := by kernel_rfl
  rw [e_] at h
  exact runs_fn h Try.func22 (by kernel_rfl) (fun args w => Try.call22 args w) (by kernel_rfl) (by kernel_rfl) rfl rfl

/-- sort.Search -/
def wp_sort_Search (n : Int) (f : Value) (w : World) (Q : Value → World → Prop) : Prop :=
  ∃ (I0 : Int → Int → World → Prop) (M0 : Int → Int → World → Nat), I0 0 n w ∧
  ∀ (i1 : Int) (j2 : Int) (w3 : World), I0 i1 j2 w3 →
   (((i1 < j2) →
    InR .i64 (i1 + j2) ∧
    InR .u64 (i1 + j2) ∧
    InR .i64 (iBit .shr .u64 (i1 + j2) 1) ∧
    ∀ w4, Ext w3 w4 →
    FnVP Try.prog f [(.int .i64 (iBit .shr .u64 (i1 + j2) 1))] w4 fun v5 w5 =>
     Ext w4 w5 ∧
     ∃ t6 : Bool, v5 = (.bool t6) ∧
     (((t6 = false) →
      InR .i64 ((iBit .shr .u64 (i1 + j2) 1) + 1) ∧
      (I0 ((iBit .shr .u64 (i1 + j2) 1) + 1) j2 w3 ∧ M0 ((iBit .shr .u64 (i1 + j2) 1) + 1) j2 w3 < M0 i1 j2 w3))) ∧
     ((t6 = true) →
      (I0 i1 (iBit .shr .u64 (i1 + j2) 1) w3 ∧ M0 i1 (iBit .shr .u64 (i1 + j2) 1) w3 < M0 i1 j2 w3)))) ∧
   ((j2 ≤ i1) →
    ∀ w4, Ext w3 w4 →
    Q (.int .i64 i1) w4)

theorem ok_sort_Search (n : Int) (f : Value) (w : World) (Q : Value → World → Prop) (h : wp_sort_Search n f w Q) : FnP Try.prog F_sort_Search #[(.int .i64 n), f] w Q := by
  have e_ : wp_sort_Search n f w Q = Runs Try.prog Q ({ N := 26, wrap := [], pub := [], muts := [], joins := [] } : Cfg) Try.f21 (Try.f21.body.getD .skip) [.sc (.int .i64 n), .sc (.val f)] w := by kernel_rfl
  rw [e_] at h
  exact runs_fn h Try.func21 (by kernel_rfl) (fun args w => Try.call21 args w) (by kernel_rfl) (by kernel_rfl) rfl rfl

/-- shiftbell/share.Level -/
def wp_share_Level (all_v : Int) (l : Option Addr) (ll : Nat) (lc : Nat) (w : World) (Q : Value → World → Prop) : Prop :=
  ∀ w0, Ext w w0 →
  FnP Try.prog F_share_Check #[(.int .i64 all_v), (.slice l ll lc)] w0 fun v1 w1 =>
   Ext w0 w1 ∧
   ∃ t2 : Int, v1 = (.int .i64 t2) ∧
   ((t2 ≠ 0) →
    ∀ w3, Ext w w3 →
    Q (.tuple #[(.int .i64 0), (.int .i64 t2)]) w3) ∧
   ((t2 = 0) →
    ∀ w3, Ext w w3 →
    FnP Try.prog F_share_level #[(.int .i64 all_v), (.slice l ll lc)] w3 fun v4 w4 =>
     Ext w3 w4 ∧
     ∃ t5 : Int, v4 = (.int .i64 t5) ∧
     ∀ w6, Ext w w6 →
     Q (.tuple #[(.int .i64 t5), (.int .i64 0)]) w6)

theorem ok_share_Level (all_v : Int) (l : Option Addr) (ll : Nat) (lc : Nat) (w : World) (Q : Value → World → Prop) (h : wp_share_Level all_v l ll lc w Q) : FnP Try.prog F_share_Level #[(.int .i64 all_v), (.slice l ll lc)] w Q := by
  have e_ : wp_share_Level all_v l ll lc w Q = Runs Try.prog Q ({ N := 16, wrap := [], pub := [], muts := [], joins := [] } : Cfg) Try.f11 (Try.f11.body.getD .skip) [.sc (.int .i64 all_v), .sc (.slc l ll lc)] w := by kernel_rfl
  rw [e_] at h
  exact runs_fn h Try.func11 (by kernel_rfl) (fun args w => Try.call11 args w) (by kernel_rfl) (by kernel_rfl) rfl rfl

/-- shiftbell/shiftbellkeep.sum -/
def wp_shiftbellkeep_sum (l : Option Addr) (ll : Nat) (lc : Nat) (w : World) (Q : Value → World → Prop) : Prop :=
  ∃ (I0 : Int → Int → World → Prop) (M0 : Int → Int → World → Nat), I0 0 0 w ∧
  ∀ (n1 : Int) (k2 : Int) (w3 : World), I0 n1 k2 w3 →
   (((k2 < (ll : Int)) →
    l ≠ none ∧
    (0 : Int) ≤ k2 ∧
    (k2 : Int) < (ll : Int) ∧
    ∃ t4 : Int, cell w3 (pIdx l k2 1) 0 = some (.int .i64 t4) ∧
    InR .i64 (n1 + t4) ∧
    InR .i64 (k2 + 1) ∧
    (I0 (n1 + t4) (k2 + 1) w3 ∧ M0 (n1 + t4) (k2 + 1) w3 < M0 n1 k2 w3))) ∧
   (((ll : Int) ≤ k2) →
    ∀ w4, Ext w3 w4 →
    Q (.int .i64 n1) w4)

theorem ok_shiftbellkeep_sum (l : Option Addr) (ll : Nat) (lc : Nat) (w : World) (Q : Value → World → Prop) (h : wp_shiftbellkeep_sum l ll lc w Q) : FnP Try.prog F_shiftbellkeep_sum #[(.slice l ll lc)] w Q := by
  have e_ : wp_shiftbellkeep_sum l ll lc w Q = Runs Try.prog Q ({ N := 17, wrap := [], pub := [], muts := [], joins := [] } : Cfg) Try.f10 (Try.f10.body.getD .skip) [.sc (.slc l ll lc)] w := by kernel_rfl
  rw [e_] at h
  exact runs_fn h Try.func10 (by kernel_rfl) (fun args w => Try.call10 args w) (by kernel_rfl) (by kernel_rfl) rfl rfl

/-- shiftbell/shiftbellkeep.shares -/
def wp_shiftbellkeep_shares  (w : World) (Q : Value → World → Prop) : Prop :=
  ∀ w0, Ext w w0 →
  Run Try.prog (.buildSlice 22 2 [(0, (.int .i64 3)), (1, (.int .i64 9))]) w0 fun v1 w1 =>
   Ext w0 w1 ∧
   ∃ t2 : Option Addr, ∃ tl3 : Nat, ∃ tc4 : Nat, v1 = (.slice t2 tl3 tc4) ∧
   ∀ w5, Ext w1 w5 →
   FnP Try.prog F_share_Level #[(.int .i64 10), (.slice t2 tl3 tc4)] w5 fun v6 w6 =>
    Ext w5 w6 ∧
    ∃ t7 : Int, ∃ t8 : Int, v6 = (.tuple #[(.int .i64 t7), (.int .i64 t8)]) ∧
    ∀ w9, Ext w1 w9 →
    Q (.bool ((decide (t8 = 0)) && (decide (t7 = 7)))) w9

theorem ok_shiftbellkeep_shares  (w : World) (Q : Value → World → Prop) (h : wp_shiftbellkeep_shares  w Q) : FnP Try.prog F_shiftbellkeep_shares #[] w Q := by
  have e_ : wp_shiftbellkeep_shares  w Q = Runs Try.prog Q ({ N := 14, wrap := [], pub := [], muts := [], joins := [] } : Cfg) Try.f8 (Try.f8.body.getD .skip) [] w := by kernel_rfl
  rw [e_] at h
  exact runs_fn h Try.func8 (by kernel_rfl) (fun args w => Try.call8 args w) (by kernel_rfl) (by kernel_rfl) rfl rfl

/-- shiftbell/share.Whole -/
def wp_share_Whole (all_v : Int) (w_v : Option Addr) (w_vl : Nat) (w_vc : Nat) (w : World) (Q : Value → World → Prop) : Prop :=
  ∀ w0, Ext w w0 →
  FnP Try.prog F_share_Check #[(.int .i64 all_v), (.slice w_v w_vl w_vc)] w0 fun v1 w1 =>
   Ext w0 w1 ∧
   ∃ t2 : Int, v1 = (.int .i64 t2) ∧
   ((t2 ≠ 0) →
    ∀ w3, Ext w w3 →
    Q (.tuple #[(.slice none 0 0), (.int .i64 t2)]) w3) ∧
   ((t2 = 0) →
    ∃ (I3 : Int → Int → World → Prop) (M3 : Int → Int → World → Nat), I3 0 0 w ∧
    ∀ (sum4 : Int) (k5 : Int) (w6 : World), I3 sum4 k5 w6 →
     (((k5 < (w_vl : Int)) →
      w_v ≠ none ∧
      (0 : Int) ≤ k5 ∧
      (k5 : Int) < (w_vl : Int) ∧
      ∃ t7 : Int, cell w6 (pIdx w_v k5 1) 0 = some (.int .i64 t7) ∧
      InR .i64 (sum4 + t7) ∧
      InR .i64 (k5 + 1) ∧
      (I3 (sum4 + t7) (k5 + 1) w6 ∧ M3 (sum4 + t7) (k5 + 1) w6 < M3 sum4 k5 w6))) ∧
     (((w_vl : Int) ≤ k5) →
      ((sum4 = 0) →
       ∀ w7, Ext w6 w7 →
       Q (.tuple #[(.slice none 0 0), (.int .i64 5)]) w7) ∧
      ((sum4 ≠ 0) →
       ((1000000000 < sum4) →
        ∀ w7, Ext w6 w7 →
        Q (.tuple #[(.slice none 0 0), (.int .i64 2)]) w7) ∧
       ((sum4 ≤ 1000000000) →
        ∀ w7, Ext w6 w7 →
        New w7 37 [(.slice none 0 0)] fun p8 w8 =>
         ∃ (I9 : Option Addr → Nat → Nat → Option Addr → Nat → Nat → Int → Int → World → Prop) (M9 : Option Addr → Nat → Nat → Option Addr → Nat → Nat → Int → Int → World → Nat), I9 none 0 0 none 0 0 all_v 0 w8 ∧
         ∀ (row10 : Option Addr) (rowl10 : Nat) (rowc10 : Nat) (out11 : Option Addr) (outl11 : Nat) (outc11 : Nat) (left12 : Int) (k13 : Int) (w14 : World), I9 row10 rowl10 rowc10 out11 outl11 outc11 left12 k13 w14 →
          (((k13 < (w_vl : Int)) →
           w_v ≠ none ∧
           (0 : Int) ≤ k13 ∧
           (k13 : Int) < (w_vl : Int) ∧
           ∃ t15 : Int, cell w14 (pIdx w_v k13 1) 0 = some (.int .i64 t15) ∧
           InR .u64 all_v ∧
           InR .u64 t15 ∧
           ∀ w16, Ext w14 w16 →
           FnP Try.prog F_math_bits_Mul64 #[(.int .u64 all_v), (.int .u64 t15)] w16 fun v17 w17 =>
            Ext w16 w17 ∧
            ∃ t18 : Int, ∃ t19 : Int, v17 = (.tuple #[(.int .u64 t18), (.int .u64 t19)]) ∧
            InR .u64 sum4 ∧
            ∀ w20, Ext w14 w20 →
            FnP Try.prog F_math_bits_Div64 #[(.int .u64 t18), (.int .u64 t19), (.int .u64 sum4)] w20 fun v21 w21 =>
             Ext w20 w21 ∧
             ∃ t22 : Int, ∃ t23 : Int, v21 = (.tuple #[(.int .u64 t22), (.int .u64 t23)]) ∧
             ∃ (J24 : Option Addr → Nat → Nat → Option Addr → Nat → Nat → World → Prop), (InR .i64 t22 ∧
              (∀ w28, Ext w14 w28 →
              Run Try.prog (.buildSlice 36 1 [(0, (.int .i64 k13))]) w28 fun v29 w29 =>
               Ext w28 w29 ∧
               ∃ t30 : Option Addr, ∃ tl31 : Nat, ∃ tc32 : Nat, v29 = (.slice t30 tl31 tc32) ∧
               (∀ w33, Ext w29 w33 →
               Run Try.prog (.append #[36, 36] 36 [(.slice row10 rowl10 rowc10), (.slice t30 tl31 tc32)]) w33 fun v34 w34 =>
                ∃ t35 : Option Addr, ∃ tl36 : Nat, ∃ tc37 : Nat, v34 = (.slice t35 tl36 tc37) ∧
                ∃ t38 : Option Addr, ∃ tl39 : Nat, ∃ tc40 : Nat, cell w34 p8 0 = some (.slice t38 tl39 tc40) ∧
                (∀ w41, Ext w34 w41 →
                Run Try.prog (.buildSlice 37 1 [(0, (.int .u64 t23))]) w41 fun v42 w42 =>
                 Ext w41 w42 ∧
                 ∃ t43 : Option Addr, ∃ tl44 : Nat, ∃ tc45 : Nat, v42 = (.slice t43 tl44 tc45) ∧
                 (∀ w46, Ext w42 w46 →
                 Run Try.prog (.append #[37, 37] 37 [(.slice t38 tl39 tc40), (.slice t43 tl44 tc45)]) w46 fun v47 w47 =>
                  ∃ t48 : Option Addr, ∃ tl49 : Nat, ∃ tc50 : Nat, v47 = (.slice t48 tl49 tc50) ∧
                  ∀ w51, Ext w47 w51 →
                  Run Try.prog (.buildSlice 22 1 [(0, (.int .i64 t22))]) w51 fun v52 w52 =>
                   Ext w51 w52 ∧
                   ∃ t53 : Option Addr, ∃ tl54 : Nat, ∃ tc55 : Nat, v52 = (.slice t53 tl54 tc55) ∧
                   ∀ w56, Ext w52 w56 →
                   Run Try.prog (.append #[22, 22] 22 [(.slice out11 outl11 outc11), (.slice t53 tl54 tc55)]) w56 fun v57 w57 =>
                    ∃ t58 : Option Addr, ∃ tl59 : Nat, ∃ tc60 : Nat, v57 = (.slice t58 tl59 tc60) ∧
                    Store w57 p8 [(.slice t48 tl49 tc50)] [] fun w61 =>
                     J24 t35 tl36 tc37 t58 tl59 tc60 w61) ∧
                 ∀ w46, Ext w42 w46 →
                 Run Try.prog (.buildSlice 22 1 [(0, (.int .i64 t22))]) w46 fun v47 w47 =>
                  Ext w46 w47 ∧
                  ∃ t48 : Option Addr, ∃ tl49 : Nat, ∃ tc50 : Nat, v47 = (.slice t48 tl49 tc50) ∧
                  ∀ w51, Ext w47 w51 →
                  Run Try.prog (.append #[37, 37] 37 [(.slice t38 tl39 tc40), (.slice t43 tl44 tc45)]) w51 fun v52 w52 =>
                   ∃ t53 : Option Addr, ∃ tl54 : Nat, ∃ tc55 : Nat, v52 = (.slice t53 tl54 tc55) ∧
                   ∀ w56, Ext w52 w56 →
                   Run Try.prog (.append #[22, 22] 22 [(.slice out11 outl11 outc11), (.slice t48 tl49 tc50)]) w56 fun v57 w57 =>
                    ∃ t58 : Option Addr, ∃ tl59 : Nat, ∃ tc60 : Nat, v57 = (.slice t58 tl59 tc60) ∧
                    Store w57 p8 [(.slice t53 tl54 tc55)] [] fun w61 =>
                     J24 t35 tl36 tc37 t58 tl59 tc60 w61) ∧
                ∀ w41, Ext w34 w41 →
                Run Try.prog (.buildSlice 22 1 [(0, (.int .i64 t22))]) w41 fun v42 w42 =>
                 Ext w41 w42 ∧
                 ∃ t43 : Option Addr, ∃ tl44 : Nat, ∃ tc45 : Nat, v42 = (.slice t43 tl44 tc45) ∧
                 ∀ w46, Ext w42 w46 →
                 Run Try.prog (.buildSlice 37 1 [(0, (.int .u64 t23))]) w46 fun v47 w47 =>
                  Ext w46 w47 ∧
                  ∃ t48 : Option Addr, ∃ tl49 : Nat, ∃ tc50 : Nat, v47 = (.slice t48 tl49 tc50) ∧
                  ∀ w51, Ext w47 w51 →
                  Run Try.prog (.append #[37, 37] 37 [(.slice t38 tl39 tc40), (.slice t48 tl49 tc50)]) w51 fun v52 w52 =>
                   ∃ t53 : Option Addr, ∃ tl54 : Nat, ∃ tc55 : Nat, v52 = (.slice t53 tl54 tc55) ∧
                   ∀ w56, Ext w52 w56 →
                   Run Try.prog (.append #[22, 22] 22 [(.slice out11 outl11 outc11), (.slice t43 tl44 tc45)]) w56 fun v57 w57 =>
                    ∃ t58 : Option Addr, ∃ tl59 : Nat, ∃ tc60 : Nat, v57 = (.slice t58 tl59 tc60) ∧
                    Store w57 p8 [(.slice t53 tl54 tc55)] [] fun w61 =>
                     J24 t35 tl36 tc37 t58 tl59 tc60 w61) ∧
               (∃ t33 : Option Addr, ∃ tl34 : Nat, ∃ tc35 : Nat, cell w29 p8 0 = some (.slice t33 tl34 tc35) ∧
               (∀ w36, Ext w29 w36 →
               Run Try.prog (.append #[36, 36] 36 [(.slice row10 rowl10 rowc10), (.slice t30 tl31 tc32)]) w36 fun v37 w37 =>
                ∃ t38 : Option Addr, ∃ tl39 : Nat, ∃ tc40 : Nat, v37 = (.slice t38 tl39 tc40) ∧
                (∀ w41, Ext w37 w41 →
                Run Try.prog (.buildSlice 37 1 [(0, (.int .u64 t23))]) w41 fun v42 w42 =>
                 Ext w41 w42 ∧
                 ∃ t43 : Option Addr, ∃ tl44 : Nat, ∃ tc45 : Nat, v42 = (.slice t43 tl44 tc45) ∧
                 (∀ w46, Ext w42 w46 →
                 Run Try.prog (.append #[37, 37] 37 [(.slice t33 tl34 tc35), (.slice t43 tl44 tc45)]) w46 fun v47 w47 =>
                  ∃ t48 : Option Addr, ∃ tl49 : Nat, ∃ tc50 : Nat, v47 = (.slice t48 tl49 tc50) ∧
                  ∀ w51, Ext w47 w51 →
                  Run Try.prog (.buildSlice 22 1 [(0, (.int .i64 t22))]) w51 fun v52 w52 =>
                   Ext w51 w52 ∧
                   ∃ t53 : Option Addr, ∃ tl54 : Nat, ∃ tc55 : Nat, v52 = (.slice t53 tl54 tc55) ∧
                   ∀ w56, Ext w52 w56 →
                   Run Try.prog (.append #[22, 22] 22 [(.slice out11 outl11 outc11), (.slice t53 tl54 tc55)]) w56 fun v57 w57 =>
                    ∃ t58 : Option Addr, ∃ tl59 : Nat, ∃ tc60 : Nat, v57 = (.slice t58 tl59 tc60) ∧
                    Store w57 p8 [(.slice t48 tl49 tc50)] [] fun w61 =>
                     J24 t38 tl39 tc40 t58 tl59 tc60 w61) ∧
                 ∀ w46, Ext w42 w46 →
                 Run Try.prog (.buildSlice 22 1 [(0, (.int .i64 t22))]) w46 fun v47 w47 =>
                  Ext w46 w47 ∧
                  ∃ t48 : Option Addr, ∃ tl49 : Nat, ∃ tc50 : Nat, v47 = (.slice t48 tl49 tc50) ∧
                  ∀ w51, Ext w47 w51 →
                  Run Try.prog (.append #[37, 37] 37 [(.slice t33 tl34 tc35), (.slice t43 tl44 tc45)]) w51 fun v52 w52 =>
                   ∃ t53 : Option Addr, ∃ tl54 : Nat, ∃ tc55 : Nat, v52 = (.slice t53 tl54 tc55) ∧
                   ∀ w56, Ext w52 w56 →
                   Run Try.prog (.append #[22, 22] 22 [(.slice out11 outl11 outc11), (.slice t48 tl49 tc50)]) w56 fun v57 w57 =>
                    ∃ t58 : Option Addr, ∃ tl59 : Nat, ∃ tc60 : Nat, v57 = (.slice t58 tl59 tc60) ∧
                    Store w57 p8 [(.slice t53 tl54 tc55)] [] fun w61 =>
                     J24 t38 tl39 tc40 t58 tl59 tc60 w61) ∧
                ∀ w41, Ext w37 w41 →
                Run Try.prog (.buildSlice 22 1 [(0, (.int .i64 t22))]) w41 fun v42 w42 =>
                 Ext w41 w42 ∧
                 ∃ t43 : Option Addr, ∃ tl44 : Nat, ∃ tc45 : Nat, v42 = (.slice t43 tl44 tc45) ∧
                 ∀ w46, Ext w42 w46 →
                 Run Try.prog (.buildSlice 37 1 [(0, (.int .u64 t23))]) w46 fun v47 w47 =>
                  Ext w46 w47 ∧
                  ∃ t48 : Option Addr, ∃ tl49 : Nat, ∃ tc50 : Nat, v47 = (.slice t48 tl49 tc50) ∧
                  ∀ w51, Ext w47 w51 →
                  Run Try.prog (.append #[37, 37] 37 [(.slice t33 tl34 tc35), (.slice t48 tl49 tc50)]) w51 fun v52 w52 =>
                   ∃ t53 : Option Addr, ∃ tl54 : Nat, ∃ tc55 : Nat, v52 = (.slice t53 tl54 tc55) ∧
                   ∀ w56, Ext w52 w56 →
                   Run Try.prog (.append #[22, 22] 22 [(.slice out11 outl11 outc11), (.slice t43 tl44 tc45)]) w56 fun v57 w57 =>
                    ∃ t58 : Option Addr, ∃ tl59 : Nat, ∃ tc60 : Nat, v57 = (.slice t58 tl59 tc60) ∧
                    Store w57 p8 [(.slice t53 tl54 tc55)] [] fun w61 =>
                     J24 t38 tl39 tc40 t58 tl59 tc60 w61) ∧
               (∀ w36, Ext w29 w36 →
               Run Try.prog (.buildSlice 37 1 [(0, (.int .u64 t23))]) w36 fun v37 w37 =>
                Ext w36 w37 ∧
                ∃ t38 : Option Addr, ∃ tl39 : Nat, ∃ tc40 : Nat, v37 = (.slice t38 tl39 tc40) ∧
                (∀ w41, Ext w37 w41 →
                Run Try.prog (.append #[36, 36] 36 [(.slice row10 rowl10 rowc10), (.slice t30 tl31 tc32)]) w41 fun v42 w42 =>
                 ∃ t43 : Option Addr, ∃ tl44 : Nat, ∃ tc45 : Nat, v42 = (.slice t43 tl44 tc45) ∧
                 (∀ w46, Ext w42 w46 →
                 Run Try.prog (.append #[37, 37] 37 [(.slice t33 tl34 tc35), (.slice t38 tl39 tc40)]) w46 fun v47 w47 =>
                  ∃ t48 : Option Addr, ∃ tl49 : Nat, ∃ tc50 : Nat, v47 = (.slice t48 tl49 tc50) ∧
                  ∀ w51, Ext w47 w51 →
                  Run Try.prog (.buildSlice 22 1 [(0, (.int .i64 t22))]) w51 fun v52 w52 =>
                   Ext w51 w52 ∧
                   ∃ t53 : Option Addr, ∃ tl54 : Nat, ∃ tc55 : Nat, v52 = (.slice t53 tl54 tc55) ∧
                   ∀ w56, Ext w52 w56 →
                   Run Try.prog (.append #[22, 22] 22 [(.slice out11 outl11 outc11), (.slice t53 tl54 tc55)]) w56 fun v57 w57 =>
                    ∃ t58 : Option Addr, ∃ tl59 : Nat, ∃ tc60 : Nat, v57 = (.slice t58 tl59 tc60) ∧
                    Store w57 p8 [(.slice t48 tl49 tc50)] [] fun w61 =>
                     J24 t43 tl44 tc45 t58 tl59 tc60 w61) ∧
                 ∀ w46, Ext w42 w46 →
                 Run Try.prog (.buildSlice 22 1 [(0, (.int .i64 t22))]) w46 fun v47 w47 =>
                  Ext w46 w47 ∧
                  ∃ t48 : Option Addr, ∃ tl49 : Nat, ∃ tc50 : Nat, v47 = (.slice t48 tl49 tc50) ∧
                  ∀ w51, Ext w47 w51 →
                  Run Try.prog (.append #[37, 37] 37 [(.slice t33 tl34 tc35), (.slice t38 tl39 tc40)]) w51 fun v52 w52 =>
                   ∃ t53 : Option Addr, ∃ tl54 : Nat, ∃ tc55 : Nat, v52 = (.slice t53 tl54 tc55) ∧
                   ∀ w56, Ext w52 w56 →
                   Run Try.prog (.append #[22, 22] 22 [(.slice out11 outl11 outc11), (.slice t48 tl49 tc50)]) w56 fun v57 w57 =>
                    ∃ t58 : Option Addr, ∃ tl59 : Nat, ∃ tc60 : Nat, v57 = (.slice t58 tl59 tc60) ∧
                    Store w57 p8 [(.slice t53 tl54 tc55)] [] fun w61 =>
                     J24 t43 tl44 tc45 t58 tl59 tc60 w61) ∧
                ∀ w41, Ext w37 w41 →
                Run Try.prog (.buildSlice 22 1 [(0, (.int .i64 t22))]) w41 fun v42 w42 =>
                 Ext w41 w42 ∧
                 ∃ t43 : Option Addr, ∃ tl44 : Nat, ∃ tc45 : Nat, v42 = (.slice t43 tl44 tc45) ∧
                 ∀ w46, Ext w42 w46 →
                 Run Try.prog (.append #[36, 36] 36 [(.slice row10 rowl10 rowc10), (.slice t30 tl31 tc32)]) w46 fun v47 w47 =>
                  ∃ t48 : Option Addr, ∃ tl49 : Nat, ∃ tc50 : Nat, v47 = (.slice t48 tl49 tc50) ∧
                  ∀ w51, Ext w47 w51 →
                  Run Try.prog (.append #[37, 37] 37 [(.slice t33 tl34 tc35), (.slice t38 tl39 tc40)]) w51 fun v52 w52 =>
                   ∃ t53 : Option Addr, ∃ tl54 : Nat, ∃ tc55 : Nat, v52 = (.slice t53 tl54 tc55) ∧
                   ∀ w56, Ext w52 w56 →
                   Run Try.prog (.append #[22, 22] 22 [(.slice out11 outl11 outc11), (.slice t43 tl44 tc45)]) w56 fun v57 w57 =>
                    ∃ t58 : Option Addr, ∃ tl59 : Nat, ∃ tc60 : Nat, v57 = (.slice t58 tl59 tc60) ∧
                    Store w57 p8 [(.slice t53 tl54 tc55)] [] fun w61 =>
                     J24 t48 tl49 tc50 t58 tl59 tc60 w61) ∧
               ∀ w36, Ext w29 w36 →
               Run Try.prog (.buildSlice 22 1 [(0, (.int .i64 t22))]) w36 fun v37 w37 =>
                Ext w36 w37 ∧
                ∃ t38 : Option Addr, ∃ tl39 : Nat, ∃ tc40 : Nat, v37 = (.slice t38 tl39 tc40) ∧
                (∀ w41, Ext w37 w41 →
                Run Try.prog (.append #[36, 36] 36 [(.slice row10 rowl10 rowc10), (.slice t30 tl31 tc32)]) w41 fun v42 w42 =>
                 ∃ t43 : Option Addr, ∃ tl44 : Nat, ∃ tc45 : Nat, v42 = (.slice t43 tl44 tc45) ∧
                 ∀ w46, Ext w42 w46 →
                 Run Try.prog (.buildSlice 37 1 [(0, (.int .u64 t23))]) w46 fun v47 w47 =>
                  Ext w46 w47 ∧
                  ∃ t48 : Option Addr, ∃ tl49 : Nat, ∃ tc50 : Nat, v47 = (.slice t48 tl49 tc50) ∧
                  ∀ w51, Ext w47 w51 →
                  Run Try.prog (.append #[37, 37] 37 [(.slice t33 tl34 tc35), (.slice t48 tl49 tc50)]) w51 fun v52 w52 =>
                   ∃ t53 : Option Addr, ∃ tl54 : Nat, ∃ tc55 : Nat, v52 = (.slice t53 tl54 tc55) ∧
                   ∀ w56, Ext w52 w56 →
                   Run Try.prog (.append #[22, 22] 22 [(.slice out11 outl11 outc11), (.slice t38 tl39 tc40)]) w56 fun v57 w57 =>
                    ∃ t58 : Option Addr, ∃ tl59 : Nat, ∃ tc60 : Nat, v57 = (.slice t58 tl59 tc60) ∧
                    Store w57 p8 [(.slice t53 tl54 tc55)] [] fun w61 =>
                     J24 t43 tl44 tc45 t58 tl59 tc60 w61) ∧
                ∀ w41, Ext w37 w41 →
                Run Try.prog (.buildSlice 37 1 [(0, (.int .u64 t23))]) w41 fun v42 w42 =>
                 Ext w41 w42 ∧
                 ∃ t43 : Option Addr, ∃ tl44 : Nat, ∃ tc45 : Nat, v42 = (.slice t43 tl44 tc45) ∧
                 ∀ w46, Ext w42 w46 →
                 Run Try.prog (.append #[36, 36] 36 [(.slice row10 rowl10 rowc10), (.slice t30 tl31 tc32)]) w46 fun v47 w47 =>
                  ∃ t48 : Option Addr, ∃ tl49 : Nat, ∃ tc50 : Nat, v47 = (.slice t48 tl49 tc50) ∧
                  ∀ w51, Ext w47 w51 →
                  Run Try.prog (.append #[37, 37] 37 [(.slice t33 tl34 tc35), (.slice t43 tl44 tc45)]) w51 fun v52 w52 =>
                   ∃ t53 : Option Addr, ∃ tl54 : Nat, ∃ tc55 : Nat, v52 = (.slice t53 tl54 tc55) ∧
                   ∀ w56, Ext w52 w56 →
                   Run Try.prog (.append #[22, 22] 22 [(.slice out11 outl11 outc11), (.slice t38 tl39 tc40)]) w56 fun v57 w57 =>
                    ∃ t58 : Option Addr, ∃ tl59 : Nat, ∃ tc60 : Nat, v57 = (.slice t58 tl59 tc60) ∧
                    Store w57 p8 [(.slice t53 tl54 tc55)] [] fun w61 =>
                     J24 t48 tl49 tc50 t58 tl59 tc60 w61) ∧
               (∀ w33, Ext w29 w33 →
               Run Try.prog (.buildSlice 37 1 [(0, (.int .u64 t23))]) w33 fun v34 w34 =>
                Ext w33 w34 ∧
                ∃ t35 : Option Addr, ∃ tl36 : Nat, ∃ tc37 : Nat, v34 = (.slice t35 tl36 tc37) ∧
                (∀ w38, Ext w34 w38 →
                Run Try.prog (.append #[36, 36] 36 [(.slice row10 rowl10 rowc10), (.slice t30 tl31 tc32)]) w38 fun v39 w39 =>
                 ∃ t40 : Option Addr, ∃ tl41 : Nat, ∃ tc42 : Nat, v39 = (.slice t40 tl41 tc42) ∧
                 ∃ t43 : Option Addr, ∃ tl44 : Nat, ∃ tc45 : Nat, cell w39 p8 0 = some (.slice t43 tl44 tc45) ∧
                 (∀ w46, Ext w39 w46 →
                 Run Try.prog (.append #[37, 37] 37 [(.slice t43 tl44 tc45), (.slice t35 tl36 tc37)]) w46 fun v47 w47 =>
                  ∃ t48 : Option Addr, ∃ tl49 : Nat, ∃ tc50 : Nat, v47 = (.slice t48 tl49 tc50) ∧
                  ∀ w51, Ext w47 w51 →
                  Run Try.prog (.buildSlice 22 1 [(0, (.int .i64 t22))]) w51 fun v52 w52 =>
                   Ext w51 w52 ∧
                   ∃ t53 : Option Addr, ∃ tl54 : Nat, ∃ tc55 : Nat, v52 = (.slice t53 tl54 tc55) ∧
                   ∀ w56, Ext w52 w56 →
                   Run Try.prog (.append #[22, 22] 22 [(.slice out11 outl11 outc11), (.slice t53 tl54 tc55)]) w56 fun v57 w57 =>
                    ∃ t58 : Option Addr, ∃ tl59 : Nat, ∃ tc60 : Nat, v57 = (.slice t58 tl59 tc60) ∧
                    Store w57 p8 [(.slice t48 tl49 tc50)] [] fun w61 =>
                     J24 t40 tl41 tc42 t58 tl59 tc60 w61) ∧
                 ∀ w46, Ext w39 w46 →
                 Run Try.prog (.buildSlice 22 1 [(0, (.int .i64 t22))]) w46 fun v47 w47 =>
                  Ext w46 w47 ∧
                  ∃ t48 : Option Addr, ∃ tl49 : Nat, ∃ tc50 : Nat, v47 = (.slice t48 tl49 tc50) ∧
                  ∀ w51, Ext w47 w51 →
                  Run Try.prog (.append #[37, 37] 37 [(.slice t43 tl44 tc45), (.slice t35 tl36 tc37)]) w51 fun v52 w52 =>
                   ∃ t53 : Option Addr, ∃ tl54 : Nat, ∃ tc55 : Nat, v52 = (.slice t53 tl54 tc55) ∧
                   ∀ w56, Ext w52 w56 →
                   Run Try.prog (.append #[22, 22] 22 [(.slice out11 outl11 outc11), (.slice t48 tl49 tc50)]) w56 fun v57 w57 =>
                    ∃ t58 : Option Addr, ∃ tl59 : Nat, ∃ tc60 : Nat, v57 = (.slice t58 tl59 tc60) ∧
                    Store w57 p8 [(.slice t53 tl54 tc55)] [] fun w61 =>
                     J24 t40 tl41 tc42 t58 tl59 tc60 w61) ∧
                (∃ t38 : Option Addr, ∃ tl39 : Nat, ∃ tc40 : Nat, cell w34 p8 0 = some (.slice t38 tl39 tc40) ∧
                (∀ w41, Ext w34 w41 →
                Run Try.prog (.append #[36, 36] 36 [(.slice row10 rowl10 rowc10), (.slice t30 tl31 tc32)]) w41 fun v42 w42 =>
                 ∃ t43 : Option Addr, ∃ tl44 : Nat, ∃ tc45 : Nat, v42 = (.slice t43 tl44 tc45) ∧
                 (∀ w46, Ext w42 w46 →
                 Run Try.prog (.append #[37, 37] 37 [(.slice t38 tl39 tc40), (.slice t35 tl36 tc37)]) w46 fun v47 w47 =>
                  ∃ t48 : Option Addr, ∃ tl49 : Nat, ∃ tc50 : Nat, v47 = (.slice t48 tl49 tc50) ∧
                  ∀ w51, Ext w47 w51 →
                  Run Try.prog (.buildSlice 22 1 [(0, (.int .i64 t22))]) w51 fun v52 w52 =>
                   Ext w51 w52 ∧
                   ∃ t53 : Option Addr, ∃ tl54 : Nat, ∃ tc55 : Nat, v52 = (.slice t53 tl54 tc55) ∧
                   ∀ w56, Ext w52 w56 →
                   Run Try.prog (.append #[22, 22] 22 [(.slice out11 outl11 outc11), (.slice t53 tl54 tc55)]) w56 fun v57 w57 =>
                    ∃ t58 : Option Addr, ∃ tl59 : Nat, ∃ tc60 : Nat, v57 = (.slice t58 tl59 tc60) ∧
                    Store w57 p8 [(.slice t48 tl49 tc50)] [] fun w61 =>
                     J24 t43 tl44 tc45 t58 tl59 tc60 w61) ∧
                 ∀ w46, Ext w42 w46 →
                 Run Try.prog (.buildSlice 22 1 [(0, (.int .i64 t22))]) w46 fun v47 w47 =>
                  Ext w46 w47 ∧
                  ∃ t48 : Option Addr, ∃ tl49 : Nat, ∃ tc50 : Nat, v47 = (.slice t48 tl49 tc50) ∧
                  ∀ w51, Ext w47 w51 →
                  Run Try.prog (.append #[37, 37] 37 [(.slice t38 tl39 tc40), (.slice t35 tl36 tc37)]) w51 fun v52 w52 =>
                   ∃ t53 : Option Addr, ∃ tl54 : Nat, ∃ tc55 : Nat, v52 = (.slice t53 tl54 tc55) ∧
                   ∀ w56, Ext w52 w56 →
                   Run Try.prog (.append #[22, 22] 22 [(.slice out11 outl11 outc11), (.slice t48 tl49 tc50)]) w56 fun v57 w57 =>
                    ∃ t58 : Option Addr, ∃ tl59 : Nat, ∃ tc60 : Nat, v57 = (.slice t58 tl59 tc60) ∧
                    Store w57 p8 [(.slice t53 tl54 tc55)] [] fun w61 =>
                     J24 t43 tl44 tc45 t58 tl59 tc60 w61) ∧
                ∀ w41, Ext w34 w41 →
                Run Try.prog (.buildSlice 22 1 [(0, (.int .i64 t22))]) w41 fun v42 w42 =>
                 Ext w41 w42 ∧
                 ∃ t43 : Option Addr, ∃ tl44 : Nat, ∃ tc45 : Nat, v42 = (.slice t43 tl44 tc45) ∧
                 ∀ w46, Ext w42 w46 →
                 Run Try.prog (.append #[36, 36] 36 [(.slice row10 rowl10 rowc10), (.slice t30 tl31 tc32)]) w46 fun v47 w47 =>
                  ∃ t48 : Option Addr, ∃ tl49 : Nat, ∃ tc50 : Nat, v47 = (.slice t48 tl49 tc50) ∧
                  ∀ w51, Ext w47 w51 →
                  Run Try.prog (.append #[37, 37] 37 [(.slice t38 tl39 tc40), (.slice t35 tl36 tc37)]) w51 fun v52 w52 =>
                   ∃ t53 : Option Addr, ∃ tl54 : Nat, ∃ tc55 : Nat, v52 = (.slice t53 tl54 tc55) ∧
                   ∀ w56, Ext w52 w56 →
                   Run Try.prog (.append #[22, 22] 22 [(.slice out11 outl11 outc11), (.slice t43 tl44 tc45)]) w56 fun v57 w57 =>
                    ∃ t58 : Option Addr, ∃ tl59 : Nat, ∃ tc60 : Nat, v57 = (.slice t58 tl59 tc60) ∧
                    Store w57 p8 [(.slice t53 tl54 tc55)] [] fun w61 =>
                     J24 t48 tl49 tc50 t58 tl59 tc60 w61) ∧
                ∀ w38, Ext w34 w38 →
                Run Try.prog (.buildSlice 22 1 [(0, (.int .i64 t22))]) w38 fun v39 w39 =>
                 Ext w38 w39 ∧
                 ∃ t40 : Option Addr, ∃ tl41 : Nat, ∃ tc42 : Nat, v39 = (.slice t40 tl41 tc42) ∧
                 (∀ w43, Ext w39 w43 →
                 Run Try.prog (.append #[36, 36] 36 [(.slice row10 rowl10 rowc10), (.slice t30 tl31 tc32)]) w43 fun v44 w44 =>
                  ∃ t45 : Option Addr, ∃ tl46 : Nat, ∃ tc47 : Nat, v44 = (.slice t45 tl46 tc47) ∧
                  ∃ t48 : Option Addr, ∃ tl49 : Nat, ∃ tc50 : Nat, cell w44 p8 0 = some (.slice t48 tl49 tc50) ∧
                  ∀ w51, Ext w44 w51 →
                  Run Try.prog (.append #[37, 37] 37 [(.slice t48 tl49 tc50), (.slice t35 tl36 tc37)]) w51 fun v52 w52 =>
                   ∃ t53 : Option Addr, ∃ tl54 : Nat, ∃ tc55 : Nat, v52 = (.slice t53 tl54 tc55) ∧
                   ∀ w56, Ext w52 w56 →
                   Run Try.prog (.append #[22, 22] 22 [(.slice out11 outl11 outc11), (.slice t40 tl41 tc42)]) w56 fun v57 w57 =>
                    ∃ t58 : Option Addr, ∃ tl59 : Nat, ∃ tc60 : Nat, v57 = (.slice t58 tl59 tc60) ∧
                    Store w57 p8 [(.slice t53 tl54 tc55)] [] fun w61 =>
                     J24 t45 tl46 tc47 t58 tl59 tc60 w61) ∧
                 ∃ t43 : Option Addr, ∃ tl44 : Nat, ∃ tc45 : Nat, cell w39 p8 0 = some (.slice t43 tl44 tc45) ∧
                 ∀ w46, Ext w39 w46 →
                 Run Try.prog (.append #[36, 36] 36 [(.slice row10 rowl10 rowc10), (.slice t30 tl31 tc32)]) w46 fun v47 w47 =>
                  ∃ t48 : Option Addr, ∃ tl49 : Nat, ∃ tc50 : Nat, v47 = (.slice t48 tl49 tc50) ∧
                  ∀ w51, Ext w47 w51 →
                  Run Try.prog (.append #[37, 37] 37 [(.slice t43 tl44 tc45), (.slice t35 tl36 tc37)]) w51 fun v52 w52 =>
                   ∃ t53 : Option Addr, ∃ tl54 : Nat, ∃ tc55 : Nat, v52 = (.slice t53 tl54 tc55) ∧
                   ∀ w56, Ext w52 w56 →
                   Run Try.prog (.append #[22, 22] 22 [(.slice out11 outl11 outc11), (.slice t40 tl41 tc42)]) w56 fun v57 w57 =>
                    ∃ t58 : Option Addr, ∃ tl59 : Nat, ∃ tc60 : Nat, v57 = (.slice t58 tl59 tc60) ∧
                    Store w57 p8 [(.slice t53 tl54 tc55)] [] fun w61 =>
                     J24 t48 tl49 tc50 t58 tl59 tc60 w61) ∧
               ∀ w33, Ext w29 w33 →
               Run Try.prog (.buildSlice 22 1 [(0, (.int .i64 t22))]) w33 fun v34 w34 =>
                Ext w33 w34 ∧
                ∃ t35 : Option Addr, ∃ tl36 : Nat, ∃ tc37 : Nat, v34 = (.slice t35 tl36 tc37) ∧
                (∀ w38, Ext w34 w38 →
                Run Try.prog (.append #[36, 36] 36 [(.slice row10 rowl10 rowc10), (.slice t30 tl31 tc32)]) w38 fun v39 w39 =>
                 ∃ t40 : Option Addr, ∃ tl41 : Nat, ∃ tc42 : Nat, v39 = (.slice t40 tl41 tc42) ∧
                 ∃ t43 : Option Addr, ∃ tl44 : Nat, ∃ tc45 : Nat, cell w39 p8 0 = some (.slice t43 tl44 tc45) ∧
                 ∀ w46, Ext w39 w46 →
                 Run Try.prog (.buildSlice 37 1 [(0, (.int .u64 t23))]) w46 fun v47 w47 =>
                  Ext w46 w47 ∧
                  ∃ t48 : Option Addr, ∃ tl49 : Nat, ∃ tc50 : Nat, v47 = (.slice t48 tl49 tc50) ∧
                  ∀ w51, Ext w47 w51 →
                  Run Try.prog (.append #[37, 37] 37 [(.slice t43 tl44 tc45), (.slice t48 tl49 tc50)]) w51 fun v52 w52 =>
                   ∃ t53 : Option Addr, ∃ tl54 : Nat, ∃ tc55 : Nat, v52 = (.slice t53 tl54 tc55) ∧
                   ∀ w56, Ext w52 w56 →
                   Run Try.prog (.append #[22, 22] 22 [(.slice out11 outl11 outc11), (.slice t35 tl36 tc37)]) w56 fun v57 w57 =>
                    ∃ t58 : Option Addr, ∃ tl59 : Nat, ∃ tc60 : Nat, v57 = (.slice t58 tl59 tc60) ∧
                    Store w57 p8 [(.slice t53 tl54 tc55)] [] fun w61 =>
                     J24 t40 tl41 tc42 t58 tl59 tc60 w61) ∧
                (∃ t38 : Option Addr, ∃ tl39 : Nat, ∃ tc40 : Nat, cell w34 p8 0 = some (.slice t38 tl39 tc40) ∧
                (∀ w41, Ext w34 w41 →
                Run Try.prog (.append #[36, 36] 36 [(.slice row10 rowl10 rowc10), (.slice t30 tl31 tc32)]) w41 fun v42 w42 =>
                 ∃ t43 : Option Addr, ∃ tl44 : Nat, ∃ tc45 : Nat, v42 = (.slice t43 tl44 tc45) ∧
                 ∀ w46, Ext w42 w46 →
                 Run Try.prog (.buildSlice 37 1 [(0, (.int .u64 t23))]) w46 fun v47 w47 =>
                  Ext w46 w47 ∧
                  ∃ t48 : Option Addr, ∃ tl49 : Nat, ∃ tc50 : Nat, v47 = (.slice t48 tl49 tc50) ∧
                  ∀ w51, Ext w47 w51 →
                  Run Try.prog (.append #[37, 37] 37 [(.slice t38 tl39 tc40), (.slice t48 tl49 tc50)]) w51 fun v52 w52 =>
                   ∃ t53 : Option Addr, ∃ tl54 : Nat, ∃ tc55 : Nat, v52 = (.slice t53 tl54 tc55) ∧
                   ∀ w56, Ext w52 w56 →
                   Run Try.prog (.append #[22, 22] 22 [(.slice out11 outl11 outc11), (.slice t35 tl36 tc37)]) w56 fun v57 w57 =>
                    ∃ t58 : Option Addr, ∃ tl59 : Nat, ∃ tc60 : Nat, v57 = (.slice t58 tl59 tc60) ∧
                    Store w57 p8 [(.slice t53 tl54 tc55)] [] fun w61 =>
                     J24 t43 tl44 tc45 t58 tl59 tc60 w61) ∧
                ∀ w41, Ext w34 w41 →
                Run Try.prog (.buildSlice 37 1 [(0, (.int .u64 t23))]) w41 fun v42 w42 =>
                 Ext w41 w42 ∧
                 ∃ t43 : Option Addr, ∃ tl44 : Nat, ∃ tc45 : Nat, v42 = (.slice t43 tl44 tc45) ∧
                 ∀ w46, Ext w42 w46 →
                 Run Try.prog (.append #[36, 36] 36 [(.slice row10 rowl10 rowc10), (.slice t30 tl31 tc32)]) w46 fun v47 w47 =>
                  ∃ t48 : Option Addr, ∃ tl49 : Nat, ∃ tc50 : Nat, v47 = (.slice t48 tl49 tc50) ∧
                  ∀ w51, Ext w47 w51 →
                  Run Try.prog (.append #[37, 37] 37 [(.slice t38 tl39 tc40), (.slice t43 tl44 tc45)]) w51 fun v52 w52 =>
                   ∃ t53 : Option Addr, ∃ tl54 : Nat, ∃ tc55 : Nat, v52 = (.slice t53 tl54 tc55) ∧
                   ∀ w56, Ext w52 w56 →
                   Run Try.prog (.append #[22, 22] 22 [(.slice out11 outl11 outc11), (.slice t35 tl36 tc37)]) w56 fun v57 w57 =>
                    ∃ t58 : Option Addr, ∃ tl59 : Nat, ∃ tc60 : Nat, v57 = (.slice t58 tl59 tc60) ∧
                    Store w57 p8 [(.slice t53 tl54 tc55)] [] fun w61 =>
                     J24 t48 tl49 tc50 t58 tl59 tc60 w61) ∧
                ∀ w38, Ext w34 w38 →
                Run Try.prog (.buildSlice 37 1 [(0, (.int .u64 t23))]) w38 fun v39 w39 =>
                 Ext w38 w39 ∧
                 ∃ t40 : Option Addr, ∃ tl41 : Nat, ∃ tc42 : Nat, v39 = (.slice t40 tl41 tc42) ∧
                 (∀ w43, Ext w39 w43 →
                 Run Try.prog (.append #[36, 36] 36 [(.slice row10 rowl10 rowc10), (.slice t30 tl31 tc32)]) w43 fun v44 w44 =>
                  ∃ t45 : Option Addr, ∃ tl46 : Nat, ∃ tc47 : Nat, v44 = (.slice t45 tl46 tc47) ∧
                  ∃ t48 : Option Addr, ∃ tl49 : Nat, ∃ tc50 : Nat, cell w44 p8 0 = some (.slice t48 tl49 tc50) ∧
                  ∀ w51, Ext w44 w51 →
                  Run Try.prog (.append #[37, 37] 37 [(.slice t48 tl49 tc50), (.slice t40 tl41 tc42)]) w51 fun v52 w52 =>
                   ∃ t53 : Option Addr, ∃ tl54 : Nat, ∃ tc55 : Nat, v52 = (.slice t53 tl54 tc55) ∧
                   ∀ w56, Ext w52 w56 →
                   Run Try.prog (.append #[22, 22] 22 [(.slice out11 outl11 outc11), (.slice t35 tl36 tc37)]) w56 fun v57 w57 =>
                    ∃ t58 : Option Addr, ∃ tl59 : Nat, ∃ tc60 : Nat, v57 = (.slice t58 tl59 tc60) ∧
                    Store w57 p8 [(.slice t53 tl54 tc55)] [] fun w61 =>
                     J24 t45 tl46 tc47 t58 tl59 tc60 w61) ∧
                 ∃ t43 : Option Addr, ∃ tl44 : Nat, ∃ tc45 : Nat, cell w39 p8 0 = some (.slice t43 tl44 tc45) ∧
                 ∀ w46, Ext w39 w46 →
                 Run Try.prog (.append #[36, 36] 36 [(.slice row10 rowl10 rowc10), (.slice t30 tl31 tc32)]) w46 fun v47 w47 =>
                  ∃ t48 : Option Addr, ∃ tl49 : Nat, ∃ tc50 : Nat, v47 = (.slice t48 tl49 tc50) ∧
                  ∀ w51, Ext w47 w51 →
                  Run Try.prog (.append #[37, 37] 37 [(.slice t43 tl44 tc45), (.slice t40 tl41 tc42)]) w51 fun v52 w52 =>
                   ∃ t53 : Option Addr, ∃ tl54 : Nat, ∃ tc55 : Nat, v52 = (.slice t53 tl54 tc55) ∧
                   ∀ w56, Ext w52 w56 →
                   Run Try.prog (.append #[22, 22] 22 [(.slice out11 outl11 outc11), (.slice t35 tl36 tc37)]) w56 fun v57 w57 =>
                    ∃ t58 : Option Addr, ∃ tl59 : Nat, ∃ tc60 : Nat, v57 = (.slice t58 tl59 tc60) ∧
                    Store w57 p8 [(.slice t53 tl54 tc55)] [] fun w61 =>
                     J24 t48 tl49 tc50 t58 tl59 tc60 w61) ∧
              (∃ t28 : Option Addr, ∃ tl29 : Nat, ∃ tc30 : Nat, cell w14 p8 0 = some (.slice t28 tl29 tc30) ∧
              (∀ w31, Ext w14 w31 →
              Run Try.prog (.buildSlice 36 1 [(0, (.int .i64 k13))]) w31 fun v32 w32 =>
               Ext w31 w32 ∧
               ∃ t33 : Option Addr, ∃ tl34 : Nat, ∃ tc35 : Nat, v32 = (.slice t33 tl34 tc35) ∧
               (∀ w36, Ext w32 w36 →
               Run Try.prog (.append #[36, 36] 36 [(.slice row10 rowl10 rowc10), (.slice t33 tl34 tc35)]) w36 fun v37 w37 =>
                ∃ t38 : Option Addr, ∃ tl39 : Nat, ∃ tc40 : Nat, v37 = (.slice t38 tl39 tc40) ∧
                (∀ w41, Ext w37 w41 →
                Run Try.prog (.buildSlice 37 1 [(0, (.int .u64 t23))]) w41 fun v42 w42 =>
                 Ext w41 w42 ∧
                 ∃ t43 : Option Addr, ∃ tl44 : Nat, ∃ tc45 : Nat, v42 = (.slice t43 tl44 tc45) ∧
                 (∀ w46, Ext w42 w46 →
                 Run Try.prog (.append #[37, 37] 37 [(.slice t28 tl29 tc30), (.slice t43 tl44 tc45)]) w46 fun v47 w47 =>
                  ∃ t48 : Option Addr, ∃ tl49 : Nat, ∃ tc50 : Nat, v47 = (.slice t48 tl49 tc50) ∧
                  ∀ w51, Ext w47 w51 →
                  Run Try.prog (.buildSlice 22 1 [(0, (.int .i64 t22))]) w51 fun v52 w52 =>
                   Ext w51 w52 ∧
                   ∃ t53 : Option Addr, ∃ tl54 : Nat, ∃ tc55 : Nat, v52 = (.slice t53 tl54 tc55) ∧
                   ∀ w56, Ext w52 w56 →
                   Run Try.prog (.append #[22, 22] 22 [(.slice out11 outl11 outc11), (.slice t53 tl54 tc55)]) w56 fun v57 w57 =>
                    ∃ t58 : Option Addr, ∃ tl59 : Nat, ∃ tc60 : Nat, v57 = (.slice t58 tl59 tc60) ∧
                    Store w57 p8 [(.slice t48 tl49 tc50)] [] fun w61 =>
                     J24 t38 tl39 tc40 t58 tl59 tc60 w61) ∧
                 ∀ w46, Ext w42 w46 →
                 Run Try.prog (.buildSlice 22 1 [(0, (.int .i64 t22))]) w46 fun v47 w47 =>
                  Ext w46 w47 ∧
                  ∃ t48 : Option Addr, ∃ tl49 : Nat, ∃ tc50 : Nat, v47 = (.slice t48 tl49 tc50) ∧
                  ∀ w51, Ext w47 w51 →
                  Run Try.prog (.append #[37, 37] 37 [(.slice t28 tl29 tc30), (.slice t43 tl44 tc45)]) w51 fun v52 w52 =>
                   ∃ t53 : Option Addr, ∃ tl54 : Nat, ∃ tc55 : Nat, v52 = (.slice t53 tl54 tc55) ∧
                   ∀ w56, Ext w52 w56 →
                   Run Try.prog (.append #[22, 22] 22 [(.slice out11 outl11 outc11), (.slice t48 tl49 tc50)]) w56 fun v57 w57 =>
                    ∃ t58 : Option Addr, ∃ tl59 : Nat, ∃ tc60 : Nat, v57 = (.slice t58 tl59 tc60) ∧
                    Store w57 p8 [(.slice t53 tl54 tc55)] [] fun w61 =>
                     J24 t38 tl39 tc40 t58 tl59 tc60 w61) ∧
                ∀ w41, Ext w37 w41 →
                Run Try.prog (.buildSlice 22 1 [(0, (.int .i64 t22))]) w41 fun v42 w42 =>
                 Ext w41 w42 ∧
                 ∃ t43 : Option Addr, ∃ tl44 : Nat, ∃ tc45 : Nat, v42 = (.slice t43 tl44 tc45) ∧
                 ∀ w46, Ext w42 w46 →
                 Run Try.prog (.buildSlice 37 1 [(0, (.int .u64 t23))]) w46 fun v47 w47 =>
                  Ext w46 w47 ∧
                  ∃ t48 : Option Addr, ∃ tl49 : Nat, ∃ tc50 : Nat, v47 = (.slice t48 tl49 tc50) ∧
                  ∀ w51, Ext w47 w51 →
                  Run Try.prog (.append #[37, 37] 37 [(.slice t28 tl29 tc30), (.slice t48 tl49 tc50)]) w51 fun v52 w52 =>
                   ∃ t53 : Option Addr, ∃ tl54 : Nat, ∃ tc55 : Nat, v52 = (.slice t53 tl54 tc55) ∧
                   ∀ w56, Ext w52 w56 →
                   Run Try.prog (.append #[22, 22] 22 [(.slice out11 outl11 outc11), (.slice t43 tl44 tc45)]) w56 fun v57 w57 =>
                    ∃ t58 : Option Addr, ∃ tl59 : Nat, ∃ tc60 : Nat, v57 = (.slice t58 tl59 tc60) ∧
                    Store w57 p8 [(.slice t53 tl54 tc55)] [] fun w61 =>
                     J24 t38 tl39 tc40 t58 tl59 tc60 w61) ∧
               (∀ w36, Ext w32 w36 →
               Run Try.prog (.buildSlice 37 1 [(0, (.int .u64 t23))]) w36 fun v37 w37 =>
                Ext w36 w37 ∧
                ∃ t38 : Option Addr, ∃ tl39 : Nat, ∃ tc40 : Nat, v37 = (.slice t38 tl39 tc40) ∧
                (∀ w41, Ext w37 w41 →
                Run Try.prog (.append #[36, 36] 36 [(.slice row10 rowl10 rowc10), (.slice t33 tl34 tc35)]) w41 fun v42 w42 =>
                 ∃ t43 : Option Addr, ∃ tl44 : Nat, ∃ tc45 : Nat, v42 = (.slice t43 tl44 tc45) ∧
                 (∀ w46, Ext w42 w46 →
                 Run Try.prog (.append #[37, 37] 37 [(.slice t28 tl29 tc30), (.slice t38 tl39 tc40)]) w46 fun v47 w47 =>
                  ∃ t48 : Option Addr, ∃ tl49 : Nat, ∃ tc50 : Nat, v47 = (.slice t48 tl49 tc50) ∧
                  ∀ w51, Ext w47 w51 →
                  Run Try.prog (.buildSlice 22 1 [(0, (.int .i64 t22))]) w51 fun v52 w52 =>
                   Ext w51 w52 ∧
                   ∃ t53 : Option Addr, ∃ tl54 : Nat, ∃ tc55 : Nat, v52 = (.slice t53 tl54 tc55) ∧
                   ∀ w56, Ext w52 w56 →
                   Run Try.prog (.append #[22, 22] 22 [(.slice out11 outl11 outc11), (.slice t53 tl54 tc55)]) w56 fun v57 w57 =>
                    ∃ t58 : Option Addr, ∃ tl59 : Nat, ∃ tc60 : Nat, v57 = (.slice t58 tl59 tc60) ∧
                    Store w57 p8 [(.slice t48 tl49 tc50)] [] fun w61 =>
                     J24 t43 tl44 tc45 t58 tl59 tc60 w61) ∧
                 ∀ w46, Ext w42 w46 →
                 Run Try.prog (.buildSlice 22 1 [(0, (.int .i64 t22))]) w46 fun v47 w47 =>
                  Ext w46 w47 ∧
                  ∃ t48 : Option Addr, ∃ tl49 : Nat, ∃ tc50 : Nat, v47 = (.slice t48 tl49 tc50) ∧
                  ∀ w51, Ext w47 w51 →
                  Run Try.prog (.append #[37, 37] 37 [(.slice t28 tl29 tc30), (.slice t38 tl39 tc40)]) w51 fun v52 w52 =>
                   ∃ t53 : Option Addr, ∃ tl54 : Nat, ∃ tc55 : Nat, v52 = (.slice t53 tl54 tc55) ∧
                   ∀ w56, Ext w52 w56 →
                   Run Try.prog (.append #[22, 22] 22 [(.slice out11 outl11 outc11), (.slice t48 tl49 tc50)]) w56 fun v57 w57 =>
                    ∃ t58 : Option Addr, ∃ tl59 : Nat, ∃ tc60 : Nat, v57 = (.slice t58 tl59 tc60) ∧
                    Store w57 p8 [(.slice t53 tl54 tc55)] [] fun w61 =>
                     J24 t43 tl44 tc45 t58 tl59 tc60 w61) ∧
                ∀ w41, Ext w37 w41 →
                Run Try.prog (.buildSlice 22 1 [(0, (.int .i64 t22))]) w41 fun v42 w42 =>
                 Ext w41 w42 ∧
                 ∃ t43 : Option Addr, ∃ tl44 : Nat, ∃ tc45 : Nat, v42 = (.slice t43 tl44 tc45) ∧
                 ∀ w46, Ext w42 w46 →
                 Run Try.prog (.append #[36, 36] 36 [(.slice row10 rowl10 rowc10), (.slice t33 tl34 tc35)]) w46 fun v47 w47 =>
                  ∃ t48 : Option Addr, ∃ tl49 : Nat, ∃ tc50 : Nat, v47 = (.slice t48 tl49 tc50) ∧
                  ∀ w51, Ext w47 w51 →
                  Run Try.prog (.append #[37, 37] 37 [(.slice t28 tl29 tc30), (.slice t38 tl39 tc40)]) w51 fun v52 w52 =>
                   ∃ t53 : Option Addr, ∃ tl54 : Nat, ∃ tc55 : Nat, v52 = (.slice t53 tl54 tc55) ∧
                   ∀ w56, Ext w52 w56 →
                   Run Try.prog (.append #[22, 22] 22 [(.slice out11 outl11 outc11), (.slice t43 tl44 tc45)]) w56 fun v57 w57 =>
                    ∃ t58 : Option Addr, ∃ tl59 : Nat, ∃ tc60 : Nat, v57 = (.slice t58 tl59 tc60) ∧
                    Store w57 p8 [(.slice t53 tl54 tc55)] [] fun w61 =>
                     J24 t48 tl49 tc50 t58 tl59 tc60 w61) ∧
               ∀ w36, Ext w32 w36 →
               Run Try.prog (.buildSlice 22 1 [(0, (.int .i64 t22))]) w36 fun v37 w37 =>
                Ext w36 w37 ∧
                ∃ t38 : Option Addr, ∃ tl39 : Nat, ∃ tc40 : Nat, v37 = (.slice t38 tl39 tc40) ∧
                (∀ w41, Ext w37 w41 →
                Run Try.prog (.append #[36, 36] 36 [(.slice row10 rowl10 rowc10), (.slice t33 tl34 tc35)]) w41 fun v42 w42 =>
                 ∃ t43 : Option Addr, ∃ tl44 : Nat, ∃ tc45 : Nat, v42 = (.slice t43 tl44 tc45) ∧
                 ∀ w46, Ext w42 w46 →
                 Run Try.prog (.buildSlice 37 1 [(0, (.int .u64 t23))]) w46 fun v47 w47 =>
                  Ext w46 w47 ∧
                  ∃ t48 : Option Addr, ∃ tl49 : Nat, ∃ tc50 : Nat, v47 = (.slice t48 tl49 tc50) ∧
                  ∀ w51, Ext w47 w51 →
                  Run Try.prog (.append #[37, 37] 37 [(.slice t28 tl29 tc30), (.slice t48 tl49 tc50)]) w51 fun v52 w52 =>
                   ∃ t53 : Option Addr, ∃ tl54 : Nat, ∃ tc55 : Nat, v52 = (.slice t53 tl54 tc55) ∧
                   ∀ w56, Ext w52 w56 →
                   Run Try.prog (.append #[22, 22] 22 [(.slice out11 outl11 outc11), (.slice t38 tl39 tc40)]) w56 fun v57 w57 =>
                    ∃ t58 : Option Addr, ∃ tl59 : Nat, ∃ tc60 : Nat, v57 = (.slice t58 tl59 tc60) ∧
                    Store w57 p8 [(.slice t53 tl54 tc55)] [] fun w61 =>
                     J24 t43 tl44 tc45 t58 tl59 tc60 w61) ∧
                ∀ w41, Ext w37 w41 →
                Run Try.prog (.buildSlice 37 1 [(0, (.int .u64 t23))]) w41 fun v42 w42 =>
                 Ext w41 w42 ∧
                 ∃ t43 : Option Addr, ∃ tl44 : Nat, ∃ tc45 : Nat, v42 = (.slice t43 tl44 tc45) ∧
                 ∀ w46, Ext w42 w46 →
                 Run Try.prog (.append #[36, 36] 36 [(.slice row10 rowl10 rowc10), (.slice t33 tl34 tc35)]) w46 fun v47 w47 =>
                  ∃ t48 : Option Addr, ∃ tl49 : Nat, ∃ tc50 : Nat, v47 = (.slice t48 tl49 tc50) ∧
                  ∀ w51, Ext w47 w51 →
                  Run Try.prog (.append #[37, 37] 37 [(.slice t28 tl29 tc30), (.slice t43 tl44 tc45)]) w51 fun v52 w52 =>
                   ∃ t53 : Option Addr, ∃ tl54 : Nat, ∃ tc55 : Nat, v52 = (.slice t53 tl54 tc55) ∧
                   ∀ w56, Ext w52 w56 →
                   Run Try.prog (.append #[22, 22] 22 [(.slice out11 outl11 outc11), (.slice t38 tl39 tc40)]) w56 fun v57 w57 =>
                    ∃ t58 : Option Addr, ∃ tl59 : Nat, ∃ tc60 : Nat, v57 = (.slice t58 tl59 tc60) ∧
                    Store w57 p8 [(.slice t53 tl54 tc55)] [] fun w61 =>
                     J24 t48 tl49 tc50 t58 tl59 tc60 w61) ∧
              (∀ w31, Ext w14 w31 →
              Run Try.prog (.buildSlice 37 1 [(0, (.int .u64 t23))]) w31 fun v32 w32 =>
               Ext w31 w32 ∧
               ∃ t33 : Option Addr, ∃ tl34 : Nat, ∃ tc35 : Nat, v32 = (.slice t33 tl34 tc35) ∧
               (∀ w36, Ext w32 w36 →
               Run Try.prog (.buildSlice 36 1 [(0, (.int .i64 k13))]) w36 fun v37 w37 =>
                Ext w36 w37 ∧
                ∃ t38 : Option Addr, ∃ tl39 : Nat, ∃ tc40 : Nat, v37 = (.slice t38 tl39 tc40) ∧
                (∀ w41, Ext w37 w41 →
                Run Try.prog (.append #[36, 36] 36 [(.slice row10 rowl10 rowc10), (.slice t38 tl39 tc40)]) w41 fun v42 w42 =>
                 ∃ t43 : Option Addr, ∃ tl44 : Nat, ∃ tc45 : Nat, v42 = (.slice t43 tl44 tc45) ∧
                 (∀ w46, Ext w42 w46 →
                 Run Try.prog (.append #[37, 37] 37 [(.slice t28 tl29 tc30), (.slice t33 tl34 tc35)]) w46 fun v47 w47 =>
                  ∃ t48 : Option Addr, ∃ tl49 : Nat, ∃ tc50 : Nat, v47 = (.slice t48 tl49 tc50) ∧
                  ∀ w51, Ext w47 w51 →
                  Run Try.prog (.buildSlice 22 1 [(0, (.int .i64 t22))]) w51 fun v52 w52 =>
                   Ext w51 w52 ∧
                   ∃ t53 : Option Addr, ∃ tl54 : Nat, ∃ tc55 : Nat, v52 = (.slice t53 tl54 tc55) ∧
                   ∀ w56, Ext w52 w56 →
                   Run Try.prog (.append #[22, 22] 22 [(.slice out11 outl11 outc11), (.slice t53 tl54 tc55)]) w56 fun v57 w57 =>
                    ∃ t58 : Option Addr, ∃ tl59 : Nat, ∃ tc60 : Nat, v57 = (.slice t58 tl59 tc60) ∧
                    Store w57 p8 [(.slice t48 tl49 tc50)] [] fun w61 =>
                     J24 t43 tl44 tc45 t58 tl59 tc60 w61) ∧
                 ∀ w46, Ext w42 w46 →
                 Run Try.prog (.buildSlice 22 1 [(0, (.int .i64 t22))]) w46 fun v47 w47 =>
                  Ext w46 w47 ∧
                  ∃ t48 : Option Addr, ∃ tl49 : Nat, ∃ tc50 : Nat, v47 = (.slice t48 tl49 tc50) ∧
                  ∀ w51, Ext w47 w51 →
                  Run Try.prog (.append #[37, 37] 37 [(.slice t28 tl29 tc30), (.slice t33 tl34 tc35)]) w51 fun v52 w52 =>
                   ∃ t53 : Option Addr, ∃ tl54 : Nat, ∃ tc55 : Nat, v52 = (.slice t53 tl54 tc55) ∧
                   ∀ w56, Ext w52 w56 →
                   Run Try.prog (.append #[22, 22] 22 [(.slice out11 outl11 outc11), (.slice t48 tl49 tc50)]) w56 fun v57 w57 =>
                    ∃ t58 : Option Addr, ∃ tl59 : Nat, ∃ tc60 : Nat, v57 = (.slice t58 tl59 tc60) ∧
                    Store w57 p8 [(.slice t53 tl54 tc55)] [] fun w61 =>
                     J24 t43 tl44 tc45 t58 tl59 tc60 w61) ∧
                ∀ w41, Ext w37 w41 →
                Run Try.prog (.buildSlice 22 1 [(0, (.int .i64 t22))]) w41 fun v42 w42 =>
                 Ext w41 w42 ∧
                 ∃ t43 : Option Addr, ∃ tl44 : Nat, ∃ tc45 : Nat, v42 = (.slice t43 tl44 tc45) ∧
                 ∀ w46, Ext w42 w46 →
                 Run Try.prog (.append #[36, 36] 36 [(.slice row10 rowl10 rowc10), (.slice t38 tl39 tc40)]) w46 fun v47 w47 =>
                  ∃ t48 : Option Addr, ∃ tl49 : Nat, ∃ tc50 : Nat, v47 = (.slice t48 tl49 tc50) ∧
                  ∀ w51, Ext w47 w51 →
                  Run Try.prog (.append #[37, 37] 37 [(.slice t28 tl29 tc30), (.slice t33 tl34 tc35)]) w51 fun v52 w52 =>
                   ∃ t53 : Option Addr, ∃ tl54 : Nat, ∃ tc55 : Nat, v52 = (.slice t53 tl54 tc55) ∧
                   ∀ w56, Ext w52 w56 →
                   Run Try.prog (.append #[22, 22] 22 [(.slice out11 outl11 outc11), (.slice t43 tl44 tc45)]) w56 fun v57 w57 =>
                    ∃ t58 : Option Addr, ∃ tl59 : Nat, ∃ tc60 : Nat, v57 = (.slice t58 tl59 tc60) ∧
                    Store w57 p8 [(.slice t53 tl54 tc55)] [] fun w61 =>
                     J24 t48 tl49 tc50 t58 tl59 tc60 w61) ∧
               ∀ w36, Ext w32 w36 →
               Run Try.prog (.buildSlice 22 1 [(0, (.int .i64 t22))]) w36 fun v37 w37 =>
                Ext w36 w37 ∧
                ∃ t38 : Option Addr, ∃ tl39 : Nat, ∃ tc40 : Nat, v37 = (.slice t38 tl39 tc40) ∧
                ∀ w41, Ext w37 w41 →
                Run Try.prog (.buildSlice 36 1 [(0, (.int .i64 k13))]) w41 fun v42 w42 =>
                 Ext w41 w42 ∧
                 ∃ t43 : Option Addr, ∃ tl44 : Nat, ∃ tc45 : Nat, v42 = (.slice t43 tl44 tc45) ∧
                 ∀ w46, Ext w42 w46 →
                 Run Try.prog (.append #[36, 36] 36 [(.slice row10 rowl10 rowc10), (.slice t43 tl44 tc45)]) w46 fun v47 w47 =>
                  ∃ t48 : Option Addr, ∃ tl49 : Nat, ∃ tc50 : Nat, v47 = (.slice t48 tl49 tc50) ∧
                  ∀ w51, Ext w47 w51 →
                  Run Try.prog (.append #[37, 37] 37 [(.slice t28 tl29 tc30), (.slice t33 tl34 tc35)]) w51 fun v52 w52 =>
                   ∃ t53 : Option Addr, ∃ tl54 : Nat, ∃ tc55 : Nat, v52 = (.slice t53 tl54 tc55) ∧
                   ∀ w56, Ext w52 w56 →
                   Run Try.prog (.append #[22, 22] 22 [(.slice out11 outl11 outc11), (.slice t38 tl39 tc40)]) w56 fun v57 w57 =>
                    ∃ t58 : Option Addr, ∃ tl59 : Nat, ∃ tc60 : Nat, v57 = (.slice t58 tl59 tc60) ∧
                    Store w57 p8 [(.slice t53 tl54 tc55)] [] fun w61 =>
                     J24 t48 tl49 tc50 t58 tl59 tc60 w61) ∧
              ∀ w31, Ext w14 w31 →
              Run Try.prog (.buildSlice 22 1 [(0, (.int .i64 t22))]) w31 fun v32 w32 =>
               Ext w31 w32 ∧
               ∃ t33 : Option Addr, ∃ tl34 : Nat, ∃ tc35 : Nat, v32 = (.slice t33 tl34 tc35) ∧
               (∀ w36, Ext w32 w36 →
               Run Try.prog (.buildSlice 36 1 [(0, (.int .i64 k13))]) w36 fun v37 w37 =>
                Ext w36 w37 ∧
                ∃ t38 : Option Addr, ∃ tl39 : Nat, ∃ tc40 : Nat, v37 = (.slice t38 tl39 tc40) ∧
                (∀ w41, Ext w37 w41 →
                Run Try.prog (.append #[36, 36] 36 [(.slice row10 rowl10 rowc10), (.slice t38 tl39 tc40)]) w41 fun v42 w42 =>
                 ∃ t43 : Option Addr, ∃ tl44 : Nat, ∃ tc45 : Nat, v42 = (.slice t43 tl44 tc45) ∧
                 ∀ w46, Ext w42 w46 →
                 Run Try.prog (.buildSlice 37 1 [(0, (.int .u64 t23))]) w46 fun v47 w47 =>
                  Ext w46 w47 ∧
                  ∃ t48 : Option Addr, ∃ tl49 : Nat, ∃ tc50 : Nat, v47 = (.slice t48 tl49 tc50) ∧
                  ∀ w51, Ext w47 w51 →
                  Run Try.prog (.append #[37, 37] 37 [(.slice t28 tl29 tc30), (.slice t48 tl49 tc50)]) w51 fun v52 w52 =>
                   ∃ t53 : Option Addr, ∃ tl54 : Nat, ∃ tc55 : Nat, v52 = (.slice t53 tl54 tc55) ∧
                   ∀ w56, Ext w52 w56 →
                   Run Try.prog (.append #[22, 22] 22 [(.slice out11 outl11 outc11), (.slice t33 tl34 tc35)]) w56 fun v57 w57 =>
                    ∃ t58 : Option Addr, ∃ tl59 : Nat, ∃ tc60 : Nat, v57 = (.slice t58 tl59 tc60) ∧
                    Store w57 p8 [(.slice t53 tl54 tc55)] [] fun w61 =>
                     J24 t43 tl44 tc45 t58 tl59 tc60 w61) ∧
                ∀ w41, Ext w37 w41 →
                Run Try.prog (.buildSlice 37 1 [(0, (.int .u64 t23))]) w41 fun v42 w42 =>
                 Ext w41 w42 ∧
                 ∃ t43 : Option Addr, ∃ tl44 : Nat, ∃ tc45 : Nat, v42 = (.slice t43 tl44 tc45) ∧
                 ∀ w46, Ext w42 w46 →
                 Run Try.prog (.append #[36, 36] 36 [(.slice row10 rowl10 rowc10), (.slice t38 tl39 tc40)]) w46 fun v47 w47 =>
                  ∃ t48 : Option Addr, ∃ tl49 : Nat, ∃ tc50 : Nat, v47 = (.slice t48 tl49 tc50) ∧
                  ∀ w51, Ext w47 w51 →
                  Run Try.prog (.append #[37, 37] 37 [(.slice t28 tl29 tc30), (.slice t43 tl44 tc45)]) w51 fun v52 w52 =>
                   ∃ t53 : Option Addr, ∃ tl54 : Nat, ∃ tc55 : Nat, v52 = (.slice t53 tl54 tc55) ∧
                   ∀ w56, Ext w52 w56 →
                   Run Try.prog (.append #[22, 22] 22 [(.slice out11 outl11 outc11), (.slice t33 tl34 tc35)]) w56 fun v57 w57 =>
                    ∃ t58 : Option Addr, ∃ tl59 : Nat, ∃ tc60 : Nat, v57 = (.slice t58 tl59 tc60) ∧
                    Store w57 p8 [(.slice t53 tl54 tc55)] [] fun w61 =>
                     J24 t48 tl49 tc50 t58 tl59 tc60 w61) ∧
               ∀ w36, Ext w32 w36 →
               Run Try.prog (.buildSlice 37 1 [(0, (.int .u64 t23))]) w36 fun v37 w37 =>
                Ext w36 w37 ∧
                ∃ t38 : Option Addr, ∃ tl39 : Nat, ∃ tc40 : Nat, v37 = (.slice t38 tl39 tc40) ∧
                ∀ w41, Ext w37 w41 →
                Run Try.prog (.buildSlice 36 1 [(0, (.int .i64 k13))]) w41 fun v42 w42 =>
                 Ext w41 w42 ∧
                 ∃ t43 : Option Addr, ∃ tl44 : Nat, ∃ tc45 : Nat, v42 = (.slice t43 tl44 tc45) ∧
                 ∀ w46, Ext w42 w46 →
                 Run Try.prog (.append #[36, 36] 36 [(.slice row10 rowl10 rowc10), (.slice t43 tl44 tc45)]) w46 fun v47 w47 =>
                  ∃ t48 : Option Addr, ∃ tl49 : Nat, ∃ tc50 : Nat, v47 = (.slice t48 tl49 tc50) ∧
                  ∀ w51, Ext w47 w51 →
                  Run Try.prog (.append #[37, 37] 37 [(.slice t28 tl29 tc30), (.slice t38 tl39 tc40)]) w51 fun v52 w52 =>
                   ∃ t53 : Option Addr, ∃ tl54 : Nat, ∃ tc55 : Nat, v52 = (.slice t53 tl54 tc55) ∧
                   ∀ w56, Ext w52 w56 →
                   Run Try.prog (.append #[22, 22] 22 [(.slice out11 outl11 outc11), (.slice t33 tl34 tc35)]) w56 fun v57 w57 =>
                    ∃ t58 : Option Addr, ∃ tl59 : Nat, ∃ tc60 : Nat, v57 = (.slice t58 tl59 tc60) ∧
                    Store w57 p8 [(.slice t53 tl54 tc55)] [] fun w61 =>
                     J24 t48 tl49 tc50 t58 tl59 tc60 w61) ∧
              (∀ w28, Ext w14 w28 →
              Run Try.prog (.buildSlice 37 1 [(0, (.int .u64 t23))]) w28 fun v29 w29 =>
               Ext w28 w29 ∧
               ∃ t30 : Option Addr, ∃ tl31 : Nat, ∃ tc32 : Nat, v29 = (.slice t30 tl31 tc32) ∧
               (∀ w33, Ext w29 w33 →
               Run Try.prog (.buildSlice 36 1 [(0, (.int .i64 k13))]) w33 fun v34 w34 =>
                Ext w33 w34 ∧
                ∃ t35 : Option Addr, ∃ tl36 : Nat, ∃ tc37 : Nat, v34 = (.slice t35 tl36 tc37) ∧
                (∀ w38, Ext w34 w38 →
                Run Try.prog (.append #[36, 36] 36 [(.slice row10 rowl10 rowc10), (.slice t35 tl36 tc37)]) w38 fun v39 w39 =>
                 ∃ t40 : Option Addr, ∃ tl41 : Nat, ∃ tc42 : Nat, v39 = (.slice t40 tl41 tc42) ∧
                 ∃ t43 : Option Addr, ∃ tl44 : Nat, ∃ tc45 : Nat, cell w39 p8 0 = some (.slice t43 tl44 tc45) ∧
                 (∀ w46, Ext w39 w46 →
                 Run Try.prog (.append #[37, 37] 37 [(.slice t43 tl44 tc45), (.slice t30 tl31 tc32)]) w46 fun v47 w47 =>
                  ∃ t48 : Option Addr, ∃ tl49 : Nat, ∃ tc50 : Nat, v47 = (.slice t48 tl49 tc50) ∧
                  ∀ w51, Ext w47 w51 →
                  Run Try.prog (.buildSlice 22 1 [(0, (.int .i64 t22))]) w51 fun v52 w52 =>
                   Ext w51 w52 ∧
                   ∃ t53 : Option Addr, ∃ tl54 : Nat, ∃ tc55 : Nat, v52 = (.slice t53 tl54 tc55) ∧
                   ∀ w56, Ext w52 w56 →
                   Run Try.prog (.append #[22, 22] 22 [(.slice out11 outl11 outc11), (.slice t53 tl54 tc55)]) w56 fun v57 w57 =>
                    ∃ t58 : Option Addr, ∃ tl59 : Nat, ∃ tc60 : Nat, v57 = (.slice t58 tl59 tc60) ∧
                    Store w57 p8 [(.slice t48 tl49 tc50)] [] fun w61 =>
                     J24 t40 tl41 tc42 t58 tl59 tc60 w61) ∧
                 ∀ w46, Ext w39 w46 →
                 Run Try.prog (.buildSlice 22 1 [(0, (.int .i64 t22))]) w46 fun v47 w47 =>
                  Ext w46 w47 ∧
                  ∃ t48 : Option Addr, ∃ tl49 : Nat, ∃ tc50 : Nat, v47 = (.slice t48 tl49 tc50) ∧
                  ∀ w51, Ext w47 w51 →
                  Run Try.prog (.append #[37, 37] 37 [(.slice t43 tl44 tc45), (.slice t30 tl31 tc32)]) w51 fun v52 w52 =>
                   ∃ t53 : Option Addr, ∃ tl54 : Nat, ∃ tc55 : Nat, v52 = (.slice t53 tl54 tc55) ∧
                   ∀ w56, Ext w52 w56 →
                   Run Try.prog (.append #[22, 22] 22 [(.slice out11 outl11 outc11), (.slice t48 tl49 tc50)]) w56 fun v57 w57 =>
                    ∃ t58 : Option Addr, ∃ tl59 : Nat, ∃ tc60 : Nat, v57 = (.slice t58 tl59 tc60) ∧
                    Store w57 p8 [(.slice t53 tl54 tc55)] [] fun w61 =>
                     J24 t40 tl41 tc42 t58 tl59 tc60 w61) ∧
                (∃ t38 : Option Addr, ∃ tl39 : Nat, ∃ tc40 : Nat, cell w34 p8 0 = some (.slice t38 tl39 tc40) ∧
                (∀ w41, Ext w34 w41 →
                Run Try.prog (.append #[36, 36] 36 [(.slice row10 rowl10 rowc10), (.slice t35 tl36 tc37)]) w41 fun v42 w42 =>
                 ∃ t43 : Option Addr, ∃ tl44 : Nat, ∃ tc45 : Nat, v42 = (.slice t43 tl44 tc45) ∧
                 (∀ w46, Ext w42 w46 →
                 Run Try.prog (.append #[37, 37] 37 [(.slice t38 tl39 tc40), (.slice t30 tl31 tc32)]) w46 fun v47 w47 =>
                  ∃ t48 : Option Addr, ∃ tl49 : Nat, ∃ tc50 : Nat, v47 = (.slice t48 tl49 tc50) ∧
                  ∀ w51, Ext w47 w51 →
                  Run Try.prog (.buildSlice 22 1 [(0, (.int .i64 t22))]) w51 fun v52 w52 =>
                   Ext w51 w52 ∧
                   ∃ t53 : Option Addr, ∃ tl54 : Nat, ∃ tc55 : Nat, v52 = (.slice t53 tl54 tc55) ∧
                   ∀ w56, Ext w52 w56 →
                   Run Try.prog (.append #[22, 22] 22 [(.slice out11 outl11 outc11), (.slice t53 tl54 tc55)]) w56 fun v57 w57 =>
                    ∃ t58 : Option Addr, ∃ tl59 : Nat, ∃ tc60 : Nat, v57 = (.slice t58 tl59 tc60) ∧
                    Store w57 p8 [(.slice t48 tl49 tc50)] [] fun w61 =>
                     J24 t43 tl44 tc45 t58 tl59 tc60 w61) ∧
                 ∀ w46, Ext w42 w46 →
                 Run Try.prog (.buildSlice 22 1 [(0, (.int .i64 t22))]) w46 fun v47 w47 =>
                  Ext w46 w47 ∧
                  ∃ t48 : Option Addr, ∃ tl49 : Nat, ∃ tc50 : Nat, v47 = (.slice t48 tl49 tc50) ∧
                  ∀ w51, Ext w47 w51 →
                  Run Try.prog (.append #[37, 37] 37 [(.slice t38 tl39 tc40), (.slice t30 tl31 tc32)]) w51 fun v52 w52 =>
                   ∃ t53 : Option Addr, ∃ tl54 : Nat, ∃ tc55 : Nat, v52 = (.slice t53 tl54 tc55) ∧
                   ∀ w56, Ext w52 w56 →
                   Run Try.prog (.append #[22, 22] 22 [(.slice out11 outl11 outc11), (.slice t48 tl49 tc50)]) w56 fun v57 w57 =>
                    ∃ t58 : Option Addr, ∃ tl59 : Nat, ∃ tc60 : Nat, v57 = (.slice t58 tl59 tc60) ∧
                    Store w57 p8 [(.slice t53 tl54 tc55)] [] fun w61 =>
                     J24 t43 tl44 tc45 t58 tl59 tc60 w61) ∧
                ∀ w41, Ext w34 w41 →
                Run Try.prog (.buildSlice 22 1 [(0, (.int .i64 t22))]) w41 fun v42 w42 =>
                 Ext w41 w42 ∧
                 ∃ t43 : Option Addr, ∃ tl44 : Nat, ∃ tc45 : Nat, v42 = (.slice t43 tl44 tc45) ∧
                 ∀ w46, Ext w42 w46 →
                 Run Try.prog (.append #[36, 36] 36 [(.slice row10 rowl10 rowc10), (.slice t35 tl36 tc37)]) w46 fun v47 w47 =>
                  ∃ t48 : Option Addr, ∃ tl49 : Nat, ∃ tc50 : Nat, v47 = (.slice t48 tl49 tc50) ∧
                  ∀ w51, Ext w47 w51 →
                  Run Try.prog (.append #[37, 37] 37 [(.slice t38 tl39 tc40), (.slice t30 tl31 tc32)]) w51 fun v52 w52 =>
                   ∃ t53 : Option Addr, ∃ tl54 : Nat, ∃ tc55 : Nat, v52 = (.slice t53 tl54 tc55) ∧
                   ∀ w56, Ext w52 w56 →
                   Run Try.prog (.append #[22, 22] 22 [(.slice out11 outl11 outc11), (.slice t43 tl44 tc45)]) w56 fun v57 w57 =>
                    ∃ t58 : Option Addr, ∃ tl59 : Nat, ∃ tc60 : Nat, v57 = (.slice t58 tl59 tc60) ∧
                    Store w57 p8 [(.slice t53 tl54 tc55)] [] fun w61 =>
                     J24 t48 tl49 tc50 t58 tl59 tc60 w61) ∧
                ∀ w38, Ext w34 w38 →
                Run Try.prog (.buildSlice 22 1 [(0, (.int .i64 t22))]) w38 fun v39 w39 =>
                 Ext w38 w39 ∧
                 ∃ t40 : Option Addr, ∃ tl41 : Nat, ∃ tc42 : Nat, v39 = (.slice t40 tl41 tc42) ∧
                 (∀ w43, Ext w39 w43 →
                 Run Try.prog (.append #[36, 36] 36 [(.slice row10 rowl10 rowc10), (.slice t35 tl36 tc37)]) w43 fun v44 w44 =>
                  ∃ t45 : Option Addr, ∃ tl46 : Nat, ∃ tc47 : Nat, v44 = (.slice t45 tl46 tc47) ∧
                  ∃ t48 : Option Addr, ∃ tl49 : Nat, ∃ tc50 : Nat, cell w44 p8 0 = some (.slice t48 tl49 tc50) ∧
                  ∀ w51, Ext w44 w51 →
                  Run Try.prog (.append #[37, 37] 37 [(.slice t48 tl49 tc50), (.slice t30 tl31 tc32)]) w51 fun v52 w52 =>
                   ∃ t53 : Option Addr, ∃ tl54 : Nat, ∃ tc55 : Nat, v52 = (.slice t53 tl54 tc55) ∧
                   ∀ w56, Ext w52 w56 →
                   Run Try.prog (.append #[22, 22] 22 [(.slice out11 outl11 outc11), (.slice t40 tl41 tc42)]) w56 fun v57 w57 =>
                    ∃ t58 : Option Addr, ∃ tl59 : Nat, ∃ tc60 : Nat, v57 = (.slice t58 tl59 tc60) ∧
                    Store w57 p8 [(.slice t53 tl54 tc55)] [] fun w61 =>
                     J24 t45 tl46 tc47 t58 tl59 tc60 w61) ∧
                 ∃ t43 : Option Addr, ∃ tl44 : Nat, ∃ tc45 : Nat, cell w39 p8 0 = some (.slice t43 tl44 tc45) ∧
                 ∀ w46, Ext w39 w46 →
                 Run Try.prog (.append #[36, 36] 36 [(.slice row10 rowl10 rowc10), (.slice t35 tl36 tc37)]) w46 fun v47 w47 =>
                  ∃ t48 : Option Addr, ∃ tl49 : Nat, ∃ tc50 : Nat, v47 = (.slice t48 tl49 tc50) ∧
                  ∀ w51, Ext w47 w51 →
                  Run Try.prog (.append #[37, 37] 37 [(.slice t43 tl44 tc45), (.slice t30 tl31 tc32)]) w51 fun v52 w52 =>
                   ∃ t53 : Option Addr, ∃ tl54 : Nat, ∃ tc55 : Nat, v52 = (.slice t53 tl54 tc55) ∧
                   ∀ w56, Ext w52 w56 →
                   Run Try.prog (.append #[22, 22] 22 [(.slice out11 outl11 outc11), (.slice t40 tl41 tc42)]) w56 fun v57 w57 =>
                    ∃ t58 : Option Addr, ∃ tl59 : Nat, ∃ tc60 : Nat, v57 = (.slice t58 tl59 tc60) ∧
                    Store w57 p8 [(.slice t53 tl54 tc55)] [] fun w61 =>
                     J24 t48 tl49 tc50 t58 tl59 tc60 w61) ∧
               (∃ t33 : Option Addr, ∃ tl34 : Nat, ∃ tc35 : Nat, cell w29 p8 0 = some (.slice t33 tl34 tc35) ∧
               (∀ w36, Ext w29 w36 →
               Run Try.prog (.buildSlice 36 1 [(0, (.int .i64 k13))]) w36 fun v37 w37 =>
                Ext w36 w37 ∧
                ∃ t38 : Option Addr, ∃ tl39 : Nat, ∃ tc40 : Nat, v37 = (.slice t38 tl39 tc40) ∧
                (∀ w41, Ext w37 w41 →
                Run Try.prog (.append #[36, 36] 36 [(.slice row10 rowl10 rowc10), (.slice t38 tl39 tc40)]) w41 fun v42 w42 =>
                 ∃ t43 : Option Addr, ∃ tl44 : Nat, ∃ tc45 : Nat, v42 = (.slice t43 tl44 tc45) ∧
                 (∀ w46, Ext w42 w46 →
                 Run Try.prog (.append #[37, 37] 37 [(.slice t33 tl34 tc35), (.slice t30 tl31 tc32)]) w46 fun v47 w47 =>
                  ∃ t48 : Option Addr, ∃ tl49 : Nat, ∃ tc50 : Nat, v47 = (.slice t48 tl49 tc50) ∧
                  ∀ w51, Ext w47 w51 →
                  Run Try.prog (.buildSlice 22 1 [(0, (.int .i64 t22))]) w51 fun v52 w52 =>
                   Ext w51 w52 ∧
                   ∃ t53 : Option Addr, ∃ tl54 : Nat, ∃ tc55 : Nat, v52 = (.slice t53 tl54 tc55) ∧
                   ∀ w56, Ext w52 w56 →
                   Run Try.prog (.append #[22, 22] 22 [(.slice out11 outl11 outc11), (.slice t53 tl54 tc55)]) w56 fun v57 w57 =>
                    ∃ t58 : Option Addr, ∃ tl59 : Nat, ∃ tc60 : Nat, v57 = (.slice t58 tl59 tc60) ∧
                    Store w57 p8 [(.slice t48 tl49 tc50)] [] fun w61 =>
                     J24 t43 tl44 tc45 t58 tl59 tc60 w61) ∧
                 ∀ w46, Ext w42 w46 →
                 Run Try.prog (.buildSlice 22 1 [(0, (.int .i64 t22))]) w46 fun v47 w47 =>
                  Ext w46 w47 ∧
                  ∃ t48 : Option Addr, ∃ tl49 : Nat, ∃ tc50 : Nat, v47 = (.slice t48 tl49 tc50) ∧
                  ∀ w51, Ext w47 w51 →
                  Run Try.prog (.append #[37, 37] 37 [(.slice t33 tl34 tc35), (.slice t30 tl31 tc32)]) w51 fun v52 w52 =>
                   ∃ t53 : Option Addr, ∃ tl54 : Nat, ∃ tc55 : Nat, v52 = (.slice t53 tl54 tc55) ∧
                   ∀ w56, Ext w52 w56 →
                   Run Try.prog (.append #[22, 22] 22 [(.slice out11 outl11 outc11), (.slice t48 tl49 tc50)]) w56 fun v57 w57 =>
                    ∃ t58 : Option Addr, ∃ tl59 : Nat, ∃ tc60 : Nat, v57 = (.slice t58 tl59 tc60) ∧
                    Store w57 p8 [(.slice t53 tl54 tc55)] [] fun w61 =>
                     J24 t43 tl44 tc45 t58 tl59 tc60 w61) ∧
                ∀ w41, Ext w37 w41 →
                Run Try.prog (.buildSlice 22 1 [(0, (.int .i64 t22))]) w41 fun v42 w42 =>
                 Ext w41 w42 ∧
                 ∃ t43 : Option Addr, ∃ tl44 : Nat, ∃ tc45 : Nat, v42 = (.slice t43 tl44 tc45) ∧
                 ∀ w46, Ext w42 w46 →
                 Run Try.prog (.append #[36, 36] 36 [(.slice row10 rowl10 rowc10), (.slice t38 tl39 tc40)]) w46 fun v47 w47 =>
                  ∃ t48 : Option Addr, ∃ tl49 : Nat, ∃ tc50 : Nat, v47 = (.slice t48 tl49 tc50) ∧
                  ∀ w51, Ext w47 w51 →
                  Run Try.prog (.append #[37, 37] 37 [(.slice t33 tl34 tc35), (.slice t30 tl31 tc32)]) w51 fun v52 w52 =>
                   ∃ t53 : Option Addr, ∃ tl54 : Nat, ∃ tc55 : Nat, v52 = (.slice t53 tl54 tc55) ∧
                   ∀ w56, Ext w52 w56 →
                   Run Try.prog (.append #[22, 22] 22 [(.slice out11 outl11 outc11), (.slice t43 tl44 tc45)]) w56 fun v57 w57 =>
                    ∃ t58 : Option Addr, ∃ tl59 : Nat, ∃ tc60 : Nat, v57 = (.slice t58 tl59 tc60) ∧
                    Store w57 p8 [(.slice t53 tl54 tc55)] [] fun w61 =>
                     J24 t48 tl49 tc50 t58 tl59 tc60 w61) ∧
               ∀ w36, Ext w29 w36 →
               Run Try.prog (.buildSlice 22 1 [(0, (.int .i64 t22))]) w36 fun v37 w37 =>
                Ext w36 w37 ∧
                ∃ t38 : Option Addr, ∃ tl39 : Nat, ∃ tc40 : Nat, v37 = (.slice t38 tl39 tc40) ∧
                ∀ w41, Ext w37 w41 →
                Run Try.prog (.buildSlice 36 1 [(0, (.int .i64 k13))]) w41 fun v42 w42 =>
                 Ext w41 w42 ∧
                 ∃ t43 : Option Addr, ∃ tl44 : Nat, ∃ tc45 : Nat, v42 = (.slice t43 tl44 tc45) ∧
                 ∀ w46, Ext w42 w46 →
                 Run Try.prog (.append #[36, 36] 36 [(.slice row10 rowl10 rowc10), (.slice t43 tl44 tc45)]) w46 fun v47 w47 =>
                  ∃ t48 : Option Addr, ∃ tl49 : Nat, ∃ tc50 : Nat, v47 = (.slice t48 tl49 tc50) ∧
                  ∀ w51, Ext w47 w51 →
                  Run Try.prog (.append #[37, 37] 37 [(.slice t33 tl34 tc35), (.slice t30 tl31 tc32)]) w51 fun v52 w52 =>
                   ∃ t53 : Option Addr, ∃ tl54 : Nat, ∃ tc55 : Nat, v52 = (.slice t53 tl54 tc55) ∧
                   ∀ w56, Ext w52 w56 →
                   Run Try.prog (.append #[22, 22] 22 [(.slice out11 outl11 outc11), (.slice t38 tl39 tc40)]) w56 fun v57 w57 =>
                    ∃ t58 : Option Addr, ∃ tl59 : Nat, ∃ tc60 : Nat, v57 = (.slice t58 tl59 tc60) ∧
                    Store w57 p8 [(.slice t53 tl54 tc55)] [] fun w61 =>
                     J24 t48 tl49 tc50 t58 tl59 tc60 w61) ∧
               ∀ w33, Ext w29 w33 →
               Run Try.prog (.buildSlice 22 1 [(0, (.int .i64 t22))]) w33 fun v34 w34 =>
                Ext w33 w34 ∧
                ∃ t35 : Option Addr, ∃ tl36 : Nat, ∃ tc37 : Nat, v34 = (.slice t35 tl36 tc37) ∧
                (∀ w38, Ext w34 w38 →
                Run Try.prog (.buildSlice 36 1 [(0, (.int .i64 k13))]) w38 fun v39 w39 =>
                 Ext w38 w39 ∧
                 ∃ t40 : Option Addr, ∃ tl41 : Nat, ∃ tc42 : Nat, v39 = (.slice t40 tl41 tc42) ∧
                 (∀ w43, Ext w39 w43 →
                 Run Try.prog (.append #[36, 36] 36 [(.slice row10 rowl10 rowc10), (.slice t40 tl41 tc42)]) w43 fun v44 w44 =>
                  ∃ t45 : Option Addr, ∃ tl46 : Nat, ∃ tc47 : Nat, v44 = (.slice t45 tl46 tc47) ∧
                  ∃ t48 : Option Addr, ∃ tl49 : Nat, ∃ tc50 : Nat, cell w44 p8 0 = some (.slice t48 tl49 tc50) ∧
                  ∀ w51, Ext w44 w51 →
                  Run Try.prog (.append #[37, 37] 37 [(.slice t48 tl49 tc50), (.slice t30 tl31 tc32)]) w51 fun v52 w52 =>
                   ∃ t53 : Option Addr, ∃ tl54 : Nat, ∃ tc55 : Nat, v52 = (.slice t53 tl54 tc55) ∧
                   ∀ w56, Ext w52 w56 →
                   Run Try.prog (.append #[22, 22] 22 [(.slice out11 outl11 outc11), (.slice t35 tl36 tc37)]) w56 fun v57 w57 =>
                    ∃ t58 : Option Addr, ∃ tl59 : Nat, ∃ tc60 : Nat, v57 = (.slice t58 tl59 tc60) ∧
                    Store w57 p8 [(.slice t53 tl54 tc55)] [] fun w61 =>
                     J24 t45 tl46 tc47 t58 tl59 tc60 w61) ∧
                 ∃ t43 : Option Addr, ∃ tl44 : Nat, ∃ tc45 : Nat, cell w39 p8 0 = some (.slice t43 tl44 tc45) ∧
                 ∀ w46, Ext w39 w46 →
                 Run Try.prog (.append #[36, 36] 36 [(.slice row10 rowl10 rowc10), (.slice t40 tl41 tc42)]) w46 fun v47 w47 =>
                  ∃ t48 : Option Addr, ∃ tl49 : Nat, ∃ tc50 : Nat, v47 = (.slice t48 tl49 tc50) ∧
                  ∀ w51, Ext w47 w51 →
                  Run Try.prog (.append #[37, 37] 37 [(.slice t43 tl44 tc45), (.slice t30 tl31 tc32)]) w51 fun v52 w52 =>
                   ∃ t53 : Option Addr, ∃ tl54 : Nat, ∃ tc55 : Nat, v52 = (.slice t53 tl54 tc55) ∧
                   ∀ w56, Ext w52 w56 →
                   Run Try.prog (.append #[22, 22] 22 [(.slice out11 outl11 outc11), (.slice t35 tl36 tc37)]) w56 fun v57 w57 =>
                    ∃ t58 : Option Addr, ∃ tl59 : Nat, ∃ tc60 : Nat, v57 = (.slice t58 tl59 tc60) ∧
                    Store w57 p8 [(.slice t53 tl54 tc55)] [] fun w61 =>
                     J24 t48 tl49 tc50 t58 tl59 tc60 w61) ∧
                ∃ t38 : Option Addr, ∃ tl39 : Nat, ∃ tc40 : Nat, cell w34 p8 0 = some (.slice t38 tl39 tc40) ∧
                ∀ w41, Ext w34 w41 →
                Run Try.prog (.buildSlice 36 1 [(0, (.int .i64 k13))]) w41 fun v42 w42 =>
                 Ext w41 w42 ∧
                 ∃ t43 : Option Addr, ∃ tl44 : Nat, ∃ tc45 : Nat, v42 = (.slice t43 tl44 tc45) ∧
                 ∀ w46, Ext w42 w46 →
                 Run Try.prog (.append #[36, 36] 36 [(.slice row10 rowl10 rowc10), (.slice t43 tl44 tc45)]) w46 fun v47 w47 =>
                  ∃ t48 : Option Addr, ∃ tl49 : Nat, ∃ tc50 : Nat, v47 = (.slice t48 tl49 tc50) ∧
                  ∀ w51, Ext w47 w51 →
                  Run Try.prog (.append #[37, 37] 37 [(.slice t38 tl39 tc40), (.slice t30 tl31 tc32)]) w51 fun v52 w52 =>
                   ∃ t53 : Option Addr, ∃ tl54 : Nat, ∃ tc55 : Nat, v52 = (.slice t53 tl54 tc55) ∧
                   ∀ w56, Ext w52 w56 →
                   Run Try.prog (.append #[22, 22] 22 [(.slice out11 outl11 outc11), (.slice t35 tl36 tc37)]) w56 fun v57 w57 =>
                    ∃ t58 : Option Addr, ∃ tl59 : Nat, ∃ tc60 : Nat, v57 = (.slice t58 tl59 tc60) ∧
                    Store w57 p8 [(.slice t53 tl54 tc55)] [] fun w61 =>
                     J24 t48 tl49 tc50 t58 tl59 tc60 w61) ∧
              ∀ w28, Ext w14 w28 →
              Run Try.prog (.buildSlice 22 1 [(0, (.int .i64 t22))]) w28 fun v29 w29 =>
               Ext w28 w29 ∧
               ∃ t30 : Option Addr, ∃ tl31 : Nat, ∃ tc32 : Nat, v29 = (.slice t30 tl31 tc32) ∧
               (∀ w33, Ext w29 w33 →
               Run Try.prog (.buildSlice 36 1 [(0, (.int .i64 k13))]) w33 fun v34 w34 =>
                Ext w33 w34 ∧
                ∃ t35 : Option Addr, ∃ tl36 : Nat, ∃ tc37 : Nat, v34 = (.slice t35 tl36 tc37) ∧
                (∀ w38, Ext w34 w38 →
                Run Try.prog (.append #[36, 36] 36 [(.slice row10 rowl10 rowc10), (.slice t35 tl36 tc37)]) w38 fun v39 w39 =>
                 ∃ t40 : Option Addr, ∃ tl41 : Nat, ∃ tc42 : Nat, v39 = (.slice t40 tl41 tc42) ∧
                 ∃ t43 : Option Addr, ∃ tl44 : Nat, ∃ tc45 : Nat, cell w39 p8 0 = some (.slice t43 tl44 tc45) ∧
                 ∀ w46, Ext w39 w46 →
                 Run Try.prog (.buildSlice 37 1 [(0, (.int .u64 t23))]) w46 fun v47 w47 =>
                  Ext w46 w47 ∧
                  ∃ t48 : Option Addr, ∃ tl49 : Nat, ∃ tc50 : Nat, v47 = (.slice t48 tl49 tc50) ∧
                  ∀ w51, Ext w47 w51 →
                  Run Try.prog (.append #[37, 37] 37 [(.slice t43 tl44 tc45), (.slice t48 tl49 tc50)]) w51 fun v52 w52 =>
                   ∃ t53 : Option Addr, ∃ tl54 : Nat, ∃ tc55 : Nat, v52 = (.slice t53 tl54 tc55) ∧
                   ∀ w56, Ext w52 w56 →
                   Run Try.prog (.append #[22, 22] 22 [(.slice out11 outl11 outc11), (.slice t30 tl31 tc32)]) w56 fun v57 w57 =>
                    ∃ t58 : Option Addr, ∃ tl59 : Nat, ∃ tc60 : Nat, v57 = (.slice t58 tl59 tc60) ∧
                    Store w57 p8 [(.slice t53 tl54 tc55)] [] fun w61 =>
                     J24 t40 tl41 tc42 t58 tl59 tc60 w61) ∧
                (∃ t38 : Option Addr, ∃ tl39 : Nat, ∃ tc40 : Nat, cell w34 p8 0 = some (.slice t38 tl39 tc40) ∧
                (∀ w41, Ext w34 w41 →
                Run Try.prog (.append #[36, 36] 36 [(.slice row10 rowl10 rowc10), (.slice t35 tl36 tc37)]) w41 fun v42 w42 =>
                 ∃ t43 : Option Addr, ∃ tl44 : Nat, ∃ tc45 : Nat, v42 = (.slice t43 tl44 tc45) ∧
                 ∀ w46, Ext w42 w46 →
                 Run Try.prog (.buildSlice 37 1 [(0, (.int .u64 t23))]) w46 fun v47 w47 =>
                  Ext w46 w47 ∧
                  ∃ t48 : Option Addr, ∃ tl49 : Nat, ∃ tc50 : Nat, v47 = (.slice t48 tl49 tc50) ∧
                  ∀ w51, Ext w47 w51 →
                  Run Try.prog (.append #[37, 37] 37 [(.slice t38 tl39 tc40), (.slice t48 tl49 tc50)]) w51 fun v52 w52 =>
                   ∃ t53 : Option Addr, ∃ tl54 : Nat, ∃ tc55 : Nat, v52 = (.slice t53 tl54 tc55) ∧
                   ∀ w56, Ext w52 w56 →
                   Run Try.prog (.append #[22, 22] 22 [(.slice out11 outl11 outc11), (.slice t30 tl31 tc32)]) w56 fun v57 w57 =>
                    ∃ t58 : Option Addr, ∃ tl59 : Nat, ∃ tc60 : Nat, v57 = (.slice t58 tl59 tc60) ∧
                    Store w57 p8 [(.slice t53 tl54 tc55)] [] fun w61 =>
                     J24 t43 tl44 tc45 t58 tl59 tc60 w61) ∧
                ∀ w41, Ext w34 w41 →
                Run Try.prog (.buildSlice 37 1 [(0, (.int .u64 t23))]) w41 fun v42 w42 =>
                 Ext w41 w42 ∧
                 ∃ t43 : Option Addr, ∃ tl44 : Nat, ∃ tc45 : Nat, v42 = (.slice t43 tl44 tc45) ∧
                 ∀ w46, Ext w42 w46 →
                 Run Try.prog (.append #[36, 36] 36 [(.slice row10 rowl10 rowc10), (.slice t35 tl36 tc37)]) w46 fun v47 w47 =>
                  ∃ t48 : Option Addr, ∃ tl49 : Nat, ∃ tc50 : Nat, v47 = (.slice t48 tl49 tc50) ∧
                  ∀ w51, Ext w47 w51 →
                  Run Try.prog (.append #[37, 37] 37 [(.slice t38 tl39 tc40), (.slice t43 tl44 tc45)]) w51 fun v52 w52 =>
                   ∃ t53 : Option Addr, ∃ tl54 : Nat, ∃ tc55 : Nat, v52 = (.slice t53 tl54 tc55) ∧
                   ∀ w56, Ext w52 w56 →
                   Run Try.prog (.append #[22, 22] 22 [(.slice out11 outl11 outc11), (.slice t30 tl31 tc32)]) w56 fun v57 w57 =>
                    ∃ t58 : Option Addr, ∃ tl59 : Nat, ∃ tc60 : Nat, v57 = (.slice t58 tl59 tc60) ∧
                    Store w57 p8 [(.slice t53 tl54 tc55)] [] fun w61 =>
                     J24 t48 tl49 tc50 t58 tl59 tc60 w61) ∧
                ∀ w38, Ext w34 w38 →
                Run Try.prog (.buildSlice 37 1 [(0, (.int .u64 t23))]) w38 fun v39 w39 =>
                 Ext w38 w39 ∧
                 ∃ t40 : Option Addr, ∃ tl41 : Nat, ∃ tc42 : Nat, v39 = (.slice t40 tl41 tc42) ∧
                 (∀ w43, Ext w39 w43 →
                 Run Try.prog (.append #[36, 36] 36 [(.slice row10 rowl10 rowc10), (.slice t35 tl36 tc37)]) w43 fun v44 w44 =>
                  ∃ t45 : Option Addr, ∃ tl46 : Nat, ∃ tc47 : Nat, v44 = (.slice t45 tl46 tc47) ∧
                  ∃ t48 : Option Addr, ∃ tl49 : Nat, ∃ tc50 : Nat, cell w44 p8 0 = some (.slice t48 tl49 tc50) ∧
                  ∀ w51, Ext w44 w51 →
                  Run Try.prog (.append #[37, 37] 37 [(.slice t48 tl49 tc50), (.slice t40 tl41 tc42)]) w51 fun v52 w52 =>
                   ∃ t53 : Option Addr, ∃ tl54 : Nat, ∃ tc55 : Nat, v52 = (.slice t53 tl54 tc55) ∧
                   ∀ w56, Ext w52 w56 →
                   Run Try.prog (.append #[22, 22] 22 [(.slice out11 outl11 outc11), (.slice t30 tl31 tc32)]) w56 fun v57 w57 =>
                    ∃ t58 : Option Addr, ∃ tl59 : Nat, ∃ tc60 : Nat, v57 = (.slice t58 tl59 tc60) ∧
                    Store w57 p8 [(.slice t53 tl54 tc55)] [] fun w61 =>
                     J24 t45 tl46 tc47 t58 tl59 tc60 w61) ∧
                 ∃ t43 : Option Addr, ∃ tl44 : Nat, ∃ tc45 : Nat, cell w39 p8 0 = some (.slice t43 tl44 tc45) ∧
                 ∀ w46, Ext w39 w46 →
                 Run Try.prog (.append #[36, 36] 36 [(.slice row10 rowl10 rowc10), (.slice t35 tl36 tc37)]) w46 fun v47 w47 =>
                  ∃ t48 : Option Addr, ∃ tl49 : Nat, ∃ tc50 : Nat, v47 = (.slice t48 tl49 tc50) ∧
                  ∀ w51, Ext w47 w51 →
                  Run Try.prog (.append #[37, 37] 37 [(.slice t43 tl44 tc45), (.slice t40 tl41 tc42)]) w51 fun v52 w52 =>
                   ∃ t53 : Option Addr, ∃ tl54 : Nat, ∃ tc55 : Nat, v52 = (.slice t53 tl54 tc55) ∧
                   ∀ w56, Ext w52 w56 →
                   Run Try.prog (.append #[22, 22] 22 [(.slice out11 outl11 outc11), (.slice t30 tl31 tc32)]) w56 fun v57 w57 =>
                    ∃ t58 : Option Addr, ∃ tl59 : Nat, ∃ tc60 : Nat, v57 = (.slice t58 tl59 tc60) ∧
                    Store w57 p8 [(.slice t53 tl54 tc55)] [] fun w61 =>
                     J24 t48 tl49 tc50 t58 tl59 tc60 w61) ∧
               (∃ t33 : Option Addr, ∃ tl34 : Nat, ∃ tc35 : Nat, cell w29 p8 0 = some (.slice t33 tl34 tc35) ∧
               (∀ w36, Ext w29 w36 →
               Run Try.prog (.buildSlice 36 1 [(0, (.int .i64 k13))]) w36 fun v37 w37 =>
                Ext w36 w37 ∧
                ∃ t38 : Option Addr, ∃ tl39 : Nat, ∃ tc40 : Nat, v37 = (.slice t38 tl39 tc40) ∧
                (∀ w41, Ext w37 w41 →
                Run Try.prog (.append #[36, 36] 36 [(.slice row10 rowl10 rowc10), (.slice t38 tl39 tc40)]) w41 fun v42 w42 =>
                 ∃ t43 : Option Addr, ∃ tl44 : Nat, ∃ tc45 : Nat, v42 = (.slice t43 tl44 tc45) ∧
                 ∀ w46, Ext w42 w46 →
                 Run Try.prog (.buildSlice 37 1 [(0, (.int .u64 t23))]) w46 fun v47 w47 =>
                  Ext w46 w47 ∧
                  ∃ t48 : Option Addr, ∃ tl49 : Nat, ∃ tc50 : Nat, v47 = (.slice t48 tl49 tc50) ∧
                  ∀ w51, Ext w47 w51 →
                  Run Try.prog (.append #[37, 37] 37 [(.slice t33 tl34 tc35), (.slice t48 tl49 tc50)]) w51 fun v52 w52 =>
                   ∃ t53 : Option Addr, ∃ tl54 : Nat, ∃ tc55 : Nat, v52 = (.slice t53 tl54 tc55) ∧
                   ∀ w56, Ext w52 w56 →
                   Run Try.prog (.append #[22, 22] 22 [(.slice out11 outl11 outc11), (.slice t30 tl31 tc32)]) w56 fun v57 w57 =>
                    ∃ t58 : Option Addr, ∃ tl59 : Nat, ∃ tc60 : Nat, v57 = (.slice t58 tl59 tc60) ∧
                    Store w57 p8 [(.slice t53 tl54 tc55)] [] fun w61 =>
                     J24 t43 tl44 tc45 t58 tl59 tc60 w61) ∧
                ∀ w41, Ext w37 w41 →
                Run Try.prog (.buildSlice 37 1 [(0, (.int .u64 t23))]) w41 fun v42 w42 =>
                 Ext w41 w42 ∧
                 ∃ t43 : Option Addr, ∃ tl44 : Nat, ∃ tc45 : Nat, v42 = (.slice t43 tl44 tc45) ∧
                 ∀ w46, Ext w42 w46 →
                 Run Try.prog (.append #[36, 36] 36 [(.slice row10 rowl10 rowc10), (.slice t38 tl39 tc40)]) w46 fun v47 w47 =>
                  ∃ t48 : Option Addr, ∃ tl49 : Nat, ∃ tc50 : Nat, v47 = (.slice t48 tl49 tc50) ∧
                  ∀ w51, Ext w47 w51 →
                  Run Try.prog (.append #[37, 37] 37 [(.slice t33 tl34 tc35), (.slice t43 tl44 tc45)]) w51 fun v52 w52 =>
                   ∃ t53 : Option Addr, ∃ tl54 : Nat, ∃ tc55 : Nat, v52 = (.slice t53 tl54 tc55) ∧
                   ∀ w56, Ext w52 w56 →
                   Run Try.prog (.append #[22, 22] 22 [(.slice out11 outl11 outc11), (.slice t30 tl31 tc32)]) w56 fun v57 w57 =>
                    ∃ t58 : Option Addr, ∃ tl59 : Nat, ∃ tc60 : Nat, v57 = (.slice t58 tl59 tc60) ∧
                    Store w57 p8 [(.slice t53 tl54 tc55)] [] fun w61 =>
                     J24 t48 tl49 tc50 t58 tl59 tc60 w61) ∧
               ∀ w36, Ext w29 w36 →
               Run Try.prog (.buildSlice 37 1 [(0, (.int .u64 t23))]) w36 fun v37 w37 =>
                Ext w36 w37 ∧
                ∃ t38 : Option Addr, ∃ tl39 : Nat, ∃ tc40 : Nat, v37 = (.slice t38 tl39 tc40) ∧
                ∀ w41, Ext w37 w41 →
                Run Try.prog (.buildSlice 36 1 [(0, (.int .i64 k13))]) w41 fun v42 w42 =>
                 Ext w41 w42 ∧
                 ∃ t43 : Option Addr, ∃ tl44 : Nat, ∃ tc45 : Nat, v42 = (.slice t43 tl44 tc45) ∧
                 ∀ w46, Ext w42 w46 →
                 Run Try.prog (.append #[36, 36] 36 [(.slice row10 rowl10 rowc10), (.slice t43 tl44 tc45)]) w46 fun v47 w47 =>
                  ∃ t48 : Option Addr, ∃ tl49 : Nat, ∃ tc50 : Nat, v47 = (.slice t48 tl49 tc50) ∧
                  ∀ w51, Ext w47 w51 →
                  Run Try.prog (.append #[37, 37] 37 [(.slice t33 tl34 tc35), (.slice t38 tl39 tc40)]) w51 fun v52 w52 =>
                   ∃ t53 : Option Addr, ∃ tl54 : Nat, ∃ tc55 : Nat, v52 = (.slice t53 tl54 tc55) ∧
                   ∀ w56, Ext w52 w56 →
                   Run Try.prog (.append #[22, 22] 22 [(.slice out11 outl11 outc11), (.slice t30 tl31 tc32)]) w56 fun v57 w57 =>
                    ∃ t58 : Option Addr, ∃ tl59 : Nat, ∃ tc60 : Nat, v57 = (.slice t58 tl59 tc60) ∧
                    Store w57 p8 [(.slice t53 tl54 tc55)] [] fun w61 =>
                     J24 t48 tl49 tc50 t58 tl59 tc60 w61) ∧
               ∀ w33, Ext w29 w33 →
               Run Try.prog (.buildSlice 37 1 [(0, (.int .u64 t23))]) w33 fun v34 w34 =>
                Ext w33 w34 ∧
                ∃ t35 : Option Addr, ∃ tl36 : Nat, ∃ tc37 : Nat, v34 = (.slice t35 tl36 tc37) ∧
                (∀ w38, Ext w34 w38 →
                Run Try.prog (.buildSlice 36 1 [(0, (.int .i64 k13))]) w38 fun v39 w39 =>
                 Ext w38 w39 ∧
                 ∃ t40 : Option Addr, ∃ tl41 : Nat, ∃ tc42 : Nat, v39 = (.slice t40 tl41 tc42) ∧
                 (∀ w43, Ext w39 w43 →
                 Run Try.prog (.append #[36, 36] 36 [(.slice row10 rowl10 rowc10), (.slice t40 tl41 tc42)]) w43 fun v44 w44 =>
                  ∃ t45 : Option Addr, ∃ tl46 : Nat, ∃ tc47 : Nat, v44 = (.slice t45 tl46 tc47) ∧
                  ∃ t48 : Option Addr, ∃ tl49 : Nat, ∃ tc50 : Nat, cell w44 p8 0 = some (.slice t48 tl49 tc50) ∧
                  ∀ w51, Ext w44 w51 →
                  Run Try.prog (.append #[37, 37] 37 [(.slice t48 tl49 tc50), (.slice t35 tl36 tc37)]) w51 fun v52 w52 =>
                   ∃ t53 : Option Addr, ∃ tl54 : Nat, ∃ tc55 : Nat, v52 = (.slice t53 tl54 tc55) ∧
                   ∀ w56, Ext w52 w56 →
                   Run Try.prog (.append #[22, 22] 22 [(.slice out11 outl11 outc11), (.slice t30 tl31 tc32)]) w56 fun v57 w57 =>
                    ∃ t58 : Option Addr, ∃ tl59 : Nat, ∃ tc60 : Nat, v57 = (.slice t58 tl59 tc60) ∧
                    Store w57 p8 [(.slice t53 tl54 tc55)] [] fun w61 =>
                     J24 t45 tl46 tc47 t58 tl59 tc60 w61) ∧
                 ∃ t43 : Option Addr, ∃ tl44 : Nat, ∃ tc45 : Nat, cell w39 p8 0 = some (.slice t43 tl44 tc45) ∧
                 ∀ w46, Ext w39 w46 →
                 Run Try.prog (.append #[36, 36] 36 [(.slice row10 rowl10 rowc10), (.slice t40 tl41 tc42)]) w46 fun v47 w47 =>
                  ∃ t48 : Option Addr, ∃ tl49 : Nat, ∃ tc50 : Nat, v47 = (.slice t48 tl49 tc50) ∧
                  ∀ w51, Ext w47 w51 →
                  Run Try.prog (.append #[37, 37] 37 [(.slice t43 tl44 tc45), (.slice t35 tl36 tc37)]) w51 fun v52 w52 =>
                   ∃ t53 : Option Addr, ∃ tl54 : Nat, ∃ tc55 : Nat, v52 = (.slice t53 tl54 tc55) ∧
                   ∀ w56, Ext w52 w56 →
                   Run Try.prog (.append #[22, 22] 22 [(.slice out11 outl11 outc11), (.slice t30 tl31 tc32)]) w56 fun v57 w57 =>
                    ∃ t58 : Option Addr, ∃ tl59 : Nat, ∃ tc60 : Nat, v57 = (.slice t58 tl59 tc60) ∧
                    Store w57 p8 [(.slice t53 tl54 tc55)] [] fun w61 =>
                     J24 t48 tl49 tc50 t58 tl59 tc60 w61) ∧
                ∃ t38 : Option Addr, ∃ tl39 : Nat, ∃ tc40 : Nat, cell w34 p8 0 = some (.slice t38 tl39 tc40) ∧
                ∀ w41, Ext w34 w41 →
                Run Try.prog (.buildSlice 36 1 [(0, (.int .i64 k13))]) w41 fun v42 w42 =>
                 Ext w41 w42 ∧
                 ∃ t43 : Option Addr, ∃ tl44 : Nat, ∃ tc45 : Nat, v42 = (.slice t43 tl44 tc45) ∧
                 ∀ w46, Ext w42 w46 →
                 Run Try.prog (.append #[36, 36] 36 [(.slice row10 rowl10 rowc10), (.slice t43 tl44 tc45)]) w46 fun v47 w47 =>
                  ∃ t48 : Option Addr, ∃ tl49 : Nat, ∃ tc50 : Nat, v47 = (.slice t48 tl49 tc50) ∧
                  ∀ w51, Ext w47 w51 →
                  Run Try.prog (.append #[37, 37] 37 [(.slice t38 tl39 tc40), (.slice t35 tl36 tc37)]) w51 fun v52 w52 =>
                   ∃ t53 : Option Addr, ∃ tl54 : Nat, ∃ tc55 : Nat, v52 = (.slice t53 tl54 tc55) ∧
                   ∀ w56, Ext w52 w56 →
                   Run Try.prog (.append #[22, 22] 22 [(.slice out11 outl11 outc11), (.slice t30 tl31 tc32)]) w56 fun v57 w57 =>
                    ∃ t58 : Option Addr, ∃ tl59 : Nat, ∃ tc60 : Nat, v57 = (.slice t58 tl59 tc60) ∧
                    Store w57 p8 [(.slice t53 tl54 tc55)] [] fun w61 =>
                     J24 t48 tl49 tc50 t58 tl59 tc60 w61) ∧
             ∀ (row25 : Option Addr) (rowl25 : Nat) (rowc25 : Nat) (out26 : Option Addr) (outl26 : Nat) (outc26 : Nat) (w27 : World), J24 row25 rowl25 rowc25 out26 outl26 outc26 w27 →
              InR .i64 t22 ∧
              InR .i64 (left12 - t22) ∧
              InR .i64 (k13 + 1) ∧
              (I9 row25 rowl25 rowc25 out26 outl26 outc26 (left12 - t22) (k13 + 1) w27 ∧ M9 row25 rowl25 rowc25 out26 outl26 outc26 (left12 - t22) (k13 + 1) w27 < M9 row10 rowl10 rowc10 out11 outl11 outc11 left12 k13 w14))) ∧
          (((w_vl : Int) ≤ k13) →
           ∀ w15, Ext w14 w15 →
           FnP Try.prog F_slices_SortStableFunc_int_int #[(.slice row10 rowl10 rowc10), (.func (.func 19) #[] #[(.pointer p8)])] w15 fun v16 w16 =>
            v16 = (.tuple #[]) ∧
            (0 : Int) ≤ 0 ∧
            (0 : Int) ≤ left12 ∧
            (left12 : Int) ≤ (rowc10 : Int) ∧
            ∃ (I17 : Int → World → Prop) (M17 : Int → World → Nat), I17 0 w16 ∧
            ∀ (k18 : Int) (w19 : World), I17 k18 w19 →
             (((k18 < (((left12 - 0).toNat : Nat) : Int)) →
              (pCut row10 rowc10 0 1) ≠ none ∧
              (0 : Int) ≤ k18 ∧
              (k18 : Int) < (((left12 - 0).toNat : Nat) : Int) ∧
              ∃ t20 : Int, cell w19 (pIdx (pCut row10 rowc10 0 1) k18 1) 0 = some (.int .i64 t20) ∧
              out11 ≠ none ∧
              (0 : Int) ≤ t20 ∧
              (t20 : Int) < (outl11 : Int) ∧
              ∃ t21 : Int, cell w19 (pIdx out11 t20 1) 0 = some (.int .i64 t21) ∧
              InR .i64 (t21 + 1) ∧
              out11 ≠ none ∧
              (0 : Int) ≤ t20 ∧
              (t20 : Int) < (outl11 : Int) ∧
              Store w19 (pIdx out11 t20 1) [(.int .i64 (t21 + 1))] [] fun w22 =>
               InR .i64 (k18 + 1) ∧
               (I17 (k18 + 1) w22 ∧ M17 (k18 + 1) w22 < M17 k18 w19))) ∧
             (((((left12 - 0).toNat : Nat) : Int) ≤ k18) →
              ∀ w20, Ext w19 w20 →
              Q (.tuple #[(.slice out11 outl11 outc11), (.int .i64 0)]) w20))))))

theorem ok_share_Whole (all_v : Int) (w_v : Option Addr) (w_vl : Nat) (w_vc : Nat) (w : World) (Q : Value → World → Prop) (h : wp_share_Whole all_v w_v w_vl w_vc w Q) : FnP Try.prog F_share_Whole #[(.int .i64 all_v), (.slice w_v w_vl w_vc)] w Q := by
  have e_ : wp_share_Whole all_v w_v w_vl w_vc w Q = Runs Try.prog Q ({ N := 105, wrap := [], pub := [12], muts := [18], joins := [] } : Cfg) Try.f12 (Try.f12.body.getD .skip) [.sc (.int .i64 all_v), .sc (.slc w_v w_vl w_vc)] w := by kernel_rfl
  rw [e_] at h
  exact runs_fn h Try.func12 (by kernel_rfl) (fun args w => Try.call12 args w) (by kernel_rfl) (by kernel_rfl) rfl rfl

/-- shiftbell/share.Whole$1 -/
def wp_share_Whole_1 (i : Int) (k : Int) (c0 : Option Addr) (w : World) (Q : Value → World → Prop) : Prop :=
  ∃ t0 : Option Addr, ∃ tl1 : Nat, ∃ tc2 : Nat, cell w c0 0 = some (.slice t0 tl1 tc2) ∧
  t0 ≠ none ∧
  (0 : Int) ≤ k ∧
  (k : Int) < (tl1 : Int) ∧
  ∃ t3 : Int, cell w (pIdx t0 k 1) 0 = some (.int .u64 t3) ∧
  ∃ t4 : Option Addr, ∃ tl5 : Nat, ∃ tc6 : Nat, cell w c0 0 = some (.slice t4 tl5 tc6) ∧
  t4 ≠ none ∧
  (0 : Int) ≤ i ∧
  (i : Int) < (tl5 : Int) ∧
  ∃ t7 : Int, cell w (pIdx t4 i 1) 0 = some (.int .u64 t7) ∧
  ∀ w8, Ext w w8 →
  FnP Try.prog F_cmp_Compare_uint64 #[(.int .u64 t3), (.int .u64 t7)] w8 fun v9 w9 =>
   Ext w8 w9 ∧
   ∃ t10 : Int, v9 = (.int .i64 t10) ∧
   ∀ w11, Ext w w11 →
   Q (.int .i64 t10) w11

theorem ok_share_Whole_1 (i : Int) (k : Int) (c0 : Option Addr) (w : World) (Q : Value → World → Prop) (h : wp_share_Whole_1 i k c0 w Q) : FnP Try.prog F_share_Whole_1 #[(.int .i64 i), (.int .i64 k), (.pointer c0)] w Q := by
  have e_ : wp_share_Whole_1 i k c0 w Q = Runs Try.prog Q ({ N := 15, wrap := [], pub := [], muts := [], joins := [] } : Cfg) Try.f19 (Try.f19.body.getD .skip) [.sc (.int .i64 i), .sc (.int .i64 k), .sc (.ptr c0)] w := by kernel_rfl
  rw [e_] at h
  exact runs_fn h Try.func19 (by kernel_rfl) (fun args w => Try.call19 args w) (by kernel_rfl) (by kernel_rfl) rfl rfl

/-- cmp.Compare[uint64] -/
def wp_cmp_Compare_uint64 (x : Int) (y : Int) (w : World) (Q : Value → World → Prop) : Prop :=
  ∀ w0, Ext w w0 →
  FnP Try.prog F_cmp_isNaN_uint64 #[(.int .u64 x)] w0 fun v1 w1 =>
   Ext w0 w1 ∧
   ∃ t2 : Bool, v1 = (.bool t2) ∧
   ∀ w3, Ext w w3 →
   FnP Try.prog F_cmp_isNaN_uint64 #[(.int .u64 y)] w3 fun v4 w4 =>
    Ext w3 w4 ∧
    ∃ t5 : Bool, v4 = (.bool t5) ∧
    (((t2 = true) →
     ((t5 = true) →
      ∀ w6, Ext w w6 →
      Q (.int .i64 0) w6) ∧
     ((t5 = false) →
      ∀ w6, Ext w w6 →
      Q (.int .i64 (-1)) w6))) ∧
    ((t2 = false) →
     ((t5 = true) →
      ∀ w6, Ext w w6 →
      Q (.int .i64 1) w6) ∧
     ((t5 = false) →
      ((x < y) →
       ∀ w6, Ext w w6 →
       Q (.int .i64 (-1)) w6) ∧
      ((y ≤ x) →
       ((y < x) →
        ∀ w6, Ext w w6 →
        Q (.int .i64 1) w6) ∧
       ((x ≤ y) →
        ∀ w6, Ext w w6 →
        Q (.int .i64 0) w6))))

theorem ok_cmp_Compare_uint64 (x : Int) (y : Int) (w : World) (Q : Value → World → Prop) (h : wp_cmp_Compare_uint64 x y w Q) : FnP Try.prog F_cmp_Compare_uint64 #[(.int .u64 x), (.int .u64 y)] w Q := by
  have e_ : wp_cmp_Compare_uint64 x y w Q = Runs Try.prog Q ({ N := 20, wrap := [], pub := [], muts := [], joins := [] } : Cfg) Try.f20 (Try.f20.body.getD .skip) [.sc (.int .u64 x), .sc (.int .u64 y)] w := by kernel_rfl
  rw [e_] at h
  exact runs_fn h Try.func20 (by kernel_rfl) (fun args w => Try.call20 args w) (by kernel_rfl) (by kernel_rfl) rfl rfl

/-- cmp.isNaN[uint64] -/
def wp_cmp_isNaN_uint64 (x : Int) (w : World) (Q : Value → World → Prop) : Prop :=
  ∀ w0, Ext w w0 →
  Q (.bool (decide (x ≠ x))) w0

theorem ok_cmp_isNaN_uint64 (x : Int) (w : World) (Q : Value → World → Prop) (h : wp_cmp_isNaN_uint64 x w Q) : FnP Try.prog F_cmp_isNaN_uint64 #[(.int .u64 x)] w Q := by
  have e_ : wp_cmp_isNaN_uint64 x w Q = Runs Try.prog Q ({ N := 6, wrap := [], pub := [], muts := [], joins := [] } : Cfg) Try.f25 (Try.f25.body.getD .skip) [.sc (.int .u64 x)] w := by kernel_rfl
  rw [e_] at h
  exact runs_fn h Try.func25 (by kernel_rfl) (fun args w => Try.call25 args w) (by kernel_rfl) (by kernel_rfl) rfl rfl

/-- slices.SortStableFunc[[]int,int] -/
def wp_slices_SortStableFunc_int_int (x : Option Addr) (xl : Nat) (xc : Nat) (cmp : Value) (w : World) (Q : Value → World → Prop) : Prop :=
  ∀ w0, Ext w w0 →
  FnP Try.prog F_slices_stableCmpFunc_int #[(.slice x xl xc), (.int .i64 (xl : Int)), cmp] w0 fun v1 w1 =>
   v1 = (.tuple #[]) ∧
   ∀ w2, Ext w1 w2 →
   Q (.tuple #[]) w2

theorem ok_slices_SortStableFunc_int_int (x : Option Addr) (xl : Nat) (xc : Nat) (cmp : Value) (w : World) (Q : Value → World → Prop) (h : wp_slices_SortStableFunc_int_int x xl xc cmp w Q) : FnP Try.prog F_slices_SortStableFunc_int_int #[(.slice x xl xc), cmp] w Q := by
  have e_ : wp_slices_SortStableFunc_int_int x xl xc cmp w Q = Runs Try.prog Q ({ N := 9, wrap := [], pub := [], muts := [24], joins := [] } : Cfg) Try.f18 (Try.f18.body.getD .skip) [.sc (.slc x xl xc), .sc (.val cmp)] w := by kernel_rfl
  rw [e_] at h
  exact runs_fn h Try.func18 (by kernel_rfl) (fun args w => Try.call18 args w) (by kernel_rfl) (by kernel_rfl) rfl rfl

/-- slices.stableCmpFunc[int] -/
def wp_slices_stableCmpFunc_int (data : Option Addr) (datal : Nat) (datac : Nat) (n : Int) (cmp : Value) (w : World) (Q : Value → World → Prop) : Prop :=
  ∃ (I0 : Int → Int → World → Prop) (M0 : Int → Int → World → Nat), I0 0 20 w ∧
  ∀ (a1 : Int) (b2 : Int) (w3 : World), I0 a1 b2 w3 →
   (((b2 ≤ n) →
    ∀ w4, Ext w3 w4 →
    FnP Try.prog F_slices_insertionSortCmpFunc_int #[(.slice data datal datac), (.int .i64 a1), (.int .i64 b2), cmp] w4 fun v5 w5 =>
     v5 = (.tuple #[]) ∧
     InR .i64 (b2 + 20) ∧
     (I0 b2 (b2 + 20) w5 ∧ M0 b2 (b2 + 20) w5 < M0 a1 b2 w3))) ∧
   ((n < b2) →
    ∀ w4, Ext w3 w4 →
    FnP Try.prog F_slices_insertionSortCmpFunc_int #[(.slice data datal datac), (.int .i64 a1), (.int .i64 n), cmp] w4 fun v5 w5 =>
     v5 = (.tuple #[]) ∧
     ∃ (I6 : Int → Int → Int → World → Prop) (M6 : Int → Int → Int → World → Nat), I6 a1 b2 20 w5 ∧
     ∀ (a7 : Int) (b8 : Int) (blockSize9 : Int) (w10 : World), I6 a7 b8 blockSize9 w10 →
      (((blockSize9 < n) →
       InR .i64 (2 * blockSize9) ∧
       ∃ (I11 : Int → Int → World → Prop) (M11 : Int → Int → World → Nat), I11 0 (2 * blockSize9) w10 ∧
       ∀ (a12 : Int) (b13 : Int) (w14 : World), I11 a12 b13 w14 →
        (((b13 ≤ n) →
         InR .i64 (a12 + blockSize9) ∧
         ∀ w15, Ext w14 w15 →
         FnP Try.prog F_slices_symMergeCmpFunc_int #[(.slice data datal datac), (.int .i64 a12), (.int .i64 (a12 + blockSize9)), (.int .i64 b13), cmp] w15 fun v16 w16 =>
          v16 = (.tuple #[]) ∧
          InR .i64 (2 * blockSize9) ∧
          InR .i64 (b13 + (2 * blockSize9)) ∧
          (I11 b13 (b13 + (2 * blockSize9)) w16 ∧ M11 b13 (b13 + (2 * blockSize9)) w16 < M11 a12 b13 w14))) ∧
        ((n < b13) →
         InR .i64 (a12 + blockSize9) ∧
         ((((a12 + blockSize9) < n) →
          ∀ w15, Ext w14 w15 →
          FnP Try.prog F_slices_symMergeCmpFunc_int #[(.slice data datal datac), (.int .i64 a12), (.int .i64 (a12 + blockSize9)), (.int .i64 n), cmp] w15 fun v16 w16 =>
           v16 = (.tuple #[]) ∧
           InR .i64 (blockSize9 * 2) ∧
           (I6 a12 b13 (blockSize9 * 2) w16 ∧ M6 a12 b13 (blockSize9 * 2) w16 < M6 a7 b8 blockSize9 w10))) ∧
         ((n ≤ (a12 + blockSize9)) →
          InR .i64 (blockSize9 * 2) ∧
          (I6 a12 b13 (blockSize9 * 2) w14 ∧ M6 a12 b13 (blockSize9 * 2) w14 < M6 a7 b8 blockSize9 w10))))) ∧
      ((n ≤ blockSize9) →
       ∀ w11, Ext w10 w11 →
       Q (.tuple #[]) w11))

theorem ok_slices_stableCmpFunc_int (data : Option Addr) (datal : Nat) (datac : Nat) (n : Int) (cmp : Value) (w : World) (Q : Value → World → Prop) (h : wp_slices_stableCmpFunc_int data datal datac n cmp w Q) : FnP Try.prog F_slices_stableCmpFunc_int #[(.slice data datal datac), (.int .i64 n), cmp] w Q := by
  have e_ : wp_slices_stableCmpFunc_int data datal datac n cmp w Q = Runs Try.prog Q ({ N := 63, wrap := [], pub := [], muts := [27, 28], joins := [] } : Cfg) Try.f24 (Try.f24.body.getD .skip) [.sc (.slc data datal datac), .sc (.int .i64 n), .sc (.val cmp)] w := by kernel_rfl
  rw [e_] at h
  exact runs_fn h Try.func24 (by kernel_rfl) (fun args w => Try.call24 args w) (by kernel_rfl) (by kernel_rfl) rfl rfl

/-- slices.insertionSortCmpFunc[int] -/
def wp_slices_insertionSortCmpFunc_int (data : Option Addr) (datal : Nat) (datac : Nat) (a : Int) (b : Int) (cmp : Value) (w : World) (Q : Value → World → Prop) : Prop :=
  InR .i64 (a + 1) ∧
  ∃ (I0 : Int → World → Prop) (M0 : Int → World → Nat), I0 (a + 1) w ∧
  ∀ (i1 : Int) (w2 : World), I0 i1 w2 →
   (((i1 < b) →
    ∃ (I3 : Int → World → Prop) (M3 : Int → World → Nat), I3 i1 w2 ∧
    ∀ (j4 : Int) (w5 : World), I3 j4 w5 →
     ((a < j4) →
      data ≠ none) ∧
     ((a < j4) →
      (0 : Int) ≤ j4) ∧
     ((a < j4) →
      (j4 : Int) < (datal : Int)) ∧
     (((a < j4) →
      ∃ t6 : Int, cell w5 (pIdx data j4 1) 0 = some (.int .i64 t6) ∧
      InR .i64 (j4 - 1) ∧
      data ≠ none ∧
      (0 : Int) ≤ (j4 - 1) ∧
      ((j4 - 1) : Int) < (datal : Int) ∧
      ∃ t7 : Int, cell w5 (pIdx data (j4 - 1) 1) 0 = some (.int .i64 t7) ∧
      ∀ w8, Ext w5 w8 →
      FnVP Try.prog cmp [(.int .i64 t6), (.int .i64 t7)] w8 fun v9 w9 =>
       Ext w8 w9 ∧
       ∃ t10 : Int, v9 = (.int .i64 t10) ∧
       (((t10 < 0) →
        InR .i64 (j4 - 1) ∧
        InR .i64 (j4 - 1) ∧
        data ≠ none ∧
        (0 : Int) ≤ (j4 - 1) ∧
        ((j4 - 1) : Int) < (datal : Int) ∧
        ∃ t11 : Int, cell w5 (pIdx data (j4 - 1) 1) 0 = some (.int .i64 t11) ∧
        data ≠ none ∧
        (0 : Int) ≤ j4 ∧
        (j4 : Int) < (datal : Int) ∧
        ∃ t12 : Int, cell w5 (pIdx data j4 1) 0 = some (.int .i64 t12) ∧
        data ≠ none ∧
        (0 : Int) ≤ j4 ∧
        (j4 : Int) < (datal : Int) ∧
        Store w5 (pIdx data j4 1) [(.int .i64 t11)] [] fun w13 =>
         data ≠ none ∧
         (0 : Int) ≤ (j4 - 1) ∧
         ((j4 - 1) : Int) < (datal : Int) ∧
         Store w13 (pIdx data (j4 - 1) 1) [(.int .i64 t12)] [] fun w14 =>
          InR .i64 (j4 - 1) ∧
          (I3 (j4 - 1) w14 ∧ M3 (j4 - 1) w14 < M3 j4 w5))) ∧
       ((0 ≤ t10) →
        InR .i64 (i1 + 1) ∧
        (I0 (i1 + 1) w5 ∧ M0 (i1 + 1) w5 < M0 i1 w2)))) ∧
     ((j4 ≤ a) →
      InR .i64 (i1 + 1) ∧
      (I0 (i1 + 1) w5 ∧ M0 (i1 + 1) w5 < M0 i1 w2)))) ∧
   ((b ≤ i1) →
    ∀ w3, Ext w2 w3 →
    Q (.tuple #[]) w3)

theorem ok_slices_insertionSortCmpFunc_int (data : Option Addr) (datal : Nat) (datac : Nat) (a : Int) (b : Int) (cmp : Value) (w : World) (Q : Value → World → Prop) (h : wp_slices_insertionSortCmpFunc_int data datal datac a b cmp w Q) : FnP Try.prog F_slices_insertionSortCmpFunc_int #[(.slice data datal datac), (.int .i64 a), (.int .i64 b), cmp] w Q := by
  have e_ : wp_slices_insertionSortCmpFunc_int data datal datac a b cmp w Q = Runs Try.prog Q ({ N := 53, wrap := [], pub := [], muts := [], joins := [] } : Cfg) Try.f27 (Try.f27.body.getD .skip) [.sc (.slc data datal datac), .sc (.int .i64 a), .sc (.int .i64 b), .sc (.val cmp)] w := by kernel_rfl
  rw [e_] at h
  exact runs_fn h Try.func27 (by kernel_rfl) (fun args w => Try.call27 args w) (by kernel_rfl) (by kernel_rfl) rfl rfl

/-- slices.symMergeCmpFunc[int] -/
def wp_slices_symMergeCmpFunc_int (data : Option Addr) (datal : Nat) (datac : Nat) (a : Int) (m : Int) (b : Int) (cmp : Value) (w : World) (Q : Value → World → Prop) : Prop :=
  InR .i64 (m - a) ∧
  ((((m - a) = 1) →
   ∃ (I0 : Int → Int → World → Prop) (M0 : Int → Int → World → Nat), I0 m b w ∧
   ∀ (i1 : Int) (j2 : Int) (w3 : World), I0 i1 j2 w3 →
    (((i1 < j2) →
     InR .i64 (i1 + j2) ∧
     InR .u64 (i1 + j2) ∧
     InR .i64 (iBit .shr .u64 (i1 + j2) 1) ∧
     data ≠ none ∧
     (0 : Int) ≤ (iBit .shr .u64 (i1 + j2) 1) ∧
     ((iBit .shr .u64 (i1 + j2) 1) : Int) < (datal : Int) ∧
     ∃ t4 : Int, cell w3 (pIdx data (iBit .shr .u64 (i1 + j2) 1) 1) 0 = some (.int .i64 t4) ∧
     data ≠ none ∧
     (0 : Int) ≤ a ∧
     (a : Int) < (datal : Int) ∧
     ∃ t5 : Int, cell w3 (pIdx data a 1) 0 = some (.int .i64 t5) ∧
     ∀ w6, Ext w3 w6 →
     FnVP Try.prog cmp [(.int .i64 t4), (.int .i64 t5)] w6 fun v7 w7 =>
      Ext w6 w7 ∧
      ∃ t8 : Int, v7 = (.int .i64 t8) ∧
      (((t8 < 0) →
       InR .i64 ((iBit .shr .u64 (i1 + j2) 1) + 1) ∧
       (I0 ((iBit .shr .u64 (i1 + j2) 1) + 1) j2 w3 ∧ M0 ((iBit .shr .u64 (i1 + j2) 1) + 1) j2 w3 < M0 i1 j2 w3))) ∧
      ((0 ≤ t8) →
       (I0 i1 (iBit .shr .u64 (i1 + j2) 1) w3 ∧ M0 i1 (iBit .shr .u64 (i1 + j2) 1) w3 < M0 i1 j2 w3)))) ∧
    ((j2 ≤ i1) →
     ∃ (I4 : Int → World → Prop) (M4 : Int → World → Nat), I4 a w3 ∧
     ∀ (k5 : Int) (w6 : World), I4 k5 w6 →
      InR .i64 (i1 - 1) ∧
      (((k5 < (i1 - 1)) →
       InR .i64 (k5 + 1) ∧
       InR .i64 (k5 + 1) ∧
       data ≠ none ∧
       (0 : Int) ≤ (k5 + 1) ∧
       ((k5 + 1) : Int) < (datal : Int) ∧
       ∃ t7 : Int, cell w6 (pIdx data (k5 + 1) 1) 0 = some (.int .i64 t7) ∧
       data ≠ none ∧
       (0 : Int) ≤ k5 ∧
       (k5 : Int) < (datal : Int) ∧
       ∃ t8 : Int, cell w6 (pIdx data k5 1) 0 = some (.int .i64 t8) ∧
       data ≠ none ∧
       (0 : Int) ≤ k5 ∧
       (k5 : Int) < (datal : Int) ∧
       Store w6 (pIdx data k5 1) [(.int .i64 t7)] [] fun w9 =>
        data ≠ none ∧
        (0 : Int) ≤ (k5 + 1) ∧
        ((k5 + 1) : Int) < (datal : Int) ∧
        Store w9 (pIdx data (k5 + 1) 1) [(.int .i64 t8)] [] fun w10 =>
         InR .i64 (k5 + 1) ∧
         (I4 (k5 + 1) w10 ∧ M4 (k5 + 1) w10 < M4 k5 w6))) ∧
      (((i1 - 1) ≤ k5) →
       ∀ w7, Ext w6 w7 →
       Q (.tuple #[]) w7)))) ∧
  (((m - a) ≠ 1) →
   InR .i64 (b - m) ∧
   ((((b - m) = 1) →
    ∃ (I0 : Int → Int → World → Prop) (M0 : Int → Int → World → Nat), I0 a m w ∧
    ∀ (i1 : Int) (j2 : Int) (w3 : World), I0 i1 j2 w3 →
     (((i1 < j2) →
      InR .i64 (i1 + j2) ∧
      InR .u64 (i1 + j2) ∧
      InR .i64 (iBit .shr .u64 (i1 + j2) 1) ∧
      data ≠ none ∧
      (0 : Int) ≤ m ∧
      (m : Int) < (datal : Int) ∧
      ∃ t4 : Int, cell w3 (pIdx data m 1) 0 = some (.int .i64 t4) ∧
      data ≠ none ∧
      (0 : Int) ≤ (iBit .shr .u64 (i1 + j2) 1) ∧
      ((iBit .shr .u64 (i1 + j2) 1) : Int) < (datal : Int) ∧
      ∃ t5 : Int, cell w3 (pIdx data (iBit .shr .u64 (i1 + j2) 1) 1) 0 = some (.int .i64 t5) ∧
      ∀ w6, Ext w3 w6 →
      FnVP Try.prog cmp [(.int .i64 t4), (.int .i64 t5)] w6 fun v7 w7 =>
       Ext w6 w7 ∧
       ∃ t8 : Int, v7 = (.int .i64 t8) ∧
       (((0 ≤ t8) →
        InR .i64 ((iBit .shr .u64 (i1 + j2) 1) + 1) ∧
        (I0 ((iBit .shr .u64 (i1 + j2) 1) + 1) j2 w3 ∧ M0 ((iBit .shr .u64 (i1 + j2) 1) + 1) j2 w3 < M0 i1 j2 w3))) ∧
       ((t8 < 0) →
        (I0 i1 (iBit .shr .u64 (i1 + j2) 1) w3 ∧ M0 i1 (iBit .shr .u64 (i1 + j2) 1) w3 < M0 i1 j2 w3)))) ∧
     ((j2 ≤ i1) →
      ∃ (I4 : Int → World → Prop) (M4 : Int → World → Nat), I4 m w3 ∧
      ∀ (k5 : Int) (w6 : World), I4 k5 w6 →
       (((i1 < k5) →
        InR .i64 (k5 - 1) ∧
        InR .i64 (k5 - 1) ∧
        data ≠ none ∧
        (0 : Int) ≤ (k5 - 1) ∧
        ((k5 - 1) : Int) < (datal : Int) ∧
        ∃ t7 : Int, cell w6 (pIdx data (k5 - 1) 1) 0 = some (.int .i64 t7) ∧
        data ≠ none ∧
        (0 : Int) ≤ k5 ∧
        (k5 : Int) < (datal : Int) ∧
        ∃ t8 : Int, cell w6 (pIdx data k5 1) 0 = some (.int .i64 t8) ∧
        data ≠ none ∧
        (0 : Int) ≤ k5 ∧
        (k5 : Int) < (datal : Int) ∧
        Store w6 (pIdx data k5 1) [(.int .i64 t7)] [] fun w9 =>
         data ≠ none ∧
         (0 : Int) ≤ (k5 - 1) ∧
         ((k5 - 1) : Int) < (datal : Int) ∧
         Store w9 (pIdx data (k5 - 1) 1) [(.int .i64 t8)] [] fun w10 =>
          InR .i64 (k5 - 1) ∧
          (I4 (k5 - 1) w10 ∧ M4 (k5 - 1) w10 < M4 k5 w6))) ∧
       ((k5 ≤ i1) →
        ∀ w7, Ext w6 w7 →
        Q (.tuple #[]) w7)))) ∧
   (((b - m) ≠ 1) →
    InR .i64 (a + b) ∧
    InR .u64 (a + b) ∧
    InR .i64 (iBit .shr .u64 (a + b) 1) ∧
    InR .i64 ((iBit .shr .u64 (a + b) 1) + m) ∧
    ((((iBit .shr .u64 (a + b) 1) < m) →
     InR .i64 (((iBit .shr .u64 (a + b) 1) + m) - b) ∧
     InR .i64 (((iBit .shr .u64 (a + b) 1) + m) - 1) ∧
     ∃ (I0 : Int → Int → World → Prop) (M0 : Int → Int → World → Nat), I0 (((iBit .shr .u64 (a + b) 1) + m) - b) (iBit .shr .u64 (a + b) 1) w ∧
     ∀ (start1 : Int) (r2 : Int) (w3 : World), I0 start1 r2 w3 →
      (((start1 < r2) →
       InR .i64 (start1 + r2) ∧
       InR .u64 (start1 + r2) ∧
       InR .i64 (iBit .shr .u64 (start1 + r2) 1) ∧
       InR .i64 ((((iBit .shr .u64 (a + b) 1) + m) - 1) - (iBit .shr .u64 (start1 + r2) 1)) ∧
       data ≠ none ∧
       (0 : Int) ≤ ((((iBit .shr .u64 (a + b) 1) + m) - 1) - (iBit .shr .u64 (start1 + r2) 1)) ∧
       (((((iBit .shr .u64 (a + b) 1) + m) - 1) - (iBit .shr .u64 (start1 + r2) 1)) : Int) < (datal : Int) ∧
       ∃ t4 : Int, cell w3 (pIdx data ((((iBit .shr .u64 (a + b) 1) + m) - 1) - (iBit .shr .u64 (start1 + r2) 1)) 1) 0 = some (.int .i64 t4) ∧
       data ≠ none ∧
       (0 : Int) ≤ (iBit .shr .u64 (start1 + r2) 1) ∧
       ((iBit .shr .u64 (start1 + r2) 1) : Int) < (datal : Int) ∧
       ∃ t5 : Int, cell w3 (pIdx data (iBit .shr .u64 (start1 + r2) 1) 1) 0 = some (.int .i64 t5) ∧
       ∀ w6, Ext w3 w6 →
       FnVP Try.prog cmp [(.int .i64 t4), (.int .i64 t5)] w6 fun v7 w7 =>
        Ext w6 w7 ∧
        ∃ t8 : Int, v7 = (.int .i64 t8) ∧
        (((0 ≤ t8) →
         InR .i64 ((iBit .shr .u64 (start1 + r2) 1) + 1) ∧
         (I0 ((iBit .shr .u64 (start1 + r2) 1) + 1) r2 w3 ∧ M0 ((iBit .shr .u64 (start1 + r2) 1) + 1) r2 w3 < M0 start1 r2 w3))) ∧
        ((t8 < 0) →
         (I0 start1 (iBit .shr .u64 (start1 + r2) 1) w3 ∧ M0 start1 (iBit .shr .u64 (start1 + r2) 1) w3 < M0 start1 r2 w3)))) ∧
      ((r2 ≤ start1) →
       InR .i64 (((iBit .shr .u64 (a + b) 1) + m) - start1) ∧
       ((((start1 < m) ∧ (m < (((iBit .shr .u64 (a + b) 1) + m) - start1))) →
        ∀ w4, Ext w3 w4 →
        FnP Try.prog F_slices_rotateCmpFunc_int #[(.slice data datal datac), (.int .i64 start1), (.int .i64 m), (.int .i64 (((iBit .shr .u64 (a + b) 1) + m) - start1)), cmp] w4 fun v5 w5 =>
         v5 = (.tuple #[]) ∧
         ((((a < start1) ∧ (start1 < (iBit .shr .u64 (a + b) 1))) →
          ∀ w6, Ext w5 w6 →
          FnP Try.prog F_slices_symMergeCmpFunc_int #[(.slice data datal datac), (.int .i64 a), (.int .i64 start1), (.int .i64 (iBit .shr .u64 (a + b) 1)), cmp] w6 fun v7 w7 =>
           v7 = (.tuple #[]) ∧
           (((((iBit .shr .u64 (a + b) 1) < (((iBit .shr .u64 (a + b) 1) + m) - start1)) ∧ ((((iBit .shr .u64 (a + b) 1) + m) - start1) < b)) →
            ∀ w8, Ext w7 w8 →
            FnP Try.prog F_slices_symMergeCmpFunc_int #[(.slice data datal datac), (.int .i64 (iBit .shr .u64 (a + b) 1)), (.int .i64 (((iBit .shr .u64 (a + b) 1) + m) - start1)), (.int .i64 b), cmp] w8 fun v9 w9 =>
             v9 = (.tuple #[]) ∧
             ∀ w10, Ext w9 w10 →
             Q (.tuple #[]) w10)) ∧
           ((((((iBit .shr .u64 (a + b) 1) + m) - start1) ≤ (iBit .shr .u64 (a + b) 1)) ∨ (b ≤ (((iBit .shr .u64 (a + b) 1) + m) - start1))) →
            ∀ w8, Ext w7 w8 →
            Q (.tuple #[]) w8))) ∧
         (((start1 ≤ a) ∨ ((iBit .shr .u64 (a + b) 1) ≤ start1)) →
          (((((iBit .shr .u64 (a + b) 1) < (((iBit .shr .u64 (a + b) 1) + m) - start1)) ∧ ((((iBit .shr .u64 (a + b) 1) + m) - start1) < b)) →
           ∀ w6, Ext w5 w6 →
           FnP Try.prog F_slices_symMergeCmpFunc_int #[(.slice data datal datac), (.int .i64 (iBit .shr .u64 (a + b) 1)), (.int .i64 (((iBit .shr .u64 (a + b) 1) + m) - start1)), (.int .i64 b), cmp] w6 fun v7 w7 =>
            v7 = (.tuple #[]) ∧
            ∀ w8, Ext w7 w8 →
            Q (.tuple #[]) w8)) ∧
          ((((((iBit .shr .u64 (a + b) 1) + m) - start1) ≤ (iBit .shr .u64 (a + b) 1)) ∨ (b ≤ (((iBit .shr .u64 (a + b) 1) + m) - start1))) →
           ∀ w6, Ext w5 w6 →
           Q (.tuple #[]) w6)))) ∧
       (((m ≤ start1) ∨ ((((iBit .shr .u64 (a + b) 1) + m) - start1) ≤ m)) →
        ((((a < start1) ∧ (start1 < (iBit .shr .u64 (a + b) 1))) →
         ∀ w4, Ext w3 w4 →
         FnP Try.prog F_slices_symMergeCmpFunc_int #[(.slice data datal datac), (.int .i64 a), (.int .i64 start1), (.int .i64 (iBit .shr .u64 (a + b) 1)), cmp] w4 fun v5 w5 =>
          v5 = (.tuple #[]) ∧
          (((((iBit .shr .u64 (a + b) 1) < (((iBit .shr .u64 (a + b) 1) + m) - start1)) ∧ ((((iBit .shr .u64 (a + b) 1) + m) - start1) < b)) →
           ∀ w6, Ext w5 w6 →
           FnP Try.prog F_slices_symMergeCmpFunc_int #[(.slice data datal datac), (.int .i64 (iBit .shr .u64 (a + b) 1)), (.int .i64 (((iBit .shr .u64 (a + b) 1) + m) - start1)), (.int .i64 b), cmp] w6 fun v7 w7 =>
            v7 = (.tuple #[]) ∧
            ∀ w8, Ext w7 w8 →
            Q (.tuple #[]) w8)) ∧
          ((((((iBit .shr .u64 (a + b) 1) + m) - start1) ≤ (iBit .shr .u64 (a + b) 1)) ∨ (b ≤ (((iBit .shr .u64 (a + b) 1) + m) - start1))) →
           ∀ w6, Ext w5 w6 →
           Q (.tuple #[]) w6))) ∧
        (((start1 ≤ a) ∨ ((iBit .shr .u64 (a + b) 1) ≤ start1)) →
         (((((iBit .shr .u64 (a + b) 1) < (((iBit .shr .u64 (a + b) 1) + m) - start1)) ∧ ((((iBit .shr .u64 (a + b) 1) + m) - start1) < b)) →
          ∀ w4, Ext w3 w4 →
          FnP Try.prog F_slices_symMergeCmpFunc_int #[(.slice data datal datac), (.int .i64 (iBit .shr .u64 (a + b) 1)), (.int .i64 (((iBit .shr .u64 (a + b) 1) + m) - start1)), (.int .i64 b), cmp] w4 fun v5 w5 =>
           v5 = (.tuple #[]) ∧
           ∀ w6, Ext w5 w6 →
           Q (.tuple #[]) w6)) ∧
         ((((((iBit .shr .u64 (a + b) 1) + m) - start1) ≤ (iBit .shr .u64 (a + b) 1)) ∨ (b ≤ (((iBit .shr .u64 (a + b) 1) + m) - start1))) →
          ∀ w4, Ext w3 w4 →
          Q (.tuple #[]) w4)))))) ∧
    ((m ≤ (iBit .shr .u64 (a + b) 1)) →
     InR .i64 (((iBit .shr .u64 (a + b) 1) + m) - 1) ∧
     ∃ (I0 : Int → Int → World → Prop) (M0 : Int → Int → World → Nat), I0 a m w ∧
     ∀ (start1 : Int) (r2 : Int) (w3 : World), I0 start1 r2 w3 →
      (((start1 < r2) →
       InR .i64 (start1 + r2) ∧
       InR .u64 (start1 + r2) ∧
       InR .i64 (iBit .shr .u64 (start1 + r2) 1) ∧
       InR .i64 ((((iBit .shr .u64 (a + b) 1) + m) - 1) - (iBit .shr .u64 (start1 + r2) 1)) ∧
       data ≠ none ∧
       (0 : Int) ≤ ((((iBit .shr .u64 (a + b) 1) + m) - 1) - (iBit .shr .u64 (start1 + r2) 1)) ∧
       (((((iBit .shr .u64 (a + b) 1) + m) - 1) - (iBit .shr .u64 (start1 + r2) 1)) : Int) < (datal : Int) ∧
       ∃ t4 : Int, cell w3 (pIdx data ((((iBit .shr .u64 (a + b) 1) + m) - 1) - (iBit .shr .u64 (start1 + r2) 1)) 1) 0 = some (.int .i64 t4) ∧
       data ≠ none ∧
       (0 : Int) ≤ (iBit .shr .u64 (start1 + r2) 1) ∧
       ((iBit .shr .u64 (start1 + r2) 1) : Int) < (datal : Int) ∧
       ∃ t5 : Int, cell w3 (pIdx data (iBit .shr .u64 (start1 + r2) 1) 1) 0 = some (.int .i64 t5) ∧
       ∀ w6, Ext w3 w6 →
       FnVP Try.prog cmp [(.int .i64 t4), (.int .i64 t5)] w6 fun v7 w7 =>
        Ext w6 w7 ∧
        ∃ t8 : Int, v7 = (.int .i64 t8) ∧
        (((0 ≤ t8) →
         InR .i64 ((iBit .shr .u64 (start1 + r2) 1) + 1) ∧
         (I0 ((iBit .shr .u64 (start1 + r2) 1) + 1) r2 w3 ∧ M0 ((iBit .shr .u64 (start1 + r2) 1) + 1) r2 w3 < M0 start1 r2 w3))) ∧
        ((t8 < 0) →
         (I0 start1 (iBit .shr .u64 (start1 + r2) 1) w3 ∧ M0 start1 (iBit .shr .u64 (start1 + r2) 1) w3 < M0 start1 r2 w3)))) ∧
      ((r2 ≤ start1) →
       InR .i64 (((iBit .shr .u64 (a + b) 1) + m) - start1) ∧
       ((((start1 < m) ∧ (m < (((iBit .shr .u64 (a + b) 1) + m) - start1))) →
        ∀ w4, Ext w3 w4 →
        FnP Try.prog F_slices_rotateCmpFunc_int #[(.slice data datal datac), (.int .i64 start1), (.int .i64 m), (.int .i64 (((iBit .shr .u64 (a + b) 1) + m) - start1)), cmp] w4 fun v5 w5 =>
         v5 = (.tuple #[]) ∧
         ((((a < start1) ∧ (start1 < (iBit .shr .u64 (a + b) 1))) →
          ∀ w6, Ext w5 w6 →
          FnP Try.prog F_slices_symMergeCmpFunc_int #[(.slice data datal datac), (.int .i64 a), (.int .i64 start1), (.int .i64 (iBit .shr .u64 (a + b) 1)), cmp] w6 fun v7 w7 =>
           v7 = (.tuple #[]) ∧
           (((((iBit .shr .u64 (a + b) 1) < (((iBit .shr .u64 (a + b) 1) + m) - start1)) ∧ ((((iBit .shr .u64 (a + b) 1) + m) - start1) < b)) →
            ∀ w8, Ext w7 w8 →
            FnP Try.prog F_slices_symMergeCmpFunc_int #[(.slice data datal datac), (.int .i64 (iBit .shr .u64 (a + b) 1)), (.int .i64 (((iBit .shr .u64 (a + b) 1) + m) - start1)), (.int .i64 b), cmp] w8 fun v9 w9 =>
             v9 = (.tuple #[]) ∧
             ∀ w10, Ext w9 w10 →
             Q (.tuple #[]) w10)) ∧
           ((((((iBit .shr .u64 (a + b) 1) + m) - start1) ≤ (iBit .shr .u64 (a + b) 1)) ∨ (b ≤ (((iBit .shr .u64 (a + b) 1) + m) - start1))) →
            ∀ w8, Ext w7 w8 →
            Q (.tuple #[]) w8))) ∧
         (((start1 ≤ a) ∨ ((iBit .shr .u64 (a + b) 1) ≤ start1)) →
          (((((iBit .shr .u64 (a + b) 1) < (((iBit .shr .u64 (a + b) 1) + m) - start1)) ∧ ((((iBit .shr .u64 (a + b) 1) + m) - start1) < b)) →
           ∀ w6, Ext w5 w6 →
           FnP Try.prog F_slices_symMergeCmpFunc_int #[(.slice data datal datac), (.int .i64 (iBit .shr .u64 (a + b) 1)), (.int .i64 (((iBit .shr .u64 (a + b) 1) + m) - start1)), (.int .i64 b), cmp] w6 fun v7 w7 =>
            v7 = (.tuple #[]) ∧
            ∀ w8, Ext w7 w8 →
            Q (.tuple #[]) w8)) ∧
          ((((((iBit .shr .u64 (a + b) 1) + m) - start1) ≤ (iBit .shr .u64 (a + b) 1)) ∨ (b ≤ (((iBit .shr .u64 (a + b) 1) + m) - start1))) →
           ∀ w6, Ext w5 w6 →
           Q (.tuple #[]) w6)))) ∧
       (((m ≤ start1) ∨ ((((iBit .shr .u64 (a + b) 1) + m) - start1) ≤ m)) →
        ((((a < start1) ∧ (start1 < (iBit .shr .u64 (a + b) 1))) →
         ∀ w4, Ext w3 w4 →
         FnP Try.prog F_slices_symMergeCmpFunc_int #[(.slice data datal datac), (.int .i64 a), (.int .i64 start1), (.int .i64 (iBit .shr .u64 (a + b) 1)), cmp] w4 fun v5 w5 =>
          v5 = (.tuple #[]) ∧
          (((((iBit .shr .u64 (a + b) 1) < (((iBit .shr .u64 (a + b) 1) + m) - start1)) ∧ ((((iBit .shr .u64 (a + b) 1) + m) - start1) < b)) →
           ∀ w6, Ext w5 w6 →
           FnP Try.prog F_slices_symMergeCmpFunc_int #[(.slice data datal datac), (.int .i64 (iBit .shr .u64 (a + b) 1)), (.int .i64 (((iBit .shr .u64 (a + b) 1) + m) - start1)), (.int .i64 b), cmp] w6 fun v7 w7 =>
            v7 = (.tuple #[]) ∧
            ∀ w8, Ext w7 w8 →
            Q (.tuple #[]) w8)) ∧
          ((((((iBit .shr .u64 (a + b) 1) + m) - start1) ≤ (iBit .shr .u64 (a + b) 1)) ∨ (b ≤ (((iBit .shr .u64 (a + b) 1) + m) - start1))) →
           ∀ w6, Ext w5 w6 →
           Q (.tuple #[]) w6))) ∧
        (((start1 ≤ a) ∨ ((iBit .shr .u64 (a + b) 1) ≤ start1)) →
         (((((iBit .shr .u64 (a + b) 1) < (((iBit .shr .u64 (a + b) 1) + m) - start1)) ∧ ((((iBit .shr .u64 (a + b) 1) + m) - start1) < b)) →
          ∀ w4, Ext w3 w4 →
          FnP Try.prog F_slices_symMergeCmpFunc_int #[(.slice data datal datac), (.int .i64 (iBit .shr .u64 (a + b) 1)), (.int .i64 (((iBit .shr .u64 (a + b) 1) + m) - start1)), (.int .i64 b), cmp] w4 fun v5 w5 =>
           v5 = (.tuple #[]) ∧
           ∀ w6, Ext w5 w6 →
           Q (.tuple #[]) w6)) ∧
         ((((((iBit .shr .u64 (a + b) 1) + m) - start1) ≤ (iBit .shr .u64 (a + b) 1)) ∨ (b ≤ (((iBit .shr .u64 (a + b) 1) + m) - start1))) →
          ∀ w4, Ext w3 w4 →
          Q (.tuple #[]) w4)))))))

theorem ok_slices_symMergeCmpFunc_int (data : Option Addr) (datal : Nat) (datac : Nat) (a : Int) (m : Int) (b : Int) (cmp : Value) (w : World) (Q : Value → World → Prop) (h : wp_slices_symMergeCmpFunc_int data datal datac a m b cmp w Q) : FnP Try.prog F_slices_symMergeCmpFunc_int #[(.slice data datal datac), (.int .i64 a), (.int .i64 m), (.int .i64 b), cmp] w Q := by
  have e_ : wp_slices_symMergeCmpFunc_int data datal datac a m b cmp w Q = Runs Try.prog Q ({ N := 220, wrap := [], pub := [], muts := [28, 29, 30], joins := [] } : Cfg) Try.f28 (Try.f28.body.getD .skip) [.sc (.slc data datal datac), .sc (.int .i64 a), .sc (.int .i64 m), .sc (.int .i64 b), .sc (.val cmp)] w := by kernel_rfl
  rw [e_] at h
  exact runs_fn h Try.func28 (by kernel_rfl) (fun args w => Try.call28 args w) (by kernel_rfl) (by kernel_rfl) rfl rfl

/-- slices.rotateCmpFunc[int] -/
def wp_slices_rotateCmpFunc_int (data : Option Addr) (datal : Nat) (datac : Nat) (a : Int) (m : Int) (b : Int) (cmp : Value) (w : World) (Q : Value → World → Prop) : Prop :=
  InR .i64 (m - a) ∧
  InR .i64 (b - m) ∧
  ∃ (I0 : Int → Int → World → Prop) (M0 : Int → Int → World → Nat), I0 (m - a) (b - m) w ∧
  ∀ (i1 : Int) (j2 : Int) (w3 : World), I0 i1 j2 w3 →
   (((i1 ≠ j2) →
    (((j2 < i1) →
     InR .i64 (m - i1) ∧
     ∀ w4, Ext w3 w4 →
     FnP Try.prog F_slices_swapRangeCmpFunc_int #[(.slice data datal datac), (.int .i64 (m - i1)), (.int .i64 m), (.int .i64 j2), cmp] w4 fun v5 w5 =>
      v5 = (.tuple #[]) ∧
      InR .i64 (i1 - j2) ∧
      (I0 (i1 - j2) j2 w5 ∧ M0 (i1 - j2) j2 w5 < M0 i1 j2 w3))) ∧
    ((i1 ≤ j2) →
     InR .i64 (m - i1) ∧
     InR .i64 (m + j2) ∧
     InR .i64 ((m + j2) - i1) ∧
     ∀ w4, Ext w3 w4 →
     FnP Try.prog F_slices_swapRangeCmpFunc_int #[(.slice data datal datac), (.int .i64 (m - i1)), (.int .i64 ((m + j2) - i1)), (.int .i64 i1), cmp] w4 fun v5 w5 =>
      v5 = (.tuple #[]) ∧
      InR .i64 (j2 - i1) ∧
      (I0 i1 (j2 - i1) w5 ∧ M0 i1 (j2 - i1) w5 < M0 i1 j2 w3)))) ∧
   ((i1 = j2) →
    InR .i64 (m - i1) ∧
    ∀ w4, Ext w3 w4 →
    FnP Try.prog F_slices_swapRangeCmpFunc_int #[(.slice data datal datac), (.int .i64 (m - i1)), (.int .i64 m), (.int .i64 i1), cmp] w4 fun v5 w5 =>
     v5 = (.tuple #[]) ∧
     ∀ w6, Ext w5 w6 →
     Q (.tuple #[]) w6)

theorem ok_slices_rotateCmpFunc_int (data : Option Addr) (datal : Nat) (datac : Nat) (a : Int) (m : Int) (b : Int) (cmp : Value) (w : World) (Q : Value → World → Prop) (h : wp_slices_rotateCmpFunc_int data datal datac a m b cmp w Q) : FnP Try.prog F_slices_rotateCmpFunc_int #[(.slice data datal datac), (.int .i64 a), (.int .i64 m), (.int .i64 b), cmp] w Q := by
  have e_ : wp_slices_rotateCmpFunc_int data datal datac a m b cmp w Q = Runs Try.prog Q ({ N := 58, wrap := [], pub := [], muts := [30], joins := [] } : Cfg) Try.f29 (Try.f29.body.getD .skip) [.sc (.slc data datal datac), .sc (.int .i64 a), .sc (.int .i64 m), .sc (.int .i64 b), .sc (.val cmp)] w := by kernel_rfl
  rw [e_] at h
  exact runs_fn h Try.func29 (by kernel_rfl) (fun args w => Try.call29 args w) (by kernel_rfl) (by kernel_rfl) rfl rfl

/-- slices.swapRangeCmpFunc[int] -/
def wp_slices_swapRangeCmpFunc_int (data : Option Addr) (datal : Nat) (datac : Nat) (a : Int) (b : Int) (n : Int) (cmp : Value) (w : World) (Q : Value → World → Prop) : Prop :=
  ∃ (I0 : Int → World → Prop) (M0 : Int → World → Nat), I0 0 w ∧
  ∀ (i1 : Int) (w2 : World), I0 i1 w2 →
   (((i1 < n) →
    InR .i64 (a + i1) ∧
    InR .i64 (b + i1) ∧
    InR .i64 (b + i1) ∧
    data ≠ none ∧
    (0 : Int) ≤ (b + i1) ∧
    ((b + i1) : Int) < (datal : Int) ∧
    ∃ t3 : Int, cell w2 (pIdx data (b + i1) 1) 0 = some (.int .i64 t3) ∧
    InR .i64 (a + i1) ∧
    data ≠ none ∧
    (0 : Int) ≤ (a + i1) ∧
    ((a + i1) : Int) < (datal : Int) ∧
    ∃ t4 : Int, cell w2 (pIdx data (a + i1) 1) 0 = some (.int .i64 t4) ∧
    data ≠ none ∧
    (0 : Int) ≤ (a + i1) ∧
    ((a + i1) : Int) < (datal : Int) ∧
    Store w2 (pIdx data (a + i1) 1) [(.int .i64 t3)] [] fun w5 =>
     data ≠ none ∧
     (0 : Int) ≤ (b + i1) ∧
     ((b + i1) : Int) < (datal : Int) ∧
     Store w5 (pIdx data (b + i1) 1) [(.int .i64 t4)] [] fun w6 =>
      InR .i64 (i1 + 1) ∧
      (I0 (i1 + 1) w6 ∧ M0 (i1 + 1) w6 < M0 i1 w2))) ∧
   ((n ≤ i1) →
    ∀ w3, Ext w2 w3 →
    Q (.tuple #[]) w3)

theorem ok_slices_swapRangeCmpFunc_int (data : Option Addr) (datal : Nat) (datac : Nat) (a : Int) (b : Int) (n : Int) (cmp : Value) (w : World) (Q : Value → World → Prop) (h : wp_slices_swapRangeCmpFunc_int data datal datac a b n cmp w Q) : FnP Try.prog F_slices_swapRangeCmpFunc_int #[(.slice data datal datac), (.int .i64 a), (.int .i64 b), (.int .i64 n), cmp] w Q := by
  have e_ : wp_slices_swapRangeCmpFunc_int data datal datac a b n cmp w Q = Runs Try.prog Q ({ N := 38, wrap := [], pub := [], muts := [], joins := [] } : Cfg) Try.f30 (Try.f30.body.getD .skip) [.sc (.slc data datal datac), .sc (.int .i64 a), .sc (.int .i64 b), .sc (.int .i64 n), .sc (.val cmp)] w := by kernel_rfl
  rw [e_] at h
  exact runs_fn h Try.func30 (by kernel_rfl) (fun args w => Try.call30 args w) (by kernel_rfl) (by kernel_rfl) rfl rfl

/-- shiftbell/shiftbellkeep.ShareEven -/
def wp_shiftbellkeep_ShareEven (all_v : Int) (w_v : Option Addr) (w_vl : Nat) (w_vc : Nat) (i : Int) (k : Int) (w : World) (Q : Value → World → Prop) : Prop :=
  ∀ w0, Ext w w0 →
  FnP Try.prog F_shiftbellkeep_shares #[] w0 fun v1 w1 =>
   Ext w0 w1 ∧
   ∃ t2 : Bool, v1 = (.bool t2) ∧
   ((t2 = false) →
    ∀ w3, Ext w w3 →
    Q (.bool false) w3) ∧
   ((t2 = true) →
    ∀ w3, Ext w w3 →
    FnP Try.prog F_share_Whole #[(.int .i64 all_v), (.slice w_v w_vl w_vc)] w3 fun v4 w4 =>
     Ext w3 w4 ∧
     ∃ t5 : Option Addr, ∃ tl6 : Nat, ∃ tc7 : Nat, ∃ t8 : Int, v4 = (.tuple #[(.slice t5 tl6 tc7), (.int .i64 t8)]) ∧
     (((t8 ≠ 0) ∨ ((tl6 : Int) ≠ (w_vl : Int))) →
      ∀ w9, Ext w4 w9 →
      Q (.bool ((decide ((tl6 : Int) = 0)) && (decide (t8 ≠ 0)))) w9) ∧
     (((t8 = 0) ∧ ((tl6 : Int) = (w_vl : Int))) →
      ((((((0 ≤ i) ∧ (i < (tl6 : Int))) ∧ (0 ≤ k)) ∧ (k < (tl6 : Int))) →
       w_v ≠ none)) ∧
      ((((((0 ≤ i) ∧ (i < (tl6 : Int))) ∧ (0 ≤ k)) ∧ (k < (tl6 : Int))) →
       (0 : Int) ≤ i)) ∧
      ((((((0 ≤ i) ∧ (i < (tl6 : Int))) ∧ (0 ≤ k)) ∧ (k < (tl6 : Int))) →
       (i : Int) < (w_vl : Int))) ∧
      (((((i < 0) ∨ ((tl6 : Int) ≤ i)) ∨ (k < 0)) ∨ ((tl6 : Int) ≤ k)) →
       ∀ w9, Ext w4 w9 →
       Q (.bool true) w9) ∧
      (((((0 ≤ i) ∧ (i < (tl6 : Int))) ∧ (0 ≤ k)) ∧ (k < (tl6 : Int))) →
       ∃ t9 : Int, cell w4 (pIdx w_v i 1) 0 = some (.int .i64 t9) ∧
       w_v ≠ none ∧
       (0 : Int) ≤ k ∧
       (k : Int) < (w_vl : Int) ∧
       ∃ t10 : Int, cell w4 (pIdx w_v k 1) 0 = some (.int .i64 t10) ∧
       ((t9 < t10) →
        ∀ w11, Ext w4 w11 →
        Q (.bool true) w11) ∧
       ((t10 ≤ t9) →
        t5 ≠ none ∧
        (0 : Int) ≤ i ∧
        (i : Int) < (tl6 : Int) ∧
        ∃ t11 : Int, cell w4 (pIdx t5 i 1) 0 = some (.int .i64 t11) ∧
        InR .i64 (t11 + 1) ∧
        t5 ≠ none ∧
        (0 : Int) ≤ k ∧
        (k : Int) < (tl6 : Int) ∧
        ∃ t12 : Int, cell w4 (pIdx t5 k 1) 0 = some (.int .i64 t12) ∧
        ∀ w13, Ext w4 w13 →
        Q (.bool (decide (t12 ≤ (t11 + 1)))) w13))))

theorem ok_shiftbellkeep_ShareEven (all_v : Int) (w_v : Option Addr) (w_vl : Nat) (w_vc : Nat) (i : Int) (k : Int) (w : World) (Q : Value → World → Prop) (h : wp_shiftbellkeep_ShareEven all_v w_v w_vl w_vc i k w Q) : FnP Try.prog F_shiftbellkeep_ShareEven #[(.int .i64 all_v), (.slice w_v w_vl w_vc), (.int .i64 i), (.int .i64 k)] w Q := by
  have e_ : wp_shiftbellkeep_ShareEven all_v w_v w_vl w_vc i k w Q = Runs Try.prog Q ({ N := 74, wrap := [], pub := [], muts := [], joins := [] } : Cfg) Try.f7 (Try.f7.body.getD .skip) [.sc (.int .i64 all_v), .sc (.slc w_v w_vl w_vc), .sc (.int .i64 i), .sc (.int .i64 k)] w := by kernel_rfl
  rw [e_] at h
  exact runs_fn h Try.func7 (by kernel_rfl) (fun args w => Try.call7 args w) (by kernel_rfl) (by kernel_rfl) rfl rfl

theorem open_shiftbellkeep_ShareEven (W : World) (R : Array Value → Prop) (h : ∀ all_v : Int, InR .i64 all_v → ∀ w_v : Option Addr, ∀ w_vl : Nat, ∀ w_vc : Nat, SlcArg Try.prog W 2 w_v w_vl w_vc → ∀ i : Int, InR .i64 i → ∀ k : Int, InR .i64 k → R #[(.int .i64 all_v), (.slice w_v w_vl w_vc), (.int .i64 i), (.int .i64 k)]) (args : Array Value) (hg : GoodAll Try.prog W Try.f7.params.toList args.toList) : R args := by
  have e_ : (ArgsAll Try.prog W Try.f7.params.toList fun l => R l.toArray) = (∀ all_v : Int, InR .i64 all_v → ∀ w_v : Option Addr, ∀ w_vl : Nat, ∀ w_vc : Nat, SlcArg Try.prog W 2 w_v w_vl w_vc → ∀ i : Int, InR .i64 i → ∀ k : Int, InR .i64 k → R #[(.int .i64 all_v), (.slice w_v w_vl w_vc), (.int .i64 i), (.int .i64 k)]) := by kernel_rfl
  exact args_open (by rw [e_]; exact h) args hg
-- wit 7 #[(.int .i64 0), (.slice none 0 0), (.int .i64 0), (.int .i64 0)]

/-- shiftbell/shiftbellkeep.ShareParts -/
def wp_shiftbellkeep_ShareParts (all_v : Int) (w_v : Option Addr) (w_vl : Nat) (w_vc : Nat) (w : World) (Q : Value → World → Prop) : Prop :=
  ∀ w0, Ext w w0 →
  FnP Try.prog F_shiftbellkeep_shares #[] w0 fun v1 w1 =>
   Ext w0 w1 ∧
   ∃ t2 : Bool, v1 = (.bool t2) ∧
   ((t2 = false) →
    ∀ w3, Ext w w3 →
    Q (.bool false) w3) ∧
   ((t2 = true) →
    ∀ w3, Ext w w3 →
    FnP Try.prog F_share_Whole #[(.int .i64 all_v), (.slice w_v w_vl w_vc)] w3 fun v4 w4 =>
     Ext w3 w4 ∧
     ∃ t5 : Option Addr, ∃ tl6 : Nat, ∃ tc7 : Nat, ∃ t8 : Int, v4 = (.tuple #[(.slice t5 tl6 tc7), (.int .i64 t8)]) ∧
     ((t8 ≠ 0) →
      ∀ w9, Ext w4 w9 →
      Q (.bool (decide ((tl6 : Int) = 0))) w9) ∧
     ((t8 = 0) →
      (((tl6 : Int) ≠ (w_vl : Int)) →
       ∀ w9, Ext w4 w9 →
       Q (.bool false) w9) ∧
      (((tl6 : Int) = (w_vl : Int)) →
       ∀ w9, Ext w4 w9 →
       FnP Try.prog F_shiftbellkeep_sum #[(.slice t5 tl6 tc7)] w9 fun v10 w10 =>
        Ext w9 w10 ∧
        ∃ t11 : Int, v10 = (.int .i64 t11) ∧
        ((t11 ≠ all_v) →
         ∀ w12, Ext w4 w12 →
         Q (.bool false) w12) ∧
        ((t11 = all_v) →
         ∀ w12, Ext w4 w12 →
         FnP Try.prog F_shiftbellkeep_sum #[(.slice w_v w_vl w_vc)] w12 fun v13 w13 =>
          Ext w12 w13 ∧
          ∃ t14 : Int, v13 = (.int .i64 t14) ∧
          ∃ (I15 : Int → World → Prop) (M15 : Int → World → Nat), I15 0 w4 ∧
          ∀ (k16 : Int) (w17 : World), I15 k16 w17 →
           (((k16 < (tl6 : Int)) →
            t5 ≠ none ∧
            (0 : Int) ≤ k16 ∧
            (k16 : Int) < (tl6 : Int) ∧
            ∃ t18 : Int, cell w17 (pIdx t5 k16 1) 0 = some (.int .i64 t18) ∧
            ((0 ≤ t18) →
             w_v ≠ none) ∧
            ((0 ≤ t18) →
             (0 : Int) ≤ k16) ∧
            ((0 ≤ t18) →
             (k16 : Int) < (w_vl : Int)) ∧
            ((t18 < 0) →
             ∀ w19, Ext w17 w19 →
             Q (.bool false) w19) ∧
            ((0 ≤ t18) →
             ∃ t19 : Int, cell w17 (pIdx w_v k16 1) 0 = some (.int .i64 t19) ∧
             ((((t19 = 0) ∧ (t18 ≠ 0)) →
              ∀ w20, Ext w17 w20 →
              Q (.bool false) w20)) ∧
             (((t19 ≠ 0) ∨ (t18 = 0)) →
              (((1073741824 < all_v) →
               InR .i64 (k16 + 1) ∧
               (I15 (k16 + 1) w17 ∧ M15 (k16 + 1) w17 < M15 k16 w17))) ∧
              ((all_v ≤ 1073741824) →
               InR .i64 (t18 * t14) ∧
               w_v ≠ none ∧
               (0 : Int) ≤ k16 ∧
               (k16 : Int) < (w_vl : Int) ∧
               ∃ t20 : Int, cell w17 (pIdx w_v k16 1) 0 = some (.int .i64 t20) ∧
               InR .i64 (all_v * t20) ∧
               InR .i64 ((t18 * t14) - (all_v * t20)) ∧
               InR .i64 (0 - t14) ∧
               (((((t18 * t14) - (all_v * t20)) ≤ (0 - t14)) ∨ (t14 ≤ ((t18 * t14) - (all_v * t20)))) →
                ∀ w21, Ext w17 w21 →
                Q (.bool false) w21) ∧
               ((((0 - t14) < ((t18 * t14) - (all_v * t20))) ∧ (((t18 * t14) - (all_v * t20)) < t14)) →
                InR .i64 (k16 + 1) ∧
                (I15 (k16 + 1) w17 ∧ M15 (k16 + 1) w17 < M15 k16 w17))))))) ∧
           (((tl6 : Int) ≤ k16) →
            ∀ w18, Ext w17 w18 →
            Q (.bool true) w18)))))

theorem ok_shiftbellkeep_ShareParts (all_v : Int) (w_v : Option Addr) (w_vl : Nat) (w_vc : Nat) (w : World) (Q : Value → World → Prop) (h : wp_shiftbellkeep_ShareParts all_v w_v w_vl w_vc w Q) : FnP Try.prog F_shiftbellkeep_ShareParts #[(.int .i64 all_v), (.slice w_v w_vl w_vc)] w Q := by
  have e_ : wp_shiftbellkeep_ShareParts all_v w_v w_vl w_vc w Q = Runs Try.prog Q ({ N := 79, wrap := [], pub := [], muts := [], joins := [] } : Cfg) Try.f6 (Try.f6.body.getD .skip) [.sc (.int .i64 all_v), .sc (.slc w_v w_vl w_vc)] w := by kernel_rfl
  rw [e_] at h
  exact runs_fn h Try.func6 (by kernel_rfl) (fun args w => Try.call6 args w) (by kernel_rfl) (by kernel_rfl) rfl rfl

theorem open_shiftbellkeep_ShareParts (W : World) (R : Array Value → Prop) (h : ∀ all_v : Int, InR .i64 all_v → ∀ w_v : Option Addr, ∀ w_vl : Nat, ∀ w_vc : Nat, SlcArg Try.prog W 2 w_v w_vl w_vc → R #[(.int .i64 all_v), (.slice w_v w_vl w_vc)]) (args : Array Value) (hg : GoodAll Try.prog W Try.f6.params.toList args.toList) : R args := by
  have e_ : (ArgsAll Try.prog W Try.f6.params.toList fun l => R l.toArray) = (∀ all_v : Int, InR .i64 all_v → ∀ w_v : Option Addr, ∀ w_vl : Nat, ∀ w_vc : Nat, SlcArg Try.prog W 2 w_v w_vl w_vc → R #[(.int .i64 all_v), (.slice w_v w_vl w_vc)]) := by kernel_rfl
  exact args_open (by rw [e_]; exact h) args hg
-- wit 6 #[(.int .i64 0), (.slice none 0 0)]

end Go.Proofs.Ythndjkpnllanpaa
