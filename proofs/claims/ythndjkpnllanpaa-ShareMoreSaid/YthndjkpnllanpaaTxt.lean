/- The texts of this seat's functions: what each computes, as its symbolic run says it. -/
import Derived.Test.YthndjkpnllanpaaRows
import Derived.Test.YthndjkpnllanpaaSxD
import Derived.Test.YthndjkpnllanpaaSxM
set_option linter.unusedVariables false
set_option linter.unusedSimpArgs false
set_option maxRecDepth 100000
namespace Go.Proofs.Ythndjkpnllanpaa
open Go.Sx Go.RowKit

abbrev F_shiftbellkeep_ShareWhole : FuncId := 3
abbrev F_shiftbellkeep_ShareFair : FuncId := 4
abbrev F_shiftbellkeep_ShareMore : FuncId := 5
abbrev F_shiftbellkeep_shares : FuncId := 8
abbrev F_share_Split : FuncId := 9
abbrev F_shiftbellkeep_sum : FuncId := 10
abbrev F_share_Level : FuncId := 11
abbrev F_share_Check : FuncId := 13
abbrev F_share_level : FuncId := 14
abbrev F_share_upTo : FuncId := 15
abbrev F_sort_Search : FuncId := 21
abbrev F_share_level_1 : FuncId := 22
abbrev T__0 : TypeId := 0
abbrev T_int64 : TypeId := 2
abbrev T_int : TypeId := 3
abbrev T_bool : TypeId := 4
abbrev T_uint8 : TypeId := 5
abbrev T_string : TypeId := 9
abbrev T_uintptr : TypeId := 12
abbrev T_int32 : TypeId := 21
abbrev T_sl_int64 : TypeId := 22
abbrev T_Errno : TypeId := 24
abbrev T_sl_int64_Errno : TypeId := 25
abbrev T_int64_Errno : TypeId := 29
abbrev T_sl_int : TypeId := 36
abbrev T_sl_uint64 : TypeId := 37
abbrev T_uint64 : TypeId := 38
abbrev T_uint64_uint64 : TypeId := 39
abbrev T_uint : TypeId := 47
abbrev T_error : TypeId := 49
abbrev T_ptr_errors_errorString : TypeId := 55
abbrev T_uint32 : TypeId := 63
abbrev T_ptr_uint8 : TypeId := 67
abbrev T_errors_errorString : TypeId := 73
abbrev T_unsafe_Pointer : TypeId := 74
theorem elem_sl_int64 : slEl Try.prog 22 = some (2, 1, 8, (.int .i64 0)) := by kernel_rfl
theorem elem_sl_int : slEl Try.prog 36 = some (3, 1, 8, (.int .i64 0)) := by kernel_rfl
theorem elem_sl_uint64 : slEl Try.prog 37 = some (38, 1, 8, (.int .u64 0)) := by kernel_rfl

/-- shiftbell/share.Check -/
def wp_share_Check (all : Int) (l : Option Addr) (ll : Nat) (lc : Nat) (w : World) (Q : Value → World → Prop) : Prop :=
  (((all < 0) ∨ (1099511627776 < all)) →
   ∀ w0, Ext w w0 →
   Q (.int .i64 1) w0) ∧
  (((0 ≤ all) ∧ (all ≤ 1099511627776)) →
   ((100 < (ll : Int)) →
    ∀ w0, Ext w w0 →
    Q (.int .i64 2) w0) ∧
   (((ll : Int) ≤ 100) →
    ∃ (I0 : Int → World → Prop) (M0 : Int → World → Nat), I0 0 w ∧
    ∀ (k1 : Int) (w2 : World), I0 k1 w2 →
     ((k1 < (ll : Int)) →
      l ≠ none ∧
      (0 : Int) ≤ k1 ∧
      (k1 : Int) < (ll : Int) ∧
      ∃ t3 : Int, cell w2 (pIdx l k1 1) 0 = some (.int .i64 t3) ∧
      (((t3 < 0) ∨ (1099511627776 < t3)) →
       ∀ w4, Ext w2 w4 →
       Q (.int .i64 4) w4) ∧
      (((0 ≤ t3) ∧ (t3 ≤ 1099511627776)) →
       InR .i64 (k1 + 1) ∧
       (I0 (k1 + 1) w2 ∧ M0 (k1 + 1) w2 < M0 k1 w2))) ∧
     (((ll : Int) ≤ k1) →
      ∀ w3, Ext w2 w3 →
      Q (.int .i64 0) w3)))

theorem ok_share_Check (all : Int) (l : Option Addr) (ll : Nat) (lc : Nat) (w : World) (Q : Value → World → Prop) (h : wp_share_Check all l ll lc w Q) : FnP Try.prog F_share_Check #[(.int .i64 all), (.slice l ll lc)] w Q := by
  have e_ : wp_share_Check all l ll lc w Q = Runs Try.prog Q ({ N := 31, wrap := [], pub := [], muts := [] } : Cfg) Try.f13 (Try.f13.body.getD .skip) [.sc (.int .i64 all), .sc (.slc l ll lc)] w := by kernel_rfl
  rw [e_] at h
  exact runs_fn h Try.func13 (by kernel_rfl) (fun args w => Try.call13 args w) (by kernel_rfl) (by kernel_rfl) rfl rfl

/-- shiftbell/share.upTo -/
def wp_share_upTo (l : Option Addr) (ll : Nat) (lc : Nat) (level : Int) (w : World) (Q : Value → World → Prop) : Prop :=
  ∃ (I0 : Int → Int → World → Prop) (M0 : Int → Int → World → Nat), I0 0 0 w ∧
  ∀ (n1 : Int) (k2 : Int) (w3 : World), I0 n1 k2 w3 →
   ((k2 < (ll : Int)) →
    l ≠ none ∧
    (0 : Int) ≤ k2 ∧
    (k2 : Int) < (ll : Int) ∧
    ∃ t4 : Int, cell w3 (pIdx l k2 1) 0 = some (.int .i64 t4) ∧
    InR .i64 (n1 + (min t4 level)) ∧
    InR .i64 (k2 + 1) ∧
    (I0 (n1 + (min t4 level)) (k2 + 1) w3 ∧ M0 (n1 + (min t4 level)) (k2 + 1) w3 < M0 n1 k2 w3)) ∧
   (((ll : Int) ≤ k2) →
    ∀ w4, Ext w3 w4 →
    Q (.int .i64 n1) w4)

theorem ok_share_upTo (l : Option Addr) (ll : Nat) (lc : Nat) (level : Int) (w : World) (Q : Value → World → Prop) (h : wp_share_upTo l ll lc level w Q) : FnP Try.prog F_share_upTo #[(.slice l ll lc), (.int .i64 level)] w Q := by
  have e_ : wp_share_upTo l ll lc level w Q = Runs Try.prog Q ({ N := 21, wrap := [], pub := [], muts := [] } : Cfg) Try.f15 (Try.f15.body.getD .skip) [.sc (.slc l ll lc), .sc (.int .i64 level)] w := by kernel_rfl
  rw [e_] at h
  exact runs_fn h Try.func15 (by kernel_rfl) (fun args w => Try.call15 args w) (by kernel_rfl) (by kernel_rfl) rfl rfl

/-- shiftbell/share.level -/
def wp_share_level (all : Int) (l : Option Addr) (ll : Nat) (lc : Nat) (w : World) (Q : Value → World → Prop) : Prop :=
  ∀ w0, Ext w w0 →
  New w0 2 [(.int .i64 all)] fun p1 w1 =>
   ∀ w2, Ext w1 w2 →
   New w2 22 [(.slice l ll lc)] fun p3 w3 =>
    ∀ w4, Ext w3 w4 →
    FnP Try.prog F_sort_Search #[(.int .i64 1099511627776), (.func (.func 22) #[] #[(.pointer p3), (.pointer p1)])] w4 fun v5 w5 =>
     Ext w4 w5 ∧
     ∃ t6 : Int, v5 = (.int .i64 t6) ∧
     ∀ w7, Ext w3 w7 →
     Q (.int .i64 t6) w7

theorem ok_share_level (all : Int) (l : Option Addr) (ll : Nat) (lc : Nat) (w : World) (Q : Value → World → Prop) (h : wp_share_level all l ll lc w Q) : FnP Try.prog F_share_level #[(.int .i64 all), (.slice l ll lc)] w Q := by
  have e_ : wp_share_level all l ll lc w Q = Runs Try.prog Q ({ N := 7, wrap := [], pub := [2, 3], muts := [] } : Cfg) Try.f14 (Try.f14.body.getD .skip) [.sc (.int .i64 all), .sc (.slc l ll lc)] w := by kernel_rfl
  rw [e_] at h
  exact runs_fn h Try.func14 (by kernel_rfl) (fun args w => Try.call14 args w) (by kernel_rfl) (by kernel_rfl) rfl rfl

/-- shiftbell/share.level$1 -/
def wp_share_level_1 (n : Int) (c0 : Option Addr) (c1 : Option Addr) (w : World) (Q : Value → World → Prop) : Prop :=
  ∃ t0 : Option Addr, ∃ tl1 : Nat, ∃ tc2 : Nat, cell w c0 0 = some (.slice t0 tl1 tc2) ∧
  InR .i64 (n + 1) ∧
  ∃ t3 : Int, cell w c1 0 = some (.int .i64 t3) ∧
  ∀ w4, Ext w w4 →
  FnP Try.prog F_share_upTo #[(.slice t0 tl1 tc2), (.int .i64 (n + 1))] w4 fun v5 w5 =>
   Ext w4 w5 ∧
   ∃ t6 : Int, v5 = (.int .i64 t6) ∧
   ∀ w7, Ext w w7 →
   Q (.bool (decide (t3 < t6))) w7

theorem ok_share_level_1 (n : Int) (c0 : Option Addr) (c1 : Option Addr) (w : World) (Q : Value → World → Prop) (h : wp_share_level_1 n c0 c1 w Q) : FnP Try.prog F_share_level_1 #[(.int .i64 n), (.pointer c0), (.pointer c1)] w Q := by
  have e_ : wp_share_level_1 n c0 c1 w Q = Runs Try.prog Q ({ N := 11, wrap := [], pub := [], muts := [] } : Cfg) Try.f22 (Try.f22.body.getD .skip) [.sc (.int .i64 n), .sc (.ptr c0), .sc (.ptr c1)] w := by kernel_rfl
  rw [e_] at h
  exact runs_fn h Try.func22 (by kernel_rfl) (fun args w => Try.call22 args w) (by kernel_rfl) (by kernel_rfl) rfl rfl

/-- sort.Search -/
def wp_sort_Search (n : Int) (f : Value) (w : World) (Q : Value → World → Prop) : Prop :=
  ∃ (I0 : Int → Int → World → Prop) (M0 : Int → Int → World → Nat), I0 0 n w ∧
  ∀ (i1 : Int) (j2 : Int) (w3 : World), I0 i1 j2 w3 →
   ((i1 < j2) →
    InR .i64 (i1 + j2) ∧
    InR .u64 (i1 + j2) ∧
    InR .i64 (iBit .shr .u64 (i1 + j2) 1) ∧
    ∀ w4, Ext w3 w4 →
    FnVP Try.prog f [(.int .i64 (iBit .shr .u64 (i1 + j2) 1))] w4 fun v5 w5 =>
     Ext w4 w5 ∧
     ∃ t6 : Bool, v5 = (.bool t6) ∧
     ((t6 = false) →
      InR .i64 ((iBit .shr .u64 (i1 + j2) 1) + 1) ∧
      (I0 ((iBit .shr .u64 (i1 + j2) 1) + 1) j2 w3 ∧ M0 ((iBit .shr .u64 (i1 + j2) 1) + 1) j2 w3 < M0 i1 j2 w3)) ∧
     ((t6 = true) →
      (I0 i1 (iBit .shr .u64 (i1 + j2) 1) w3 ∧ M0 i1 (iBit .shr .u64 (i1 + j2) 1) w3 < M0 i1 j2 w3))) ∧
   ((j2 ≤ i1) →
    ∀ w4, Ext w3 w4 →
    Q (.int .i64 i1) w4)

theorem ok_sort_Search (n : Int) (f : Value) (w : World) (Q : Value → World → Prop) (h : wp_sort_Search n f w Q) : FnP Try.prog F_sort_Search #[(.int .i64 n), f] w Q := by
  have e_ : wp_sort_Search n f w Q = Runs Try.prog Q ({ N := 26, wrap := [], pub := [], muts := [] } : Cfg) Try.f21 (Try.f21.body.getD .skip) [.sc (.int .i64 n), .sc (.val f)] w := by kernel_rfl
  rw [e_] at h
  exact runs_fn h Try.func21 (by kernel_rfl) (fun args w => Try.call21 args w) (by kernel_rfl) (by kernel_rfl) rfl rfl

/-- shiftbell/share.Level -/
def wp_share_Level (all : Int) (l : Option Addr) (ll : Nat) (lc : Nat) (w : World) (Q : Value → World → Prop) : Prop :=
  ∀ w0, Ext w w0 →
  FnP Try.prog F_share_Check #[(.int .i64 all), (.slice l ll lc)] w0 fun v1 w1 =>
   Ext w0 w1 ∧
   ∃ t2 : Int, v1 = (.int .i64 t2) ∧
   ((t2 ≠ 0) →
    ∀ w3, Ext w w3 →
    Q (.tuple #[(.int .i64 0), (.int .i64 t2)]) w3) ∧
   ((t2 = 0) →
    ∀ w3, Ext w w3 →
    FnP Try.prog F_share_level #[(.int .i64 all), (.slice l ll lc)] w3 fun v4 w4 =>
     Ext w3 w4 ∧
     ∃ t5 : Int, v4 = (.int .i64 t5) ∧
     ∀ w6, Ext w w6 →
     Q (.tuple #[(.int .i64 t5), (.int .i64 0)]) w6)

theorem ok_share_Level (all : Int) (l : Option Addr) (ll : Nat) (lc : Nat) (w : World) (Q : Value → World → Prop) (h : wp_share_Level all l ll lc w Q) : FnP Try.prog F_share_Level #[(.int .i64 all), (.slice l ll lc)] w Q := by
  have e_ : wp_share_Level all l ll lc w Q = Runs Try.prog Q ({ N := 16, wrap := [], pub := [], muts := [] } : Cfg) Try.f11 (Try.f11.body.getD .skip) [.sc (.int .i64 all), .sc (.slc l ll lc)] w := by kernel_rfl
  rw [e_] at h
  exact runs_fn h Try.func11 (by kernel_rfl) (fun args w => Try.call11 args w) (by kernel_rfl) (by kernel_rfl) rfl rfl

/-- shiftbell/share.Split -/
def wp_share_Split (all : Int) (l : Option Addr) (ll : Nat) (lc : Nat) (w : World) (Q : Value → World → Prop) : Prop :=
  ∀ w0, Ext w w0 →
  FnP Try.prog F_share_Check #[(.int .i64 all), (.slice l ll lc)] w0 fun v1 w1 =>
   Ext w0 w1 ∧
   ∃ t2 : Int, v1 = (.int .i64 t2) ∧
   ((t2 ≠ 0) →
    ∀ w3, Ext w w3 →
    Q (.tuple #[(.slice none 0 0), (.int .i64 t2)]) w3) ∧
   ((t2 = 0) →
    ∀ w3, Ext w w3 →
    FnP Try.prog F_share_level #[(.int .i64 all), (.slice l ll lc)] w3 fun v4 w4 =>
     Ext w3 w4 ∧
     ∃ t5 : Int, v4 = (.int .i64 t5) ∧
     ∀ w6, Ext w w6 →
     FnP Try.prog F_share_upTo #[(.slice l ll lc), (.int .i64 t5)] w6 fun v7 w7 =>
      Ext w6 w7 ∧
      ∃ t8 : Int, v7 = (.int .i64 t8) ∧
      InR .i64 (all - t8) ∧
      ∃ (I9 : Int → Option Addr → Nat → Nat → Int → World → Prop) (M9 : Int → Option Addr → Nat → Nat → Int → World → Nat), I9 (all - t8) none 0 0 0 w ∧
      ∀ (left10 : Int) (out11 : Option Addr) (outl11 : Nat) (outc11 : Nat) (k12 : Int) (w13 : World), I9 left10 out11 outl11 outc11 k12 w13 →
       ((k12 < (ll : Int)) →
        l ≠ none ∧
        (0 : Int) ≤ k12 ∧
        (k12 : Int) < (ll : Int) ∧
        ∃ t14 : Int, cell w13 (pIdx l k12 1) 0 = some (.int .i64 t14) ∧
        (((t5 < t14) ∧ (0 < left10)) →
         InR .i64 ((min t14 t5) + 1) ∧
         InR .i64 (left10 - 1) ∧
         ∀ w15, Ext w13 w15 →
         Run Try.prog (.buildSlice 22 1 [(0, (.int .i64 ((min t14 t5) + 1)))]) w15 fun v16 w16 =>
          ∃ t17 : Option Addr, ∃ tl18 : Nat, ∃ tc19 : Nat, v16 = (.slice t17 tl18 tc19) ∧
          ∀ w20, Ext w16 w20 →
          Run Try.prog (.append #[22, 22] 22 [(.slice out11 outl11 outc11), (.slice t17 tl18 tc19)]) w20 fun v21 w21 =>
           ∃ t22 : Option Addr, ∃ tl23 : Nat, ∃ tc24 : Nat, v21 = (.slice t22 tl23 tc24) ∧
           InR .i64 (k12 + 1) ∧
           (I9 (left10 - 1) t22 tl23 tc24 (k12 + 1) w21 ∧ M9 (left10 - 1) t22 tl23 tc24 (k12 + 1) w21 < M9 left10 out11 outl11 outc11 k12 w13)) ∧
        (((t14 ≤ t5) ∨ (left10 ≤ 0)) →
         ∀ w15, Ext w13 w15 →
         Run Try.prog (.buildSlice 22 1 [(0, (.int .i64 (min t14 t5)))]) w15 fun v16 w16 =>
          ∃ t17 : Option Addr, ∃ tl18 : Nat, ∃ tc19 : Nat, v16 = (.slice t17 tl18 tc19) ∧
          ∀ w20, Ext w16 w20 →
          Run Try.prog (.append #[22, 22] 22 [(.slice out11 outl11 outc11), (.slice t17 tl18 tc19)]) w20 fun v21 w21 =>
           ∃ t22 : Option Addr, ∃ tl23 : Nat, ∃ tc24 : Nat, v21 = (.slice t22 tl23 tc24) ∧
           InR .i64 (k12 + 1) ∧
           (I9 left10 t22 tl23 tc24 (k12 + 1) w21 ∧ M9 left10 t22 tl23 tc24 (k12 + 1) w21 < M9 left10 out11 outl11 outc11 k12 w13))) ∧
       (((ll : Int) ≤ k12) →
        ∀ w14, Ext w13 w14 →
        Q (.tuple #[(.slice out11 outl11 outc11), (.int .i64 0)]) w14))

theorem ok_share_Split (all : Int) (l : Option Addr) (ll : Nat) (lc : Nat) (w : World) (Q : Value → World → Prop) (h : wp_share_Split all l ll lc w Q) : FnP Try.prog F_share_Split #[(.int .i64 all), (.slice l ll lc)] w Q := by
  have e_ : wp_share_Split all l ll lc w Q = Runs Try.prog Q ({ N := 53, wrap := [], pub := [], muts := [] } : Cfg) Try.f9 (Try.f9.body.getD .skip) [.sc (.int .i64 all), .sc (.slc l ll lc)] w := by kernel_rfl
  rw [e_] at h
  exact runs_fn h Try.func9 (by kernel_rfl) (fun args w => Try.call9 args w) (by kernel_rfl) (by kernel_rfl) rfl rfl

/-- shiftbell/shiftbellkeep.sum -/
def wp_shiftbellkeep_sum (l : Option Addr) (ll : Nat) (lc : Nat) (w : World) (Q : Value → World → Prop) : Prop :=
  ∃ (I0 : Int → Int → World → Prop) (M0 : Int → Int → World → Nat), I0 0 0 w ∧
  ∀ (n1 : Int) (k2 : Int) (w3 : World), I0 n1 k2 w3 →
   ((k2 < (ll : Int)) →
    l ≠ none ∧
    (0 : Int) ≤ k2 ∧
    (k2 : Int) < (ll : Int) ∧
    ∃ t4 : Int, cell w3 (pIdx l k2 1) 0 = some (.int .i64 t4) ∧
    InR .i64 (n1 + t4) ∧
    InR .i64 (k2 + 1) ∧
    (I0 (n1 + t4) (k2 + 1) w3 ∧ M0 (n1 + t4) (k2 + 1) w3 < M0 n1 k2 w3)) ∧
   (((ll : Int) ≤ k2) →
    ∀ w4, Ext w3 w4 →
    Q (.int .i64 n1) w4)

theorem ok_shiftbellkeep_sum (l : Option Addr) (ll : Nat) (lc : Nat) (w : World) (Q : Value → World → Prop) (h : wp_shiftbellkeep_sum l ll lc w Q) : FnP Try.prog F_shiftbellkeep_sum #[(.slice l ll lc)] w Q := by
  have e_ : wp_shiftbellkeep_sum l ll lc w Q = Runs Try.prog Q ({ N := 17, wrap := [], pub := [], muts := [] } : Cfg) Try.f10 (Try.f10.body.getD .skip) [.sc (.slc l ll lc)] w := by kernel_rfl
  rw [e_] at h
  exact runs_fn h Try.func10 (by kernel_rfl) (fun args w => Try.call10 args w) (by kernel_rfl) (by kernel_rfl) rfl rfl

/-- shiftbell/shiftbellkeep.shares -/
def wp_shiftbellkeep_shares  (w : World) (Q : Value → World → Prop) : Prop :=
  ∀ w0, Ext w w0 →
  Run Try.prog (.buildSlice 22 2 [(0, (.int .i64 3)), (1, (.int .i64 9))]) w0 fun v1 w1 =>
   ∃ t2 : Option Addr, ∃ tl3 : Nat, ∃ tc4 : Nat, v1 = (.slice t2 tl3 tc4) ∧
   ∀ w5, Ext w1 w5 →
   FnP Try.prog F_share_Level #[(.int .i64 10), (.slice t2 tl3 tc4)] w5 fun v6 w6 =>
    Ext w5 w6 ∧
    ∃ t7 : Int, ∃ t8 : Int, v6 = (.tuple #[(.int .i64 t7), (.int .i64 t8)]) ∧
    ∀ w9, Ext w1 w9 →
    Q (.bool ((decide (t8 = 0)) && (decide (t7 = 7)))) w9

theorem ok_shiftbellkeep_shares  (w : World) (Q : Value → World → Prop) (h : wp_shiftbellkeep_shares  w Q) : FnP Try.prog F_shiftbellkeep_shares #[] w Q := by
  have e_ : wp_shiftbellkeep_shares  w Q = Runs Try.prog Q ({ N := 14, wrap := [], pub := [], muts := [] } : Cfg) Try.f8 (Try.f8.body.getD .skip) [] w := by kernel_rfl
  rw [e_] at h
  exact runs_fn h Try.func8 (by kernel_rfl) (fun args w => Try.call8 args w) (by kernel_rfl) (by kernel_rfl) rfl rfl

/-- shiftbell/shiftbellkeep.ShareWhole -/
def wp_shiftbellkeep_ShareWhole (all : Int) (l : Option Addr) (ll : Nat) (lc : Nat) (w : World) (Q : Value → World → Prop) : Prop :=
  ∀ w0, Ext w w0 →
  FnP Try.prog F_shiftbellkeep_shares #[] w0 fun v1 w1 =>
   Ext w0 w1 ∧
   ∃ t2 : Bool, v1 = (.bool t2) ∧
   ((t2 = false) →
    ∀ w3, Ext w w3 →
    Q (.bool false) w3) ∧
   ((t2 = true) →
    ∀ w3, Ext w w3 →
    FnP Try.prog F_share_Split #[(.int .i64 all), (.slice l ll lc)] w3 fun v4 w4 =>
     Ext w3 w4 ∧
     ∃ t5 : Option Addr, ∃ tl6 : Nat, ∃ tc7 : Nat, ∃ t8 : Int, v4 = (.tuple #[(.slice t5 tl6 tc7), (.int .i64 t8)]) ∧
     ((t8 ≠ 0) →
      ∀ w9, Ext w4 w9 →
      Q (.bool (decide ((tl6 : Int) = 0))) w9) ∧
     ((t8 = 0) →
      (((tl6 : Int) ≠ (ll : Int)) →
       ∀ w9, Ext w4 w9 →
       Q (.bool false) w9) ∧
      (((tl6 : Int) = (ll : Int)) →
       ∃ (I9 : Int → World → Prop) (M9 : Int → World → Nat), I9 0 w4 ∧
       ∀ (k10 : Int) (w11 : World), I9 k10 w11 →
        ((k10 < (tl6 : Int)) →
         t5 ≠ none ∧
         (0 : Int) ≤ k10 ∧
         (k10 : Int) < (tl6 : Int) ∧
         ∃ t12 : Int, cell w11 (pIdx t5 k10 1) 0 = some (.int .i64 t12) ∧
         ((0 ≤ t12) →
          l ≠ none) ∧
         ((0 ≤ t12) →
          (0 : Int) ≤ k10) ∧
         ((0 ≤ t12) →
          (k10 : Int) < (ll : Int)) ∧
         ((t12 < 0) →
          ∀ w13, Ext w11 w13 →
          Q (.bool false) w13) ∧
         ((0 ≤ t12) →
          ∃ t13 : Int, cell w11 (pIdx l k10 1) 0 = some (.int .i64 t13) ∧
          ((t13 < t12) →
           ∀ w14, Ext w11 w14 →
           Q (.bool false) w14) ∧
          ((t12 ≤ t13) →
           InR .i64 (k10 + 1) ∧
           (I9 (k10 + 1) w11 ∧ M9 (k10 + 1) w11 < M9 k10 w11)))) ∧
        (((tl6 : Int) ≤ k10) →
         ∀ w12, Ext w11 w12 →
         FnP Try.prog F_shiftbellkeep_sum #[(.slice t5 tl6 tc7)] w12 fun v13 w13 =>
          Ext w12 w13 ∧
          ∃ t14 : Int, v13 = (.int .i64 t14) ∧
          ∀ w15, Ext w11 w15 →
          FnP Try.prog F_shiftbellkeep_sum #[(.slice l ll lc)] w15 fun v16 w16 =>
           Ext w15 w16 ∧
           ∃ t17 : Int, v16 = (.int .i64 t17) ∧
           ∀ w18, Ext w11 w18 →
           Q (.bool (decide (t14 = (min all t17)))) w18))))

theorem ok_shiftbellkeep_ShareWhole (all : Int) (l : Option Addr) (ll : Nat) (lc : Nat) (w : World) (Q : Value → World → Prop) (h : wp_shiftbellkeep_ShareWhole all l ll lc w Q) : FnP Try.prog F_shiftbellkeep_ShareWhole #[(.int .i64 all), (.slice l ll lc)] w Q := by
  have e_ : wp_shiftbellkeep_ShareWhole all l ll lc w Q = Runs Try.prog Q ({ N := 52, wrap := [], pub := [], muts := [] } : Cfg) Try.f3 (Try.f3.body.getD .skip) [.sc (.int .i64 all), .sc (.slc l ll lc)] w := by kernel_rfl
  rw [e_] at h
  exact runs_fn h Try.func3 (by kernel_rfl) (fun args w => Try.call3 args w) (by kernel_rfl) (by kernel_rfl) rfl rfl

theorem open_shiftbellkeep_ShareWhole (W : World) (R : Array Value → Prop) (h : ∀ all : Int, InR .i64 all → ∀ l : Option Addr, ∀ ll : Nat, ∀ lc : Nat, SlcArg Try.prog W 2 l ll lc → R #[(.int .i64 all), (.slice l ll lc)]) (args : Array Value) (hg : GoodAll Try.prog W Try.f3.params.toList args.toList) : R args := by
  have e_ : (ArgsAll Try.prog W Try.f3.params.toList fun l => R l.toArray) = (∀ all : Int, InR .i64 all → ∀ l : Option Addr, ∀ ll : Nat, ∀ lc : Nat, SlcArg Try.prog W 2 l ll lc → R #[(.int .i64 all), (.slice l ll lc)]) := by kernel_rfl
  exact args_open (by rw [e_]; exact h) args hg
-- wit 3 #[(.int .i64 0), (.slice none 0 0)]

/-- shiftbell/shiftbellkeep.ShareFair -/
def wp_shiftbellkeep_ShareFair (all : Int) (l : Option Addr) (ll : Nat) (lc : Nat) (i : Int) (k : Int) (w : World) (Q : Value → World → Prop) : Prop :=
  ∀ w0, Ext w w0 →
  FnP Try.prog F_shiftbellkeep_shares #[] w0 fun v1 w1 =>
   Ext w0 w1 ∧
   ∃ t2 : Bool, v1 = (.bool t2) ∧
   ((t2 = false) →
    ∀ w3, Ext w w3 →
    Q (.bool false) w3) ∧
   ((t2 = true) →
    ∀ w3, Ext w w3 →
    FnP Try.prog F_share_Split #[(.int .i64 all), (.slice l ll lc)] w3 fun v4 w4 =>
     Ext w3 w4 ∧
     ∃ t5 : Option Addr, ∃ tl6 : Nat, ∃ tc7 : Nat, ∃ t8 : Int, v4 = (.tuple #[(.slice t5 tl6 tc7), (.int .i64 t8)]) ∧
     ∀ w9, Ext w4 w9 →
     FnP Try.prog F_share_Level #[(.int .i64 all), (.slice l ll lc)] w9 fun v10 w10 =>
      Ext w9 w10 ∧
      ∃ t11 : Int, ∃ t12 : Int, v10 = (.tuple #[(.int .i64 t11), (.int .i64 t12)]) ∧
      (((t8 ≠ 0) ∨ ((tl6 : Int) ≠ (ll : Int))) →
       ∀ w13, Ext w4 w13 →
       Q (.bool ((decide ((tl6 : Int) = 0)) && ((decide (t8 = t12)) || (decide (t8 = 0))))) w13) ∧
      (((t8 = 0) ∧ ((tl6 : Int) = (ll : Int))) →
       (((((i < 0) ∨ ((tl6 : Int) ≤ i)) ∨ (k < 0)) ∨ ((tl6 : Int) ≤ k)) →
        ∀ w13, Ext w4 w13 →
        Q (.bool true) w13) ∧
       (((((0 ≤ i) ∧ (i < (tl6 : Int))) ∧ (0 ≤ k)) ∧ (k < (tl6 : Int))) →
        ((t12 = 0) →
         t5 ≠ none) ∧
        ((t12 = 0) →
         (0 : Int) ≤ i) ∧
        ((t12 = 0) →
         (i : Int) < (tl6 : Int)) ∧
        ((t12 = 0) →
         ∃ t13 : Int, cell w4 (pIdx t5 i 1) 0 = some (.int .i64 t13) ∧
         l ≠ none ∧
         (0 : Int) ≤ i ∧
         (i : Int) < (ll : Int) ∧
         ∃ t14 : Int, cell w4 (pIdx l i 1) 0 = some (.int .i64 t14) ∧
         ((t13 ≠ t14) →
          t5 ≠ none) ∧
         ((t13 ≠ t14) →
          (0 : Int) ≤ k) ∧
         ((t13 ≠ t14) →
          (k : Int) < (tl6 : Int)) ∧
         ((t13 = t14) →
          l ≠ none ∧
          (0 : Int) ≤ i ∧
          (i : Int) < (ll : Int) ∧
          ∃ t15 : Int, cell w4 (pIdx l i 1) 0 = some (.int .i64 t15) ∧
          l ≠ none ∧
          (0 : Int) ≤ k ∧
          (k : Int) < (ll : Int) ∧
          ∃ t16 : Int, cell w4 (pIdx l k 1) 0 = some (.int .i64 t16) ∧
          ((t16 ≤ t15) →
           t5 ≠ none) ∧
          ((t16 ≤ t15) →
           (0 : Int) ≤ i) ∧
          ((t16 ≤ t15) →
           (i : Int) < (tl6 : Int)) ∧
          ((t15 < t16) →
           ∀ w17, Ext w4 w17 →
           Q (.bool true) w17) ∧
          ((t16 ≤ t15) →
           ∃ t17 : Int, cell w4 (pIdx t5 i 1) 0 = some (.int .i64 t17) ∧
           InR .i64 (t17 + 1) ∧
           t5 ≠ none ∧
           (0 : Int) ≤ k ∧
           (k : Int) < (tl6 : Int) ∧
           ∃ t18 : Int, cell w4 (pIdx t5 k 1) 0 = some (.int .i64 t18) ∧
           ∀ w19, Ext w4 w19 →
           Q (.bool (decide (t18 ≤ (t17 + 1)))) w19)) ∧
         ((t13 ≠ t14) →
          ∃ t15 : Int, cell w4 (pIdx t5 k 1) 0 = some (.int .i64 t15) ∧
          t5 ≠ none ∧
          (0 : Int) ≤ i ∧
          (i : Int) < (tl6 : Int) ∧
          ∃ t16 : Int, cell w4 (pIdx t5 i 1) 0 = some (.int .i64 t16) ∧
          InR .i64 (t16 + 1) ∧
          ((t15 ≤ (t16 + 1)) →
           t5 ≠ none) ∧
          ((t15 ≤ (t16 + 1)) →
           (0 : Int) ≤ i) ∧
          ((t15 ≤ (t16 + 1)) →
           (i : Int) < (tl6 : Int)) ∧
          ((t15 ≤ (t16 + 1)) →
           ∃ t17 : Int, cell w4 (pIdx t5 i 1) 0 = some (.int .i64 t17) ∧
           ((t11 ≤ t17) →
            t5 ≠ none) ∧
           ((t11 ≤ t17) →
            (0 : Int) ≤ i) ∧
           ((t11 ≤ t17) →
            (i : Int) < (tl6 : Int)) ∧
           ((t11 ≤ t17) →
            ∃ t18 : Int, cell w4 (pIdx t5 i 1) 0 = some (.int .i64 t18) ∧
            InR .i64 (t11 + 1) ∧
            ((t18 ≤ (t11 + 1)) →
             l ≠ none) ∧
            ((t18 ≤ (t11 + 1)) →
             (0 : Int) ≤ i) ∧
            ((t18 ≤ (t11 + 1)) →
             (i : Int) < (ll : Int)) ∧
            ((t18 ≤ (t11 + 1)) →
             ∃ t19 : Int, cell w4 (pIdx l i 1) 0 = some (.int .i64 t19) ∧
             l ≠ none ∧
             (0 : Int) ≤ k ∧
             (k : Int) < (ll : Int) ∧
             ∃ t20 : Int, cell w4 (pIdx l k 1) 0 = some (.int .i64 t20) ∧
             ((t20 ≤ t19) →
              t5 ≠ none) ∧
             ((t20 ≤ t19) →
              (0 : Int) ≤ i) ∧
             ((t20 ≤ t19) →
              (i : Int) < (tl6 : Int)) ∧
             ((t19 < t20) →
              ∀ w21, Ext w4 w21 →
              Q (.bool true) w21) ∧
             ((t20 ≤ t19) →
              ∃ t21 : Int, cell w4 (pIdx t5 i 1) 0 = some (.int .i64 t21) ∧
              InR .i64 (t21 + 1) ∧
              t5 ≠ none ∧
              (0 : Int) ≤ k ∧
              (k : Int) < (tl6 : Int) ∧
              ∃ t22 : Int, cell w4 (pIdx t5 k 1) 0 = some (.int .i64 t22) ∧
              ∀ w23, Ext w4 w23 →
              Q (.bool (decide (t22 ≤ (t21 + 1)))) w23)) ∧
            (((t11 + 1) < t18) →
             ∀ w19, Ext w4 w19 →
             Q (.bool false) w19)) ∧
           ((t17 < t11) →
            ∀ w18, Ext w4 w18 →
            Q (.bool false) w18)) ∧
          (((t16 + 1) < t15) →
           ∀ w17, Ext w4 w17 →
           Q (.bool false) w17))) ∧
        ((t12 ≠ 0) →
         ∀ w13, Ext w4 w13 →
         Q (.bool false) w13))))

theorem ok_shiftbellkeep_ShareFair (all : Int) (l : Option Addr) (ll : Nat) (lc : Nat) (i : Int) (k : Int) (w : World) (Q : Value → World → Prop) (h : wp_shiftbellkeep_ShareFair all l ll lc i k w Q) : FnP Try.prog F_shiftbellkeep_ShareFair #[(.int .i64 all), (.slice l ll lc), (.int .i64 i), (.int .i64 k)] w Q := by
  have e_ : wp_shiftbellkeep_ShareFair all l ll lc i k w Q = Runs Try.prog Q ({ N := 131, wrap := [], pub := [], muts := [] } : Cfg) Try.f4 (Try.f4.body.getD .skip) [.sc (.int .i64 all), .sc (.slc l ll lc), .sc (.int .i64 i), .sc (.int .i64 k)] w := by kernel_rfl
  rw [e_] at h
  exact runs_fn h Try.func4 (by kernel_rfl) (fun args w => Try.call4 args w) (by kernel_rfl) (by kernel_rfl) rfl rfl

theorem open_shiftbellkeep_ShareFair (W : World) (R : Array Value → Prop) (h : ∀ all : Int, InR .i64 all → ∀ l : Option Addr, ∀ ll : Nat, ∀ lc : Nat, SlcArg Try.prog W 2 l ll lc → ∀ i : Int, InR .i64 i → ∀ k : Int, InR .i64 k → R #[(.int .i64 all), (.slice l ll lc), (.int .i64 i), (.int .i64 k)]) (args : Array Value) (hg : GoodAll Try.prog W Try.f4.params.toList args.toList) : R args := by
  have e_ : (ArgsAll Try.prog W Try.f4.params.toList fun l => R l.toArray) = (∀ all : Int, InR .i64 all → ∀ l : Option Addr, ∀ ll : Nat, ∀ lc : Nat, SlcArg Try.prog W 2 l ll lc → ∀ i : Int, InR .i64 i → ∀ k : Int, InR .i64 k → R #[(.int .i64 all), (.slice l ll lc), (.int .i64 i), (.int .i64 k)]) := by kernel_rfl
  exact args_open (by rw [e_]; exact h) args hg
-- wit 4 #[(.int .i64 0), (.slice none 0 0), (.int .i64 0), (.int .i64 0)]

/-- shiftbell/shiftbellkeep.ShareMore -/
def wp_shiftbellkeep_ShareMore (all : Int) (more : Int) (l : Option Addr) (ll : Nat) (lc : Nat) (w : World) (Q : Value → World → Prop) : Prop :=
  ∀ w0, Ext w w0 →
  FnP Try.prog F_shiftbellkeep_shares #[] w0 fun v1 w1 =>
   Ext w0 w1 ∧
   ∃ t2 : Bool, v1 = (.bool t2) ∧
   ((t2 = false) →
    ∀ w3, Ext w w3 →
    Q (.bool false) w3) ∧
   ((t2 = true) →
    ∀ w3, Ext w w3 →
    FnP Try.prog F_share_Split #[(.int .i64 all), (.slice l ll lc)] w3 fun v4 w4 =>
     Ext w3 w4 ∧
     ∃ t5 : Option Addr, ∃ tl6 : Nat, ∃ tc7 : Nat, ∃ t8 : Int, v4 = (.tuple #[(.slice t5 tl6 tc7), (.int .i64 t8)]) ∧
     (((t8 = 0) ∧ (0 ≤ more)) →
      InR .i64 (1099511627776 - all)) ∧
     ((((t8 ≠ 0) ∨ (more < 0)) ∨ ((1099511627776 - all) < more)) →
      ∀ w9, Ext w4 w9 →
      Q (.bool ((decide (t8 = 0)) || (decide ((tl6 : Int) = 0)))) w9) ∧
     ((((t8 = 0) ∧ (0 ≤ more)) ∧ (more ≤ (1099511627776 - all))) →
      InR .i64 (all + more) ∧
      ∀ w9, Ext w4 w9 →
      FnP Try.prog F_share_Split #[(.int .i64 (all + more)), (.slice l ll lc)] w9 fun v10 w10 =>
       Ext w9 w10 ∧
       ∃ t11 : Option Addr, ∃ tl12 : Nat, ∃ tc13 : Nat, ∃ t14 : Int, v10 = (.tuple #[(.slice t11 tl12 tc13), (.int .i64 t14)]) ∧
       (((t14 ≠ 0) ∨ ((tl6 : Int) ≠ (tl12 : Int))) →
        ∀ w15, Ext w10 w15 →
        Q (.bool false) w15) ∧
       (((t14 = 0) ∧ ((tl6 : Int) = (tl12 : Int))) →
        ∃ (I15 : Int → World → Prop) (M15 : Int → World → Nat), I15 0 w10 ∧
        ∀ (k16 : Int) (w17 : World), I15 k16 w17 →
         ((k16 < (tl6 : Int)) →
          t5 ≠ none ∧
          (0 : Int) ≤ k16 ∧
          (k16 : Int) < (tl6 : Int) ∧
          ∃ t18 : Int, cell w17 (pIdx t5 k16 1) 0 = some (.int .i64 t18) ∧
          t11 ≠ none ∧
          (0 : Int) ≤ k16 ∧
          (k16 : Int) < (tl12 : Int) ∧
          ∃ t19 : Int, cell w17 (pIdx t11 k16 1) 0 = some (.int .i64 t19) ∧
          ((t19 < t18) →
           ∀ w20, Ext w17 w20 →
           Q (.bool false) w20) ∧
          ((t18 ≤ t19) →
           InR .i64 (k16 + 1) ∧
           (I15 (k16 + 1) w17 ∧ M15 (k16 + 1) w17 < M15 k16 w17))) ∧
         (((tl6 : Int) ≤ k16) →
          ∀ w18, Ext w17 w18 →
          Q (.bool true) w18))))

theorem ok_shiftbellkeep_ShareMore (all : Int) (more : Int) (l : Option Addr) (ll : Nat) (lc : Nat) (w : World) (Q : Value → World → Prop) (h : wp_shiftbellkeep_ShareMore all more l ll lc w Q) : FnP Try.prog F_shiftbellkeep_ShareMore #[(.int .i64 all), (.int .i64 more), (.slice l ll lc)] w Q := by
  have e_ : wp_shiftbellkeep_ShareMore all more l ll lc w Q = Runs Try.prog Q ({ N := 71, wrap := [], pub := [], muts := [] } : Cfg) Try.f5 (Try.f5.body.getD .skip) [.sc (.int .i64 all), .sc (.int .i64 more), .sc (.slc l ll lc)] w := by kernel_rfl
  rw [e_] at h
  exact runs_fn h Try.func5 (by kernel_rfl) (fun args w => Try.call5 args w) (by kernel_rfl) (by kernel_rfl) rfl rfl

theorem open_shiftbellkeep_ShareMore (W : World) (R : Array Value → Prop) (h : ∀ all : Int, InR .i64 all → ∀ more : Int, InR .i64 more → ∀ l : Option Addr, ∀ ll : Nat, ∀ lc : Nat, SlcArg Try.prog W 2 l ll lc → R #[(.int .i64 all), (.int .i64 more), (.slice l ll lc)]) (args : Array Value) (hg : GoodAll Try.prog W Try.f5.params.toList args.toList) : R args := by
  have e_ : (ArgsAll Try.prog W Try.f5.params.toList fun l => R l.toArray) = (∀ all : Int, InR .i64 all → ∀ more : Int, InR .i64 more → ∀ l : Option Addr, ∀ ll : Nat, ∀ lc : Nat, SlcArg Try.prog W 2 l ll lc → R #[(.int .i64 all), (.int .i64 more), (.slice l ll lc)]) := by kernel_rfl
  exact args_open (by rw [e_]; exact h) args hg
-- wit 5 #[(.int .i64 0), (.int .i64 0), (.slice none 0 0)]

end Go.Proofs.Ythndjkpnllanpaa
