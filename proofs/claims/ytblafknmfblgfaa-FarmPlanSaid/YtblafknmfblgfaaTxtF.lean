/- The texts of this seat's functions: what each computes, as its symbolic run says it. -/
import Derived.Test.YtblafknmfblgfaaRows
import Derived.Test.YtblafknmfblgfaaSxD
import Derived.Test.YtblafknmfblgfaaSxN
import Derived.Test.YtblafknmfblgfaaTxt
import Derived.Test.YtblafknmfblgfaaTxtB
import Derived.Test.YtblafknmfblgfaaTxtC
import Derived.Test.YtblafknmfblgfaaTxtD
import Derived.Test.YtblafknmfblgfaaTxtE
set_option linter.unusedVariables false
set_option linter.unusedSimpArgs false
set_option maxRecDepth 100000
namespace Go.Proofs.Ytblafknmfblgfaa
open Go.Sx Go.RowKit

abbrev F_farm_Farm_Jobs : FuncId := 12
abbrev F_farm_Farm_Hosts : FuncId := 14
abbrev F_farm_Farm_Now : FuncId := 18
abbrev F_farm_New : FuncId := 27
abbrev F_farm_ownHosts : FuncId := 33
abbrev F_farm_Farm_ready : FuncId := 40
abbrev F_farm_Farm_at : FuncId := 43
abbrev F_farm_Farm_Tick : FuncId := 61
abbrev F_slices_ContainsFunc_api_Host_api_Host : FuncId := 66
abbrev F_farm_New_1 : FuncId := 67
abbrev F_farm_Farm_ready_1 : FuncId := 76
abbrev F_farm_Farm_leave : FuncId := 85
abbrev F_farm_Farm_lost : FuncId := 86
abbrev F_slices_IndexFunc_api_Host_api_Host : FuncId := 88
abbrev F_farm_Farm_lost_1 : FuncId := 100

/-- (*shiftbell/farm.Farm).at -/
def wp_farm_Farm_at (f : Option Addr) (id : Int) (w : World) (Q : Value → World → Prop) : Prop :=
  ((1 ≤ id) →
   f ≠ none) ∧
  ((1 ≤ id) →
   f ≠ none) ∧
  ((id < 1) →
   ∀ w0, Ext w w0 →
   Q (.pointer none) w0) ∧
  ((1 ≤ id) →
   ∃ t0 : Option Addr, ∃ tl1 : Nat, ∃ tc2 : Nat, cell w (pAdd f 6) 0 = some (.slice t0 tl1 tc2) ∧
   (((tl1 : Int) < id) →
    ∀ w3, Ext w w3 →
    Q (.pointer none) w3) ∧
   ((id ≤ (tl1 : Int)) →
    f ≠ none ∧
    f ≠ none ∧
    ∃ t3 : Option Addr, ∃ tl4 : Nat, ∃ tc5 : Nat, cell w (pAdd f 6) 0 = some (.slice t3 tl4 tc5) ∧
    InR .i64 (id - 1) ∧
    t3 ≠ none ∧
    (0 : Int) ≤ (id - 1) ∧
    ((id - 1) : Int) < (tl4 : Int) ∧
    ∀ w6, Ext w w6 →
    Q (.pointer (pIdx t3 (id - 1) 16)) w6))

theorem ok_farm_Farm_at (f : Option Addr) (id : Int) (w : World) (Q : Value → World → Prop) (h : wp_farm_Farm_at f id w Q) : FnP Try.prog F_farm_Farm_at #[(.pointer f), (.int .i64 id)] w Q := by
  have e_ : wp_farm_Farm_at f id w Q = Runs Try.prog Q ({ N := 23, wrap := [], pub := [], muts := [], joins := [] } : Cfg) Try.f43 (Try.f43.body.getD .skip) [.sc (.ptr f), .sc (.int .i64 id)] w := by kernel_rfl
  rw [e_] at h
  exact runs_fn h Try.func43 (by kernel_rfl) (fun args w => Try.call43 args w) (by kernel_rfl) (by kernel_rfl) rfl rfl

/-- (*shiftbell/farm.Farm).Tick -/
def wp_farm_Farm_Tick (f : Option Addr) (n : Int) (w : World) (Q : Value → World → Prop) : Prop :=
  ((((0 ≤ n) ∧ (n ≤ 1000000000)) →
   f ≠ none)) ∧
  ((((0 ≤ n) ∧ (n ≤ 1000000000)) →
   f ≠ none)) ∧
  (((n < 0) ∨ (1000000000 < n)) →
   ∀ w0, Ext w w0 →
   Q (.int .i64 4) w0) ∧
  (((0 ≤ n) ∧ (n ≤ 1000000000)) →
   ∃ t0 : Int, cell w (pAdd f 5) 0 = some (.int .i64 t0) ∧
   InR .i64 (t0 + n) ∧
   ((1099511627776 < (t0 + n)) →
    ∀ w1, Ext w w1 →
    Q (.int .i64 4) w1) ∧
   (((t0 + n) ≤ 1099511627776) →
    f ≠ none ∧
    f ≠ none ∧
    ∃ t1 : Int, cell w (pAdd f 5) 0 = some (.int .i64 t1) ∧
    InR .i64 (t1 + n) ∧
    f ≠ none ∧
    f ≠ none ∧
    Store w (pAdd f 5) [(.int .i64 (t1 + n))] [] fun w2 =>
     ∀ w3, Ext w2 w3 →
     Q (.int .i64 0) w3))

theorem ok_farm_Farm_Tick (f : Option Addr) (n : Int) (w : World) (Q : Value → World → Prop) (h : wp_farm_Farm_Tick f n w Q) : FnP Try.prog F_farm_Farm_Tick #[(.pointer f), (.int .i64 n)] w Q := by
  have e_ : wp_farm_Farm_Tick f n w Q = Runs Try.prog Q ({ N := 28, wrap := [], pub := [], muts := [], joins := [] } : Cfg) Try.f61 (Try.f61.body.getD .skip) [.sc (.ptr f), .sc (.int .i64 n)] w := by kernel_rfl
  rw [e_] at h
  exact runs_fn h Try.func61 (by kernel_rfl) (fun args w => Try.call61 args w) (by kernel_rfl) (by kernel_rfl) rfl rfl

/-- (*shiftbell/farm.Farm).Now -/
def wp_farm_Farm_Now (f : Option Addr) (w : World) (Q : Value → World → Prop) : Prop :=
  f ≠ none ∧
  f ≠ none ∧
  ∃ t0 : Int, cell w (pAdd f 5) 0 = some (.int .i64 t0) ∧
  ∀ w1, Ext w w1 →
  Q (.int .i64 t0) w1

theorem ok_farm_Farm_Now (f : Option Addr) (w : World) (Q : Value → World → Prop) (h : wp_farm_Farm_Now f w Q) : FnP Try.prog F_farm_Farm_Now #[(.pointer f)] w Q := by
  have e_ : wp_farm_Farm_Now f w Q = Runs Try.prog Q ({ N := 7, wrap := [], pub := [], muts := [], joins := [] } : Cfg) Try.f18 (Try.f18.body.getD .skip) [.sc (.ptr f)] w := by kernel_rfl
  rw [e_] at h
  exact runs_fn h Try.func18 (by kernel_rfl) (fun args w => Try.call18 args w) (by kernel_rfl) (by kernel_rfl) rfl rfl

/-- (*shiftbell/farm.Farm).ready -/
def wp_farm_Farm_ready (f : Option Addr) (s : Option Addr) (w : World) (Q : Value → World → Prop) : Prop :=
  ∀ w0, Ext w w0 →
  New w0 29 [(.pointer f)] fun p1 w1 =>
   s ≠ none ∧
   s ≠ none ∧
   ∃ t2 : Int, cell w1 (pAdd s 11) 0 = some (.int .i64 t2) ∧
   ((t2 = 1) →
    s ≠ none) ∧
   ((t2 = 1) →
    s ≠ none) ∧
   (((t2 = 1) →
    ∃ t3 : Int, cell w1 (pAdd s 14) 0 = some (.int .i64 t3) ∧
    ∃ t4 : Option Addr, cell w1 p1 0 = some (.pointer t4) ∧
    t4 ≠ none ∧
    t4 ≠ none ∧
    ∃ t5 : Int, cell w1 (pAdd t4 5) 0 = some (.int .i64 t5) ∧
    ((t3 ≤ t5) →
     s ≠ none) ∧
    ((t3 ≤ t5) →
     s ≠ none) ∧
    ((t3 ≤ t5) →
     (pAdd s 0) ≠ none) ∧
    (((t3 ≤ t5) →
     ∃ t6 : Option Addr, ∃ tl7 : Nat, ∃ tc8 : Nat, cell w1 (pAdd (pAdd s 0) 10) 0 = some (.slice t6 tl7 tc8) ∧
     ∀ w9, Ext w1 w9 →
     FnP Try.prog F_slices_ContainsFunc_int_int #[(.slice t6 tl7 tc8), (.func (.func 76) #[] #[(.pointer p1)])] w9 fun v10 w10 =>
      Ext w9 w10 ∧
      ∃ t11 : Bool, v10 = (.bool t11) ∧
      ∀ w12, Ext w1 w12 →
      Q (.bool (!t11)) w12)) ∧
    ((t5 < t3) →
     ∀ w6, Ext w1 w6 →
     Q (.bool false) w6))) ∧
   ((t2 ≠ 1) →
    ∀ w3, Ext w1 w3 →
    Q (.bool false) w3)

theorem ok_farm_Farm_ready (f : Option Addr) (s : Option Addr) (w : World) (Q : Value → World → Prop) (h : wp_farm_Farm_ready f s w Q) : FnP Try.prog F_farm_Farm_ready #[(.pointer f), (.pointer s)] w Q := by
  have e_ : wp_farm_Farm_ready f s w Q = Runs Try.prog Q ({ N := 31, wrap := [], pub := [2], muts := [], joins := [] } : Cfg) Try.f40 (Try.f40.body.getD .skip) [.sc (.ptr f), .sc (.ptr s)] w := by kernel_rfl
  rw [e_] at h
  exact runs_fn h Try.func40 (by kernel_rfl) (fun args w => Try.call40 args w) (by kernel_rfl) (by kernel_rfl) rfl rfl

/-- (*shiftbell/farm.Farm).ready$1 -/
def wp_farm_Farm_ready_1 (id : Int) (c0 : Option Addr) (w : World) (Q : Value → World → Prop) : Prop :=
  ∃ t0 : Option Addr, cell w c0 0 = some (.pointer t0) ∧
  ∀ w1, Ext w w1 →
  FnP Try.prog F_farm_Farm_at #[(.pointer t0), (.int .i64 id)] w1 fun v2 w2 =>
   Ext w1 w2 ∧
   ∃ t3 : Option Addr, v2 = (.pointer t3) ∧
   t3 ≠ none ∧
   t3 ≠ none ∧
   ∃ t4 : Int, cell w2 (pAdd t3 11) 0 = some (.int .i64 t4) ∧
   ∀ w5, Ext w2 w5 →
   Q (.bool (decide (t4 ≠ 3))) w5

theorem ok_farm_Farm_ready_1 (id : Int) (c0 : Option Addr) (w : World) (Q : Value → World → Prop) (h : wp_farm_Farm_ready_1 id c0 w Q) : FnP Try.prog F_farm_Farm_ready_1 #[(.int .i64 id), (.pointer c0)] w Q := by
  have e_ : wp_farm_Farm_ready_1 id c0 w Q = Runs Try.prog Q ({ N := 11, wrap := [], pub := [], muts := [], joins := [] } : Cfg) Try.f76 (Try.f76.body.getD .skip) [.sc (.int .i64 id), .sc (.ptr c0)] w := by kernel_rfl
  rw [e_] at h
  exact runs_fn h Try.func76 (by kernel_rfl) (fun args w => Try.call76 args w) (by kernel_rfl) (by kernel_rfl) rfl rfl

/-- (*shiftbell/farm.Farm).lost -/
def wp_farm_Farm_lost (f : Option Addr) (w : World) (Q : Value → World → Prop) : Prop :=
  ∀ w0, Ext w w0 →
  New w0 29 [(.pointer f)] fun p1 w1 =>
   ∃ t2 : Option Addr, cell w1 p1 0 = some (.pointer t2) ∧
   t2 ≠ none ∧
   t2 ≠ none ∧
   ∃ t3 : Option Addr, ∃ tl4 : Nat, ∃ tc5 : Nat, cell w1 (pAdd t2 6) 0 = some (.slice t3 tl4 tc5) ∧
   ∃ (I6 : Int → World → Prop) (M6 : Int → World → Nat), I6 0 w1 ∧
   ∀ (k7 : Int) (w8 : World), I6 k7 w8 →
    (((k7 < (tl4 : Int)) →
     ∃ t9 : Option Addr, cell w8 p1 0 = some (.pointer t9) ∧
     t9 ≠ none ∧
     t9 ≠ none ∧
     ∃ t10 : Option Addr, ∃ tl11 : Nat, ∃ tc12 : Nat, cell w8 (pAdd t9 6) 0 = some (.slice t10 tl11 tc12) ∧
     t10 ≠ none ∧
     (0 : Int) ≤ k7 ∧
     (k7 : Int) < (tl11 : Int) ∧
     (pIdx t10 k7 16) ≠ none ∧
     (pIdx t10 k7 16) ≠ none ∧
     ∃ t13 : Int, cell w8 (pAdd (pIdx t10 k7 16) 11) 0 = some (.int .i64 t13) ∧
     ((t13 = 1) →
      (pIdx t10 k7 16) ≠ none) ∧
     ((t13 = 1) →
      (pIdx t10 k7 16) ≠ none) ∧
     ((t13 = 1) →
      (pAdd (pIdx t10 k7 16) 0) ≠ none) ∧
     (((t13 = 1) →
      ∃ t14 : Option Addr, ∃ tl15 : Nat, ∃ tc16 : Nat, cell w8 (pAdd (pAdd (pIdx t10 k7 16) 0) 10) 0 = some (.slice t14 tl15 tc16) ∧
      ∀ w17, Ext w8 w17 →
      FnP Try.prog F_slices_ContainsFunc_int_int #[(.slice t14 tl15 tc16), (.func (.func 100) #[] #[(.pointer p1)])] w17 fun v18 w18 =>
       Ext w17 w18 ∧
       ∃ t19 : Bool, v18 = (.bool t19) ∧
       (((t19 = true) →
        (pIdx t10 k7 16) ≠ none ∧
        (pIdx t10 k7 16) ≠ none ∧
        Store w8 (pAdd (pIdx t10 k7 16) 11) [(.int .i64 5)] [] fun w20 =>
         InR .i64 (k7 + 1) ∧
         (I6 (k7 + 1) w20 ∧ M6 (k7 + 1) w20 < M6 k7 w8))) ∧
       ((t19 = false) →
        InR .i64 (k7 + 1) ∧
        (I6 (k7 + 1) w8 ∧ M6 (k7 + 1) w8 < M6 k7 w8)))) ∧
     ((t13 ≠ 1) →
      InR .i64 (k7 + 1) ∧
      (I6 (k7 + 1) w8 ∧ M6 (k7 + 1) w8 < M6 k7 w8)))) ∧
    (((tl4 : Int) ≤ k7) →
     ∀ w9, Ext w8 w9 →
     Q (.tuple #[]) w9)

theorem ok_farm_Farm_lost (f : Option Addr) (w : World) (Q : Value → World → Prop) (h : wp_farm_Farm_lost f w Q) : FnP Try.prog F_farm_Farm_lost #[(.pointer f)] w Q := by
  have e_ : wp_farm_Farm_lost f w Q = Runs Try.prog Q ({ N := 36, wrap := [], pub := [1], muts := [], joins := [] } : Cfg) Try.f86 (Try.f86.body.getD .skip) [.sc (.ptr f)] w := by kernel_rfl
  rw [e_] at h
  exact runs_fn h Try.func86 (by kernel_rfl) (fun args w => Try.call86 args w) (by kernel_rfl) (by kernel_rfl) rfl rfl

/-- (*shiftbell/farm.Farm).lost$1 -/
def wp_farm_Farm_lost_1 (id : Int) (c0 : Option Addr) (w : World) (Q : Value → World → Prop) : Prop :=
  ∃ t0 : Option Addr, cell w c0 0 = some (.pointer t0) ∧
  ∀ w1, Ext w w1 →
  FnP Try.prog F_farm_Farm_at #[(.pointer t0), (.int .i64 id)] w1 fun v2 w2 =>
   Ext w1 w2 ∧
   ∃ t3 : Option Addr, v2 = (.pointer t3) ∧
   t3 ≠ none ∧
   t3 ≠ none ∧
   ∃ t4 : Int, cell w2 (pAdd t3 11) 0 = some (.int .i64 t4) ∧
   ∀ w5, Ext w2 w5 →
   Q (.bool ((decide (t4 = 4)) || (decide (t4 = 5)))) w5

theorem ok_farm_Farm_lost_1 (id : Int) (c0 : Option Addr) (w : World) (Q : Value → World → Prop) (h : wp_farm_Farm_lost_1 id c0 w Q) : FnP Try.prog F_farm_Farm_lost_1 #[(.int .i64 id), (.pointer c0)] w Q := by
  have e_ : wp_farm_Farm_lost_1 id c0 w Q = Runs Try.prog Q ({ N := 17, wrap := [], pub := [], muts := [], joins := [] } : Cfg) Try.f100 (Try.f100.body.getD .skip) [.sc (.int .i64 id), .sc (.ptr c0)] w := by kernel_rfl
  rw [e_] at h
  exact runs_fn h Try.func100 (by kernel_rfl) (fun args w => Try.call100 args w) (by kernel_rfl) (by kernel_rfl) rfl rfl

/-- (*shiftbell/farm.Farm).leave -/
def wp_farm_Farm_leave (f : Option Addr) (s : Option Addr) (w : World) (Q : Value → World → Prop) : Prop :=
  f ≠ none ∧
  f ≠ none ∧
  ∃ t0 : Option Addr, ∃ tl1 : Nat, ∃ tc2 : Nat, cell w (pAdd f 0) 0 = some (.slice t0 tl1 tc2) ∧
  s ≠ none ∧
  s ≠ none ∧
  ∃ t3 : Int, cell w (pAdd s 12) 0 = some (.int .i64 t3) ∧
  s ≠ none ∧
  s ≠ none ∧
  (pAdd s 0) ≠ none ∧
  (pAdd (pAdd s 0) 2) ≠ none ∧
  ∃ t4 : Int, cell w (pAdd (pAdd s 0) 2) 0 = some (.int .i64 t4) ∧
  ∃ t5 : Int, cell w (pAdd (pAdd s 0) 2) 1 = some (.int .i64 t5) ∧
  ∃ t6 : Int, cell w (pAdd (pAdd s 0) 2) 2 = some (.int .i64 t6) ∧
  ∀ w7, Ext w w7 →
  FnP Try.prog F_host_Give #[(.slice t0 tl1 tc2), (.int .i64 t3), (.agg #[(.int .i64 t4), (.int .i64 t5), (.int .i64 t6)])] w7 fun v8 w8 =>
   Ext w7 w8 ∧
   ∃ t9 : Option Addr, ∃ tl10 : Nat, ∃ tc11 : Nat, ∃ t12 : Int, v8 = (.tuple #[(.slice t9 tl10 tc11), (.int .i64 t12)]) ∧
   f ≠ none ∧
   f ≠ none ∧
   Store w8 (pAdd f 0) [(.slice t9 tl10 tc11)] [] fun w13 =>
    s ≠ none ∧
    s ≠ none ∧
    Store w13 (pAdd s 12) [(.int .i64 0)] [] fun w14 =>
     s ≠ none ∧
     s ≠ none ∧
     Store w14 (pAdd s 13) [(.int .i64 0)] [] fun w15 =>
      ∀ w16, Ext w15 w16 →
      Q (.tuple #[]) w16

theorem ok_farm_Farm_leave (f : Option Addr) (s : Option Addr) (w : World) (Q : Value → World → Prop) (h : wp_farm_Farm_leave f s w Q) : FnP Try.prog F_farm_Farm_leave #[(.pointer f), (.pointer s)] w Q := by
  have e_ : wp_farm_Farm_leave f s w Q = Runs Try.prog Q ({ N := 30, wrap := [], pub := [], muts := [], joins := [] } : Cfg) Try.f85 (Try.f85.body.getD .skip) [.sc (.ptr f), .sc (.ptr s)] w := by kernel_rfl
  rw [e_] at h
  exact runs_fn h Try.func85 (by kernel_rfl) (fun args w => Try.call85 args w) (by kernel_rfl) (by kernel_rfl) rfl rfl

/-- (*shiftbell/farm.Farm).Jobs -/
def wp_farm_Farm_Jobs (f : Option Addr) (w : World) (Q : Value → World → Prop) : Prop :=
  f ≠ none ∧
  f ≠ none ∧
  ∃ t0 : Option Addr, ∃ tl1 : Nat, ∃ tc2 : Nat, cell w (pAdd f 6) 0 = some (.slice t0 tl1 tc2) ∧
  ∃ (I3 : Option Addr → Nat → Nat → Int → World → Prop) (M3 : Option Addr → Nat → Nat → Int → World → Nat), I3 none 0 0 0 w ∧
  ∀ (out4 : Option Addr) (outl4 : Nat) (outc4 : Nat) (k5 : Int) (w6 : World), I3 out4 outl4 outc4 k5 w6 →
   (((k5 < (tl1 : Int)) →
    t0 ≠ none ∧
    (0 : Int) ≤ k5 ∧
    (k5 : Int) < (tl1 : Int) ∧
    (pIdx t0 k5 16) ≠ none ∧
    ∃ t7 : ByteArray, cell w6 (pIdx t0 k5 16) 0 = some (.string t7) ∧
    ∃ t8 : Int, cell w6 (pIdx t0 k5 16) 1 = some (.int .i64 t8) ∧
    ∃ t9 : Int, cell w6 (pIdx t0 k5 16) 2 = some (.int .i64 t9) ∧
    ∃ t10 : Int, cell w6 (pIdx t0 k5 16) 3 = some (.int .i64 t10) ∧
    ∃ t11 : Int, cell w6 (pIdx t0 k5 16) 4 = some (.int .i64 t11) ∧
    ∃ t12 : Int, cell w6 (pIdx t0 k5 16) 5 = some (.int .i64 t12) ∧
    ∃ t13 : ByteArray, cell w6 (pIdx t0 k5 16) 6 = some (.string t13) ∧
    ∃ t14 : ByteArray, cell w6 (pIdx t0 k5 16) 7 = some (.string t14) ∧
    ∃ t15 : Int, cell w6 (pIdx t0 k5 16) 8 = some (.int .i64 t15) ∧
    ∃ t16 : Option Addr, ∃ tl17 : Nat, ∃ tc18 : Nat, cell w6 (pIdx t0 k5 16) 9 = some (.slice t16 tl17 tc18) ∧
    ∃ t19 : Option Addr, ∃ tl20 : Nat, ∃ tc21 : Nat, cell w6 (pIdx t0 k5 16) 10 = some (.slice t19 tl20 tc21) ∧
    ∃ t22 : Int, cell w6 (pIdx t0 k5 16) 11 = some (.int .i64 t22) ∧
    ∃ t23 : Int, cell w6 (pIdx t0 k5 16) 12 = some (.int .i64 t23) ∧
    ∃ t24 : Int, cell w6 (pIdx t0 k5 16) 13 = some (.int .i64 t24) ∧
    ∃ t25 : Int, cell w6 (pIdx t0 k5 16) 14 = some (.int .i64 t25) ∧
    ∃ t26 : Int, cell w6 (pIdx t0 k5 16) 15 = some (.int .i64 t26) ∧
    ∀ b27 : Nat, w6.heap.size ≤ b27 → ∀ w28, ExtB [] [b27] w6 w28 →
    FnP Try.prog F_farm_own #[(.agg #[(.string t7), (.int .i64 t8), (.int .i64 t9), (.int .i64 t10), (.int .i64 t11), (.int .i64 t12), (.string t13), (.string t14), (.int .i64 t15), (.slice t16 tl17 tc18), (.slice t19 tl20 tc21), (.int .i64 t22), (.int .i64 t23), (.int .i64 t24), (.int .i64 t25), (.int .i64 t26)])] w28 fun v29 w29 =>
     Ext w28 w29 ∧
     ∃ t_030 : ByteArray, ∃ t_131 : Int, ∃ t_232 : Int, ∃ t_333 : Int, ∃ t_434 : Int, ∃ t_535 : Int, ∃ t_636 : ByteArray, ∃ t_737 : ByteArray, ∃ t_838 : Int, ∃ t_939 : Option Addr, ∃ t_9l40 : Nat, ∃ t_9c41 : Nat, ∃ t_1042 : Option Addr, ∃ t_10l43 : Nat, ∃ t_10c44 : Nat, ∃ t_1145 : Int, ∃ t_1246 : Int, ∃ t_1347 : Int, ∃ t_1448 : Int, ∃ t_1549 : Int, v29 = (.agg #[(.string t_030), (.int .i64 t_131), (.int .i64 t_232), (.int .i64 t_333), (.int .i64 t_434), (.int .i64 t_535), (.string t_636), (.string t_737), (.int .i64 t_838), (.slice t_939 t_9l40 t_9c41), (.slice t_1042 t_10l43 t_10c44), (.int .i64 t_1145), (.int .i64 t_1246), (.int .i64 t_1347), (.int .i64 t_1448), (.int .i64 t_1549)]) ∧
     ∀ w50, ExtB [] [b27] w29 w50 →
     Run Try.prog (.buildSlice 31 1 [(0, (.agg #[(.string t_030), (.int .i64 t_131), (.int .i64 t_232), (.int .i64 t_333), (.int .i64 t_434), (.int .i64 t_535), (.string t_636), (.string t_737), (.int .i64 t_838), (.slice t_939 t_9l40 t_9c41), (.slice t_1042 t_10l43 t_10c44), (.int .i64 t_1145), (.int .i64 t_1246), (.int .i64 t_1347), (.int .i64 t_1448), (.int .i64 t_1549)]))]) w50 fun v51 w51 =>
      Ext w50 w51 ∧
      ∃ t52 : Option Addr, ∃ tl53 : Nat, ∃ tc54 : Nat, v51 = (.slice t52 tl53 tc54) ∧
      ∀ w55, ExtB [] [b27] w51 w55 →
      Run Try.prog (.append #[31, 31] 31 [(.slice out4 outl4 outc4), (.slice t52 tl53 tc54)]) w55 fun v56 w56 =>
       Kept [b27] w55 w56 ∧
       ∃ t57 : Option Addr, ∃ tl58 : Nat, ∃ tc59 : Nat, v56 = (.slice t57 tl58 tc59) ∧
       InR .i64 (k5 + 1) ∧
       (I3 t57 tl58 tc59 (k5 + 1) w56 ∧ M3 t57 tl58 tc59 (k5 + 1) w56 < M3 out4 outl4 outc4 k5 w6))) ∧
   (((tl1 : Int) ≤ k5) →
    ∀ w7, Ext w6 w7 →
    Q (.slice out4 outl4 outc4) w7)

theorem ok_farm_Farm_Jobs (f : Option Addr) (w : World) (Q : Value → World → Prop) (h : wp_farm_Farm_Jobs f w Q) : FnP Try.prog F_farm_Farm_Jobs #[(.pointer f)] w Q := by
  have e_ : wp_farm_Farm_Jobs f w Q = Runs Try.prog Q ({ N := 22, wrap := [], pub := [], muts := [], joins := [] } : Cfg) Try.f12 (Try.f12.body.getD .skip) [.sc (.ptr f)] w := by kernel_rfl
  rw [e_] at h
  exact runs_fn h Try.func12 (by kernel_rfl) (fun args w => Try.call12 args w) (by kernel_rfl) (by kernel_rfl) rfl rfl

/-- (*shiftbell/farm.Farm).Hosts -/
def wp_farm_Farm_Hosts (f : Option Addr) (w : World) (Q : Value → World → Prop) : Prop :=
  f ≠ none ∧
  f ≠ none ∧
  ∃ t0 : Option Addr, ∃ tl1 : Nat, ∃ tc2 : Nat, cell w (pAdd f 0) 0 = some (.slice t0 tl1 tc2) ∧
  ∀ w3, Ext w w3 →
  FnP Try.prog F_farm_ownHosts #[(.slice t0 tl1 tc2)] w3 fun v4 w4 =>
   Ext w3 w4 ∧
   ∃ t5 : Option Addr, ∃ tl6 : Nat, ∃ tc7 : Nat, v4 = (.slice t5 tl6 tc7) ∧
   ∀ w8, Ext w4 w8 →
   Q (.slice t5 tl6 tc7) w8

theorem ok_farm_Farm_Hosts (f : Option Addr) (w : World) (Q : Value → World → Prop) (h : wp_farm_Farm_Hosts f w Q) : FnP Try.prog F_farm_Farm_Hosts #[(.pointer f)] w Q := by
  have e_ : wp_farm_Farm_Hosts f w Q = Runs Try.prog Q ({ N := 8, wrap := [], pub := [], muts := [], joins := [] } : Cfg) Try.f14 (Try.f14.body.getD .skip) [.sc (.ptr f)] w := by kernel_rfl
  rw [e_] at h
  exact runs_fn h Try.func14 (by kernel_rfl) (fun args w => Try.call14 args w) (by kernel_rfl) (by kernel_rfl) rfl rfl

/-- shiftbell/farm.ownHosts -/
def wp_farm_ownHosts (l : Option Addr) (ll : Nat) (lc : Nat) (w : World) (Q : Value → World → Prop) : Prop :=
  ∀ w0, Ext w w0 →
  FnP Try.prog F_slices_Clone_api_Host_api_Host #[(.slice l ll lc)] w0 fun v1 w1 =>
   Ext w0 w1 ∧
   ∃ t2 : Option Addr, ∃ tl3 : Nat, ∃ tc4 : Nat, v1 = (.slice t2 tl3 tc4) ∧
   ∃ (I5 : Int → World → Prop) (M5 : Int → World → Nat), I5 0 w1 ∧
   ∀ (k6 : Int) (w7 : World), I5 k6 w7 →
    (((k6 < (tl3 : Int)) →
     t2 ≠ none ∧
     (0 : Int) ≤ k6 ∧
     (k6 : Int) < (tl3 : Int) ∧
     (pIdx t2 k6 8) ≠ none ∧
     ∃ t8 : Option Addr, ∃ tl9 : Nat, ∃ tc10 : Nat, cell w7 (pAdd (pIdx t2 k6 8) 1) 0 = some (.slice t8 tl9 tc10) ∧
     ∀ w11, Ext w7 w11 →
     FnP Try.prog F_slices_Clone_api_Label_api_Label #[(.slice t8 tl9 tc10)] w11 fun v12 w12 =>
      Ext w11 w12 ∧
      ∃ t13 : Option Addr, ∃ tl14 : Nat, ∃ tc15 : Nat, v12 = (.slice t13 tl14 tc15) ∧
      t2 ≠ none ∧
      (0 : Int) ≤ k6 ∧
      (k6 : Int) < (tl3 : Int) ∧
      (pIdx t2 k6 8) ≠ none ∧
      Store w12 (pAdd (pIdx t2 k6 8) 1) [(.slice t13 tl14 tc15)] [] fun w16 =>
       InR .i64 (k6 + 1) ∧
       (I5 (k6 + 1) w16 ∧ M5 (k6 + 1) w16 < M5 k6 w7))) ∧
    (((tl3 : Int) ≤ k6) →
     ∀ w8, Ext w7 w8 →
     Q (.slice t2 tl3 tc4) w8)

theorem ok_farm_ownHosts (l : Option Addr) (ll : Nat) (lc : Nat) (w : World) (Q : Value → World → Prop) (h : wp_farm_ownHosts l ll lc w Q) : FnP Try.prog F_farm_ownHosts #[(.slice l ll lc)] w Q := by
  have e_ : wp_farm_ownHosts l ll lc w Q = Runs Try.prog Q ({ N := 23, wrap := [], pub := [], muts := [], joins := [] } : Cfg) Try.f33 (Try.f33.body.getD .skip) [.sc (.slc l ll lc)] w := by kernel_rfl
  rw [e_] at h
  exact runs_fn h Try.func33 (by kernel_rfl) (fun args w => Try.call33 args w) (by kernel_rfl) (by kernel_rfl) rfl rfl

/-- shiftbell/farm.New -/
def wp_farm_New (x_0 : Option Addr) (x_0l : Nat) (x_0c : Nat) (x_1 : Int) (x_2 : Int) (x_3 : Int) (x_4 : Int) (w : World) (Q : Value → World → Prop) : Prop :=
  ∀ b0 : Nat, w.heap.size ≤ b0 → ∀ w1, Ext w w1 →
  FnP Try.prog F_host_Check #[(.slice x_0 x_0l x_0c)] w1 fun v2 w2 =>
   Ext w1 w2 ∧
   ∃ t3 : Int, v2 = (.int .i64 t3) ∧
   ((t3 ≠ 0) →
    ∀ w4, Ext w w4 →
    Q (.tuple #[(.pointer none), (.int .i64 t3)]) w4) ∧
   ((t3 = 0) →
    ∀ w4, Ext w w4 →
    FnP Try.prog F_slices_ContainsFunc_api_Host_api_Host #[(.slice x_0 x_0l x_0c), (.func (.func 67) #[] #[])] w4 fun v5 w5 =>
     Ext w4 w5 ∧
     ∃ t6 : Bool, v5 = (.bool t6) ∧
     ((t6 = true) →
      ∀ w7, Ext w w7 →
      Q (.tuple #[(.pointer none), (.int .i64 9)]) w7) ∧
     ((t6 = false) →
      ∀ w7, Ext w w7 →
      FnP Try.prog F_retry_Check #[(.agg #[(.int .i64 x_1), (.int .i64 x_2), (.int .i64 x_3), (.int .i64 x_4)])] w7 fun v8 w8 =>
       Ext w7 w8 ∧
       ∃ t9 : Int, v8 = (.int .i64 t9) ∧
       ((t9 ≠ 0) →
        ∀ w10, Ext w w10 →
        Q (.tuple #[(.pointer none), (.int .i64 t9)]) w10) ∧
       ((t9 = 0) →
        ∀ w10, ExtB [] [b0] w w10 →
        FnP Try.prog F_farm_ownHosts #[(.slice x_0 x_0l x_0c)] w10 fun v11 w11 =>
         Ext w10 w11 ∧
         ∃ t12 : Option Addr, ∃ tl13 : Nat, ∃ tc14 : Nat, v11 = (.slice t12 tl13 tc14) ∧
         ∀ w15, ExtB [] [b0] w11 w15 →
         New w15 82 [(.slice t12 tl13 tc14), (.int .i64 x_1), (.int .i64 x_2), (.int .i64 x_3), (.int .i64 x_4), (.int .i64 0), (.slice none 0 0)] fun p16 w16 =>
          ∀ w17, Ext w16 w17 →
          Q (.tuple #[(.pointer p16), (.int .i64 0)]) w17)))

theorem ok_farm_New (x_0 : Option Addr) (x_0l : Nat) (x_0c : Nat) (x_1 : Int) (x_2 : Int) (x_3 : Int) (x_4 : Int) (w : World) (Q : Value → World → Prop) (h : wp_farm_New x_0 x_0l x_0c x_1 x_2 x_3 x_4 w Q) : FnP Try.prog F_farm_New #[(.agg #[(.slice x_0 x_0l x_0c), (.int .i64 x_1), (.int .i64 x_2), (.int .i64 x_3), (.int .i64 x_4)])] w Q := by
  have e_ : wp_farm_New x_0 x_0l x_0c x_1 x_2 x_3 x_4 w Q = Runs Try.prog Q ({ N := 28, wrap := [], pub := [27], muts := [], joins := [] } : Cfg) Try.f27 (Try.f27.body.getD .skip) [.agg [.slc x_0 x_0l x_0c, .int .i64 x_1, .int .i64 x_2, .int .i64 x_3, .int .i64 x_4]] w := by kernel_rfl
  rw [e_] at h
  exact runs_fn h Try.func27 (by kernel_rfl) (fun args w => Try.call27 args w) (by kernel_rfl) (by kernel_rfl) rfl rfl

/-- shiftbell/farm.New$1 -/
def wp_farm_New_1 (h_v_0 : ByteArray) (h_v_1 : Option Addr) (h_v_1l : Nat) (h_v_1c : Nat) (h_v_2 : Int) (h_v_3 : Int) (h_v_4 : Int) (h_v_5 : Int) (h_v_6 : Int) (h_v_7 : Int) (w : World) (Q : Value → World → Prop) : Prop :=
  ∀ b0 : Nat, w.heap.size ≤ b0 → ∀ w1, Ext w w1 →
  Run Try.prog (.eq .neq 34 false false (.agg #[(.int .i64 h_v_5), (.int .i64 h_v_6), (.int .i64 h_v_7)]) (.agg #[(.int .i64 0), (.int .i64 0), (.int .i64 0)])) w1 fun v2 w2 =>
   Ext w1 w2 ∧
   ∃ t3 : Bool, v2 = (.bool t3) ∧
   ∀ w4, Ext w w4 →
   Q (.bool t3) w4

theorem ok_farm_New_1 (h_v_0 : ByteArray) (h_v_1 : Option Addr) (h_v_1l : Nat) (h_v_1c : Nat) (h_v_2 : Int) (h_v_3 : Int) (h_v_4 : Int) (h_v_5 : Int) (h_v_6 : Int) (h_v_7 : Int) (w : World) (Q : Value → World → Prop) (h : wp_farm_New_1 h_v_0 h_v_1 h_v_1l h_v_1c h_v_2 h_v_3 h_v_4 h_v_5 h_v_6 h_v_7 w Q) : FnP Try.prog F_farm_New_1 #[(.agg #[(.string h_v_0), (.slice h_v_1 h_v_1l h_v_1c), (.int .i64 h_v_2), (.int .i64 h_v_3), (.int .i64 h_v_4), (.int .i64 h_v_5), (.int .i64 h_v_6), (.int .i64 h_v_7)])] w Q := by
  have e_ : wp_farm_New_1 h_v_0 h_v_1 h_v_1l h_v_1c h_v_2 h_v_3 h_v_4 h_v_5 h_v_6 h_v_7 w Q = Runs Try.prog Q ({ N := 7, wrap := [], pub := [], muts := [], joins := [] } : Cfg) Try.f67 (Try.f67.body.getD .skip) [.agg [.str h_v_0, .slc h_v_1 h_v_1l h_v_1c, .int .i64 h_v_2, .int .i64 h_v_3, .int .i64 h_v_4, .int .i64 h_v_5, .int .i64 h_v_6, .int .i64 h_v_7]] w := by kernel_rfl
  rw [e_] at h
  exact runs_fn h Try.func67 (by kernel_rfl) (fun args w => Try.call67 args w) (by kernel_rfl) (by kernel_rfl) rfl rfl

/-- slices.ContainsFunc[[]shiftbell/api.Host,shiftbell/api.Host] -/
def wp_slices_ContainsFunc_api_Host_api_Host (s : Option Addr) (sl : Nat) (sc : Nat) (f : Value) (w : World) (Q : Value → World → Prop) : Prop :=
  ∀ w0, Ext w w0 →
  FnP Try.prog F_slices_IndexFunc_api_Host_api_Host #[(.slice s sl sc), f] w0 fun v1 w1 =>
   Ext w0 w1 ∧
   ∃ t2 : Int, v1 = (.int .i64 t2) ∧
   ∀ w3, Ext w w3 →
   Q (.bool (decide (0 ≤ t2))) w3

theorem ok_slices_ContainsFunc_api_Host_api_Host (s : Option Addr) (sl : Nat) (sc : Nat) (f : Value) (w : World) (Q : Value → World → Prop) (h : wp_slices_ContainsFunc_api_Host_api_Host s sl sc f w Q) : FnP Try.prog F_slices_ContainsFunc_api_Host_api_Host #[(.slice s sl sc), f] w Q := by
  have e_ : wp_slices_ContainsFunc_api_Host_api_Host s sl sc f w Q = Runs Try.prog Q ({ N := 9, wrap := [], pub := [], muts := [], joins := [] } : Cfg) Try.f66 (Try.f66.body.getD .skip) [.sc (.slc s sl sc), .sc (.val f)] w := by kernel_rfl
  rw [e_] at h
  exact runs_fn h Try.func66 (by kernel_rfl) (fun args w => Try.call66 args w) (by kernel_rfl) (by kernel_rfl) rfl rfl

/-- slices.IndexFunc[[]shiftbell/api.Host,shiftbell/api.Host] -/
def wp_slices_IndexFunc_api_Host_api_Host (s : Option Addr) (sl : Nat) (sc : Nat) (f : Value) (w : World) (Q : Value → World → Prop) : Prop :=
  ∃ (I0 : Int → World → Prop) (M0 : Int → World → Nat), I0 0 w ∧
  ∀ (k1 : Int) (w2 : World), I0 k1 w2 →
   (((k1 < (sl : Int)) →
    s ≠ none ∧
    (0 : Int) ≤ k1 ∧
    (k1 : Int) < (sl : Int) ∧
    (pIdx s k1 8) ≠ none ∧
    ∃ t3 : ByteArray, cell w2 (pIdx s k1 8) 0 = some (.string t3) ∧
    ∃ t4 : Option Addr, ∃ tl5 : Nat, ∃ tc6 : Nat, cell w2 (pIdx s k1 8) 1 = some (.slice t4 tl5 tc6) ∧
    ∃ t7 : Int, cell w2 (pIdx s k1 8) 2 = some (.int .i64 t7) ∧
    ∃ t8 : Int, cell w2 (pIdx s k1 8) 3 = some (.int .i64 t8) ∧
    ∃ t9 : Int, cell w2 (pIdx s k1 8) 4 = some (.int .i64 t9) ∧
    ∃ t10 : Int, cell w2 (pIdx s k1 8) 5 = some (.int .i64 t10) ∧
    ∃ t11 : Int, cell w2 (pIdx s k1 8) 6 = some (.int .i64 t11) ∧
    ∃ t12 : Int, cell w2 (pIdx s k1 8) 7 = some (.int .i64 t12) ∧
    ∀ w13, Ext w2 w13 →
    FnVP Try.prog f [(.agg #[(.string t3), (.slice t4 tl5 tc6), (.int .i64 t7), (.int .i64 t8), (.int .i64 t9), (.int .i64 t10), (.int .i64 t11), (.int .i64 t12)])] w13 fun v14 w14 =>
     Ext w13 w14 ∧
     ∃ t15 : Bool, v14 = (.bool t15) ∧
     ((t15 = true) →
      ∀ w16, Ext w2 w16 →
      Q (.int .i64 k1) w16) ∧
     ((t15 = false) →
      InR .i64 (k1 + 1) ∧
      (I0 (k1 + 1) w2 ∧ M0 (k1 + 1) w2 < M0 k1 w2)))) ∧
   (((sl : Int) ≤ k1) →
    ∀ w3, Ext w2 w3 →
    Q (.int .i64 (-1)) w3)

theorem ok_slices_IndexFunc_api_Host_api_Host (s : Option Addr) (sl : Nat) (sc : Nat) (f : Value) (w : World) (Q : Value → World → Prop) (h : wp_slices_IndexFunc_api_Host_api_Host s sl sc f w Q) : FnP Try.prog F_slices_IndexFunc_api_Host_api_Host #[(.slice s sl sc), f] w Q := by
  have e_ : wp_slices_IndexFunc_api_Host_api_Host s sl sc f w Q = Runs Try.prog Q ({ N := 19, wrap := [], pub := [], muts := [], joins := [] } : Cfg) Try.f88 (Try.f88.body.getD .skip) [.sc (.slc s sl sc), .sc (.val f)] w := by kernel_rfl
  rw [e_] at h
  exact runs_fn h Try.func88 (by kernel_rfl) (fun args w => Try.call88 args w) (by kernel_rfl) (by kernel_rfl) rfl rfl

end Go.Proofs.Ytblafknmfblgfaa
