/- The texts of this seat's functions: what each computes, as its symbolic run says it. -/
import Derived.Test.YtkjekinnemgkkaaRows
import Derived.Test.YtkjekinnemgkkaaSxD
import Derived.Test.YtkjekinnemgkkaaSxN
import Derived.Test.YtkjekinnemgkkaaTxt
set_option linter.unusedVariables false
set_option linter.unusedSimpArgs false
set_option maxRecDepth 100000
namespace Go.Proofs.Ytkjekinnemgkkaa
open Go.Sx Go.RowKit

abbrev F_shiftbellkeep_QueueWhole : FuncId := 5
abbrev F_shiftbellkeep_QueueRaised : FuncId := 6
abbrev F_shiftbellkeep_QueueRaised_1 : FuncId := 20
abbrev F_slices_IndexFunc_api_Item_api_Item : FuncId := 21
abbrev F_slices_DeleteFunc_api_Item_api_Item : FuncId := 22

/-- slices.IndexFunc[[]shiftbell/api.Item,shiftbell/api.Item] -/
def wp_slices_IndexFunc_api_Item_api_Item (s : Option Addr) (sl : Nat) (sc : Nat) (f : Value) (w : World) (Q : Value → World → Prop) : Prop :=
  ∃ (I0 : Int → World → Prop) (M0 : Int → World → Nat), I0 0 w ∧
  ∀ (k1 : Int) (w2 : World), I0 k1 w2 →
   (((k1 < (sl : Int)) →
    s ≠ none ∧
    (0 : Int) ≤ k1 ∧
    (k1 : Int) < (sl : Int) ∧
    (pIdx s k1 2) ≠ none ∧
    ∃ t3 : Int, cell w2 (pIdx s k1 2) 0 = some (.int .i64 t3) ∧
    ∃ t4 : Int, cell w2 (pIdx s k1 2) 1 = some (.int .i64 t4) ∧
    ∀ w5, Ext w2 w5 →
    FnVP Try.prog f [(.agg #[(.int .i64 t3), (.int .i64 t4)])] w5 fun v6 w6 =>
     Ext w5 w6 ∧
     ∃ t7 : Bool, v6 = (.bool t7) ∧
     ((t7 = true) →
      ∀ w8, Ext w2 w8 →
      Q (.int .i64 k1) w8) ∧
     ((t7 = false) →
      InR .i64 (k1 + 1) ∧
      (I0 (k1 + 1) w2 ∧ M0 (k1 + 1) w2 < M0 k1 w2)))) ∧
   (((sl : Int) ≤ k1) →
    ∀ w3, Ext w2 w3 →
    Q (.int .i64 (-1)) w3)

theorem ok_slices_IndexFunc_api_Item_api_Item (s : Option Addr) (sl : Nat) (sc : Nat) (f : Value) (w : World) (Q : Value → World → Prop) (h : wp_slices_IndexFunc_api_Item_api_Item s sl sc f w Q) : FnP Try.prog F_slices_IndexFunc_api_Item_api_Item #[(.slice s sl sc), f] w Q := by
  have e_ : wp_slices_IndexFunc_api_Item_api_Item s sl sc f w Q = Runs Try.prog Q ({ N := 19, wrap := [], pub := [], muts := [], joins := [] } : Cfg) Try.f21 (Try.f21.body.getD .skip) [.sc (.slc s sl sc), .sc (.val f)] w := by kernel_rfl
  rw [e_] at h
  exact runs_fn h Try.func21 (by kernel_rfl) (fun args w => Try.call21 args w) (by kernel_rfl) (by kernel_rfl) rfl rfl

/-- slices.DeleteFunc[[]shiftbell/api.Item,shiftbell/api.Item] -/
def wp_slices_DeleteFunc_api_Item_api_Item (s : Option Addr) (sl : Nat) (sc : Nat) (del : Value) (w : World) (Q : Value → World → Prop) : Prop :=
  ∀ w0, Ext w w0 →
  FnP Try.prog F_slices_IndexFunc_api_Item_api_Item #[(.slice s sl sc), del] w0 fun v1 w1 =>
   Ext w0 w1 ∧
   ∃ t2 : Int, v1 = (.int .i64 t2) ∧
   ((t2 = (-1)) →
    ∀ w3, Ext w w3 →
    Q (.slice s sl sc) w3) ∧
   ((t2 ≠ (-1)) →
    InR .i64 (t2 + 1) ∧
    ∃ (I3 : Int → Int → World → Prop) (M3 : Int → Int → World → Nat), I3 t2 (t2 + 1) w ∧
    ∀ (i4 : Int) (j5 : Int) (w6 : World), I3 i4 j5 w6 →
     (((j5 < (sl : Int)) →
      s ≠ none ∧
      (0 : Int) ≤ j5 ∧
      (j5 : Int) < (sl : Int) ∧
      (pIdx s j5 2) ≠ none ∧
      ∃ t7 : Int, cell w6 (pIdx s j5 2) 0 = some (.int .i64 t7) ∧
      ∃ t8 : Int, cell w6 (pIdx s j5 2) 1 = some (.int .i64 t8) ∧
      ∀ b9 : Nat, w6.heap.size ≤ b9 → ∀ w10, Ext w6 w10 →
      FnVP Try.prog del [(.agg #[(.int .i64 t7), (.int .i64 t8)])] w10 fun v11 w11 =>
       Ext w10 w11 ∧
       ∃ t12 : Bool, v11 = (.bool t12) ∧
       (((t12 = false) →
        s ≠ none ∧
        (0 : Int) ≤ i4 ∧
        (i4 : Int) < (sl : Int) ∧
        Store w6 (pIdx s i4 2) [(.int .i64 t7), (.int .i64 t8)] [b9] fun w13 =>
         InR .i64 (i4 + 1) ∧
         InR .i64 (j5 + 1) ∧
         (I3 (i4 + 1) (j5 + 1) w13 ∧ M3 (i4 + 1) (j5 + 1) w13 < M3 i4 j5 w6))) ∧
       ((t12 = true) →
        InR .i64 (j5 + 1) ∧
        (I3 i4 (j5 + 1) w6 ∧ M3 i4 (j5 + 1) w6 < M3 i4 j5 w6)))) ∧
     (((sl : Int) ≤ j5) →
      (0 : Int) ≤ i4 ∧
      (i4 : Int) ≤ (sl : Int) ∧
      ((sl : Int) : Int) ≤ (sc : Int) ∧
      ∀ w7, Ext w6 w7 →
      Run Try.prog (.clear #[22] 0 [(.slice (pCut s sc i4 2) ((sl : Int) - i4).toNat (sc - i4.toNat))]) w7 fun v8 w8 =>
       v8 = (.tuple #[]) ∧
       (0 : Int) ≤ 0 ∧
       (0 : Int) ≤ i4 ∧
       (i4 : Int) ≤ (sc : Int) ∧
       ∀ w9, Ext w8 w9 →
       Q (.slice (pCut s sc 0 2) (i4 - 0).toNat (sc - (0 : Int).toNat)) w9))

theorem ok_slices_DeleteFunc_api_Item_api_Item (s : Option Addr) (sl : Nat) (sc : Nat) (del : Value) (w : World) (Q : Value → World → Prop) (h : wp_slices_DeleteFunc_api_Item_api_Item s sl sc del w Q) : FnP Try.prog F_slices_DeleteFunc_api_Item_api_Item #[(.slice s sl sc), del] w Q := by
  have e_ : wp_slices_DeleteFunc_api_Item_api_Item s sl sc del w Q = Runs Try.prog Q ({ N := 42, wrap := [], pub := [], muts := [], joins := [] } : Cfg) Try.f22 (Try.f22.body.getD .skip) [.sc (.slc s sl sc), .sc (.val del)] w := by kernel_rfl
  rw [e_] at h
  exact runs_fn h Try.func22 (by kernel_rfl) (fun args w => Try.call22 args w) (by kernel_rfl) (by kernel_rfl) rfl rfl

/-- shiftbell/shiftbellkeep.QueueRaised$1 -/
def wp_shiftbellkeep_QueueRaised_1 (x_0 : Int) (x_1 : Int) (c0 : Option Addr) (w : World) (Q : Value → World → Prop) : Prop :=
  ∀ b0 : Nat, w.heap.size ≤ b0 → ∃ t1 : Int, cell w c0 0 = some (.int .i64 t1) ∧
  ∀ w2, Ext w w2 →
  Q (.bool (decide (x_1 = t1))) w2

theorem ok_shiftbellkeep_QueueRaised_1 (x_0 : Int) (x_1 : Int) (c0 : Option Addr) (w : World) (Q : Value → World → Prop) (h : wp_shiftbellkeep_QueueRaised_1 x_0 x_1 c0 w Q) : FnP Try.prog F_shiftbellkeep_QueueRaised_1 #[(.agg #[(.int .i64 x_0), (.int .i64 x_1)]), (.pointer c0)] w Q := by
  have e_ : wp_shiftbellkeep_QueueRaised_1 x_0 x_1 c0 w Q = Runs Try.prog Q ({ N := 8, wrap := [], pub := [], muts := [], joins := [] } : Cfg) Try.f20 (Try.f20.body.getD .skip) [.agg [.int .i64 x_0, .int .i64 x_1], .sc (.ptr c0)] w := by kernel_rfl
  rw [e_] at h
  exact runs_fn h Try.func20 (by kernel_rfl) (fun args w => Try.call20 args w) (by kernel_rfl) (by kernel_rfl) rfl rfl

/-- shiftbell/shiftbellkeep.QueueRaised -/
def wp_shiftbellkeep_QueueRaised (l : Option Addr) (ll : Nat) (lc : Nat) (id : Int) (prio : Int) (w : World) (Q : Value → World → Prop) : Prop :=
  ∀ w0, Ext w w0 →
  New w0 3 [(.int .i64 id)] fun p1 w1 =>
   ∀ w2, Ext w1 w2 →
   FnP Try.prog F_shiftbellkeep_queues #[] w2 fun v3 w3 =>
    Ext w2 w3 ∧
    ∃ t4 : Bool, v3 = (.bool t4) ∧
    ((t4 = false) →
     ∀ w5, Ext w1 w5 →
     Q (.bool false) w5) ∧
    ((t4 = true) →
     ∀ w5, Ext w1 w5 →
     FnP Try.prog F_queue_New #[] w5 fun v6 w6 =>
      Ext w5 w6 ∧
      ∃ t7 : Option Addr, v6 = (.pointer t7) ∧
      (0 : Int) ≤ 0 ∧
      (0 : Int) ≤ (min (ll : Int) 100) ∧
      ((min (ll : Int) 100) : Int) ≤ (lc : Int) ∧
      ∃ (I8 : Int → World → Prop) (M8 : Int → World → Nat), I8 0 w6 ∧
      ∀ (k9 : Int) (w10 : World), I8 k9 w10 →
       (((k9 < (((min (ll : Int) 100) - 0).toNat : Int)) →
        (pCut l lc 0 2) ≠ none ∧
        (0 : Int) ≤ k9 ∧
        (k9 : Int) < (((min (ll : Int) 100) - 0).toNat : Int) ∧
        (pIdx (pCut l lc 0 2) k9 2) ≠ none ∧
        ∃ t11 : Int, cell w10 (pIdx (pCut l lc 0 2) k9 2) 0 = some (.int .i64 t11) ∧
        ∃ t12 : Int, cell w10 (pIdx (pCut l lc 0 2) k9 2) 1 = some (.int .i64 t12) ∧
        ∀ b13 : Nat, w10.heap.size ≤ b13 → ∀ w14, ExtB [] [b13] w10 w14 →
        FnP Try.prog F_queue_Queue_Put #[(.pointer t7), (.int .i64 t11), (.int .i64 t12)] w14 fun v15 w15 =>
         Kept [b13] w14 w15 ∧
         ∃ t16 : Int, v15 = (.int .i64 t16) ∧
         InR .i64 (k9 + 1) ∧
         (I8 (k9 + 1) w15 ∧ M8 (k9 + 1) w15 < M8 k9 w10))) ∧
       (((((min (ll : Int) 100) - 0).toNat : Int) ≤ k9) →
        ∀ w11, Ext w10 w11 →
        FnP Try.prog F_queue_Queue_List #[(.pointer t7)] w11 fun v12 w12 =>
         Ext w11 w12 ∧
         ∃ t13 : Option Addr, ∃ tl14 : Nat, ∃ tc15 : Nat, v12 = (.slice t13 tl14 tc15) ∧
         ∃ t16 : Int, cell w12 p1 0 = some (.int .i64 t16) ∧
         ∀ w17, Ext w12 w17 →
         FnP Try.prog F_queue_Queue_Raise #[(.pointer t7), (.int .i64 t16), (.int .i64 prio)] w17 fun v18 w18 =>
          ∃ t19 : Int, v18 = (.int .i64 t19) ∧
          (((t19 ≠ 0) →
           ∀ w20, Ext w18 w20 →
           FnP Try.prog F_queue_Queue_List #[(.pointer t7)] w20 fun v21 w21 =>
            Ext w20 w21 ∧
            ∃ t22 : Option Addr, ∃ tl23 : Nat, ∃ tc24 : Nat, v21 = (.slice t22 tl23 tc24) ∧
            ∀ w25, Ext w21 w25 →
            FnP Try.prog F_slices_Equal_api_Item_api_Item #[(.slice t13 tl14 tc15), (.slice t22 tl23 tc24)] w25 fun v26 w26 =>
             Ext w25 w26 ∧
             ∃ t27 : Bool, v26 = (.bool t27) ∧
             ∀ w28, Ext w21 w28 →
             Q (.bool t27) w28)) ∧
          ((t19 = 0) →
           ∀ w20, Ext w18 w20 →
           FnP Try.prog F_queue_Queue_List #[(.pointer t7)] w20 fun v21 w21 =>
            Ext w20 w21 ∧
            ∃ t22 : Option Addr, ∃ tl23 : Nat, ∃ tc24 : Nat, v21 = (.slice t22 tl23 tc24) ∧
            ∀ w25, Ext w21 w25 →
            FnP Try.prog F_slices_IndexFunc_api_Item_api_Item #[(.slice t13 tl14 tc15), (.func (.func 20) #[] #[(.pointer p1)])] w25 fun v26 w26 =>
             Ext w25 w26 ∧
             ∃ t27 : Int, v26 = (.int .i64 t27) ∧
             ∀ w28, Ext w21 w28 →
             FnP Try.prog F_slices_IndexFunc_api_Item_api_Item #[(.slice t22 tl23 tc24), (.func (.func 20) #[] #[(.pointer p1)])] w28 fun v29 w29 =>
              Ext w28 w29 ∧
              ∃ t30 : Int, v29 = (.int .i64 t30) ∧
              (((((0 ≤ t27) ∧ (0 ≤ t30)) ∧ (t30 ≤ t27)) →
               t22 ≠ none)) ∧
              (((((0 ≤ t27) ∧ (0 ≤ t30)) ∧ (t30 ≤ t27)) →
               (0 : Int) ≤ t30)) ∧
              (((((0 ≤ t27) ∧ (0 ≤ t30)) ∧ (t30 ≤ t27)) →
               (t30 : Int) < (tl23 : Int))) ∧
              (((((0 ≤ t27) ∧ (0 ≤ t30)) ∧ (t30 ≤ t27)) →
               (pIdx t22 t30 2) ≠ none)) ∧
              ((((t27 < 0) ∨ (t30 < 0)) ∨ (t27 < t30)) →
               ∀ w31, Ext w21 w31 →
               Q (.bool false) w31) ∧
              ((((0 ≤ t27) ∧ (0 ≤ t30)) ∧ (t30 ≤ t27)) →
               ∃ t31 : Int, cell w21 (pAdd (pIdx t22 t30 2) 0) 0 = some (.int .i64 t31) ∧
               ((t31 ≠ prio) →
                ∀ w32, Ext w21 w32 →
                Q (.bool false) w32) ∧
               ((t31 = prio) →
                ∀ w32, Ext w21 w32 →
                FnP Try.prog F_slices_DeleteFunc_api_Item_api_Item #[(.slice t13 tl14 tc15), (.func (.func 20) #[] #[(.pointer p1)])] w32 fun v33 w33 =>
                 ∃ t34 : Option Addr, ∃ tl35 : Nat, ∃ tc36 : Nat, v33 = (.slice t34 tl35 tc36) ∧
                 ∀ w37, Ext w33 w37 →
                 FnP Try.prog F_slices_DeleteFunc_api_Item_api_Item #[(.slice t22 tl23 tc24), (.func (.func 20) #[] #[(.pointer p1)])] w37 fun v38 w38 =>
                  ∃ t39 : Option Addr, ∃ tl40 : Nat, ∃ tc41 : Nat, v38 = (.slice t39 tl40 tc41) ∧
                  ∀ w42, Ext w38 w42 →
                  FnP Try.prog F_slices_Equal_api_Item_api_Item #[(.slice t34 tl35 tc36), (.slice t39 tl40 tc41)] w42 fun v43 w43 =>
                   Ext w42 w43 ∧
                   ∃ t44 : Bool, v43 = (.bool t44) ∧
                   ∀ w45, Ext w38 w45 →
                   Q (.bool t44) w45)))))

theorem ok_shiftbellkeep_QueueRaised (l : Option Addr) (ll : Nat) (lc : Nat) (id : Int) (prio : Int) (w : World) (Q : Value → World → Prop) (h : wp_shiftbellkeep_QueueRaised l ll lc id prio w Q) : FnP Try.prog F_shiftbellkeep_QueueRaised #[(.slice l ll lc), (.int .i64 id), (.int .i64 prio)] w Q := by
  have e_ : wp_shiftbellkeep_QueueRaised l ll lc id prio w Q = Runs Try.prog Q ({ N := 82, wrap := [], pub := [4], muts := [15, 17, 22], joins := [] } : Cfg) Try.f6 (Try.f6.body.getD .skip) [.sc (.slc l ll lc), .sc (.int .i64 id), .sc (.int .i64 prio)] w := by kernel_rfl
  rw [e_] at h
  exact runs_fn h Try.func6 (by kernel_rfl) (fun args w => Try.call6 args w) (by kernel_rfl) (by kernel_rfl) rfl rfl

theorem open_shiftbellkeep_QueueRaised (W : World) (R : Array Value → Prop) (h : ∀ l : Option Addr, ∀ ll : Nat, ∀ lc : Nat, SlcArg Try.prog W 28 l ll lc → ∀ id : Int, InR .i64 id → ∀ prio : Int, InR .i64 prio → R #[(.slice l ll lc), (.int .i64 id), (.int .i64 prio)]) (args : Array Value) (hg : GoodAll Try.prog W Try.f6.params.toList args.toList) : R args := by
  have e_ : (ArgsAll Try.prog W Try.f6.params.toList fun l => R l.toArray) = (∀ l : Option Addr, ∀ ll : Nat, ∀ lc : Nat, SlcArg Try.prog W 28 l ll lc → ∀ id : Int, InR .i64 id → ∀ prio : Int, InR .i64 prio → R #[(.slice l ll lc), (.int .i64 id), (.int .i64 prio)]) := by kernel_rfl
  exact args_open (by rw [e_]; exact h) args hg
-- wit 6 #[(.slice none 0 0), (.int .i64 0), (.int .i64 0)]

/-- shiftbell/shiftbellkeep.QueueWhole -/
def wp_shiftbellkeep_QueueWhole (l : Option Addr) (ll : Nat) (lc : Nat) (w : World) (Q : Value → World → Prop) : Prop :=
  ∀ w0, Ext w w0 →
  FnP Try.prog F_shiftbellkeep_queues #[] w0 fun v1 w1 =>
   Ext w0 w1 ∧
   ∃ t2 : Bool, v1 = (.bool t2) ∧
   ((t2 = false) →
    ∀ w3, Ext w w3 →
    Q (.bool false) w3) ∧
   ((t2 = true) →
    ((150 < (ll : Int)) →
     ∀ w3, Ext w w3 →
     Q (.bool true) w3) ∧
    (((ll : Int) ≤ 150) →
     ∀ w3, Ext w w3 →
     FnP Try.prog F_queue_New #[] w3 fun v4 w4 =>
      Ext w3 w4 ∧
      ∃ t5 : Option Addr, v4 = (.pointer t5) ∧
      ∀ w6, Ext w4 w6 →
      Run Try.prog (.makeMap 35) w6 fun v7 w7 =>
       Ext w6 w7 ∧
       ∃ t8 : Value, v7 = t8 ∧
       ∃ (I9 : Int → World → Prop) (M9 : Int → World → Nat), I9 0 w7 ∧
       ∀ (k10 : Int) (w11 : World), I9 k10 w11 →
        (((k10 < (ll : Int)) →
         l ≠ none ∧
         (0 : Int) ≤ k10 ∧
         (k10 : Int) < (ll : Int) ∧
         (pIdx l k10 4) ≠ none ∧
         ∃ t12 : Int, cell w11 (pIdx l k10 4) 0 = some (.int .i64 t12) ∧
         ∃ t13 : Int, cell w11 (pIdx l k10 4) 1 = some (.int .i64 t13) ∧
         ∃ t14 : Int, cell w11 (pIdx l k10 4) 2 = some (.int .i64 t14) ∧
         ∃ t15 : Int, cell w11 (pIdx l k10 4) 3 = some (.int .i64 t15) ∧
         ∀ b16 : Nat, w11.heap.size ≤ b16 → (((t12 = 1) →
          ∀ w17, ExtB [] [b16] w11 w17 →
          FnP Try.prog F_queue_Queue_Put #[(.pointer t5), (.int .i64 t14), (.int .i64 t13)] w17 fun v18 w18 =>
           Kept [b16] w17 w18 ∧
           ∃ t19 : Int, v18 = (.int .i64 t19) ∧
           (((t19 = 0) →
            ∀ w20, ExtB [] [b16] w18 w20 →
            Run Try.prog (.mapUpdate 35 t8 (.int .i64 t13) (.bool true)) w20 fun v21 w21 =>
             Kept [b16] w20 w21 ∧
             ∀ w22, ExtB [] [b16] w21 w22 →
             FnP Try.prog F_queue_Queue_List #[(.pointer t5)] w22 fun v23 w23 =>
              Ext w22 w23 ∧
              ∃ t24 : Option Addr, ∃ tl25 : Nat, ∃ tc26 : Nat, v23 = (.slice t24 tl25 tc26) ∧
              ∀ w27, Ext w23 w27 →
              Run Try.prog (.len #[35] 3 [t8]) w27 fun v28 w28 =>
               Ext w27 w28 ∧
               ∃ t29 : Int, v28 = (.int .i64 t29) ∧
               (((tl25 : Int) ≠ t29) →
                ∀ w30, Ext w23 w30 →
                Q (.bool false) w30) ∧
               (((tl25 : Int) = t29) →
                InR .i64 (k10 + 1) ∧
                (I9 (k10 + 1) w23 ∧ M9 (k10 + 1) w23 < M9 k10 w11)))) ∧
           ((t19 ≠ 0) →
            ∀ w20, ExtB [] [b16] w18 w20 →
            FnP Try.prog F_queue_Queue_List #[(.pointer t5)] w20 fun v21 w21 =>
             Ext w20 w21 ∧
             ∃ t22 : Option Addr, ∃ tl23 : Nat, ∃ tc24 : Nat, v21 = (.slice t22 tl23 tc24) ∧
             ∀ w25, Ext w21 w25 →
             Run Try.prog (.len #[35] 3 [t8]) w25 fun v26 w26 =>
              Ext w25 w26 ∧
              ∃ t27 : Int, v26 = (.int .i64 t27) ∧
              (((tl23 : Int) ≠ t27) →
               ∀ w28, Ext w21 w28 →
               Q (.bool false) w28) ∧
              (((tl23 : Int) = t27) →
               InR .i64 (k10 + 1) ∧
               (I9 (k10 + 1) w21 ∧ M9 (k10 + 1) w21 < M9 k10 w11))))) ∧
         ((t12 ≠ 1) →
          (((t12 = 2) →
           ∃ (J17 : Bool → World → Prop), ((∀ w20, ExtB [] [b16] w11 w20 →
            FnP Try.prog F_queue_Queue_Drop #[(.pointer t5), (.int .i64 t13)] w20 fun v21 w21 =>
             Kept [b16] w20 w21 ∧
             ∃ t22 : Int, v21 = (.int .i64 t22) ∧
             ∀ w23, Ext w21 w23 →
             Run Try.prog (.lookup 35 t8 (.int .i64 t13) false) w23 fun v24 w24 =>
              Ext w23 w24 ∧
              ∃ t25 : Bool, v24 = (.bool t25) ∧
              J17 (((decide (t22 = 0)) && (!t25)) || ((decide (t22 ≠ 0)) && t25)) w21) ∧
            (∀ w20, ExtB [] [b16] w11 w20 →
            FnP Try.prog F_queue_Queue_Drop #[(.pointer t5), (.int .i64 t13)] w20 fun v21 w21 =>
             Kept [b16] w20 w21 ∧
             ∃ t22 : Int, v21 = (.int .i64 t22) ∧
             ∀ w23, Ext w21 w23 →
             Run Try.prog (.lookup 35 t8 (.int .i64 t13) false) w23 fun v24 w24 =>
              Ext w23 w24 ∧
              ∃ t25 : Bool, v24 = (.bool t25) ∧
              J17 (((decide (t22 = 0)) && (!t25)) || ((decide (t22 ≠ 0)) && t25)) w21) ∧
            ∀ w20, Ext w11 w20 →
            Run Try.prog (.lookup 35 t8 (.int .i64 t13) false) w20 fun v21 w21 =>
             Ext w20 w21 ∧
             ∃ t22 : Bool, v21 = (.bool t22) ∧
             ∀ w23, ExtB [] [b16] w11 w23 →
             FnP Try.prog F_queue_Queue_Drop #[(.pointer t5), (.int .i64 t13)] w23 fun v24 w24 =>
              Kept [b16] w23 w24 ∧
              ∃ t25 : Int, v24 = (.int .i64 t25) ∧
              J17 (((decide (t25 = 0)) && (!t22)) || ((decide (t25 ≠ 0)) && t22)) w24) ∧
           ∀ (k18 : Bool) (w19 : World), J17 k18 w19 →
            ((k18 = true) →
             ∀ w20, Ext w19 w20 →
             Q (.bool false) w20) ∧
            ((k18 = false) →
             ∀ w20, ExtB [] [b16] w19 w20 →
             Run Try.prog (.delete #[35, 3] 0 [t8, (.int .i64 t13)]) w20 fun v21 w21 =>
              Kept [b16] w20 w21 ∧
              v21 = (.tuple #[]) ∧
              ∀ w22, ExtB [] [b16] w21 w22 →
              FnP Try.prog F_queue_Queue_List #[(.pointer t5)] w22 fun v23 w23 =>
               Ext w22 w23 ∧
               ∃ t24 : Option Addr, ∃ tl25 : Nat, ∃ tc26 : Nat, v23 = (.slice t24 tl25 tc26) ∧
               ∀ w27, Ext w23 w27 →
               Run Try.prog (.len #[35] 3 [t8]) w27 fun v28 w28 =>
                Ext w27 w28 ∧
                ∃ t29 : Int, v28 = (.int .i64 t29) ∧
                (((tl25 : Int) ≠ t29) →
                 ∀ w30, Ext w23 w30 →
                 Q (.bool false) w30) ∧
                (((tl25 : Int) = t29) →
                 InR .i64 (k10 + 1) ∧
                 (I9 (k10 + 1) w23 ∧ M9 (k10 + 1) w23 < M9 k10 w11))))) ∧
          ((t12 ≠ 2) →
           (((t12 = 4) →
            ∀ w17, ExtB [] [b16] w11 w17 →
            FnP Try.prog F_queue_Queue_Raise #[(.pointer t5), (.int .i64 t13), (.int .i64 t14)] w17 fun v18 w18 =>
             Kept [b16] w17 w18 ∧
             ∃ t19 : Int, v18 = (.int .i64 t19) ∧
             ∀ w20, ExtB [] [b16] w18 w20 →
             FnP Try.prog F_queue_Queue_List #[(.pointer t5)] w20 fun v21 w21 =>
              Ext w20 w21 ∧
              ∃ t22 : Option Addr, ∃ tl23 : Nat, ∃ tc24 : Nat, v21 = (.slice t22 tl23 tc24) ∧
              ∀ w25, Ext w21 w25 →
              Run Try.prog (.len #[35] 3 [t8]) w25 fun v26 w26 =>
               Ext w25 w26 ∧
               ∃ t27 : Int, v26 = (.int .i64 t27) ∧
               (((tl23 : Int) ≠ t27) →
                ∀ w28, Ext w21 w28 →
                Q (.bool false) w28) ∧
               (((tl23 : Int) = t27) →
                InR .i64 (k10 + 1) ∧
                (I9 (k10 + 1) w21 ∧ M9 (k10 + 1) w21 < M9 k10 w11)))) ∧
           ((t12 ≠ 4) →
            ∀ w17, ExtB [] [b16] w11 w17 →
            FnP Try.prog F_queue_Queue_List #[(.pointer t5)] w17 fun v18 w18 =>
             Ext w17 w18 ∧
             ∃ t19 : Option Addr, ∃ tl20 : Nat, ∃ tc21 : Nat, v18 = (.slice t19 tl20 tc21) ∧
             ∀ w22, ExtB [] [b16] w18 w22 →
             FnP Try.prog F_queue_Queue_Take #[(.pointer t5)] w22 fun v23 w23 =>
              Kept [b16] w22 w23 ∧
              ∃ t_024 : Int, ∃ t_125 : Int, ∃ t26 : Bool, v23 = (.tuple #[(.agg #[(.int .i64 t_024), (.int .i64 t_125)]), (.bool t26)]) ∧
              ∀ b27 : Nat, w23.heap.size ≤ b27 → (((((t26 = false) ∨ (0 < (tl20 : Int))) ∧ ((t26 = true) ∨ ((tl20 : Int) ≤ 0))) →
               ((t26 = true) →
                t19 ≠ none))) ∧
              (((((t26 = false) ∨ (0 < (tl20 : Int))) ∧ ((t26 = true) ∨ ((tl20 : Int) ≤ 0))) →
               ((t26 = true) →
                (0 : Int) ≤ 0))) ∧
              (((((t26 = false) ∨ (0 < (tl20 : Int))) ∧ ((t26 = true) ∨ ((tl20 : Int) ≤ 0))) →
               ((t26 = true) →
                (0 : Int) < (tl20 : Int)))) ∧
              (((((t26 = true) ∧ ((tl20 : Int) ≤ 0)) ∨ ((t26 = false) ∧ (0 < (tl20 : Int)))) →
               ∀ w28, Ext w23 w28 →
               Q (.bool false) w28)) ∧
              ((((t26 = false) ∨ (0 < (tl20 : Int))) ∧ ((t26 = true) ∨ ((tl20 : Int) ≤ 0))) →
               (((t26 = true) →
                (pIdx t19 0 2) ≠ none ∧
                ∃ t28 : Int, cell w23 (pIdx t19 0 2) 0 = some (.int .i64 t28) ∧
                ∃ t29 : Int, cell w23 (pIdx t19 0 2) 1 = some (.int .i64 t29) ∧
                ∀ w30, Ext w23 w30 →
                Run Try.prog (.eq .neq 28 false false (.agg #[(.int .i64 t_024), (.int .i64 t_125)]) (.agg #[(.int .i64 t28), (.int .i64 t29)])) w30 fun v31 w31 =>
                 Ext w30 w31 ∧
                 ∃ t32 : Bool, v31 = (.bool t32) ∧
                 ((t32 = true) →
                  ∀ w33, Ext w23 w33 →
                  Q (.bool false) w33) ∧
                 ((t32 = false) →
                  ∀ w33, Ext w23 w33 →
                  Run Try.prog (.lookup 35 t8 (.int .i64 t_125) false) w33 fun v34 w34 =>
                   Ext w33 w34 ∧
                   ∃ t35 : Bool, v34 = (.bool t35) ∧
                   ((t35 = false) →
                    ∀ w36, Ext w23 w36 →
                    Q (.bool false) w36) ∧
                   ((t35 = true) →
                    (((t26 = true) →
                     ∀ w36, ExtB [] [b16, b27] w23 w36 →
                     Run Try.prog (.delete #[35, 3] 0 [t8, (.int .i64 t_125)]) w36 fun v37 w37 =>
                      Kept [b16, b27] w36 w37 ∧
                      v37 = (.tuple #[]) ∧
                      ∀ w38, ExtB [] [b16, b27] w37 w38 →
                      FnP Try.prog F_queue_Queue_List #[(.pointer t5)] w38 fun v39 w39 =>
                       Ext w38 w39 ∧
                       ∃ t40 : Option Addr, ∃ tl41 : Nat, ∃ tc42 : Nat, v39 = (.slice t40 tl41 tc42) ∧
                       ∀ w43, Ext w39 w43 →
                       Run Try.prog (.len #[35] 3 [t8]) w43 fun v44 w44 =>
                        Ext w43 w44 ∧
                        ∃ t45 : Int, v44 = (.int .i64 t45) ∧
                        (((tl41 : Int) ≠ t45) →
                         ∀ w46, Ext w39 w46 →
                         Q (.bool false) w46) ∧
                        (((tl41 : Int) = t45) →
                         InR .i64 (k10 + 1) ∧
                         (I9 (k10 + 1) w39 ∧ M9 (k10 + 1) w39 < M9 k10 w11)))) ∧
                    ((t26 = false) →
                     ∀ w36, ExtB [] [b16, b27] w23 w36 →
                     FnP Try.prog F_queue_Queue_List #[(.pointer t5)] w36 fun v37 w37 =>
                      Ext w36 w37 ∧
                      ∃ t38 : Option Addr, ∃ tl39 : Nat, ∃ tc40 : Nat, v37 = (.slice t38 tl39 tc40) ∧
                      ∀ w41, Ext w37 w41 →
                      Run Try.prog (.len #[35] 3 [t8]) w41 fun v42 w42 =>
                       Ext w41 w42 ∧
                       ∃ t43 : Int, v42 = (.int .i64 t43) ∧
                       (((tl39 : Int) ≠ t43) →
                        ∀ w44, Ext w37 w44 →
                        Q (.bool false) w44) ∧
                       (((tl39 : Int) = t43) →
                        InR .i64 (k10 + 1) ∧
                        (I9 (k10 + 1) w37 ∧ M9 (k10 + 1) w37 < M9 k10 w11))))))) ∧
               ((t26 = false) →
                (((t26 = true) →
                 ∀ w28, ExtB [] [b16, b27] w23 w28 →
                 Run Try.prog (.delete #[35, 3] 0 [t8, (.int .i64 t_125)]) w28 fun v29 w29 =>
                  Kept [b16, b27] w28 w29 ∧
                  v29 = (.tuple #[]) ∧
                  ∀ w30, ExtB [] [b16, b27] w29 w30 →
                  FnP Try.prog F_queue_Queue_List #[(.pointer t5)] w30 fun v31 w31 =>
                   Ext w30 w31 ∧
                   ∃ t32 : Option Addr, ∃ tl33 : Nat, ∃ tc34 : Nat, v31 = (.slice t32 tl33 tc34) ∧
                   ∀ w35, Ext w31 w35 →
                   Run Try.prog (.len #[35] 3 [t8]) w35 fun v36 w36 =>
                    Ext w35 w36 ∧
                    ∃ t37 : Int, v36 = (.int .i64 t37) ∧
                    (((tl33 : Int) ≠ t37) →
                     ∀ w38, Ext w31 w38 →
                     Q (.bool false) w38) ∧
                    (((tl33 : Int) = t37) →
                     InR .i64 (k10 + 1) ∧
                     (I9 (k10 + 1) w31 ∧ M9 (k10 + 1) w31 < M9 k10 w11)))) ∧
                ((t26 = false) →
                 ∀ w28, ExtB [] [b16, b27] w23 w28 →
                 FnP Try.prog F_queue_Queue_List #[(.pointer t5)] w28 fun v29 w29 =>
                  Ext w28 w29 ∧
                  ∃ t30 : Option Addr, ∃ tl31 : Nat, ∃ tc32 : Nat, v29 = (.slice t30 tl31 tc32) ∧
                  ∀ w33, Ext w29 w33 →
                  Run Try.prog (.len #[35] 3 [t8]) w33 fun v34 w34 =>
                   Ext w33 w34 ∧
                   ∃ t35 : Int, v34 = (.int .i64 t35) ∧
                   (((tl31 : Int) ≠ t35) →
                    ∀ w36, Ext w29 w36 →
                    Q (.bool false) w36) ∧
                   (((tl31 : Int) = t35) →
                    InR .i64 (k10 + 1) ∧
                    (I9 (k10 + 1) w29 ∧ M9 (k10 + 1) w29 < M9 k10 w11)))))))))) ∧
        (((ll : Int) ≤ k10) →
         ∀ w12, Ext w11 w12 →
         Q (.bool true) w12)))

theorem ok_shiftbellkeep_QueueWhole (l : Option Addr) (ll : Nat) (lc : Nat) (w : World) (Q : Value → World → Prop) (h : wp_shiftbellkeep_QueueWhole l ll lc w Q) : FnP Try.prog F_shiftbellkeep_QueueWhole #[(.slice l ll lc)] w Q := by
  have e_ : wp_shiftbellkeep_QueueWhole l ll lc w Q = Runs Try.prog Q ({ N := 100, wrap := [], pub := [], muts := [15, 16, 17, 19], joins := [(999999, [81])] } : Cfg) Try.f5 (Try.f5.body.getD .skip) [.sc (.slc l ll lc)] w := by kernel_rfl
  rw [e_] at h
  exact runs_fn h Try.func5 (by kernel_rfl) (fun args w => Try.call5 args w) (by kernel_rfl) (by kernel_rfl) rfl rfl

theorem open_shiftbellkeep_QueueWhole (W : World) (R : Array Value → Prop) (h : ∀ l : Option Addr, ∀ ll : Nat, ∀ lc : Nat, SlcArg Try.prog W 37 l ll lc → R #[(.slice l ll lc)]) (args : Array Value) (hg : GoodAll Try.prog W Try.f5.params.toList args.toList) : R args := by
  have e_ : (ArgsAll Try.prog W Try.f5.params.toList fun l => R l.toArray) = (∀ l : Option Addr, ∀ ll : Nat, ∀ lc : Nat, SlcArg Try.prog W 37 l ll lc → R #[(.slice l ll lc)]) := by kernel_rfl
  exact args_open (by rw [e_]; exact h) args hg
-- wit 5 #[(.slice none 0 0)]

end Go.Proofs.Ytkjekinnemgkkaa
