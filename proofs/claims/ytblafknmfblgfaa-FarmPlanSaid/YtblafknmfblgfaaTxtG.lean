/- The texts of this seat's functions: what each computes, as its symbolic run says it. -/
import Derived.Test.YtblafknmfblgfaaRows
import Derived.Test.YtblafknmfblgfaaSxD
import Derived.Test.YtblafknmfblgfaaSxN
import Derived.Test.YtblafknmfblgfaaTxt
import Derived.Test.YtblafknmfblgfaaTxtB
import Derived.Test.YtblafknmfblgfaaTxtC
import Derived.Test.YtblafknmfblgfaaTxtD
import Derived.Test.YtblafknmfblgfaaTxtE
import Derived.Test.YtblafknmfblgfaaTxtF
set_option linter.unusedVariables false
set_option linter.unusedSimpArgs false
set_option maxRecDepth 100000
namespace Go.Proofs.Ytblafknmfblgfaa
open Go.Sx Go.RowKit

abbrev F_farm_Farm_Plan : FuncId := 17
abbrev F_farm_Farm_Do : FuncId := 24
abbrev F_farm_Farm_Submit : FuncId := 29
abbrev F_farm_Farm_Report : FuncId := 62
abbrev F_farm_Farm_Cancel : FuncId := 63

/-- (*shiftbell/farm.Farm).Submit -/
def wp_farm_Farm_Submit (f : Option Addr) (j_0 : ByteArray) (j_1 : Int) (j_2 : Int) (j_3 : Int) (j_4 : Int) (j_5 : Int) (j_6 : ByteArray) (j_7 : ByteArray) (j_8 : Int) (j_9 : Option Addr) (j_9l : Nat) (j_9c : Nat) (j_10 : Option Addr) (j_10l : Nat) (j_10c : Nat) (w : World) (Q : Value → World → Prop) : Prop :=
  ∀ b0 : Nat, w.heap.size ≤ b0 → ∀ w1, Ext w w1 →
  FnP Try.prog F_job_Check #[(.agg #[(.string j_0), (.int .i64 j_1), (.int .i64 j_2), (.int .i64 j_3), (.int .i64 j_4), (.int .i64 j_5), (.string j_6), (.string j_7), (.int .i64 j_8), (.slice j_9 j_9l j_9c), (.slice j_10 j_10l j_10c)])] w1 fun v2 w2 =>
   Ext w1 w2 ∧
   ∃ t3 : Int, v2 = (.int .i64 t3) ∧
   ((t3 ≠ 0) →
    ∀ w4, Ext w w4 →
    Q (.tuple #[(.int .i64 0), (.int .i64 t3)]) w4) ∧
   ((t3 = 0) →
    f ≠ none ∧
    f ≠ none ∧
    ∃ t4 : Option Addr, ∃ tl5 : Nat, ∃ tc6 : Nat, cell w (pAdd f 6) 0 = some (.slice t4 tl5 tc6) ∧
    (((tl5 : Int) = 60) →
     ∀ w7, Ext w w7 →
     Q (.tuple #[(.int .i64 0), (.int .i64 7)]) w7) ∧
    (((tl5 : Int) ≠ 60) →
     ∃ (I7 : Int → World → Prop) (M7 : Int → World → Nat), I7 0 w ∧
     ∀ (k8 : Int) (w9 : World), I7 k8 w9 →
      (((k8 < (j_10l : Int)) →
       j_10 ≠ none ∧
       (0 : Int) ≤ k8 ∧
       (k8 : Int) < (j_10l : Int) ∧
       ∃ t10 : Int, cell w9 (pIdx j_10 k8 1) 0 = some (.int .i64 t10) ∧
       ∀ w11, ExtB [] [b0] w9 w11 →
       FnP Try.prog F_farm_Farm_at #[(.pointer f), (.int .i64 t10)] w11 fun v12 w12 =>
        Ext w11 w12 ∧
        ∃ t13 : Option Addr, v12 = (.pointer t13) ∧
        ((t13 = none) →
         ∀ w14, Ext w12 w14 →
         Q (.tuple #[(.int .i64 0), (.int .i64 5)]) w14) ∧
        ((t13 ≠ none) →
         InR .i64 (k8 + 1) ∧
         (I7 (k8 + 1) w12 ∧ M7 (k8 + 1) w12 < M7 k8 w9)))) ∧
      (((j_10l : Int) ≤ k8) →
       ∃ (I10 : Int → World → Prop) (M10 : Int → World → Nat), I10 0 w9 ∧
       ∀ (k11 : Int) (w12 : World), I10 k11 w12 →
        (((k11 < (j_10l : Int)) →
         j_10 ≠ none ∧
         (0 : Int) ≤ k11 ∧
         (k11 : Int) < (j_10l : Int) ∧
         ∃ t13 : Int, cell w12 (pIdx j_10 k11 1) 0 = some (.int .i64 t13) ∧
         ∀ w14, ExtB [] [b0] w12 w14 →
         FnP Try.prog F_farm_Farm_at #[(.pointer f), (.int .i64 t13)] w14 fun v15 w15 =>
          Ext w14 w15 ∧
          ∃ t16 : Option Addr, v15 = (.pointer t16) ∧
          t16 ≠ none ∧
          t16 ≠ none ∧
          ∃ t17 : Int, cell w15 (pAdd t16 11) 0 = some (.int .i64 t17) ∧
          (((t17 = 4) ∨ (t17 = 5)) →
           ∀ w18, Ext w15 w18 →
           Q (.tuple #[(.int .i64 0), (.int .i64 9)]) w18) ∧
          (((t17 ≠ 4) ∧ (t17 ≠ 5)) →
           InR .i64 (k11 + 1) ∧
           (I10 (k11 + 1) w15 ∧ M10 (k11 + 1) w15 < M10 k11 w12)))) ∧
        (((j_10l : Int) ≤ k11) →
         f ≠ none ∧
         f ≠ none ∧
         ∃ t13 : Option Addr, ∃ tl14 : Nat, ∃ tc15 : Nat, cell w12 (pAdd f 6) 0 = some (.slice t13 tl14 tc15) ∧
         ∀ w16, ExtB [] [b0] w12 w16 →
         FnP Try.prog F_farm_own #[(.agg #[(.string j_0), (.int .i64 j_1), (.int .i64 j_2), (.int .i64 j_3), (.int .i64 j_4), (.int .i64 j_5), (.string j_6), (.string j_7), (.int .i64 j_8), (.slice j_9 j_9l j_9c), (.slice j_10 j_10l j_10c), (.int .i64 1), (.int .i64 0), (.int .i64 0), (.int .i64 0), (.int .i64 0)])] w16 fun v17 w17 =>
          Ext w16 w17 ∧
          ∃ t_018 : ByteArray, ∃ t_119 : Int, ∃ t_220 : Int, ∃ t_321 : Int, ∃ t_422 : Int, ∃ t_523 : Int, ∃ t_624 : ByteArray, ∃ t_725 : ByteArray, ∃ t_826 : Int, ∃ t_927 : Option Addr, ∃ t_9l28 : Nat, ∃ t_9c29 : Nat, ∃ t_1030 : Option Addr, ∃ t_10l31 : Nat, ∃ t_10c32 : Nat, ∃ t_1133 : Int, ∃ t_1234 : Int, ∃ t_1335 : Int, ∃ t_1436 : Int, ∃ t_1537 : Int, v17 = (.agg #[(.string t_018), (.int .i64 t_119), (.int .i64 t_220), (.int .i64 t_321), (.int .i64 t_422), (.int .i64 t_523), (.string t_624), (.string t_725), (.int .i64 t_826), (.slice t_927 t_9l28 t_9c29), (.slice t_1030 t_10l31 t_10c32), (.int .i64 t_1133), (.int .i64 t_1234), (.int .i64 t_1335), (.int .i64 t_1436), (.int .i64 t_1537)]) ∧
          ∀ w38, ExtB [] [b0] w17 w38 →
          Run Try.prog (.buildSlice 31 1 [(0, (.agg #[(.string t_018), (.int .i64 t_119), (.int .i64 t_220), (.int .i64 t_321), (.int .i64 t_422), (.int .i64 t_523), (.string t_624), (.string t_725), (.int .i64 t_826), (.slice t_927 t_9l28 t_9c29), (.slice t_1030 t_10l31 t_10c32), (.int .i64 t_1133), (.int .i64 t_1234), (.int .i64 t_1335), (.int .i64 t_1436), (.int .i64 t_1537)]))]) w38 fun v39 w39 =>
           Ext w38 w39 ∧
           ∃ t40 : Option Addr, ∃ tl41 : Nat, ∃ tc42 : Nat, v39 = (.slice t40 tl41 tc42) ∧
           ∀ w43, ExtB [] [b0] w39 w43 →
           Run Try.prog (.append #[31, 31] 31 [(.slice t13 tl14 tc15), (.slice t40 tl41 tc42)]) w43 fun v44 w44 =>
            Kept [b0] w43 w44 ∧
            ∃ t45 : Option Addr, ∃ tl46 : Nat, ∃ tc47 : Nat, v44 = (.slice t45 tl46 tc47) ∧
            f ≠ none ∧
            f ≠ none ∧
            Store w44 (pAdd f 6) [(.slice t45 tl46 tc47)] [b0] fun w48 =>
             f ≠ none ∧
             f ≠ none ∧
             ∃ t49 : Option Addr, ∃ tl50 : Nat, ∃ tc51 : Nat, cell w48 (pAdd f 6) 0 = some (.slice t49 tl50 tc51) ∧
             ∀ w52, Ext w48 w52 →
             Q (.tuple #[(.int .i64 (tl50 : Int)), (.int .i64 0)]) w52))))

theorem ok_farm_Farm_Submit (f : Option Addr) (j_0 : ByteArray) (j_1 : Int) (j_2 : Int) (j_3 : Int) (j_4 : Int) (j_5 : Int) (j_6 : ByteArray) (j_7 : ByteArray) (j_8 : Int) (j_9 : Option Addr) (j_9l : Nat) (j_9c : Nat) (j_10 : Option Addr) (j_10l : Nat) (j_10c : Nat) (w : World) (Q : Value → World → Prop) (h : wp_farm_Farm_Submit f j_0 j_1 j_2 j_3 j_4 j_5 j_6 j_7 j_8 j_9 j_9l j_9c j_10 j_10l j_10c w Q) : FnP Try.prog F_farm_Farm_Submit #[(.pointer f), (.agg #[(.string j_0), (.int .i64 j_1), (.int .i64 j_2), (.int .i64 j_3), (.int .i64 j_4), (.int .i64 j_5), (.string j_6), (.string j_7), (.int .i64 j_8), (.slice j_9 j_9l j_9c), (.slice j_10 j_10l j_10c)])] w Q := by
  have e_ : wp_farm_Farm_Submit f j_0 j_1 j_2 j_3 j_4 j_5 j_6 j_7 j_8 j_9 j_9l j_9c j_10 j_10l j_10c w Q = Runs Try.prog Q ({ N := 72, wrap := [], pub := [], muts := [], joins := [] } : Cfg) Try.f29 (Try.f29.body.getD .skip) [.sc (.ptr f), .agg [.str j_0, .int .i64 j_1, .int .i64 j_2, .int .i64 j_3, .int .i64 j_4, .int .i64 j_5, .str j_6, .str j_7, .int .i64 j_8, .slc j_9 j_9l j_9c, .slc j_10 j_10l j_10c]] w := by kernel_rfl
  rw [e_] at h
  exact runs_fn h Try.func29 (by kernel_rfl) (fun args w => Try.call29 args w) (by kernel_rfl) (by kernel_rfl) rfl rfl

/-- (*shiftbell/farm.Farm).Report -/
def wp_farm_Farm_Report (f : Option Addr) (id : Int) (ok : Bool) (w : World) (Q : Value → World → Prop) : Prop :=
  ∀ w0, Ext w w0 →
  FnP Try.prog F_farm_Farm_at #[(.pointer f), (.int .i64 id)] w0 fun v1 w1 =>
   Ext w0 w1 ∧
   ∃ t2 : Option Addr, v1 = (.pointer t2) ∧
   ((t2 = none) →
    ∀ w3, Ext w1 w3 →
    Q (.int .i64 5) w3) ∧
   ((t2 ≠ none) →
    t2 ≠ none ∧
    t2 ≠ none ∧
    ∃ t3 : Int, cell w1 (pAdd t2 11) 0 = some (.int .i64 t3) ∧
    ((t3 ≠ 2) →
     ∀ w4, Ext w1 w4 →
     Q (.int .i64 9) w4) ∧
    ((t3 = 2) →
     ∀ w4, Ext w1 w4 →
     FnP Try.prog F_farm_Farm_leave #[(.pointer f), (.pointer t2)] w4 fun v5 w5 =>
      v5 = (.tuple #[]) ∧
      (((ok = true) →
       t2 ≠ none ∧
       t2 ≠ none ∧
       Store w5 (pAdd t2 11) [(.int .i64 3)] [] fun w6 =>
        ∀ w7, Ext w6 w7 →
        Q (.int .i64 0) w7)) ∧
      ((ok = false) →
       t2 ≠ none ∧
       t2 ≠ none ∧
       ∃ t6 : Int, cell w5 (pAdd t2 15) 0 = some (.int .i64 t6) ∧
       InR .i64 (t6 + 1) ∧
       t2 ≠ none ∧
       t2 ≠ none ∧
       Store w5 (pAdd t2 15) [(.int .i64 (t6 + 1))] [] fun w7 =>
        f ≠ none ∧
        f ≠ none ∧
        (pAdd f 1) ≠ none ∧
        ∃ t8 : Int, cell w7 (pAdd f 1) 0 = some (.int .i64 t8) ∧
        ∃ t9 : Int, cell w7 (pAdd f 1) 1 = some (.int .i64 t9) ∧
        ∃ t10 : Int, cell w7 (pAdd f 1) 2 = some (.int .i64 t10) ∧
        ∃ t11 : Int, cell w7 (pAdd f 1) 3 = some (.int .i64 t11) ∧
        t2 ≠ none ∧
        t2 ≠ none ∧
        ∃ t12 : Int, cell w7 (pAdd t2 15) 0 = some (.int .i64 t12) ∧
        ∀ w13, Ext w7 w13 →
        FnP Try.prog F_retry_Delay #[(.agg #[(.int .i64 t8), (.int .i64 t9), (.int .i64 t10), (.int .i64 t11)]), (.int .i64 t12)] w13 fun v14 w14 =>
         Ext w13 w14 ∧
         ∃ t15 : Int, ∃ t16 : Int, v14 = (.tuple #[(.int .i64 t15), (.int .i64 t16)]) ∧
         (((t16 ≠ 0) →
          t2 ≠ none ∧
          t2 ≠ none ∧
          Store w7 (pAdd t2 11) [(.int .i64 4)] [] fun w17 =>
           ∀ w18, Ext w17 w18 →
           FnP Try.prog F_farm_Farm_lost #[(.pointer f)] w18 fun v19 w19 =>
            v19 = (.tuple #[]) ∧
            ∀ w20, Ext w19 w20 →
            Q (.int .i64 0) w20)) ∧
         ((t16 = 0) →
          f ≠ none ∧
          f ≠ none ∧
          ∃ t17 : Int, cell w7 (pAdd f 5) 0 = some (.int .i64 t17) ∧
          InR .i64 (t17 + t15) ∧
          t2 ≠ none ∧
          t2 ≠ none ∧
          Store w7 (pAdd t2 11) [(.int .i64 1)] [] fun w18 =>
           t2 ≠ none ∧
           t2 ≠ none ∧
           Store w18 (pAdd t2 14) [(.int .i64 (t17 + t15))] [] fun w19 =>
            ∀ w20, Ext w19 w20 →
            Q (.int .i64 0) w20))))

theorem ok_farm_Farm_Report (f : Option Addr) (id : Int) (ok : Bool) (w : World) (Q : Value → World → Prop) (h : wp_farm_Farm_Report f id ok w Q) : FnP Try.prog F_farm_Farm_Report #[(.pointer f), (.int .i64 id), (.bool ok)] w Q := by
  have e_ : wp_farm_Farm_Report f id ok w Q = Runs Try.prog Q ({ N := 67, wrap := [], pub := [], muts := [85, 86], joins := [] } : Cfg) Try.f62 (Try.f62.body.getD .skip) [.sc (.ptr f), .sc (.int .i64 id), .sc (.bool (.atom true ok))] w := by kernel_rfl
  rw [e_] at h
  exact runs_fn h Try.func62 (by kernel_rfl) (fun args w => Try.call62 args w) (by kernel_rfl) (by kernel_rfl) rfl rfl

/-- (*shiftbell/farm.Farm).Cancel -/
def wp_farm_Farm_Cancel (f : Option Addr) (id : Int) (w : World) (Q : Value → World → Prop) : Prop :=
  ∀ w0, Ext w w0 →
  FnP Try.prog F_farm_Farm_at #[(.pointer f), (.int .i64 id)] w0 fun v1 w1 =>
   Ext w0 w1 ∧
   ∃ t2 : Option Addr, v1 = (.pointer t2) ∧
   ((t2 = none) →
    ∀ w3, Ext w1 w3 →
    Q (.int .i64 5) w3) ∧
   ((t2 ≠ none) →
    t2 ≠ none ∧
    t2 ≠ none ∧
    ∃ t3 : Int, cell w1 (pAdd t2 11) 0 = some (.int .i64 t3) ∧
    ((t3 ≠ 1) →
     t2 ≠ none) ∧
    ((t3 ≠ 1) →
     t2 ≠ none) ∧
    (((t3 ≠ 1) →
     ∃ t4 : Int, cell w1 (pAdd t2 11) 0 = some (.int .i64 t4) ∧
     ((t4 ≠ 2) →
      ∀ w5, Ext w1 w5 →
      Q (.int .i64 9) w5) ∧
     ((t4 = 2) →
      t2 ≠ none ∧
      t2 ≠ none ∧
      ∃ t5 : Int, cell w1 (pAdd t2 11) 0 = some (.int .i64 t5) ∧
      (((t5 = 2) →
       ∀ w6, Ext w1 w6 →
       FnP Try.prog F_farm_Farm_leave #[(.pointer f), (.pointer t2)] w6 fun v7 w7 =>
        v7 = (.tuple #[]) ∧
        t2 ≠ none ∧
        t2 ≠ none ∧
        Store w7 (pAdd t2 11) [(.int .i64 5)] [] fun w8 =>
         ∀ w9, Ext w8 w9 →
         FnP Try.prog F_farm_Farm_lost #[(.pointer f)] w9 fun v10 w10 =>
          v10 = (.tuple #[]) ∧
          ∀ w11, Ext w10 w11 →
          Q (.int .i64 0) w11)) ∧
      ((t5 ≠ 2) →
       t2 ≠ none ∧
       t2 ≠ none ∧
       Store w1 (pAdd t2 11) [(.int .i64 5)] [] fun w6 =>
        ∀ w7, Ext w6 w7 →
        FnP Try.prog F_farm_Farm_lost #[(.pointer f)] w7 fun v8 w8 =>
         v8 = (.tuple #[]) ∧
         ∀ w9, Ext w8 w9 →
         Q (.int .i64 0) w9)))) ∧
    ((t3 = 1) →
     t2 ≠ none ∧
     t2 ≠ none ∧
     ∃ t4 : Int, cell w1 (pAdd t2 11) 0 = some (.int .i64 t4) ∧
     (((t4 = 2) →
      ∀ w5, Ext w1 w5 →
      FnP Try.prog F_farm_Farm_leave #[(.pointer f), (.pointer t2)] w5 fun v6 w6 =>
       v6 = (.tuple #[]) ∧
       t2 ≠ none ∧
       t2 ≠ none ∧
       Store w6 (pAdd t2 11) [(.int .i64 5)] [] fun w7 =>
        ∀ w8, Ext w7 w8 →
        FnP Try.prog F_farm_Farm_lost #[(.pointer f)] w8 fun v9 w9 =>
         v9 = (.tuple #[]) ∧
         ∀ w10, Ext w9 w10 →
         Q (.int .i64 0) w10)) ∧
     ((t4 ≠ 2) →
      t2 ≠ none ∧
      t2 ≠ none ∧
      Store w1 (pAdd t2 11) [(.int .i64 5)] [] fun w5 =>
       ∀ w6, Ext w5 w6 →
       FnP Try.prog F_farm_Farm_lost #[(.pointer f)] w6 fun v7 w7 =>
        v7 = (.tuple #[]) ∧
        ∀ w8, Ext w7 w8 →
        Q (.int .i64 0) w8)))

theorem ok_farm_Farm_Cancel (f : Option Addr) (id : Int) (w : World) (Q : Value → World → Prop) (h : wp_farm_Farm_Cancel f id w Q) : FnP Try.prog F_farm_Farm_Cancel #[(.pointer f), (.int .i64 id)] w Q := by
  have e_ : wp_farm_Farm_Cancel f id w Q = Runs Try.prog Q ({ N := 38, wrap := [], pub := [], muts := [85, 86], joins := [] } : Cfg) Try.f63 (Try.f63.body.getD .skip) [.sc (.ptr f), .sc (.int .i64 id)] w := by kernel_rfl
  rw [e_] at h
  exact runs_fn h Try.func63 (by kernel_rfl) (fun args w => Try.call63 args w) (by kernel_rfl) (by kernel_rfl) rfl rfl

/-- (*shiftbell/farm.Farm).Plan -/
def wp_farm_Farm_Plan (f : Option Addr) (w : World) (Q : Value → World → Prop) : Prop :=
  ∀ w0, Ext w w0 →
  FnP Try.prog F_queue_New #[] w0 fun v1 w1 =>
   Ext w0 w1 ∧
   ∃ t2 : Option Addr, v1 = (.pointer t2) ∧
   f ≠ none ∧
   f ≠ none ∧
   ∃ t3 : Option Addr, ∃ tl4 : Nat, ∃ tc5 : Nat, cell w1 (pAdd f 6) 0 = some (.slice t3 tl4 tc5) ∧
   ∃ (I6 : Int → World → Prop) (M6 : Int → World → Nat), I6 0 w1 ∧
   ∀ (k7 : Int) (w8 : World), I6 k7 w8 →
    (((k7 < (tl4 : Int)) →
     f ≠ none ∧
     f ≠ none ∧
     ∃ t9 : Option Addr, ∃ tl10 : Nat, ∃ tc11 : Nat, cell w8 (pAdd f 6) 0 = some (.slice t9 tl10 tc11) ∧
     t9 ≠ none ∧
     (0 : Int) ≤ k7 ∧
     (k7 : Int) < (tl10 : Int) ∧
     ∀ w12, Ext w8 w12 →
     FnP Try.prog F_farm_Farm_ready #[(.pointer f), (.pointer (pIdx t9 k7 16))] w12 fun v13 w13 =>
      Ext w12 w13 ∧
      ∃ t14 : Bool, v13 = (.bool t14) ∧
      (((t14 = true) →
       (pIdx t9 k7 16) ≠ none ∧
       (pIdx t9 k7 16) ≠ none ∧
       (pAdd (pIdx t9 k7 16) 0) ≠ none ∧
       ∃ t15 : Int, cell w8 (pAdd (pAdd (pIdx t9 k7 16) 0) 1) 0 = some (.int .i64 t15) ∧
       InR .i64 (k7 + 1) ∧
       ∀ w16, Ext w8 w16 →
       FnP Try.prog F_queue_Queue_Put #[(.pointer t2), (.int .i64 t15), (.int .i64 (k7 + 1))] w16 fun v17 w17 =>
        ∃ t18 : Int, v17 = (.int .i64 t18) ∧
        InR .i64 (k7 + 1) ∧
        (I6 (k7 + 1) w17 ∧ M6 (k7 + 1) w17 < M6 k7 w8))) ∧
      ((t14 = false) →
       InR .i64 (k7 + 1) ∧
       (I6 (k7 + 1) w8 ∧ M6 (k7 + 1) w8 < M6 k7 w8)))) ∧
    (((tl4 : Int) ≤ k7) →
     ∀ w9, Ext w8 w9 →
     FnP Try.prog F_queue_Queue_Take #[(.pointer t2)] w9 fun v10 w10 =>
      ∃ t_011 : Int, ∃ t_112 : Int, ∃ t13 : Bool, v10 = (.tuple #[(.agg #[(.int .i64 t_011), (.int .i64 t_112)]), (.bool t13)]) ∧
      ∀ w14, Ext w10 w14 →
      New w14 101 [(.int .i64 0), (.int .i64 0)] fun p15 w15 =>
       Store w15 p15 [(.int .i64 t_011), (.int .i64 t_112)] [] fun w16 =>
        ∃ (I17 : Option Addr → Nat → Nat → Option Addr → Bool → World → Prop) (M17 : Option Addr → Nat → Nat → Option Addr → Bool → World → Nat), I17 none 0 0 p15 t13 w16 ∧
        ∀ (out18 : Option Addr) (outl18 : Nat) (outc18 : Nat) (x19 : Option Addr) (is20 : Bool) (w21 : World), I17 out18 outl18 outc18 x19 is20 w21 →
         (((is20 = true) →
          x19 ≠ none ∧
          ∃ t22 : Int, cell w21 (pAdd x19 1) 0 = some (.int .i64 t22) ∧
          ∀ w23, Ext w21 w23 →
          FnP Try.prog F_farm_Farm_at #[(.pointer f), (.int .i64 t22)] w23 fun v24 w24 =>
           Ext w23 w24 ∧
           ∃ t25 : Option Addr, v24 = (.pointer t25) ∧
           f ≠ none ∧
           f ≠ none ∧
           ∃ t26 : Option Addr, ∃ tl27 : Nat, ∃ tc28 : Nat, cell w24 (pAdd f 0) 0 = some (.slice t26 tl27 tc28) ∧
           t25 ≠ none ∧
           t25 ≠ none ∧
           (pAdd t25 0) ≠ none ∧
           (pAdd (pAdd t25 0) 5) ≠ none ∧
           ∃ t29 : Int, cell w24 (pAdd (pAdd t25 0) 5) 0 = some (.int .i64 t29) ∧
           ∃ t30 : ByteArray, cell w24 (pAdd (pAdd t25 0) 5) 1 = some (.string t30) ∧
           ∃ t31 : ByteArray, cell w24 (pAdd (pAdd t25 0) 5) 2 = some (.string t31) ∧
           ∃ t32 : Int, cell w24 (pAdd (pAdd t25 0) 5) 3 = some (.int .i64 t32) ∧
           ∃ t33 : Option Addr, ∃ tl34 : Nat, ∃ tc35 : Nat, cell w24 (pAdd (pAdd t25 0) 5) 4 = some (.slice t33 tl34 tc35) ∧
           t25 ≠ none ∧
           t25 ≠ none ∧
           (pAdd t25 0) ≠ none ∧
           (pAdd (pAdd t25 0) 2) ≠ none ∧
           ∃ t36 : Int, cell w24 (pAdd (pAdd t25 0) 2) 0 = some (.int .i64 t36) ∧
           ∃ t37 : Int, cell w24 (pAdd (pAdd t25 0) 2) 1 = some (.int .i64 t37) ∧
           ∃ t38 : Int, cell w24 (pAdd (pAdd t25 0) 2) 2 = some (.int .i64 t38) ∧
           ∀ w39, Ext w24 w39 →
           FnP Try.prog F_host_Best #[(.slice t26 tl27 tc28), (.agg #[(.int .i64 t29), (.string t30), (.string t31), (.int .i64 t32), (.slice t33 tl34 tc35)]), (.agg #[(.int .i64 t36), (.int .i64 t37), (.int .i64 t38)])] w39 fun v40 w40 =>
            Ext w39 w40 ∧
            ∃ t41 : Int, ∃ t42 : Int, v40 = (.tuple #[(.int .i64 t41), (.int .i64 t42)]) ∧
            (((t42 ≠ 0) →
             x19 ≠ none ∧
             ∃ t43 : Int, cell w24 x19 0 = some (.int .i64 t43) ∧
             ∃ t44 : Int, cell w24 x19 1 = some (.int .i64 t44) ∧
             ∀ w45, Ext w24 w45 →
             New w45 101 [(.int .i64 0), (.int .i64 0)] fun p46 w46 =>
              Store w46 p46 [(.int .i64 t43), (.int .i64 t44)] [] fun w47 =>
               ∀ w48, Ext w47 w48 →
               FnP Try.prog F_queue_Queue_Take #[(.pointer t2)] w48 fun v49 w49 =>
                ∃ t_050 : Int, ∃ t_151 : Int, ∃ t52 : Bool, v49 = (.tuple #[(.agg #[(.int .i64 t_050), (.int .i64 t_151)]), (.bool t52)]) ∧
                Store w49 p46 [(.int .i64 t_050), (.int .i64 t_151)] [] fun w53 =>
                 (I17 out18 outl18 outc18 p46 t52 w53 ∧ M17 out18 outl18 outc18 p46 t52 w53 < M17 out18 outl18 outc18 x19 is20 w21))) ∧
            ((t42 = 0) →
             f ≠ none ∧
             f ≠ none ∧
             ∃ t43 : Option Addr, ∃ tl44 : Nat, ∃ tc45 : Nat, cell w24 (pAdd f 0) 0 = some (.slice t43 tl44 tc45) ∧
             t25 ≠ none ∧
             t25 ≠ none ∧
             (pAdd t25 0) ≠ none ∧
             (pAdd (pAdd t25 0) 2) ≠ none ∧
             ∃ t46 : Int, cell w24 (pAdd (pAdd t25 0) 2) 0 = some (.int .i64 t46) ∧
             ∃ t47 : Int, cell w24 (pAdd (pAdd t25 0) 2) 1 = some (.int .i64 t47) ∧
             ∃ t48 : Int, cell w24 (pAdd (pAdd t25 0) 2) 2 = some (.int .i64 t48) ∧
             ∀ w49, Ext w24 w49 →
             FnP Try.prog F_host_Take #[(.slice t43 tl44 tc45), (.int .i64 t41), (.agg #[(.int .i64 t46), (.int .i64 t47), (.int .i64 t48)])] w49 fun v50 w50 =>
              Ext w49 w50 ∧
              ∃ t51 : Option Addr, ∃ tl52 : Nat, ∃ tc53 : Nat, ∃ t54 : Int, v50 = (.tuple #[(.slice t51 tl52 tc53), (.int .i64 t54)]) ∧
              f ≠ none ∧
              f ≠ none ∧
              Store w50 (pAdd f 0) [(.slice t51 tl52 tc53)] [] fun w55 =>
               f ≠ none ∧
               f ≠ none ∧
               ∃ t56 : Int, cell w55 (pAdd f 5) 0 = some (.int .i64 t56) ∧
               t25 ≠ none ∧
               t25 ≠ none ∧
               Store w55 (pAdd t25 11) [(.int .i64 2)] [] fun w57 =>
                t25 ≠ none ∧
                t25 ≠ none ∧
                Store w57 (pAdd t25 12) [(.int .i64 t41)] [] fun w58 =>
                 t25 ≠ none ∧
                 t25 ≠ none ∧
                 Store w58 (pAdd t25 13) [(.int .i64 t56)] [] fun w59 =>
                  x19 ≠ none ∧
                  ∃ t60 : Int, cell w59 (pAdd x19 1) 0 = some (.int .i64 t60) ∧
                  ∀ w61, Ext w59 w61 →
                  Run Try.prog (.buildSlice 55 1 [(0, (.agg #[(.int .i64 t60), (.int .i64 t41)]))]) w61 fun v62 w62 =>
                   Ext w61 w62 ∧
                   ∃ t63 : Option Addr, ∃ tl64 : Nat, ∃ tc65 : Nat, v62 = (.slice t63 tl64 tc65) ∧
                   ∀ w66, Ext w62 w66 →
                   Run Try.prog (.append #[55, 55] 55 [(.slice out18 outl18 outc18), (.slice t63 tl64 tc65)]) w66 fun v67 w67 =>
                    ∃ t68 : Option Addr, ∃ tl69 : Nat, ∃ tc70 : Nat, v67 = (.slice t68 tl69 tc70) ∧
                    x19 ≠ none ∧
                    ∃ t71 : Int, cell w67 x19 0 = some (.int .i64 t71) ∧
                    ∃ t72 : Int, cell w67 x19 1 = some (.int .i64 t72) ∧
                    ∀ w73, Ext w67 w73 →
                    New w73 101 [(.int .i64 0), (.int .i64 0)] fun p74 w74 =>
                     Store w74 p74 [(.int .i64 t71), (.int .i64 t72)] [] fun w75 =>
                      ∀ w76, Ext w75 w76 →
                      FnP Try.prog F_queue_Queue_Take #[(.pointer t2)] w76 fun v77 w77 =>
                       ∃ t_078 : Int, ∃ t_179 : Int, ∃ t80 : Bool, v77 = (.tuple #[(.agg #[(.int .i64 t_078), (.int .i64 t_179)]), (.bool t80)]) ∧
                       Store w77 p74 [(.int .i64 t_078), (.int .i64 t_179)] [] fun w81 =>
                        (I17 t68 tl69 tc70 p74 t80 w81 ∧ M17 t68 tl69 tc70 p74 t80 w81 < M17 out18 outl18 outc18 x19 is20 w21)))) ∧
         ((is20 = false) →
          ∀ w22, Ext w21 w22 →
          Q (.tuple #[(.slice out18 outl18 outc18), (.int .i64 0)]) w22))

theorem ok_farm_Farm_Plan (f : Option Addr) (w : World) (Q : Value → World → Prop) (h : wp_farm_Farm_Plan f w Q) : FnP Try.prog F_farm_Farm_Plan #[(.pointer f)] w Q := by
  have e_ : wp_farm_Farm_Plan f w Q = Runs Try.prog Q ({ N := 116, wrap := [], pub := [8], muts := [41, 42], joins := [] } : Cfg) Try.f17 (Try.f17.body.getD .skip) [.sc (.ptr f)] w := by kernel_rfl
  rw [e_] at h
  exact runs_fn h Try.func17 (by kernel_rfl) (fun args w => Try.call17 args w) (by kernel_rfl) (by kernel_rfl) rfl rfl

/-- (*shiftbell/farm.Farm).Do -/
def wp_farm_Farm_Do (f : Option Addr) (x_0 : Int) (x_1 : ByteArray) (x_2 : Int) (x_3 : Int) (x_4 : Int) (x_5 : Int) (x_6 : Int) (x_7 : ByteArray) (x_8 : ByteArray) (x_9 : Int) (x_10 : Option Addr) (x_10l : Nat) (x_10c : Nat) (x_11 : Option Addr) (x_11l : Nat) (x_11c : Nat) (x_12 : Int) (x_13 : Int) (x_14 : Bool) (w : World) (Q : Value → World → Prop) : Prop :=
  ∀ b0 : Nat, w.heap.size ≤ b0 → ∀ w1, Ext w w1 →
  FnP Try.prog F_event_Check #[(.agg #[(.int .i64 x_0), (.string x_1), (.int .i64 x_2), (.int .i64 x_3), (.int .i64 x_4), (.int .i64 x_5), (.int .i64 x_6), (.string x_7), (.string x_8), (.int .i64 x_9), (.slice x_10 x_10l x_10c), (.slice x_11 x_11l x_11c), (.int .i64 x_12), (.int .i64 x_13), (.bool x_14)])] w1 fun v2 w2 =>
   Ext w1 w2 ∧
   ∃ t3 : Int, v2 = (.int .i64 t3) ∧
   ((t3 ≠ 0) →
    ∀ w4, Ext w w4 →
    Q (.int .i64 t3) w4) ∧
   ((t3 = 0) →
    (((x_0 = 1) →
     ∀ w4, ExtB [] [b0] w w4 →
     FnP Try.prog F_farm_Farm_Submit #[(.pointer f), (.agg #[(.string x_1), (.int .i64 x_2), (.int .i64 x_3), (.int .i64 x_4), (.int .i64 x_5), (.int .i64 x_6), (.string x_7), (.string x_8), (.int .i64 x_9), (.slice x_10 x_10l x_10c), (.slice x_11 x_11l x_11c)])] w4 fun v5 w5 =>
      Kept [b0] w4 w5 ∧
      ∃ t6 : Int, ∃ t7 : Int, v5 = (.tuple #[(.int .i64 t6), (.int .i64 t7)]) ∧
      ∀ w8, Ext w5 w8 →
      Q (.int .i64 t7) w8)) ∧
    ((x_0 ≠ 1) →
     (((x_0 = 2) →
      ∀ w4, ExtB [] [b0] w w4 →
      FnP Try.prog F_farm_Farm_Tick #[(.pointer f), (.int .i64 x_12)] w4 fun v5 w5 =>
       Kept [b0] w4 w5 ∧
       ∃ t6 : Int, v5 = (.int .i64 t6) ∧
       ∀ w7, Ext w5 w7 →
       Q (.int .i64 t6) w7)) ∧
     ((x_0 ≠ 2) →
      (((x_0 = 3) →
       ∀ w4, ExtB [] [b0] w w4 →
       FnP Try.prog F_farm_Farm_Plan #[(.pointer f)] w4 fun v5 w5 =>
        Kept [b0] w4 w5 ∧
        ∃ t6 : Option Addr, ∃ tl7 : Nat, ∃ tc8 : Nat, ∃ t9 : Int, v5 = (.tuple #[(.slice t6 tl7 tc8), (.int .i64 t9)]) ∧
        ∀ w10, Ext w5 w10 →
        Q (.int .i64 t9) w10)) ∧
      ((x_0 ≠ 3) →
       (((x_0 = 4) →
        ∀ w4, ExtB [] [b0] w w4 →
        FnP Try.prog F_farm_Farm_Report #[(.pointer f), (.int .i64 x_13), (.bool x_14)] w4 fun v5 w5 =>
         Kept [b0] w4 w5 ∧
         ∃ t6 : Int, v5 = (.int .i64 t6) ∧
         ∀ w7, Ext w5 w7 →
         Q (.int .i64 t6) w7)) ∧
       ((x_0 ≠ 4) →
        ∀ w4, ExtB [] [b0] w w4 →
        FnP Try.prog F_farm_Farm_Cancel #[(.pointer f), (.int .i64 x_13)] w4 fun v5 w5 =>
         Kept [b0] w4 w5 ∧
         ∃ t6 : Int, v5 = (.int .i64 t6) ∧
         ∀ w7, Ext w5 w7 →
         Q (.int .i64 t6) w7)))))

theorem ok_farm_Farm_Do (f : Option Addr) (x_0 : Int) (x_1 : ByteArray) (x_2 : Int) (x_3 : Int) (x_4 : Int) (x_5 : Int) (x_6 : Int) (x_7 : ByteArray) (x_8 : ByteArray) (x_9 : Int) (x_10 : Option Addr) (x_10l : Nat) (x_10c : Nat) (x_11 : Option Addr) (x_11l : Nat) (x_11c : Nat) (x_12 : Int) (x_13 : Int) (x_14 : Bool) (w : World) (Q : Value → World → Prop) (h : wp_farm_Farm_Do f x_0 x_1 x_2 x_3 x_4 x_5 x_6 x_7 x_8 x_9 x_10 x_10l x_10c x_11 x_11l x_11c x_12 x_13 x_14 w Q) : FnP Try.prog F_farm_Farm_Do #[(.pointer f), (.agg #[(.int .i64 x_0), (.string x_1), (.int .i64 x_2), (.int .i64 x_3), (.int .i64 x_4), (.int .i64 x_5), (.int .i64 x_6), (.string x_7), (.string x_8), (.int .i64 x_9), (.slice x_10 x_10l x_10c), (.slice x_11 x_11l x_11c), (.int .i64 x_12), (.int .i64 x_13), (.bool x_14)])] w Q := by
  have e_ : wp_farm_Farm_Do f x_0 x_1 x_2 x_3 x_4 x_5 x_6 x_7 x_8 x_9 x_10 x_10l x_10c x_11 x_11l x_11c x_12 x_13 x_14 w Q = Runs Try.prog Q ({ N := 49, wrap := [], pub := [], muts := [29, 61, 17, 62, 63], joins := [] } : Cfg) Try.f24 (Try.f24.body.getD .skip) [.sc (.ptr f), .agg [.int .i64 x_0, .str x_1, .int .i64 x_2, .int .i64 x_3, .int .i64 x_4, .int .i64 x_5, .int .i64 x_6, .str x_7, .str x_8, .int .i64 x_9, .slc x_10 x_10l x_10c, .slc x_11 x_11l x_11c, .int .i64 x_12, .int .i64 x_13, .bool (.atom true x_14)]] w := by kernel_rfl
  rw [e_] at h
  exact runs_fn h Try.func24 (by kernel_rfl) (fun args w => Try.call24 args w) (by kernel_rfl) (by kernel_rfl) rfl rfl

end Go.Proofs.Ytblafknmfblgfaa
