/- The texts of this seat's functions: what each computes, as its symbolic run says it. -/
import Derived.Test.YtcliejgmehlojaaDoorRows
import Derived.Test.YtcliejgmehlojaaDoorSxD
import Derived.Test.YtcliejgmehlojaaDoorSxN
import Derived.Test.YtcliejgmehlojaaDoorTxt
set_option linter.unusedVariables false
set_option linter.unusedSimpArgs false
set_option maxRecDepth 100000
namespace Go.Proofs.YtcliejgmehlojaaDoor
open Go.Sx Go.RowKit

abbrev F_shiftbellkeep_CivilText : FuncId := 9
abbrev F_civil_Text : FuncId := 17
abbrev F_civil_Read : FuncId := 18
abbrev F_civil_digits : FuncId := 24

/-- shiftbell/civil.Text -/
def wp_civil_Text (n : Int) (w : World) (Q : Value → World → Prop) : Prop :=
  ∀ w0, Ext w w0 →
  FnP Tryd.prog F_civil_Date #[(.int .i64 n)] w0 fun v1 w1 =>
   Ext w0 w1 ∧
   ∃ t2 : Int, ∃ t3 : Int, ∃ t4 : Int, ∃ t5 : Int, v1 = (.tuple #[(.int .i64 t2), (.int .i64 t3), (.int .i64 t4), (.int .i64 t5)]) ∧
   ((t5 ≠ 0) →
    ∀ w6, Ext w w6 →
    Q (.tuple #[(.string (⟨#[]⟩ : ByteArray)), (.int .i64 t5)]) w6) ∧
   ((t5 = 0) →
    ∀ w6, Ext w w6 →
    FnP Tryd.prog F_civil_digits #[(.int .i64 t2), (.int .i64 4)] w6 fun v7 w7 =>
     Ext w6 w7 ∧
     ∃ t8 : ByteArray, v7 = (.string t8) ∧
     CatOk t8 (⟨#[45]⟩ : ByteArray) ∧
     ∀ w9, Ext w w9 →
     FnP Tryd.prog F_civil_digits #[(.int .i64 t3), (.int .i64 2)] w9 fun v10 w10 =>
      Ext w9 w10 ∧
      ∃ t11 : ByteArray, v10 = (.string t11) ∧
      CatOk (t8 ++ (⟨#[45]⟩ : ByteArray)) t11 ∧
      CatOk ((t8 ++ (⟨#[45]⟩ : ByteArray)) ++ t11) (⟨#[45]⟩ : ByteArray) ∧
      ∀ w12, Ext w w12 →
      FnP Tryd.prog F_civil_digits #[(.int .i64 t4), (.int .i64 2)] w12 fun v13 w13 =>
       Ext w12 w13 ∧
       ∃ t14 : ByteArray, v13 = (.string t14) ∧
       CatOk (((t8 ++ (⟨#[45]⟩ : ByteArray)) ++ t11) ++ (⟨#[45]⟩ : ByteArray)) t14 ∧
       ∀ w15, Ext w w15 →
       Q (.tuple #[(.string ((((t8 ++ (⟨#[45]⟩ : ByteArray)) ++ t11) ++ (⟨#[45]⟩ : ByteArray)) ++ t14)), (.int .i64 0)]) w15)

theorem ok_civil_Text (n : Int) (w : World) (Q : Value → World → Prop) (h : wp_civil_Text n w Q) : FnP Tryd.prog F_civil_Text #[(.int .i64 n)] w Q := by
  have e_ : wp_civil_Text n w Q = Runs Tryd.prog Q ({ N := 28, wrap := [], pub := [], muts := [], joins := [] } : Cfg) Tryd.f17 (Tryd.f17.body.getD .skip) [.sc (.int .i64 n)] w := by kernel_rfl
  rw [e_] at h
  exact runs_fn h Tryd.func17 (by kernel_rfl) (fun args w => Tryd.call17 args w) (by kernel_rfl) (by kernel_rfl) rfl rfl

/-- shiftbell/civil.Read -/
def wp_civil_Read (s : ByteArray) (w : World) (Q : Value → World → Prop) : Prop :=
  (((s.size : Int) ≠ 10) →
   ∀ w0, Ext w w0 →
   Q (.tuple #[(.int .i64 0), (.int .i64 3)]) w0) ∧
  (((s.size : Int) = 10) →
   ∀ w0, Ext w w0 →
   New w0 45 [(.int .i64 0), (.int .i64 0), (.int .i64 0)] fun p1 w1 =>
    ∀ w2, Ext w1 w2 →
    Run Tryd.prog (.convert 9 46 (.string s)) w2 fun v3 w3 =>
     Ext w2 w3 ∧
     ∃ t4 : Option Addr, ∃ tl5 : Nat, ∃ tc6 : Nat, v3 = (.slice t4 tl5 tc6) ∧
     ∃ (I7 : Int → Int → World → Prop) (M7 : Int → Int → World → Nat), I7 0 0 w3 ∧
     ∀ (k8 : Int) (k9 : Int) (w10 : World), I7 k8 k9 w10 →
      (((k9 < (tl5 : Int)) →
       t4 ≠ none ∧
       (0 : Int) ≤ k9 ∧
       (k9 : Int) < (tl5 : Int) ∧
       ∃ t11 : Int, cell w10 (pIdx t4 k9 1) 0 = some (.int .u8 t11) ∧
       ((((k9 = 4) ∨ (k9 = 7)) →
        ((t11 ≠ 45) →
         ∀ w12, Ext w10 w12 →
         Q (.tuple #[(.int .i64 0), (.int .i64 3)]) w12) ∧
        ((t11 = 45) →
         InR .i64 (k8 + 1) ∧
         InR .i64 (k9 + 1) ∧
         (I7 (k8 + 1) (k9 + 1) w10 ∧ M7 (k8 + 1) (k9 + 1) w10 < M7 k8 k9 w10)))) ∧
       (((k9 ≠ 4) ∧ (k9 ≠ 7)) →
        (((t11 < 48) ∨ (57 < t11)) →
         ∀ w12, Ext w10 w12 →
         Q (.tuple #[(.int .i64 0), (.int .i64 3)]) w12) ∧
        (((48 ≤ t11) ∧ (t11 ≤ 57)) →
         p1 ≠ none ∧
         (0 : Int) ≤ k8 ∧
         (k8 : Int) < 3 ∧
         ∃ t12 : Int, cell w10 (pIdx p1 k8 1) 0 = some (.int .i64 t12) ∧
         InR .i64 (10 * t12) ∧
         InR .u8 (t11 - 48) ∧
         InR .i64 (t11 - 48) ∧
         InR .i64 ((10 * t12) + (t11 - 48)) ∧
         p1 ≠ none ∧
         (0 : Int) ≤ k8 ∧
         (k8 : Int) < 3 ∧
         Store w10 (pIdx p1 k8 1) [(.int .i64 ((10 * t12) + (t11 - 48)))] [] fun w13 =>
          InR .i64 (k9 + 1) ∧
          (I7 k8 (k9 + 1) w13 ∧ M7 k8 (k9 + 1) w13 < M7 k8 k9 w10))))) ∧
      (((tl5 : Int) ≤ k9) →
       p1 ≠ none ∧
       (0 : Int) ≤ 0 ∧
       (0 : Int) < 3 ∧
       ∃ t11 : Int, cell w10 (pIdx p1 0 1) 0 = some (.int .i64 t11) ∧
       p1 ≠ none ∧
       (0 : Int) ≤ 1 ∧
       (1 : Int) < 3 ∧
       ∃ t12 : Int, cell w10 (pIdx p1 1 1) 0 = some (.int .i64 t12) ∧
       p1 ≠ none ∧
       (0 : Int) ≤ 2 ∧
       (2 : Int) < 3 ∧
       ∃ t13 : Int, cell w10 (pIdx p1 2 1) 0 = some (.int .i64 t13) ∧
       ∀ w14, Ext w10 w14 →
       FnP Tryd.prog F_civil_Days #[(.int .i64 t11), (.int .i64 t12), (.int .i64 t13)] w14 fun v15 w15 =>
        Ext w14 w15 ∧
        ∃ t16 : Int, ∃ t17 : Int, v15 = (.tuple #[(.int .i64 t16), (.int .i64 t17)]) ∧
        ∀ w18, Ext w10 w18 →
        Q (.tuple #[(.int .i64 t16), (.int .i64 t17)]) w18))

theorem ok_civil_Read (s : ByteArray) (w : World) (Q : Value → World → Prop) (h : wp_civil_Read s w Q) : FnP Tryd.prog F_civil_Read #[(.string s)] w Q := by
  have e_ : wp_civil_Read s w Q = Runs Tryd.prog Q ({ N := 57, wrap := [], pub := [4], muts := [], joins := [] } : Cfg) Tryd.f18 (Tryd.f18.body.getD .skip) [.sc (.str s)] w := by kernel_rfl
  rw [e_] at h
  exact runs_fn h Tryd.func18 (by kernel_rfl) (fun args w => Tryd.call18 args w) (by kernel_rfl) (by kernel_rfl) rfl rfl

/-- shiftbell/civil.digits -/
def wp_civil_digits (n : Int) (many : Int) (w : World) (Q : Value → World → Prop) : Prop :=
  ∃ (I0 : ByteArray → Int → Int → World → Prop) (M0 : ByteArray → Int → Int → World → Nat), I0 (⟨#[]⟩ : ByteArray) n 0 w ∧
  ∀ (s1 : ByteArray) (n2 : Int) (k3 : Int) (w4 : World), I0 s1 n2 k3 w4 →
   (((k3 < many) →
    InR .i64 (48 + (n2.tmod 10)) ∧
    InR .i32 (48 + (n2.tmod 10)) ∧
    ∀ w5, Ext w4 w5 →
    Run Tryd.prog (.convert 21 9 (.int .i32 (48 + (n2.tmod 10)))) w5 fun v6 w6 =>
     Ext w5 w6 ∧
     ∃ t7 : ByteArray, v6 = (.string t7) ∧
     CatOk t7 s1 ∧
     InR .i64 (n2.tdiv 10) ∧
     InR .i64 (k3 + 1) ∧
     (I0 (t7 ++ s1) (n2.tdiv 10) (k3 + 1) w4 ∧ M0 (t7 ++ s1) (n2.tdiv 10) (k3 + 1) w4 < M0 s1 n2 k3 w4))) ∧
   ((many ≤ k3) →
    ∀ w5, Ext w4 w5 →
    Q (.string s1) w5)

theorem ok_civil_digits (n : Int) (many : Int) (w : World) (Q : Value → World → Prop) (h : wp_civil_digits n many w Q) : FnP Tryd.prog F_civil_digits #[(.int .i64 n), (.int .i64 many)] w Q := by
  have e_ : wp_civil_digits n many w Q = Runs Tryd.prog Q ({ N := 20, wrap := [], pub := [], muts := [], joins := [] } : Cfg) Tryd.f24 (Tryd.f24.body.getD .skip) [.sc (.int .i64 n), .sc (.int .i64 many)] w := by kernel_rfl
  rw [e_] at h
  exact runs_fn h Tryd.func24 (by kernel_rfl) (fun args w => Tryd.call24 args w) (by kernel_rfl) (by kernel_rfl) rfl rfl

/-- shiftbell/shiftbellkeep.CivilText -/
def wp_shiftbellkeep_CivilText (n : Int) (m : Int) (s : ByteArray) (w : World) (Q : Value → World → Prop) : Prop :=
  ∀ w0, Ext w w0 →
  FnP Tryd.prog F_shiftbellkeep_days #[] w0 fun v1 w1 =>
   Ext w0 w1 ∧
   ∃ t2 : Bool, v1 = (.bool t2) ∧
   ((t2 = false) →
    ∀ w3, Ext w w3 →
    Q (.bool false) w3) ∧
   ((t2 = true) →
    ∀ w3, Ext w w3 →
    FnP Tryd.prog F_civil_Text #[(.int .i64 n)] w3 fun v4 w4 =>
     Ext w3 w4 ∧
     ∃ t5 : ByteArray, ∃ t6 : Int, v4 = (.tuple #[(.string t5), (.int .i64 t6)]) ∧
     ∀ w7, Ext w w7 →
     FnP Tryd.prog F_civil_Text #[(.int .i64 m)] w7 fun v8 w8 =>
      Ext w7 w8 ∧
      ∃ t9 : ByteArray, ∃ t10 : Int, v8 = (.tuple #[(.string t9), (.int .i64 t10)]) ∧
      ∀ w11, Ext w w11 →
      Run Tryd.prog (.buildSlice 41 2 [(0, (.int .i64 t6)), (1, (.int .i64 t10))]) w11 fun v12 w12 =>
       Ext w11 w12 ∧
       ∃ t13 : Option Addr, ∃ tl14 : Nat, ∃ tc15 : Nat, v12 = (.slice t13 tl14 tc15) ∧
       ∀ w16, Ext w12 w16 →
       FnP Tryd.prog F_shiftbellkeep_good #[(.slice t13 tl14 tc15)] w16 fun v17 w17 =>
        Ext w16 w17 ∧
        ∃ t18 : Bool, v17 = (.bool t18) ∧
        (((t18 = true) →
         ∀ w19, Ext w12 w19 →
         FnP Tryd.prog F_civil_Read #[(.string t5)] w19 fun v20 w20 =>
          Ext w19 w20 ∧
          ∃ t21 : Int, ∃ t22 : Int, v20 = (.tuple #[(.int .i64 t21), (.int .i64 t22)]) ∧
          ((((((t22 ≠ 0) ∨ (t21 ≠ n)) ∨ (((sLt t5 t9 = true) ∧ (m ≤ n)) ∨ ((sLt t5 t9 = false) ∧ (n < m)))) ∨ (((t5 = t9) ∧ (n ≠ m)) ∨ ((t5 ≠ t9) ∧ (n = m)))) →
           ∀ w23, Ext w12 w23 →
           Q (.bool false) w23)) ∧
          (((((t22 = 0) ∧ (t21 = n)) ∧ (((sLt t5 t9 = false) ∨ (n < m)) ∧ ((sLt t5 t9 = true) ∨ (m ≤ n)))) ∧ (((t5 ≠ t9) ∨ (n = m)) ∧ ((t5 = t9) ∨ (n ≠ m)))) →
           ∀ w23, Ext w12 w23 →
           FnP Tryd.prog F_civil_Read #[(.string s)] w23 fun v24 w24 =>
            Ext w23 w24 ∧
            ∃ t25 : Int, ∃ t26 : Int, v24 = (.tuple #[(.int .i64 t25), (.int .i64 t26)]) ∧
            ((t26 ≠ 0) →
             ∀ w27, Ext w12 w27 →
             Q (.bool (decide (t25 = 0))) w27) ∧
            ((t26 = 0) →
             ∀ w27, Ext w12 w27 →
             FnP Tryd.prog F_civil_Text #[(.int .i64 t25)] w27 fun v28 w28 =>
              Ext w27 w28 ∧
              ∃ t29 : ByteArray, ∃ t30 : Int, v28 = (.tuple #[(.string t29), (.int .i64 t30)]) ∧
              ∀ w31, Ext w12 w31 →
              Q (.bool ((decide (t30 = 0)) && (decide (t29 = s)))) w31)))) ∧
        ((t18 = false) →
         ∀ w19, Ext w12 w19 →
         FnP Tryd.prog F_civil_Read #[(.string s)] w19 fun v20 w20 =>
          Ext w19 w20 ∧
          ∃ t21 : Int, ∃ t22 : Int, v20 = (.tuple #[(.int .i64 t21), (.int .i64 t22)]) ∧
          ((t22 ≠ 0) →
           ∀ w23, Ext w12 w23 →
           Q (.bool (decide (t21 = 0))) w23) ∧
          ((t22 = 0) →
           ∀ w23, Ext w12 w23 →
           FnP Tryd.prog F_civil_Text #[(.int .i64 t21)] w23 fun v24 w24 =>
            Ext w23 w24 ∧
            ∃ t25 : ByteArray, ∃ t26 : Int, v24 = (.tuple #[(.string t25), (.int .i64 t26)]) ∧
            ∀ w27, Ext w12 w27 →
            Q (.bool ((decide (t26 = 0)) && (decide (t25 = s)))) w27)))

theorem ok_shiftbellkeep_CivilText (n : Int) (m : Int) (s : ByteArray) (w : World) (Q : Value → World → Prop) (h : wp_shiftbellkeep_CivilText n m s w Q) : FnP Tryd.prog F_shiftbellkeep_CivilText #[(.int .i64 n), (.int .i64 m), (.string s)] w Q := by
  have e_ : wp_shiftbellkeep_CivilText n m s w Q = Runs Tryd.prog Q ({ N := 84, wrap := [], pub := [], muts := [], joins := [] } : Cfg) Tryd.f9 (Tryd.f9.body.getD .skip) [.sc (.int .i64 n), .sc (.int .i64 m), .sc (.str s)] w := by kernel_rfl
  rw [e_] at h
  exact runs_fn h Tryd.func9 (by kernel_rfl) (fun args w => Tryd.call9 args w) (by kernel_rfl) (by kernel_rfl) rfl rfl

theorem open_shiftbellkeep_CivilText (W : World) (R : Array Value → Prop) (h : ∀ n : Int, InR .i64 n → ∀ m : Int, InR .i64 m → ∀ s : ByteArray, s.size ≤ 9223372036854775807 → R #[(.int .i64 n), (.int .i64 m), (.string s)]) (args : Array Value) (hg : GoodAll Tryd.prog W Tryd.f9.params.toList args.toList) : R args := by
  have e_ : (ArgsAll Tryd.prog W Tryd.f9.params.toList fun l => R l.toArray) = (∀ n : Int, InR .i64 n → ∀ m : Int, InR .i64 m → ∀ s : ByteArray, s.size ≤ 9223372036854775807 → R #[(.int .i64 n), (.int .i64 m), (.string s)]) := by kernel_rfl
  exact args_open (by rw [e_]; exact h) args hg
-- wit 9 #[(.int .i64 0), (.int .i64 0), (.string (⟨#[]⟩ : ByteArray))]

end Go.Proofs.YtcliejgmehlojaaDoor
