/- The texts of this seat's functions: what each computes, as its symbolic run says it. -/
import Derived.Test.YtlgcnfmifkbefaaRows
import Derived.Test.YtlgcnfmifkbefaaSxD
import Derived.Test.YtlgcnfmifkbefaaSxN
import Derived.Test.YtlgcnfmifkbefaaTxt
set_option linter.unusedVariables false
set_option linter.unusedSimpArgs false
set_option maxRecDepth 100000
namespace Go.Proofs.Ytlgcnfmifkbefaa
open Go.Sx Go.RowKit

abbrev F_shiftbellkeep_BookLess : FuncId := 4
abbrev F_shiftbellkeep_BookOrder : FuncId := 7

/-- shiftbell/shiftbellkeep.BookLess -/
def wp_shiftbellkeep_BookLess (size : Int) (l : Option Addr) (ll : Nat) (lc : Nat) (n : Int) (long : Int) (after : Int) (less : Int) (shorter : Int) (at_v : Int) (w : World) (Q : Value → World → Prop) : Prop :=
  ∀ w0, Ext w w0 →
  FnP Try.prog F_shiftbellkeep_books #[] w0 fun v1 w1 =>
   Ext w0 w1 ∧
   ∃ t2 : Bool, v1 = (.bool t2) ∧
   ((t2 = false) →
    ∀ w3, Ext w w3 →
    Q (.bool false) w3) ∧
   ((t2 = true) →
    ∀ w3, Ext w w3 →
    FnP Try.prog F_book_Find #[(.int .i64 size), (.slice l ll lc), (.int .i64 n), (.int .i64 long), (.int .i64 after)] w3 fun v4 w4 =>
     Ext w3 w4 ∧
     ∃ t5 : Int, ∃ t6 : Int, v4 = (.tuple #[(.int .i64 t5), (.int .i64 t6)]) ∧
     ((t6 ≠ 0) →
      ∀ w7, Ext w w7 →
      Q (.bool (decide (t5 = 0))) w7) ∧
     ((t6 = 0) →
      ((((((1 ≤ less) ∧ (less ≤ n)) ∧ (1 ≤ shorter)) ∧ (shorter ≤ long)) →
       ∀ w7, Ext w w7 →
       FnP Try.prog F_book_Find #[(.int .i64 size), (.slice l ll lc), (.int .i64 less), (.int .i64 shorter), (.int .i64 after)] w7 fun v8 w8 =>
        Ext w7 w8 ∧
        ∃ t9 : Int, ∃ t10 : Int, v8 = (.tuple #[(.int .i64 t9), (.int .i64 t10)]) ∧
        (((t10 ≠ 0) ∨ (t5 < t9)) →
         ∀ w11, Ext w w11 →
         Q (.bool false) w11) ∧
        (((t10 = 0) ∧ (t9 ≤ t5)) →
         (((at_v < 0) ∨ ((ll : Int) ≤ at_v)) →
          ∀ w11, Ext w w11 →
          Q (.bool true) w11) ∧
         (((0 ≤ at_v) ∧ (at_v < (ll : Int))) →
          ∀ w11, Ext w w11 →
          FnP Try.prog F_slices_Clone_api_Slot_api_Slot #[(.slice l ll lc)] w11 fun v12 w12 =>
           Ext w11 w12 ∧
           ∃ t13 : Option Addr, ∃ tl14 : Nat, ∃ tc15 : Nat, v12 = (.slice t13 tl14 tc15) ∧
           InR .i64 (at_v + 1) ∧
           ∀ w16, Ext w12 w16 →
           FnP Try.prog F_slices_Delete_api_Slot_api_Slot #[(.slice t13 tl14 tc15), (.int .i64 at_v), (.int .i64 (at_v + 1))] w16 fun v17 w17 =>
            ∃ t18 : Option Addr, ∃ tl19 : Nat, ∃ tc20 : Nat, v17 = (.slice t18 tl19 tc20) ∧
            ∀ w21, Ext w17 w21 →
            FnP Try.prog F_book_Find #[(.int .i64 size), (.slice t18 tl19 tc20), (.int .i64 n), (.int .i64 long), (.int .i64 after)] w21 fun v22 w22 =>
             Ext w21 w22 ∧
             ∃ t23 : Int, ∃ t24 : Int, v22 = (.tuple #[(.int .i64 t23), (.int .i64 t24)]) ∧
             ∀ w25, Ext w17 w25 →
             Q (.bool ((decide (t24 = 0)) && (decide (t23 ≤ t5)))) w25)))) ∧
      (((((less < 1) ∨ (n < less)) ∨ (shorter < 1)) ∨ (long < shorter)) →
       (((at_v < 0) ∨ ((ll : Int) ≤ at_v)) →
        ∀ w7, Ext w w7 →
        Q (.bool true) w7) ∧
       (((0 ≤ at_v) ∧ (at_v < (ll : Int))) →
        ∀ w7, Ext w w7 →
        FnP Try.prog F_slices_Clone_api_Slot_api_Slot #[(.slice l ll lc)] w7 fun v8 w8 =>
         Ext w7 w8 ∧
         ∃ t9 : Option Addr, ∃ tl10 : Nat, ∃ tc11 : Nat, v8 = (.slice t9 tl10 tc11) ∧
         InR .i64 (at_v + 1) ∧
         ∀ w12, Ext w8 w12 →
         FnP Try.prog F_slices_Delete_api_Slot_api_Slot #[(.slice t9 tl10 tc11), (.int .i64 at_v), (.int .i64 (at_v + 1))] w12 fun v13 w13 =>
          ∃ t14 : Option Addr, ∃ tl15 : Nat, ∃ tc16 : Nat, v13 = (.slice t14 tl15 tc16) ∧
          ∀ w17, Ext w13 w17 →
          FnP Try.prog F_book_Find #[(.int .i64 size), (.slice t14 tl15 tc16), (.int .i64 n), (.int .i64 long), (.int .i64 after)] w17 fun v18 w18 =>
           Ext w17 w18 ∧
           ∃ t19 : Int, ∃ t20 : Int, v18 = (.tuple #[(.int .i64 t19), (.int .i64 t20)]) ∧
           ∀ w21, Ext w13 w21 →
           Q (.bool ((decide (t20 = 0)) && (decide (t19 ≤ t5)))) w21))))

theorem ok_shiftbellkeep_BookLess (size : Int) (l : Option Addr) (ll : Nat) (lc : Nat) (n : Int) (long : Int) (after : Int) (less : Int) (shorter : Int) (at_v : Int) (w : World) (Q : Value → World → Prop) (h : wp_shiftbellkeep_BookLess size l ll lc n long after less shorter at_v w Q) : FnP Try.prog F_shiftbellkeep_BookLess #[(.int .i64 size), (.slice l ll lc), (.int .i64 n), (.int .i64 long), (.int .i64 after), (.int .i64 less), (.int .i64 shorter), (.int .i64 at_v)] w Q := by
  have e_ : wp_shiftbellkeep_BookLess size l ll lc n long after less shorter at_v w Q = Runs Try.prog Q ({ N := 99, wrap := [], pub := [], muts := [12], joins := [] } : Cfg) Try.f4 (Try.f4.body.getD .skip) [.sc (.int .i64 size), .sc (.slc l ll lc), .sc (.int .i64 n), .sc (.int .i64 long), .sc (.int .i64 after), .sc (.int .i64 less), .sc (.int .i64 shorter), .sc (.int .i64 at_v)] w := by kernel_rfl
  rw [e_] at h
  exact runs_fn h Try.func4 (by kernel_rfl) (fun args w => Try.call4 args w) (by kernel_rfl) (by kernel_rfl) rfl rfl

theorem open_shiftbellkeep_BookLess (W : World) (R : Array Value → Prop) (h : ∀ size : Int, InR .i64 size → ∀ l : Option Addr, ∀ ll : Nat, ∀ lc : Nat, SlcArg Try.prog W 28 l ll lc → ∀ n : Int, InR .i64 n → ∀ long : Int, InR .i64 long → ∀ after : Int, InR .i64 after → ∀ less : Int, InR .i64 less → ∀ shorter : Int, InR .i64 shorter → ∀ at_v : Int, InR .i64 at_v → R #[(.int .i64 size), (.slice l ll lc), (.int .i64 n), (.int .i64 long), (.int .i64 after), (.int .i64 less), (.int .i64 shorter), (.int .i64 at_v)]) (args : Array Value) (hg : GoodAll Try.prog W Try.f4.params.toList args.toList) : R args := by
  have e_ : (ArgsAll Try.prog W Try.f4.params.toList fun l => R l.toArray) = (∀ size : Int, InR .i64 size → ∀ l : Option Addr, ∀ ll : Nat, ∀ lc : Nat, SlcArg Try.prog W 28 l ll lc → ∀ n : Int, InR .i64 n → ∀ long : Int, InR .i64 long → ∀ after : Int, InR .i64 after → ∀ less : Int, InR .i64 less → ∀ shorter : Int, InR .i64 shorter → ∀ at_v : Int, InR .i64 at_v → R #[(.int .i64 size), (.slice l ll lc), (.int .i64 n), (.int .i64 long), (.int .i64 after), (.int .i64 less), (.int .i64 shorter), (.int .i64 at_v)]) := by kernel_rfl
  exact args_open (by rw [e_]; exact h) args hg
-- wit 4 #[(.int .i64 0), (.slice none 0 0), (.int .i64 0), (.int .i64 0), (.int .i64 0), (.int .i64 0), (.int .i64 0), (.int .i64 0)]

/-- shiftbell/shiftbellkeep.BookOrder -/
def wp_shiftbellkeep_BookOrder (size : Int) (l : Option Addr) (ll : Nat) (lc : Nat) (from_v : Int) (to : Int) (n : Int) (long : Int) (w : World) (Q : Value → World → Prop) : Prop :=
  ∀ w0, Ext w w0 →
  FnP Try.prog F_shiftbellkeep_books #[] w0 fun v1 w1 =>
   Ext w0 w1 ∧
   ∃ t2 : Bool, v1 = (.bool t2) ∧
   ((t2 = false) →
    ∀ w3, Ext w w3 →
    Q (.bool false) w3) ∧
   ((t2 = true) →
    ∀ w3, Ext w w3 →
    FnP Try.prog F_slices_Clone_api_Slot_api_Slot #[(.slice l ll lc)] w3 fun v4 w4 =>
     Ext w3 w4 ∧
     ∃ t5 : Option Addr, ∃ tl6 : Nat, ∃ tc7 : Nat, v4 = (.slice t5 tl6 tc7) ∧
     ∀ w8, Ext w4 w8 →
     FnP Try.prog F_slices_Reverse_api_Slot_api_Slot #[(.slice t5 tl6 tc7)] w8 fun v9 w9 =>
      v9 = (.tuple #[]) ∧
      ∀ w10, Ext w9 w10 →
      FnP Try.prog F_book_Most #[(.int .i64 size), (.slice l ll lc), (.int .i64 from_v), (.int .i64 to)] w10 fun v11 w11 =>
       Ext w10 w11 ∧
       ∃ t12 : Int, ∃ t13 : Int, v11 = (.tuple #[(.int .i64 t12), (.int .i64 t13)]) ∧
       ∀ w14, Ext w9 w14 →
       FnP Try.prog F_book_Most #[(.int .i64 size), (.slice t5 tl6 tc7), (.int .i64 from_v), (.int .i64 to)] w14 fun v15 w15 =>
        Ext w14 w15 ∧
        ∃ t16 : Int, ∃ t17 : Int, v15 = (.tuple #[(.int .i64 t16), (.int .i64 t17)]) ∧
        ∀ w18, Ext w9 w18 →
        FnP Try.prog F_book_Find #[(.int .i64 size), (.slice l ll lc), (.int .i64 n), (.int .i64 long), (.int .i64 from_v)] w18 fun v19 w19 =>
         Ext w18 w19 ∧
         ∃ t20 : Int, ∃ t21 : Int, v19 = (.tuple #[(.int .i64 t20), (.int .i64 t21)]) ∧
         ∀ w22, Ext w9 w22 →
         FnP Try.prog F_book_Find #[(.int .i64 size), (.slice t5 tl6 tc7), (.int .i64 n), (.int .i64 long), (.int .i64 from_v)] w22 fun v23 w23 =>
          Ext w22 w23 ∧
          ∃ t24 : Int, ∃ t25 : Int, v23 = (.tuple #[(.int .i64 t24), (.int .i64 t25)]) ∧
          ∀ w26, Ext w9 w26 →
          FnP Try.prog F_book_Gaps #[(.int .i64 size), (.slice l ll lc), (.int .i64 n)] w26 fun v27 w27 =>
           Ext w26 w27 ∧
           ∃ t28 : Option Addr, ∃ tl29 : Nat, ∃ tc30 : Nat, ∃ t31 : Int, v27 = (.tuple #[(.slice t28 tl29 tc30), (.int .i64 t31)]) ∧
           ∀ w32, Ext w27 w32 →
           FnP Try.prog F_book_Gaps #[(.int .i64 size), (.slice t5 tl6 tc7), (.int .i64 n)] w32 fun v33 w33 =>
            Ext w32 w33 ∧
            ∃ t34 : Option Addr, ∃ tl35 : Nat, ∃ tc36 : Nat, ∃ t37 : Int, v33 = (.tuple #[(.slice t34 tl35 tc36), (.int .i64 t37)]) ∧
            ((((t12 = t16) ∧ (t20 = t24)) →
             ∀ w38, Ext w33 w38 →
             FnP Try.prog F_slices_Equal_api_Slot_api_Slot #[(.slice t28 tl29 tc30), (.slice t34 tl35 tc36)] w38 fun v39 w39 =>
              Ext w38 w39 ∧
              ∃ t40 : Bool, v39 = (.bool t40) ∧
              ∀ w41, Ext w33 w41 →
              Q (.bool (((t40 && (((decide (t13 = 0)) && (decide (t17 = 0))) || ((decide (t13 ≠ 0)) && (decide (t17 ≠ 0))))) && (((decide (t21 = 0)) && (decide (t25 = 0))) || ((decide (t21 ≠ 0)) && (decide (t25 ≠ 0))))) && (((decide (t31 = 0)) && (decide (t37 = 0))) || ((decide (t31 ≠ 0)) && (decide (t37 ≠ 0)))))) w41)) ∧
            (((t12 ≠ t16) ∨ (t20 ≠ t24)) →
             ∀ w38, Ext w33 w38 →
             Q (.bool false) w38))

theorem ok_shiftbellkeep_BookOrder (size : Int) (l : Option Addr) (ll : Nat) (lc : Nat) (from_v : Int) (to : Int) (n : Int) (long : Int) (w : World) (Q : Value → World → Prop) (h : wp_shiftbellkeep_BookOrder size l ll lc from_v to n long w Q) : FnP Try.prog F_shiftbellkeep_BookOrder #[(.int .i64 size), (.slice l ll lc), (.int .i64 from_v), (.int .i64 to), (.int .i64 n), (.int .i64 long)] w Q := by
  have e_ : wp_shiftbellkeep_BookOrder size l ll lc from_v to n long w Q = Runs Try.prog Q ({ N := 114, wrap := [], pub := [], muts := [16], joins := [] } : Cfg) Try.f7 (Try.f7.body.getD .skip) [.sc (.int .i64 size), .sc (.slc l ll lc), .sc (.int .i64 from_v), .sc (.int .i64 to), .sc (.int .i64 n), .sc (.int .i64 long)] w := by kernel_rfl
  rw [e_] at h
  exact runs_fn h Try.func7 (by kernel_rfl) (fun args w => Try.call7 args w) (by kernel_rfl) (by kernel_rfl) rfl rfl

theorem open_shiftbellkeep_BookOrder (W : World) (R : Array Value → Prop) (h : ∀ size : Int, InR .i64 size → ∀ l : Option Addr, ∀ ll : Nat, ∀ lc : Nat, SlcArg Try.prog W 28 l ll lc → ∀ from_v : Int, InR .i64 from_v → ∀ to : Int, InR .i64 to → ∀ n : Int, InR .i64 n → ∀ long : Int, InR .i64 long → R #[(.int .i64 size), (.slice l ll lc), (.int .i64 from_v), (.int .i64 to), (.int .i64 n), (.int .i64 long)]) (args : Array Value) (hg : GoodAll Try.prog W Try.f7.params.toList args.toList) : R args := by
  have e_ : (ArgsAll Try.prog W Try.f7.params.toList fun l => R l.toArray) = (∀ size : Int, InR .i64 size → ∀ l : Option Addr, ∀ ll : Nat, ∀ lc : Nat, SlcArg Try.prog W 28 l ll lc → ∀ from_v : Int, InR .i64 from_v → ∀ to : Int, InR .i64 to → ∀ n : Int, InR .i64 n → ∀ long : Int, InR .i64 long → R #[(.int .i64 size), (.slice l ll lc), (.int .i64 from_v), (.int .i64 to), (.int .i64 n), (.int .i64 long)]) := by kernel_rfl
  exact args_open (by rw [e_]; exact h) args hg
-- wit 7 #[(.int .i64 0), (.slice none 0 0), (.int .i64 0), (.int .i64 0), (.int .i64 0), (.int .i64 0)]

end Go.Proofs.Ytlgcnfmifkbefaa
