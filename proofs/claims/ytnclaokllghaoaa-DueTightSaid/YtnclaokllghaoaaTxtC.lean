/- The texts of this seat's functions: what each computes, as its symbolic run says it. -/
import Derived.Test.YtnclaokllghaoaaRows
import Derived.Test.YtnclaokllghaoaaSxD
import Derived.Test.YtnclaokllghaoaaSxN
import Derived.Test.YtnclaokllghaoaaTxt
set_option linter.unusedVariables false
set_option linter.unusedSimpArgs false
set_option maxRecDepth 100000
namespace Go.Proofs.Ytnclaokllghaoaa
open Go.Sx Go.RowKit

abbrev F_shiftbellkeep_DueTight : FuncId := 4
abbrev F_due_Tight : FuncId := 10

/-- shiftbell/due.Tight -/
def wp_due_Tight (l : Option Addr) (ll : Nat) (lc : Nat) (w : World) (Q : Value → World → Prop) : Prop :=
  ∀ w0, Ext w w0 →
  FnP Try.prog F_due_Check #[(.slice l ll lc)] w0 fun v1 w1 =>
   Ext w0 w1 ∧
   ∃ t2 : Int, v1 = (.int .i64 t2) ∧
   ((t2 ≠ 0) →
    ∀ w3, Ext w w3 →
    Q (.tuple #[(.int .i64 0), (.int .i64 0), (.bool false), (.int .i64 t2)]) w3) ∧
   ((t2 = 0) →
    ∃ (I3 : Int → World → Prop) (M3 : Int → World → Nat), I3 0 w ∧
    ∀ (k4 : Int) (w5 : World), I3 k4 w5 →
     ((k4 < 201) →
      ∀ w6, Ext w5 w6 →
      New w6 44 [(.int .i64 0), (.int .i64 0), (.int .i64 0), (.int .i64 0), (.int .i64 0), (.int .i64 0), (.int .i64 0), (.int .i64 0), (.int .i64 0), (.int .i64 0), (.int .i64 0), (.int .i64 0), (.int .i64 0), (.int .i64 0), (.int .i64 0), (.int .i64 0), (.int .i64 0), (.int .i64 0), (.int .i64 0), (.int .i64 0), (.int .i64 0), (.int .i64 0), (.int .i64 0), (.int .i64 0), (.int .i64 0), (.int .i64 0), (.int .i64 0), (.int .i64 0), (.int .i64 0), (.int .i64 0), (.int .i64 0), (.int .i64 0), (.int .i64 0), (.int .i64 0), (.int .i64 0), (.int .i64 0), (.int .i64 0), (.int .i64 0), (.int .i64 0), (.int .i64 0), (.int .i64 0), (.int .i64 0), (.int .i64 0), (.int .i64 0), (.int .i64 0), (.int .i64 0), (.int .i64 0), (.int .i64 0), (.int .i64 0), (.int .i64 0), (.int .i64 0), (.int .i64 0), (.int .i64 0), (.int .i64 0), (.int .i64 0), (.int .i64 0), (.int .i64 0), (.int .i64 0), (.int .i64 0), (.int .i64 0), (.int .i64 0), (.int .i64 0), (.int .i64 0), (.int .i64 0), (.int .i64 0), (.int .i64 0), (.int .i64 0), (.int .i64 0), (.int .i64 0), (.int .i64 0), (.int .i64 0), (.int .i64 0), (.int .i64 0), (.int .i64 0), (.int .i64 0), (.int .i64 0), (.int .i64 0), (.int .i64 0), (.int .i64 0), (.int .i64 0), (.int .i64 0), (.int .i64 0), (.int .i64 0), (.int .i64 0), (.int .i64 0), (.int .i64 0), (.int .i64 0), (.int .i64 0), (.int .i64 0), (.int .i64 0), (.int .i64 0), (.int .i64 0), (.int .i64 0), (.int .i64 0), (.int .i64 0), (.int .i64 0), (.int .i64 0), (.int .i64 0), (.int .i64 0), (.int .i64 0), (.int .i64 0), (.int .i64 0), (.int .i64 0), (.int .i64 0), (.int .i64 0), (.int .i64 0), (.int .i64 0), (.int .i64 0), (.int .i64 0), (.int .i64 0), (.int .i64 0), (.int .i64 0), (.int .i64 0), (.int .i64 0), (.int .i64 0), (.int .i64 0), (.int .i64 0), (.int .i64 0), (.int .i64 0), (.int .i64 0), (.int .i64 0), (.int .i64 0), (.int .i64 0), (.int .i64 0), (.int .i64 0), (.int .i64 0), (.int .i64 0), (.int .i64 0), (.int .i64 0), (.int .i64 0), (.int .i64 0), (.int .i64 0), (.int .i64 0), (.int .i64 0), (.int .i64 0), (.int .i64 0), (.int .i64 0), (.int .i64 0), (.int .i64 0), (.int .i64 0), (.int .i64 0), (.int .i64 0), (.int .i64 0), (.int .i64 0), (.int .i64 0), (.int .i64 0), (.int .i64 0), (.int .i64 0), (.int .i64 0), (.int .i64 0), (.int .i64 0), (.int .i64 0), (.int .i64 0), (.int .i64 0), (.int .i64 0), (.int .i64 0), (.int .i64 0), (.int .i64 0), (.int .i64 0), (.int .i64 0), (.int .i64 0), (.int .i64 0), (.int .i64 0), (.int .i64 0), (.int .i64 0), (.int .i64 0), (.int .i64 0), (.int .i64 0), (.int .i64 0), (.int .i64 0), (.int .i64 0), (.int .i64 0), (.int .i64 0), (.int .i64 0), (.int .i64 0), (.int .i64 0), (.int .i64 0), (.int .i64 0), (.int .i64 0), (.int .i64 0), (.int .i64 0), (.int .i64 0), (.int .i64 0), (.int .i64 0), (.int .i64 0), (.int .i64 0), (.int .i64 0), (.int .i64 0), (.int .i64 0), (.int .i64 0), (.int .i64 0), (.int .i64 0), (.int .i64 0), (.int .i64 0), (.int .i64 0), (.int .i64 0), (.int .i64 0), (.int .i64 0), (.int .i64 0), (.int .i64 0), (.int .i64 0)] fun p7 w7 =>
       ∃ (I8 : Int → World → Prop) (M8 : Int → World → Nat), I8 0 w7 ∧
       ∀ (k9 : Int) (w10 : World), I8 k9 w10 →
        ((k9 < (ll : Int)) →
         l ≠ none ∧
         (0 : Int) ≤ k9 ∧
         (k9 : Int) < (ll : Int) ∧
         (pIdx l k9 3) ≠ none ∧
         ∃ t11 : Int, cell w10 (pIdx l k9 3) 0 = some (.int .i64 t11) ∧
         ∃ t12 : Int, cell w10 (pIdx l k9 3) 1 = some (.int .i64 t12) ∧
         ∃ t13 : Int, cell w10 (pIdx l k9 3) 2 = some (.int .i64 t13) ∧
         ∀ b14 : Nat, w10.heap.size ≤ b14 → ((k4 ≤ t11) →
          p7 ≠ none ∧
          (0 : Int) ≤ t12 ∧
          (t12 : Int) < 201 ∧
          ∃ t15 : Int, cell w10 (pIdx p7 t12 1) 0 = some (.int .i64 t15) ∧
          InR .i64 (t15 + t13) ∧
          p7 ≠ none ∧
          (0 : Int) ≤ t12 ∧
          (t12 : Int) < 201 ∧
          Store w10 (pIdx p7 t12 1) [(.int .i64 (t15 + t13))] [b14] fun w16 =>
           InR .i64 (k9 + 1) ∧
           (I8 (k9 + 1) w16 ∧ M8 (k9 + 1) w16 < M8 k9 w10)) ∧
         ((t11 < k4) →
          InR .i64 (k9 + 1) ∧
          (I8 (k9 + 1) w10 ∧ M8 (k9 + 1) w10 < M8 k9 w10))) ∧
        (((ll : Int) ≤ k9) →
         ∃ t11 : Value, CellsAre [] w10 p7 201 t11 ∧
         ∃ (I12 : Int → Int → World → Prop) (M12 : Int → Int → World → Nat), I12 0 0 w10 ∧
         ∀ (sum13 : Int) (k14 : Int) (w15 : World), I12 sum13 k14 w15 →
          ((k14 < 201) →
           ∀ w16, Ext w15 w16 →
           Run Try.prog (.index 44 t11 (.int .i64 k14)) w16 fun v17 w17 =>
            Ext w16 w17 ∧
            ∃ t18 : Int, v17 = (.int .i64 t18) ∧
            InR .i64 (sum13 + t18) ∧
            ((k4 < k14) →
             InR .i64 (k14 - k4)) ∧
            (((k4 < k14) ∧ ((k14 - k4) < (sum13 + t18))) →
             ∀ w19, Ext w15 w19 →
             Q (.tuple #[(.int .i64 k4), (.int .i64 k14), (.bool true), (.int .i64 0)]) w19) ∧
            (((k14 ≤ k4) ∨ ((sum13 + t18) ≤ (k14 - k4))) →
             InR .i64 (k14 + 1) ∧
             (I12 (sum13 + t18) (k14 + 1) w15 ∧ M12 (sum13 + t18) (k14 + 1) w15 < M12 sum13 k14 w15))) ∧
          ((201 ≤ k14) →
           InR .i64 (k4 + 1) ∧
           (I3 (k4 + 1) w15 ∧ M3 (k4 + 1) w15 < M3 k4 w5)))) ∧
     ((201 ≤ k4) →
      ∀ w6, Ext w5 w6 →
      Q (.tuple #[(.int .i64 0), (.int .i64 0), (.bool false), (.int .i64 0)]) w6))

theorem ok_due_Tight (l : Option Addr) (ll : Nat) (lc : Nat) (w : World) (Q : Value → World → Prop) (h : wp_due_Tight l ll lc w Q) : FnP Try.prog F_due_Tight #[(.slice l ll lc)] w Q := by
  have e_ : wp_due_Tight l ll lc w Q = Runs Try.prog Q ({ N := 63, wrap := [], pub := [8], muts := [] } : Cfg) Try.f10 (Try.f10.body.getD .skip) [.sc (.slc l ll lc)] w := by kernel_rfl
  rw [e_] at h
  exact runs_fn h Try.func10 (by kernel_rfl) (fun args w => Try.call10 args w) (by kernel_rfl) (by kernel_rfl) rfl rfl

/-- shiftbell/shiftbellkeep.DueTight -/
def wp_shiftbellkeep_DueTight (l : Option Addr) (ll : Nat) (lc : Nat) (a : Int) (b : Int) (w : World) (Q : Value → World → Prop) : Prop :=
  ∀ w0, Ext w w0 →
  FnP Try.prog F_shiftbellkeep_dues #[] w0 fun v1 w1 =>
   Ext w0 w1 ∧
   ∃ t2 : Bool, v1 = (.bool t2) ∧
   ((t2 = false) →
    ∀ w3, Ext w w3 →
    Q (.bool false) w3) ∧
   ((t2 = true) →
    ∀ w3, Ext w w3 →
    FnP Try.prog F_due_Fits #[(.slice l ll lc)] w3 fun v4 w4 =>
     Ext w3 w4 ∧
     ∃ t5 : Bool, ∃ t6 : Int, v4 = (.tuple #[(.bool t5), (.int .i64 t6)]) ∧
     ∀ w7, Ext w w7 →
     FnP Try.prog F_due_Tight #[(.slice l ll lc)] w7 fun v8 w8 =>
      Ext w7 w8 ∧
      ∃ t9 : Int, ∃ t10 : Int, ∃ t11 : Bool, ∃ t12 : Int, v8 = (.tuple #[(.int .i64 t9), (.int .i64 t10), (.bool t11), (.int .i64 t12)]) ∧
      ((t6 ≠ 0) →
       ∀ w13, Ext w w13 →
       Q (.bool (((decide (t6 = t12)) && (!t5)) && (!t11))) w13) ∧
      ((t6 = 0) →
       ((((a < 0) ∨ (b < a)) ∨ (200 < b)) →
        ∀ w13, Ext w w13 →
        Q (.bool ((decide (t12 = 0)) && ((t5 && (!t11)) || ((!t5) && t11)))) w13) ∧
       ((((0 ≤ a) ∧ (a ≤ b)) ∧ (b ≤ 200)) →
        ∃ (I13 : Int → Int → World → Prop) (M13 : Int → Int → World → Nat), I13 0 0 w ∧
        ∀ (n14 : Int) (k15 : Int) (w16 : World), I13 n14 k15 w16 →
         ((k15 < (ll : Int)) →
          l ≠ none ∧
          (0 : Int) ≤ k15 ∧
          (k15 : Int) < (ll : Int) ∧
          (pIdx l k15 3) ≠ none ∧
          ∃ t17 : Int, cell w16 (pIdx l k15 3) 0 = some (.int .i64 t17) ∧
          ∃ t18 : Int, cell w16 (pIdx l k15 3) 1 = some (.int .i64 t18) ∧
          ∃ t19 : Int, cell w16 (pIdx l k15 3) 2 = some (.int .i64 t19) ∧
          ∀ b20 : Nat, w16.heap.size ≤ b20 → (((a ≤ t17) ∧ (t18 ≤ b)) →
           InR .i64 (n14 + t19) ∧
           InR .i64 (k15 + 1) ∧
           (I13 (n14 + t19) (k15 + 1) w16 ∧ M13 (n14 + t19) (k15 + 1) w16 < M13 n14 k15 w16)) ∧
          (((t17 < a) ∨ (b < t18)) →
           InR .i64 (k15 + 1) ∧
           (I13 n14 (k15 + 1) w16 ∧ M13 n14 (k15 + 1) w16 < M13 n14 k15 w16))) ∧
         (((ll : Int) ≤ k15) →
          (((t12 = 0) ∧ (((t5 = true) ∧ (t11 = false)) ∨ ((t5 = false) ∧ (t11 = true)))) →
           ((t5 = true) →
            InR .i64 (b - a))) ∧
          ∀ w17, Ext w16 w17 →
          Q (.bool (((decide (t12 = 0)) && ((t5 && (!t11)) || ((!t5) && t11))) && ((!t5) || (decide (n14 ≤ (b - a)))))) w17))))

theorem ok_shiftbellkeep_DueTight (l : Option Addr) (ll : Nat) (lc : Nat) (a : Int) (b : Int) (w : World) (Q : Value → World → Prop) (h : wp_shiftbellkeep_DueTight l ll lc a b w Q) : FnP Try.prog F_shiftbellkeep_DueTight #[(.slice l ll lc), (.int .i64 a), (.int .i64 b)] w Q := by
  have e_ : wp_shiftbellkeep_DueTight l ll lc a b w Q = Runs Try.prog Q ({ N := 100, wrap := [], pub := [], muts := [] } : Cfg) Try.f4 (Try.f4.body.getD .skip) [.sc (.slc l ll lc), .sc (.int .i64 a), .sc (.int .i64 b)] w := by kernel_rfl
  rw [e_] at h
  exact runs_fn h Try.func4 (by kernel_rfl) (fun args w => Try.call4 args w) (by kernel_rfl) (by kernel_rfl) rfl rfl

theorem open_shiftbellkeep_DueTight (W : World) (R : Array Value → Prop) (h : ∀ l : Option Addr, ∀ ll : Nat, ∀ lc : Nat, SlcArg Try.prog W 29 l ll lc → ∀ a : Int, InR .i64 a → ∀ b : Int, InR .i64 b → R #[(.slice l ll lc), (.int .i64 a), (.int .i64 b)]) (args : Array Value) (hg : GoodAll Try.prog W Try.f4.params.toList args.toList) : R args := by
  have e_ : (ArgsAll Try.prog W Try.f4.params.toList fun l => R l.toArray) = (∀ l : Option Addr, ∀ ll : Nat, ∀ lc : Nat, SlcArg Try.prog W 29 l ll lc → ∀ a : Int, InR .i64 a → ∀ b : Int, InR .i64 b → R #[(.slice l ll lc), (.int .i64 a), (.int .i64 b)]) := by kernel_rfl
  exact args_open (by rw [e_]; exact h) args hg
-- wit 4 #[(.slice none 0 0), (.int .i64 0), (.int .i64 0)]

end Go.Proofs.Ytnclaokllghaoaa
