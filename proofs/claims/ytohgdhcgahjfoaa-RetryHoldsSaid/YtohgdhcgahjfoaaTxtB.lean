/- The texts of this seat's functions: what each computes, as its symbolic run says it. -/
import Derived.Test.YtohgdhcgahjfoaaRows
import Derived.Test.YtohgdhcgahjfoaaSxC
set_option linter.unusedVariables false
set_option linter.unusedSimpArgs false
namespace Go.Proofs.Ytohgdhcgahjfoaa
open Go.Sx Go.RowKit

/-- math/bits.Mul64 -/
def wp15 (x : Int) (y : Int) (w : World) (Q : Value → World → Prop) : Prop :=
  InR .u64 ((iBit .and .u64 x 4294967295) * (iBit .and .u64 y 4294967295)) ∧
  InR .u64 ((iBit .shr .u64 x 32) * (iBit .and .u64 y 4294967295)) ∧
  InR .u64 (((iBit .shr .u64 x 32) * (iBit .and .u64 y 4294967295)) + (iBit .shr .u64 ((iBit .and .u64 x 4294967295) * (iBit .and .u64 y 4294967295)) 32)) ∧
  InR .u64 ((iBit .and .u64 x 4294967295) * (iBit .shr .u64 y 32)) ∧
  InR .u64 ((iBit .and .u64 (((iBit .shr .u64 x 32) * (iBit .and .u64 y 4294967295)) + (iBit .shr .u64 ((iBit .and .u64 x 4294967295) * (iBit .and .u64 y 4294967295)) 32)) 4294967295) + ((iBit .and .u64 x 4294967295) * (iBit .shr .u64 y 32))) ∧
  InR .u64 ((iBit .shr .u64 x 32) * (iBit .shr .u64 y 32)) ∧
  InR .u64 (((iBit .shr .u64 x 32) * (iBit .shr .u64 y 32)) + (iBit .shr .u64 (((iBit .shr .u64 x 32) * (iBit .and .u64 y 4294967295)) + (iBit .shr .u64 ((iBit .and .u64 x 4294967295) * (iBit .and .u64 y 4294967295)) 32)) 32)) ∧
  InR .u64 ((((iBit .shr .u64 x 32) * (iBit .shr .u64 y 32)) + (iBit .shr .u64 (((iBit .shr .u64 x 32) * (iBit .and .u64 y 4294967295)) + (iBit .shr .u64 ((iBit .and .u64 x 4294967295) * (iBit .and .u64 y 4294967295)) 32)) 32)) + (iBit .shr .u64 ((iBit .and .u64 (((iBit .shr .u64 x 32) * (iBit .and .u64 y 4294967295)) + (iBit .shr .u64 ((iBit .and .u64 x 4294967295) * (iBit .and .u64 y 4294967295)) 32)) 4294967295) + ((iBit .and .u64 x 4294967295) * (iBit .shr .u64 y 32))) 32)) ∧
  ∀ w0, Ext w w0 →
  Q (.tuple #[(.int .u64 ((((iBit .shr .u64 x 32) * (iBit .shr .u64 y 32)) + (iBit .shr .u64 (((iBit .shr .u64 x 32) * (iBit .and .u64 y 4294967295)) + (iBit .shr .u64 ((iBit .and .u64 x 4294967295) * (iBit .and .u64 y 4294967295)) 32)) 32)) + (iBit .shr .u64 ((iBit .and .u64 (((iBit .shr .u64 x 32) * (iBit .and .u64 y 4294967295)) + (iBit .shr .u64 ((iBit .and .u64 x 4294967295) * (iBit .and .u64 y 4294967295)) 32)) 4294967295) + ((iBit .and .u64 x 4294967295) * (iBit .shr .u64 y 32))) 32))), (.int .u64 (IntKind.wrap .u64 (x * y)))]) w0

theorem ok15 (x : Int) (y : Int) (w : World) (Q : Value → World → Prop) (h : wp15 x y w Q) : FnP Try.prog 15 #[(.int .u64 x), (.int .u64 y)] w Q := by
  have e : wp15 x y w Q = Runs Try.prog Q ({ N := 51, wrap := [50], pub := [], muts := [] } : Cfg) Try.f15 (Try.f15.body.getD .skip) [.sc (.int .u64 x), .sc (.int .u64 y)] w := by kernel_rfl
  rw [e] at h
  exact runs_fn h Try.func15 (by kernel_rfl) (fun args w => Try.call15 args w) (by kernel_rfl) (by kernel_rfl) rfl rfl

/-- shiftbell/retry.Have -/
def wp10 (b_0 : Int) (b_1 : Int) (b_2 : Int) (b_3 : Int) (now : Int) (w : World) (Q : Value → World → Prop) : Prop :=
  ∀ b0 : Nat, w.heap.size ≤ b0 → (((((((((b_0 < 1) ∨ (1099511627776 < b_0)) ∨ (b_1 < 0)) ∨ (1099511627776 < b_1)) ∨ (b_2 < 0)) ∨ (b_0 < b_2)) ∨ (b_3 < 0)) ∨ (1099511627776 < b_3)) →
   ∀ w1, Ext w w1 →
   Q (.tuple #[(.int .i64 0), (.int .i64 4)]) w1) ∧
  (((((((((1 ≤ b_0) ∧ (b_0 ≤ 1099511627776)) ∧ (0 ≤ b_1)) ∧ (b_1 ≤ 1099511627776)) ∧ (0 ≤ b_2)) ∧ (b_2 ≤ b_0)) ∧ (0 ≤ b_3)) ∧ (b_3 ≤ 1099511627776)) →
   ((now < b_3) →
    ∀ w1, Ext w w1 →
    Q (.tuple #[(.int .i64 0), (.int .i64 11)]) w1) ∧
   ((b_3 ≤ now) →
    ((1099511627776 < now) →
     ∀ w1, Ext w w1 →
     Q (.tuple #[(.int .i64 0), (.int .i64 4)]) w1) ∧
    ((now ≤ 1099511627776) →
     InR .u64 b_1 ∧
     InR .i64 (now - b_3) ∧
     InR .u64 (now - b_3) ∧
     ∀ w1, Ext w w1 →
     FnP Try.prog 15 #[(.int .u64 b_1), (.int .u64 (now - b_3))] w1 fun v2 w2 =>
      Ext w1 w2 ∧
      ∃ t3 : Int, ∃ t4 : Int, v2 = (.tuple #[(.int .u64 t3), (.int .u64 t4)]) ∧
      InR .i64 (b_0 - b_2) ∧
      ((t3 ≤ 0) →
       InR .u64 (b_0 - b_2)) ∧
      (((0 < t3) ∨ ((b_0 - b_2) < t4)) →
       ∀ w5, Ext w w5 →
       Q (.tuple #[(.int .i64 b_0), (.int .i64 0)]) w5) ∧
      (((t3 ≤ 0) ∧ (t4 ≤ (b_0 - b_2))) →
       InR .i64 t4 ∧
       InR .i64 (b_2 + t4) ∧
       ∀ w5, Ext w w5 →
       Q (.tuple #[(.int .i64 (b_2 + t4)), (.int .i64 0)]) w5))))

theorem ok10 (b_0 : Int) (b_1 : Int) (b_2 : Int) (b_3 : Int) (now : Int) (w : World) (Q : Value → World → Prop) (h : wp10 b_0 b_1 b_2 b_3 now w Q) : FnP Try.prog 10 #[(.agg #[(.int .i64 b_0), (.int .i64 b_1), (.int .i64 b_2), (.int .i64 b_3)]), (.int .i64 now)] w Q := by
  have e : wp10 b_0 b_1 b_2 b_3 now w Q = Runs Try.prog Q ({ N := 90, wrap := [], pub := [], muts := [] } : Cfg) Try.f10 (Try.f10.body.getD .skip) [.agg [.int .i64 b_0, .int .i64 b_1, .int .i64 b_2, .int .i64 b_3], .sc (.int .i64 now)] w := by kernel_rfl
  rw [e] at h
  exact runs_fn h Try.func10 (by kernel_rfl) (fun args w => Try.call10 args w) (by kernel_rfl) (by kernel_rfl) rfl rfl

/-- shiftbell/shiftbellkeep.RetryHolds -/
def wp5 (b_0 : Int) (b_1 : Int) (b_2 : Int) (b_3 : Int) (now : Int) (later : Int) (w : World) (Q : Value → World → Prop) : Prop :=
  ∀ b0 : Nat, w.heap.size ≤ b0 → ∀ w1, Ext w w1 →
  FnP Try.prog 7 #[] w1 fun v2 w2 =>
   Ext w1 w2 ∧
   ∃ t3 : Bool, v2 = (.bool t3) ∧
   ((t3 = false) →
    ∀ w4, Ext w w4 →
    Q (.bool false) w4) ∧
   ((t3 = true) →
    ∀ w4, Ext w w4 →
    FnP Try.prog 10 #[(.agg #[(.int .i64 b_0), (.int .i64 b_1), (.int .i64 b_2), (.int .i64 b_3)]), (.int .i64 now)] w4 fun v5 w5 =>
     Ext w4 w5 ∧
     ∃ t6 : Int, ∃ t7 : Int, v5 = (.tuple #[(.int .i64 t6), (.int .i64 t7)]) ∧
     ∀ w8, Ext w w8 →
     FnP Try.prog 10 #[(.agg #[(.int .i64 b_0), (.int .i64 b_1), (.int .i64 b_2), (.int .i64 b_3)]), (.int .i64 later)] w8 fun v9 w9 =>
      Ext w8 w9 ∧
      ∃ t10 : Int, ∃ t11 : Int, v9 = (.tuple #[(.int .i64 t10), (.int .i64 t11)]) ∧
      ((((t7 ≠ 0) ∨ (t11 ≠ 0)) ∨ (later < now)) →
       ∀ w12, Ext w w12 →
       Q (.bool (((decide (t7 = 0)) || (decide (t6 = 0))) && ((decide (t11 = 0)) || (decide (t10 = 0))))) w12) ∧
      ((((t7 = 0) ∧ (t11 = 0)) ∧ (now ≤ later)) →
       ∀ b12 : Nat, w.heap.size ≤ b12 → ∀ w13, Ext w w13 →
       FnP Try.prog 10 #[(.agg #[(.int .i64 b_0), (.int .i64 b_1), (.int .i64 t6), (.int .i64 now)]), (.int .i64 later)] w13 fun v14 w14 =>
        Ext w13 w14 ∧
        ∃ t15 : Int, ∃ t16 : Int, v14 = (.tuple #[(.int .i64 t15), (.int .i64 t16)]) ∧
        ∀ w17, Ext w w17 →
        Q (.bool (((((decide (t6 ≤ t10)) && (decide (t16 = 0))) && (decide (t15 = t10))) && (decide (b_2 ≤ t6))) && (decide (t10 ≤ b_0)))) w17))

theorem ok5 (b_0 : Int) (b_1 : Int) (b_2 : Int) (b_3 : Int) (now : Int) (later : Int) (w : World) (Q : Value → World → Prop) (h : wp5 b_0 b_1 b_2 b_3 now later w Q) : FnP Try.prog 5 #[(.agg #[(.int .i64 b_0), (.int .i64 b_1), (.int .i64 b_2), (.int .i64 b_3)]), (.int .i64 now), (.int .i64 later)] w Q := by
  have e : wp5 b_0 b_1 b_2 b_3 now later w Q = Runs Try.prog Q ({ N := 88, wrap := [], pub := [], muts := [] } : Cfg) Try.f5 (Try.f5.body.getD .skip) [.agg [.int .i64 b_0, .int .i64 b_1, .int .i64 b_2, .int .i64 b_3], .sc (.int .i64 now), .sc (.int .i64 later)] w := by kernel_rfl
  rw [e] at h
  exact runs_fn h Try.func5 (by kernel_rfl) (fun args w => Try.call5 args w) (by kernel_rfl) (by kernel_rfl) rfl rfl

end Go.Proofs.Ytohgdhcgahjfoaa
