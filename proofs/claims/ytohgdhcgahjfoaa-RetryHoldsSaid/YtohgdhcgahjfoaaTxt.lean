/- The texts of this seat's functions: what each computes, as its symbolic run says it. -/
import Derived.Test.YtohgdhcgahjfoaaRows
import Derived.Test.YtohgdhcgahjfoaaSxC
set_option linter.unusedVariables false
set_option linter.unusedSimpArgs false
namespace Go.Proofs.Ytohgdhcgahjfoaa
open Go.Sx Go.RowKit

/-- shiftbell/retry.Check -/
def wp13 (p_0 : Int) (p_1 : Int) (p_2 : Int) (p_3 : Int) (w : World) (Q : Value → World → Prop) : Prop :=
  ∀ b0 : Nat, w.heap.size ≤ b0 → (((((((((p_0 < 1) ∨ (1000000000 < p_0)) ∨ (p_1 < 1)) ∨ (10 < p_1)) ∨ (p_2 < p_0)) ∨ (1000000000 < p_2)) ∨ (p_3 < 0)) ∨ (50 < p_3)) →
   ∀ w1, Ext w w1 →
   Q (.int .i64 4) w1) ∧
  (((((((((1 ≤ p_0) ∧ (p_0 ≤ 1000000000)) ∧ (1 ≤ p_1)) ∧ (p_1 ≤ 10)) ∧ (p_0 ≤ p_2)) ∧ (p_2 ≤ 1000000000)) ∧ (0 ≤ p_3)) ∧ (p_3 ≤ 50)) →
   ∀ w1, Ext w w1 →
   Q (.int .i64 0) w1)

theorem ok13 (p_0 : Int) (p_1 : Int) (p_2 : Int) (p_3 : Int) (w : World) (Q : Value → World → Prop) (h : wp13 p_0 p_1 p_2 p_3 w Q) : FnP Try.prog 13 #[(.agg #[(.int .i64 p_0), (.int .i64 p_1), (.int .i64 p_2), (.int .i64 p_3)])] w Q := by
  have e : wp13 p_0 p_1 p_2 p_3 w Q = Runs Try.prog Q ({ N := 43, wrap := [], pub := [], muts := [] } : Cfg) Try.f13 (Try.f13.body.getD .skip) [.agg [.int .i64 p_0, .int .i64 p_1, .int .i64 p_2, .int .i64 p_3]] w := by kernel_rfl
  rw [e] at h
  exact runs_fn h Try.func13 (by kernel_rfl) (fun args w => Try.call13 args w) (by kernel_rfl) (by kernel_rfl) rfl rfl

/-- shiftbell/retry.Delay -/
def wp8 (p_0 : Int) (p_1 : Int) (p_2 : Int) (p_3 : Int) (n : Int) (w : World) (Q : Value → World → Prop) : Prop :=
  ∀ b0 : Nat, w.heap.size ≤ b0 → ∀ w1, Ext w w1 →
  FnP Try.prog 13 #[(.agg #[(.int .i64 p_0), (.int .i64 p_1), (.int .i64 p_2), (.int .i64 p_3)])] w1 fun v2 w2 =>
   Ext w1 w2 ∧
   ∃ t3 : Int, v2 = (.int .i64 t3) ∧
   ((t3 ≠ 0) →
    ∀ w4, Ext w w4 →
    Q (.tuple #[(.int .i64 0), (.int .i64 t3)]) w4) ∧
   ((t3 = 0) →
    (((n < 1) ∨ (p_3 < n)) →
     ∀ w4, Ext w w4 →
     Q (.tuple #[(.int .i64 0), (.int .i64 5)]) w4) ∧
    (((1 ≤ n) ∧ (n ≤ p_3)) →
     InR .i64 (n - 1) ∧
     ∃ (I4 : Int → Int → World → Prop) (M4 : Int → Int → World → Nat), I4 p_0 0 w ∧
     ∀ (d5 : Int) (k6 : Int) (w7 : World), I4 d5 k6 w7 →
      ((k6 < (n - 1)) →
       InR .i64 (d5 * p_1) ∧
       InR .i64 (k6 + 1) ∧
       (I4 (min (d5 * p_1) p_2) (k6 + 1) w7 ∧ M4 (min (d5 * p_1) p_2) (k6 + 1) w7 < M4 d5 k6 w7)) ∧
      (((n - 1) ≤ k6) →
       ∀ w8, Ext w7 w8 →
       Q (.tuple #[(.int .i64 d5), (.int .i64 0)]) w8)))

theorem ok8 (p_0 : Int) (p_1 : Int) (p_2 : Int) (p_3 : Int) (n : Int) (w : World) (Q : Value → World → Prop) (h : wp8 p_0 p_1 p_2 p_3 n w Q) : FnP Try.prog 8 #[(.agg #[(.int .i64 p_0), (.int .i64 p_1), (.int .i64 p_2), (.int .i64 p_3)]), (.int .i64 n)] w Q := by
  have e : wp8 p_0 p_1 p_2 p_3 n w Q = Runs Try.prog Q ({ N := 36, wrap := [], pub := [], muts := [] } : Cfg) Try.f8 (Try.f8.body.getD .skip) [.agg [.int .i64 p_0, .int .i64 p_1, .int .i64 p_2, .int .i64 p_3], .sc (.int .i64 n)] w := by kernel_rfl
  rw [e] at h
  exact runs_fn h Try.func8 (by kernel_rfl) (fun args w => Try.call8 args w) (by kernel_rfl) (by kernel_rfl) rfl rfl

/-- shiftbell/retry.All -/
def wp12 (p_0 : Int) (p_1 : Int) (p_2 : Int) (p_3 : Int) (w : World) (Q : Value → World → Prop) : Prop :=
  ∀ b0 : Nat, w.heap.size ≤ b0 → ∀ w1, Ext w w1 →
  FnP Try.prog 13 #[(.agg #[(.int .i64 p_0), (.int .i64 p_1), (.int .i64 p_2), (.int .i64 p_3)])] w1 fun v2 w2 =>
   Ext w1 w2 ∧
   ∃ t3 : Int, v2 = (.int .i64 t3) ∧
   ((t3 ≠ 0) →
    ∀ w4, Ext w w4 →
    Q (.tuple #[(.int .i64 0), (.int .i64 t3)]) w4) ∧
   ((t3 = 0) →
    ∃ (I4 : Int → Int → World → Prop) (M4 : Int → Int → World → Nat), I4 0 0 w ∧
    ∀ (sum5 : Int) (k6 : Int) (w7 : World), I4 sum5 k6 w7 →
     ((k6 < p_3) →
      InR .i64 (k6 + 1) ∧
      ∀ w8, Ext w7 w8 →
      FnP Try.prog 8 #[(.agg #[(.int .i64 p_0), (.int .i64 p_1), (.int .i64 p_2), (.int .i64 p_3)]), (.int .i64 (k6 + 1))] w8 fun v9 w9 =>
       Ext w8 w9 ∧
       ∃ t10 : Int, ∃ t11 : Int, v9 = (.tuple #[(.int .i64 t10), (.int .i64 t11)]) ∧
       InR .i64 (sum5 + t10) ∧
       InR .i64 (k6 + 1) ∧
       (I4 (sum5 + t10) (k6 + 1) w7 ∧ M4 (sum5 + t10) (k6 + 1) w7 < M4 sum5 k6 w7)) ∧
     ((p_3 ≤ k6) →
      ∀ w8, Ext w7 w8 →
      Q (.tuple #[(.int .i64 sum5), (.int .i64 0)]) w8))

theorem ok12 (p_0 : Int) (p_1 : Int) (p_2 : Int) (p_3 : Int) (w : World) (Q : Value → World → Prop) (h : wp12 p_0 p_1 p_2 p_3 w Q) : FnP Try.prog 12 #[(.agg #[(.int .i64 p_0), (.int .i64 p_1), (.int .i64 p_2), (.int .i64 p_3)])] w Q := by
  have e : wp12 p_0 p_1 p_2 p_3 w Q = Runs Try.prog Q ({ N := 31, wrap := [], pub := [], muts := [] } : Cfg) Try.f12 (Try.f12.body.getD .skip) [.agg [.int .i64 p_0, .int .i64 p_1, .int .i64 p_2, .int .i64 p_3]] w := by kernel_rfl
  rw [e] at h
  exact runs_fn h Try.func12 (by kernel_rfl) (fun args w => Try.call12 args w) (by kernel_rfl) (by kernel_rfl) rfl rfl

/-- shiftbell/shiftbellkeep.retries -/
def wp7  (w : World) (Q : Value → World → Prop) : Prop :=
  ∀ w0, Ext w w0 →
  FnP Try.prog 12 #[(.agg #[(.int .i64 2), (.int .i64 2), (.int .i64 3), (.int .i64 2)])] w0 fun v1 w1 =>
   Ext w0 w1 ∧
   ∃ t2 : Int, ∃ t3 : Int, v1 = (.tuple #[(.int .i64 t2), (.int .i64 t3)]) ∧
   ∀ w4, Ext w w4 →
   Q (.bool ((decide (t3 = 0)) && (decide (t2 = 5)))) w4

theorem ok7  (w : World) (Q : Value → World → Prop) (h : wp7  w Q) : FnP Try.prog 7 #[] w Q := by
  have e : wp7  w Q = Runs Try.prog Q ({ N := 14, wrap := [], pub := [], muts := [] } : Cfg) Try.f7 (Try.f7.body.getD .skip) [] w := by kernel_rfl
  rw [e] at h
  exact runs_fn h Try.func7 (by kernel_rfl) (fun args w => Try.call7 args w) (by kernel_rfl) (by kernel_rfl) rfl rfl

/-- shiftbell/shiftbellkeep.RetryGrows -/
def wp3 (p_0 : Int) (p_1 : Int) (p_2 : Int) (p_3 : Int) (n : Int) (w : World) (Q : Value → World → Prop) : Prop :=
  ∀ b0 : Nat, w.heap.size ≤ b0 → ∀ w1, Ext w w1 →
  FnP Try.prog 7 #[] w1 fun v2 w2 =>
   Ext w1 w2 ∧
   ∃ t3 : Bool, v2 = (.bool t3) ∧
   ((t3 = false) →
    ∀ w4, Ext w w4 →
    Q (.bool false) w4) ∧
   ((t3 = true) →
    ∀ w4, Ext w w4 →
    FnP Try.prog 8 #[(.agg #[(.int .i64 p_0), (.int .i64 p_1), (.int .i64 p_2), (.int .i64 p_3)]), (.int .i64 n)] w4 fun v5 w5 =>
     Ext w4 w5 ∧
     ∃ t6 : Int, ∃ t7 : Int, v5 = (.tuple #[(.int .i64 t6), (.int .i64 t7)]) ∧
     ∀ w8, Ext w w8 →
     FnP Try.prog 8 #[(.agg #[(.int .i64 p_0), (.int .i64 p_1), (.int .i64 p_2), (.int .i64 p_3)]), (.int .i64 (IntKind.wrap .i64 (n + 1)))] w8 fun v9 w9 =>
      Ext w8 w9 ∧
      ∃ t10 : Int, ∃ t11 : Int, v9 = (.tuple #[(.int .i64 t10), (.int .i64 t11)]) ∧
      ((t7 ≠ 0) →
       ∀ w12, Ext w w12 →
       Q (.bool (decide (t6 = 0))) w12) ∧
      ((t7 = 0) →
       ((((p_0 ≤ t6) ∧ (t6 ≤ p_2)) ∧ ((1 < n) ∨ (t6 = p_0))) →
        (((t11 = 0) ∨ (n ≠ p_3)) →
         (((t11 = 0) ∧ (t6 ≤ t10)) →
          ((t10 ≠ p_2) →
           InR .i64 (t6 * p_1))))) ∧
       ∀ w12, Ext w w12 →
       Q (.bool ((((decide (p_0 ≤ t6)) && (decide (t6 ≤ p_2))) && ((decide (1 < n)) || (decide (t6 = p_0)))) && (((decide (t11 ≠ 0)) && (decide (n = p_3))) || (((decide (t11 = 0)) && (decide (t6 ≤ t10))) && ((decide (t10 = p_2)) || (decide (t10 = (t6 * p_1)))))))) w12))

theorem ok3 (p_0 : Int) (p_1 : Int) (p_2 : Int) (p_3 : Int) (n : Int) (w : World) (Q : Value → World → Prop) (h : wp3 p_0 p_1 p_2 p_3 n w Q) : FnP Try.prog 3 #[(.agg #[(.int .i64 p_0), (.int .i64 p_1), (.int .i64 p_2), (.int .i64 p_3)]), (.int .i64 n)] w Q := by
  have e : wp3 p_0 p_1 p_2 p_3 n w Q = Runs Try.prog Q ({ N := 81, wrap := [20], pub := [], muts := [] } : Cfg) Try.f3 (Try.f3.body.getD .skip) [.agg [.int .i64 p_0, .int .i64 p_1, .int .i64 p_2, .int .i64 p_3], .sc (.int .i64 n)] w := by kernel_rfl
  rw [e] at h
  exact runs_fn h Try.func3 (by kernel_rfl) (fun args w => Try.call3 args w) (by kernel_rfl) (by kernel_rfl) rfl rfl

/-- shiftbell/retry.mix -/
def wp14 (seed : Int) (n : Int) (w : World) (Q : Value → World → Prop) : Prop :=
  ∀ w0, Ext w w0 →
  Q (.int .u64 (iBit .xor .u64 (IntKind.wrap .u64 ((iBit .xor .u64 (IntKind.wrap .u64 (seed + (IntKind.wrap .u64 ((IntKind.wrap .u64 n) * 11415608902753622599)))) (iBit .shr .u64 (IntKind.wrap .u64 (seed + (IntKind.wrap .u64 ((IntKind.wrap .u64 n) * 11415608902753622599)))) 32)) * 15074714826142052245)) (iBit .shr .u64 (IntKind.wrap .u64 ((iBit .xor .u64 (IntKind.wrap .u64 (seed + (IntKind.wrap .u64 ((IntKind.wrap .u64 n) * 11415608902753622599)))) (iBit .shr .u64 (IntKind.wrap .u64 (seed + (IntKind.wrap .u64 ((IntKind.wrap .u64 n) * 11415608902753622599)))) 32)) * 15074714826142052245)) 29))) w0

theorem ok14 (seed : Int) (n : Int) (w : World) (Q : Value → World → Prop) (h : wp14 seed n w Q) : FnP Try.prog 14 #[(.int .u64 seed), (.int .i64 n)] w Q := by
  have e : wp14 seed n w Q = Runs Try.prog Q ({ N := 21, wrap := [8, 9, 10, 14, 16, 20], pub := [], muts := [] } : Cfg) Try.f14 (Try.f14.body.getD .skip) [.sc (.int .u64 seed), .sc (.int .i64 n)] w := by kernel_rfl
  rw [e] at h
  exact runs_fn h Try.func14 (by kernel_rfl) (fun args w => Try.call14 args w) (by kernel_rfl) (by kernel_rfl) rfl rfl

/-- shiftbell/retry.Wait -/
def wp9 (p_0 : Int) (p_1 : Int) (p_2 : Int) (p_3 : Int) (n : Int) (seed : Int) (w : World) (Q : Value → World → Prop) : Prop :=
  ∀ b0 : Nat, w.heap.size ≤ b0 → ∀ w1, Ext w w1 →
  FnP Try.prog 8 #[(.agg #[(.int .i64 p_0), (.int .i64 p_1), (.int .i64 p_2), (.int .i64 p_3)]), (.int .i64 n)] w1 fun v2 w2 =>
   Ext w1 w2 ∧
   ∃ t3 : Int, ∃ t4 : Int, v2 = (.tuple #[(.int .i64 t3), (.int .i64 t4)]) ∧
   ((t4 ≠ 0) →
    ∀ w5, Ext w w5 →
    Q (.tuple #[(.int .i64 0), (.int .i64 t4)]) w5) ∧
   ((t4 = 0) →
    InR .i64 (t3.tdiv 2) ∧
    ∀ w5, Ext w w5 →
    FnP Try.prog 14 #[(.int .u64 seed), (.int .i64 n)] w5 fun v6 w6 =>
     Ext w5 w6 ∧
     ∃ t7 : Int, v6 = (.int .u64 t7) ∧
     InR .i64 (t3 - (t3.tdiv 2)) ∧
     InR .i64 ((t3 - (t3.tdiv 2)) + 1) ∧
     InR .u64 ((t3 - (t3.tdiv 2)) + 1) ∧
     ((t3 - (t3.tdiv 2)) + 1) ≠ 0 ∧
     InR .i64 (t7.tmod ((t3 - (t3.tdiv 2)) + 1)) ∧
     InR .i64 ((t3.tdiv 2) + (t7.tmod ((t3 - (t3.tdiv 2)) + 1))) ∧
     ∀ w8, Ext w w8 →
     Q (.tuple #[(.int .i64 ((t3.tdiv 2) + (t7.tmod ((t3 - (t3.tdiv 2)) + 1)))), (.int .i64 0)]) w8)

theorem ok9 (p_0 : Int) (p_1 : Int) (p_2 : Int) (p_3 : Int) (n : Int) (seed : Int) (w : World) (Q : Value → World → Prop) (h : wp9 p_0 p_1 p_2 p_3 n seed w Q) : FnP Try.prog 9 #[(.agg #[(.int .i64 p_0), (.int .i64 p_1), (.int .i64 p_2), (.int .i64 p_3)]), (.int .i64 n), (.int .u64 seed)] w Q := by
  have e : wp9 p_0 p_1 p_2 p_3 n seed w Q = Runs Try.prog Q ({ N := 34, wrap := [], pub := [], muts := [] } : Cfg) Try.f9 (Try.f9.body.getD .skip) [.agg [.int .i64 p_0, .int .i64 p_1, .int .i64 p_2, .int .i64 p_3], .sc (.int .i64 n), .sc (.int .u64 seed)] w := by kernel_rfl
  rw [e] at h
  exact runs_fn h Try.func9 (by kernel_rfl) (fun args w => Try.call9 args w) (by kernel_rfl) (by kernel_rfl) rfl rfl

/-- shiftbell/shiftbellkeep.RetryWaits -/
def wp4 (p_0 : Int) (p_1 : Int) (p_2 : Int) (p_3 : Int) (n : Int) (seed : Int) (w : World) (Q : Value → World → Prop) : Prop :=
  ∀ b0 : Nat, w.heap.size ≤ b0 → ∀ w1, Ext w w1 →
  FnP Try.prog 7 #[] w1 fun v2 w2 =>
   Ext w1 w2 ∧
   ∃ t3 : Bool, v2 = (.bool t3) ∧
   ((t3 = false) →
    ∀ w4, Ext w w4 →
    Q (.bool false) w4) ∧
   ((t3 = true) →
    ∀ w4, Ext w w4 →
    FnP Try.prog 8 #[(.agg #[(.int .i64 p_0), (.int .i64 p_1), (.int .i64 p_2), (.int .i64 p_3)]), (.int .i64 n)] w4 fun v5 w5 =>
     Ext w4 w5 ∧
     ∃ t6 : Int, ∃ t7 : Int, v5 = (.tuple #[(.int .i64 t6), (.int .i64 t7)]) ∧
     ∀ w8, Ext w w8 →
     FnP Try.prog 9 #[(.agg #[(.int .i64 p_0), (.int .i64 p_1), (.int .i64 p_2), (.int .i64 p_3)]), (.int .i64 n), (.int .u64 seed)] w8 fun v9 w9 =>
      Ext w8 w9 ∧
      ∃ t10 : Int, ∃ t11 : Int, v9 = (.tuple #[(.int .i64 t10), (.int .i64 t11)]) ∧
      ((t7 ≠ 0) →
       ∀ w12, Ext w w12 →
       Q (.bool ((decide (t7 = t11)) && (decide (t10 = 0)))) w12) ∧
      ((t7 = 0) →
       ((t11 = 0) →
        InR .i64 (t6.tdiv 2)) ∧
       ∀ w12, Ext w w12 →
       Q (.bool (((decide (t11 = 0)) && (decide ((t6.tdiv 2) ≤ t10))) && (decide (t10 ≤ t6)))) w12))

theorem ok4 (p_0 : Int) (p_1 : Int) (p_2 : Int) (p_3 : Int) (n : Int) (seed : Int) (w : World) (Q : Value → World → Prop) (h : wp4 p_0 p_1 p_2 p_3 n seed w Q) : FnP Try.prog 4 #[(.agg #[(.int .i64 p_0), (.int .i64 p_1), (.int .i64 p_2), (.int .i64 p_3)]), (.int .i64 n), (.int .u64 seed)] w Q := by
  have e : wp4 p_0 p_1 p_2 p_3 n seed w Q = Runs Try.prog Q ({ N := 48, wrap := [], pub := [], muts := [] } : Cfg) Try.f4 (Try.f4.body.getD .skip) [.agg [.int .i64 p_0, .int .i64 p_1, .int .i64 p_2, .int .i64 p_3], .sc (.int .i64 n), .sc (.int .u64 seed)] w := by kernel_rfl
  rw [e] at h
  exact runs_fn h Try.func4 (by kernel_rfl) (fun args w => Try.call4 args w) (by kernel_rfl) (by kernel_rfl) rfl rfl

end Go.Proofs.Ytohgdhcgahjfoaa
