/- The texts of this seat's functions: what each computes, as its symbolic run says it. -/
import Derived.Test.YtohgdhcgahjfoaaRows
import Derived.Test.YtohgdhcgahjfoaaSxD
import Derived.Test.YtohgdhcgahjfoaaSxN
set_option linter.unusedVariables false
set_option linter.unusedSimpArgs false
set_option maxRecDepth 100000
namespace Go.Proofs.Ytohgdhcgahjfoaa
open Go.Sx Go.RowKit

abbrev F_shiftbellkeep_RetryBucket : FuncId := 6
abbrev F_shiftbellkeep_retries : FuncId := 7
abbrev F_retry_Delay : FuncId := 8
abbrev F_retry_Have : FuncId := 10
abbrev F_retry_Grant : FuncId := 11
abbrev F_retry_All : FuncId := 12
abbrev F_retry_Check : FuncId := 13
abbrev F_math_bits_Mul64 : FuncId := 15
abbrev T__0 : TypeId := 0
abbrev T_int64 : TypeId := 2
abbrev T_int : TypeId := 3
abbrev T_bool : TypeId := 4
abbrev T_uint8 : TypeId := 5
abbrev T_string : TypeId := 9
abbrev T_uintptr : TypeId := 12
abbrev T_int32 : TypeId := 21
abbrev T_Policy : TypeId := 23
abbrev T_Errno : TypeId := 25
abbrev T_int64_Errno : TypeId := 26
abbrev T_uint64 : TypeId := 29
abbrev T_Bucket : TypeId := 33
abbrev T_sl_int64 : TypeId := 36
abbrev T_Bucket_bool_Errno : TypeId := 37
abbrev T_uint64_uint64 : TypeId := 43
abbrev T_uint : TypeId := 45
abbrev T_uint32 : TypeId := 53
abbrev T_ptr_uint8 : TypeId := 57
abbrev T_unsafe_Pointer : TypeId := 62
theorem elem_sl_int64 : slEl Try.prog 36 = some (2, 1, 8, (.int .i64 0)) := by kernel_rfl

/-- shiftbell/retry.Check -/
def wp_retry_Check (p_0 : Int) (p_1 : Int) (p_2 : Int) (p_3 : Int) (w : World) (Q : Value → World → Prop) : Prop :=
  ∀ b0 : Nat, w.heap.size ≤ b0 → (((((((((p_0 < 1) ∨ (1000000000 < p_0)) ∨ (p_1 < 1)) ∨ (10 < p_1)) ∨ (p_2 < p_0)) ∨ (1000000000 < p_2)) ∨ (p_3 < 0)) ∨ (50 < p_3)) →
   ∀ w1, Ext w w1 →
   Q (.int .i64 4) w1) ∧
  (((((((((1 ≤ p_0) ∧ (p_0 ≤ 1000000000)) ∧ (1 ≤ p_1)) ∧ (p_1 ≤ 10)) ∧ (p_0 ≤ p_2)) ∧ (p_2 ≤ 1000000000)) ∧ (0 ≤ p_3)) ∧ (p_3 ≤ 50)) →
   ∀ w1, Ext w w1 →
   Q (.int .i64 0) w1)

theorem ok_retry_Check (p_0 : Int) (p_1 : Int) (p_2 : Int) (p_3 : Int) (w : World) (Q : Value → World → Prop) (h : wp_retry_Check p_0 p_1 p_2 p_3 w Q) : FnP Try.prog F_retry_Check #[(.agg #[(.int .i64 p_0), (.int .i64 p_1), (.int .i64 p_2), (.int .i64 p_3)])] w Q := by
  have e_ : wp_retry_Check p_0 p_1 p_2 p_3 w Q = Runs Try.prog Q ({ N := 43, wrap := [], pub := [], muts := [] } : Cfg) Try.f13 (Try.f13.body.getD .skip) [.agg [.int .i64 p_0, .int .i64 p_1, .int .i64 p_2, .int .i64 p_3]] w := by kernel_rfl
  rw [e_] at h
  exact runs_fn h Try.func13 (by kernel_rfl) (fun args w => Try.call13 args w) (by kernel_rfl) (by kernel_rfl) rfl rfl

/-- shiftbell/retry.Delay -/
def wp_retry_Delay (p_0 : Int) (p_1 : Int) (p_2 : Int) (p_3 : Int) (n : Int) (w : World) (Q : Value → World → Prop) : Prop :=
  ∀ b0 : Nat, w.heap.size ≤ b0 → ∀ w1, Ext w w1 →
  FnP Try.prog F_retry_Check #[(.agg #[(.int .i64 p_0), (.int .i64 p_1), (.int .i64 p_2), (.int .i64 p_3)])] w1 fun v2 w2 =>
   Ext w1 w2 ∧
   ∃ t3 : Int, v2 = (.int .i64 t3) ∧
   ((t3 ≠ 0) →
    ∀ w4, Ext w w4 →
    Q (.tuple #[(.int .i64 0), (.int .i64 t3)]) w4) ∧
   ((t3 = 0) →
    (((n < 1) ∨ (p_3 < n)) →
     ∀ w4, Ext w w4 →
     Q (.tuple #[(.int .i64 0), (.int .i64 5)]) w4) ∧
    (((1 ≤ n) ∧ (n ≤ p_3)) →
     InR .i64 (n - 1) ∧
     ∃ (I4 : Int → Int → World → Prop) (M4 : Int → Int → World → Nat), I4 p_0 0 w ∧
     ∀ (d5 : Int) (k6 : Int) (w7 : World), I4 d5 k6 w7 →
      ((k6 < (n - 1)) →
       InR .i64 (d5 * p_1) ∧
       InR .i64 (k6 + 1) ∧
       (I4 (min (d5 * p_1) p_2) (k6 + 1) w7 ∧ M4 (min (d5 * p_1) p_2) (k6 + 1) w7 < M4 d5 k6 w7)) ∧
      (((n - 1) ≤ k6) →
       ∀ w8, Ext w7 w8 →
       Q (.tuple #[(.int .i64 d5), (.int .i64 0)]) w8)))

theorem ok_retry_Delay (p_0 : Int) (p_1 : Int) (p_2 : Int) (p_3 : Int) (n : Int) (w : World) (Q : Value → World → Prop) (h : wp_retry_Delay p_0 p_1 p_2 p_3 n w Q) : FnP Try.prog F_retry_Delay #[(.agg #[(.int .i64 p_0), (.int .i64 p_1), (.int .i64 p_2), (.int .i64 p_3)]), (.int .i64 n)] w Q := by
  have e_ : wp_retry_Delay p_0 p_1 p_2 p_3 n w Q = Runs Try.prog Q ({ N := 36, wrap := [], pub := [], muts := [] } : Cfg) Try.f8 (Try.f8.body.getD .skip) [.agg [.int .i64 p_0, .int .i64 p_1, .int .i64 p_2, .int .i64 p_3], .sc (.int .i64 n)] w := by kernel_rfl
  rw [e_] at h
  exact runs_fn h Try.func8 (by kernel_rfl) (fun args w => Try.call8 args w) (by kernel_rfl) (by kernel_rfl) rfl rfl

/-- shiftbell/retry.All -/
def wp_retry_All (p_0 : Int) (p_1 : Int) (p_2 : Int) (p_3 : Int) (w : World) (Q : Value → World → Prop) : Prop :=
  ∀ b0 : Nat, w.heap.size ≤ b0 → ∀ w1, Ext w w1 →
  FnP Try.prog F_retry_Check #[(.agg #[(.int .i64 p_0), (.int .i64 p_1), (.int .i64 p_2), (.int .i64 p_3)])] w1 fun v2 w2 =>
   Ext w1 w2 ∧
   ∃ t3 : Int, v2 = (.int .i64 t3) ∧
   ((t3 ≠ 0) →
    ∀ w4, Ext w w4 →
    Q (.tuple #[(.int .i64 0), (.int .i64 t3)]) w4) ∧
   ((t3 = 0) →
    ∃ (I4 : Int → Int → World → Prop) (M4 : Int → Int → World → Nat), I4 0 0 w ∧
    ∀ (sum5 : Int) (k6 : Int) (w7 : World), I4 sum5 k6 w7 →
     ((k6 < p_3) →
      InR .i64 (k6 + 1) ∧
      ∀ w8, Ext w7 w8 →
      FnP Try.prog F_retry_Delay #[(.agg #[(.int .i64 p_0), (.int .i64 p_1), (.int .i64 p_2), (.int .i64 p_3)]), (.int .i64 (k6 + 1))] w8 fun v9 w9 =>
       Ext w8 w9 ∧
       ∃ t10 : Int, ∃ t11 : Int, v9 = (.tuple #[(.int .i64 t10), (.int .i64 t11)]) ∧
       InR .i64 (sum5 + t10) ∧
       InR .i64 (k6 + 1) ∧
       (I4 (sum5 + t10) (k6 + 1) w7 ∧ M4 (sum5 + t10) (k6 + 1) w7 < M4 sum5 k6 w7)) ∧
     ((p_3 ≤ k6) →
      ∀ w8, Ext w7 w8 →
      Q (.tuple #[(.int .i64 sum5), (.int .i64 0)]) w8))

theorem ok_retry_All (p_0 : Int) (p_1 : Int) (p_2 : Int) (p_3 : Int) (w : World) (Q : Value → World → Prop) (h : wp_retry_All p_0 p_1 p_2 p_3 w Q) : FnP Try.prog F_retry_All #[(.agg #[(.int .i64 p_0), (.int .i64 p_1), (.int .i64 p_2), (.int .i64 p_3)])] w Q := by
  have e_ : wp_retry_All p_0 p_1 p_2 p_3 w Q = Runs Try.prog Q ({ N := 31, wrap := [], pub := [], muts := [] } : Cfg) Try.f12 (Try.f12.body.getD .skip) [.agg [.int .i64 p_0, .int .i64 p_1, .int .i64 p_2, .int .i64 p_3]] w := by kernel_rfl
  rw [e_] at h
  exact runs_fn h Try.func12 (by kernel_rfl) (fun args w => Try.call12 args w) (by kernel_rfl) (by kernel_rfl) rfl rfl

/-- shiftbell/retry.Have -/
def wp_retry_Have (b_0 : Int) (b_1 : Int) (b_2 : Int) (b_3 : Int) (now : Int) (w : World) (Q : Value → World → Prop) : Prop :=
  ∀ b0 : Nat, w.heap.size ≤ b0 → (((((((((b_0 < 1) ∨ (1099511627776 < b_0)) ∨ (b_1 < 0)) ∨ (1099511627776 < b_1)) ∨ (b_2 < 0)) ∨ (b_0 < b_2)) ∨ (b_3 < 0)) ∨ (1099511627776 < b_3)) →
   ∀ w1, Ext w w1 →
   Q (.tuple #[(.int .i64 0), (.int .i64 4)]) w1) ∧
  (((((((((1 ≤ b_0) ∧ (b_0 ≤ 1099511627776)) ∧ (0 ≤ b_1)) ∧ (b_1 ≤ 1099511627776)) ∧ (0 ≤ b_2)) ∧ (b_2 ≤ b_0)) ∧ (0 ≤ b_3)) ∧ (b_3 ≤ 1099511627776)) →
   ((now < b_3) →
    ∀ w1, Ext w w1 →
    Q (.tuple #[(.int .i64 0), (.int .i64 11)]) w1) ∧
   ((b_3 ≤ now) →
    ((1099511627776 < now) →
     ∀ w1, Ext w w1 →
     Q (.tuple #[(.int .i64 0), (.int .i64 4)]) w1) ∧
    ((now ≤ 1099511627776) →
     InR .u64 b_1 ∧
     InR .i64 (now - b_3) ∧
     InR .u64 (now - b_3) ∧
     ∀ w1, Ext w w1 →
     FnP Try.prog F_math_bits_Mul64 #[(.int .u64 b_1), (.int .u64 (now - b_3))] w1 fun v2 w2 =>
      Ext w1 w2 ∧
      ∃ t3 : Int, ∃ t4 : Int, v2 = (.tuple #[(.int .u64 t3), (.int .u64 t4)]) ∧
      InR .i64 (b_0 - b_2) ∧
      ((t3 ≤ 0) →
       InR .u64 (b_0 - b_2)) ∧
      (((0 < t3) ∨ ((b_0 - b_2) < t4)) →
       ∀ w5, Ext w w5 →
       Q (.tuple #[(.int .i64 b_0), (.int .i64 0)]) w5) ∧
      (((t3 ≤ 0) ∧ (t4 ≤ (b_0 - b_2))) →
       InR .i64 t4 ∧
       InR .i64 (b_2 + t4) ∧
       ∀ w5, Ext w w5 →
       Q (.tuple #[(.int .i64 (b_2 + t4)), (.int .i64 0)]) w5))))

theorem ok_retry_Have (b_0 : Int) (b_1 : Int) (b_2 : Int) (b_3 : Int) (now : Int) (w : World) (Q : Value → World → Prop) (h : wp_retry_Have b_0 b_1 b_2 b_3 now w Q) : FnP Try.prog F_retry_Have #[(.agg #[(.int .i64 b_0), (.int .i64 b_1), (.int .i64 b_2), (.int .i64 b_3)]), (.int .i64 now)] w Q := by
  have e_ : wp_retry_Have b_0 b_1 b_2 b_3 now w Q = Runs Try.prog Q ({ N := 90, wrap := [], pub := [], muts := [] } : Cfg) Try.f10 (Try.f10.body.getD .skip) [.agg [.int .i64 b_0, .int .i64 b_1, .int .i64 b_2, .int .i64 b_3], .sc (.int .i64 now)] w := by kernel_rfl
  rw [e_] at h
  exact runs_fn h Try.func10 (by kernel_rfl) (fun args w => Try.call10 args w) (by kernel_rfl) (by kernel_rfl) rfl rfl

/-- shiftbell/retry.Grant -/
def wp_retry_Grant (b_0 : Int) (b_1 : Int) (b_2 : Int) (b_3 : Int) (now : Int) (n : Int) (w : World) (Q : Value → World → Prop) : Prop :=
  ∀ b0 : Nat, w.heap.size ≤ b0 → ∀ b1 : Nat, w.heap.size ≤ b1 → ∀ w2, Ext w w2 →
  FnP Try.prog F_retry_Have #[(.agg #[(.int .i64 b_0), (.int .i64 b_1), (.int .i64 b_2), (.int .i64 b_3)]), (.int .i64 now)] w2 fun v3 w3 =>
   Ext w2 w3 ∧
   ∃ t4 : Int, ∃ t5 : Int, v3 = (.tuple #[(.int .i64 t4), (.int .i64 t5)]) ∧
   (((t5 = 0) ∧ ((n < 0) ∨ (1099511627776 < n))) →
    ∀ w6, Ext w w6 →
    Q (.tuple #[(.agg #[(.int .i64 0), (.int .i64 0), (.int .i64 0), (.int .i64 0)]), (.bool false), (.int .i64 4)]) w6) ∧
   (((t5 ≠ 0) ∨ ((0 ≤ n) ∧ (n ≤ 1099511627776))) →
    ((t5 ≠ 0) →
     ∀ w6, Ext w w6 →
     Q (.tuple #[(.agg #[(.int .i64 0), (.int .i64 0), (.int .i64 0), (.int .i64 0)]), (.bool false), (.int .i64 t5)]) w6) ∧
    ((t5 = 0) →
     ((t4 < n) →
      ∀ w6, Ext w w6 →
      Q (.tuple #[(.agg #[(.int .i64 b_0), (.int .i64 b_1), (.int .i64 b_2), (.int .i64 b_3)]), (.bool false), (.int .i64 0)]) w6) ∧
     ((n ≤ t4) →
      InR .i64 (t4 - n) ∧
      ∀ w6, Ext w w6 →
      Q (.tuple #[(.agg #[(.int .i64 b_0), (.int .i64 b_1), (.int .i64 (t4 - n)), (.int .i64 now)]), (.bool true), (.int .i64 0)]) w6)))

theorem ok_retry_Grant (b_0 : Int) (b_1 : Int) (b_2 : Int) (b_3 : Int) (now : Int) (n : Int) (w : World) (Q : Value → World → Prop) (h : wp_retry_Grant b_0 b_1 b_2 b_3 now n w Q) : FnP Try.prog F_retry_Grant #[(.agg #[(.int .i64 b_0), (.int .i64 b_1), (.int .i64 b_2), (.int .i64 b_3)]), (.int .i64 now), (.int .i64 n)] w Q := by
  have e_ : wp_retry_Grant b_0 b_1 b_2 b_3 now n w Q = Runs Try.prog Q ({ N := 46, wrap := [], pub := [], muts := [] } : Cfg) Try.f11 (Try.f11.body.getD .skip) [.agg [.int .i64 b_0, .int .i64 b_1, .int .i64 b_2, .int .i64 b_3], .sc (.int .i64 now), .sc (.int .i64 n)] w := by kernel_rfl
  rw [e_] at h
  exact runs_fn h Try.func11 (by kernel_rfl) (fun args w => Try.call11 args w) (by kernel_rfl) (by kernel_rfl) rfl rfl

/-- math/bits.Mul64 -/
def wp_math_bits_Mul64 (x : Int) (y : Int) (w : World) (Q : Value → World → Prop) : Prop :=
  InR .u64 ((iBit .and .u64 x 4294967295) * (iBit .and .u64 y 4294967295)) ∧
  InR .u64 ((iBit .shr .u64 x 32) * (iBit .and .u64 y 4294967295)) ∧
  InR .u64 (((iBit .shr .u64 x 32) * (iBit .and .u64 y 4294967295)) + (iBit .shr .u64 ((iBit .and .u64 x 4294967295) * (iBit .and .u64 y 4294967295)) 32)) ∧
  InR .u64 ((iBit .and .u64 x 4294967295) * (iBit .shr .u64 y 32)) ∧
  InR .u64 ((iBit .and .u64 (((iBit .shr .u64 x 32) * (iBit .and .u64 y 4294967295)) + (iBit .shr .u64 ((iBit .and .u64 x 4294967295) * (iBit .and .u64 y 4294967295)) 32)) 4294967295) + ((iBit .and .u64 x 4294967295) * (iBit .shr .u64 y 32))) ∧
  InR .u64 ((iBit .shr .u64 x 32) * (iBit .shr .u64 y 32)) ∧
  InR .u64 (((iBit .shr .u64 x 32) * (iBit .shr .u64 y 32)) + (iBit .shr .u64 (((iBit .shr .u64 x 32) * (iBit .and .u64 y 4294967295)) + (iBit .shr .u64 ((iBit .and .u64 x 4294967295) * (iBit .and .u64 y 4294967295)) 32)) 32)) ∧
  InR .u64 ((((iBit .shr .u64 x 32) * (iBit .shr .u64 y 32)) + (iBit .shr .u64 (((iBit .shr .u64 x 32) * (iBit .and .u64 y 4294967295)) + (iBit .shr .u64 ((iBit .and .u64 x 4294967295) * (iBit .and .u64 y 4294967295)) 32)) 32)) + (iBit .shr .u64 ((iBit .and .u64 (((iBit .shr .u64 x 32) * (iBit .and .u64 y 4294967295)) + (iBit .shr .u64 ((iBit .and .u64 x 4294967295) * (iBit .and .u64 y 4294967295)) 32)) 4294967295) + ((iBit .and .u64 x 4294967295) * (iBit .shr .u64 y 32))) 32)) ∧
  ∀ w0, Ext w w0 →
  Q (.tuple #[(.int .u64 ((((iBit .shr .u64 x 32) * (iBit .shr .u64 y 32)) + (iBit .shr .u64 (((iBit .shr .u64 x 32) * (iBit .and .u64 y 4294967295)) + (iBit .shr .u64 ((iBit .and .u64 x 4294967295) * (iBit .and .u64 y 4294967295)) 32)) 32)) + (iBit .shr .u64 ((iBit .and .u64 (((iBit .shr .u64 x 32) * (iBit .and .u64 y 4294967295)) + (iBit .shr .u64 ((iBit .and .u64 x 4294967295) * (iBit .and .u64 y 4294967295)) 32)) 4294967295) + ((iBit .and .u64 x 4294967295) * (iBit .shr .u64 y 32))) 32))), (.int .u64 (IntKind.wrap .u64 (x * y)))]) w0

theorem ok_math_bits_Mul64 (x : Int) (y : Int) (w : World) (Q : Value → World → Prop) (h : wp_math_bits_Mul64 x y w Q) : FnP Try.prog F_math_bits_Mul64 #[(.int .u64 x), (.int .u64 y)] w Q := by
  have e_ : wp_math_bits_Mul64 x y w Q = Runs Try.prog Q ({ N := 51, wrap := [50], pub := [], muts := [] } : Cfg) Try.f15 (Try.f15.body.getD .skip) [.sc (.int .u64 x), .sc (.int .u64 y)] w := by kernel_rfl
  rw [e_] at h
  exact runs_fn h Try.func15 (by kernel_rfl) (fun args w => Try.call15 args w) (by kernel_rfl) (by kernel_rfl) rfl rfl

/-- shiftbell/shiftbellkeep.retries -/
def wp_shiftbellkeep_retries  (w : World) (Q : Value → World → Prop) : Prop :=
  ∀ w0, Ext w w0 →
  FnP Try.prog F_retry_All #[(.agg #[(.int .i64 2), (.int .i64 2), (.int .i64 3), (.int .i64 2)])] w0 fun v1 w1 =>
   Ext w0 w1 ∧
   ∃ t2 : Int, ∃ t3 : Int, v1 = (.tuple #[(.int .i64 t2), (.int .i64 t3)]) ∧
   ∀ w4, Ext w w4 →
   Q (.bool ((decide (t3 = 0)) && (decide (t2 = 5)))) w4

theorem ok_shiftbellkeep_retries  (w : World) (Q : Value → World → Prop) (h : wp_shiftbellkeep_retries  w Q) : FnP Try.prog F_shiftbellkeep_retries #[] w Q := by
  have e_ : wp_shiftbellkeep_retries  w Q = Runs Try.prog Q ({ N := 14, wrap := [], pub := [], muts := [] } : Cfg) Try.f7 (Try.f7.body.getD .skip) [] w := by kernel_rfl
  rw [e_] at h
  exact runs_fn h Try.func7 (by kernel_rfl) (fun args w => Try.call7 args w) (by kernel_rfl) (by kernel_rfl) rfl rfl

/-- shiftbell/shiftbellkeep.RetryBucket -/
def wp_shiftbellkeep_RetryBucket (b_0 : Int) (b_1 : Int) (b_2 : Int) (b_3 : Int) (at_v : Option Addr) (at_vl : Nat) (at_vc : Nat) (want : Option Addr) (wantl : Nat) (wantc : Nat) (w : World) (Q : Value → World → Prop) : Prop :=
  ∀ b0 : Nat, w.heap.size ≤ b0 → ∀ w1, Ext w w1 →
  FnP Try.prog F_shiftbellkeep_retries #[] w1 fun v2 w2 =>
   Ext w1 w2 ∧
   ∃ t3 : Bool, v2 = (.bool t3) ∧
   ((t3 = false) →
    ∀ w4, Ext w w4 →
    Q (.bool false) w4) ∧
   ((t3 = true) →
    ∀ w4, Ext w w4 →
    FnP Try.prog F_retry_Have #[(.agg #[(.int .i64 b_0), (.int .i64 b_1), (.int .i64 b_2), (.int .i64 b_3)]), (.int .i64 b_3)] w4 fun v5 w5 =>
     Ext w4 w5 ∧
     ∃ t6 : Int, ∃ t7 : Int, v5 = (.tuple #[(.int .i64 t6), (.int .i64 t7)]) ∧
     (((t7 ≠ 0) ∨ (1048576 < b_1)) →
      ∀ w8, Ext w w8 →
      Q (.bool (((((((((decide (t7 = 0)) || (decide (b_0 < 1))) || (decide (1099511627776 < b_0))) || (decide (b_1 < 0))) || (decide (1099511627776 < b_1))) || (decide (b_2 < 0))) || (decide (b_0 < b_2))) || (decide (b_3 < 0))) || (decide (1099511627776 < b_3)))) w8) ∧
     (((t7 = 0) ∧ (b_1 ≤ 1048576)) →
      (0 : Int) ≤ 0 ∧
      (0 : Int) ≤ (min (min (at_vl : Int) (wantl : Int)) 50) ∧
      ((min (min (at_vl : Int) (wantl : Int)) 50) : Int) ≤ (at_vc : Int) ∧
      ∃ (I8 : Int → Int → Int → Int → Int → Int → World → Prop) (M8 : Int → Int → Int → Int → Int → Int → World → Nat), I8 0 0 b_0 b_1 b_2 b_3 w ∧
      ∀ (had9 : Int) (k10 : Int) (c11 : Int) (c12 : Int) (c13 : Int) (c14 : Int) (w15 : World), I8 had9 k10 c11 c12 c13 c14 w15 →
       ((k10 < (((min (min (at_vl : Int) (wantl : Int)) 50) - 0).toNat : Int)) →
        (pCut at_v at_vc 0 1) ≠ none ∧
        (0 : Int) ≤ k10 ∧
        (k10 : Int) < (((min (min (at_vl : Int) (wantl : Int)) 50) - 0).toNat : Int) ∧
        ∃ t16 : Int, (cell w15 (pIdx (pCut at_v at_vc 0 1) k10 1) 0 = some (.int .i64 t16) ∧ Free [b0] (pIdx (pCut at_v at_vc 0 1) k10 1)) ∧
        ∃ (J17 : Option Addr → Bool → Int → World → Prop), (want ≠ none ∧
         (0 : Int) ≤ k10 ∧
         (k10 : Int) < (wantl : Int) ∧
         ∃ t22 : Int, (cell w15 (pIdx want k10 1) 0 = some (.int .i64 t22) ∧ Free [b0] (pIdx want k10 1)) ∧
         (∀ w23, ExtB [b0] [] w15 w23 →
         FnP Try.prog F_retry_Grant #[(.agg #[(.int .i64 c11), (.int .i64 c12), (.int .i64 c13), (.int .i64 c14)]), (.int .i64 t16), (.int .i64 t22)] w23 fun v24 w24 =>
          Ext w23 w24 ∧
          ∃ t_025 : Int, ∃ t_126 : Int, ∃ t_227 : Int, ∃ t_328 : Int, ∃ t29 : Bool, ∃ t30 : Int, v24 = (.tuple #[(.agg #[(.int .i64 t_025), (.int .i64 t_126), (.int .i64 t_227), (.int .i64 t_328)]), (.bool t29), (.int .i64 t30)]) ∧
          ∀ w31, ExtB [b0] [b0] w15 w31 →
          New w31 33 [(.int .i64 0), (.int .i64 0), (.int .i64 0), (.int .i64 0)] fun p32 w32 =>
           Store w32 p32 [(.int .i64 t_025), (.int .i64 t_126), (.int .i64 t_227), (.int .i64 t_328)] [b0] fun w33 =>
            J17 p32 t29 t30 w33) ∧
         ∀ w23, ExtB [b0] [b0] w15 w23 →
         New w23 33 [(.int .i64 0), (.int .i64 0), (.int .i64 0), (.int .i64 0)] fun p24 w24 =>
          ∀ w25, Ext w24 w25 →
          FnP Try.prog F_retry_Grant #[(.agg #[(.int .i64 c11), (.int .i64 c12), (.int .i64 c13), (.int .i64 c14)]), (.int .i64 t16), (.int .i64 t22)] w25 fun v26 w26 =>
           Ext w25 w26 ∧
           ∃ t_027 : Int, ∃ t_128 : Int, ∃ t_229 : Int, ∃ t_330 : Int, ∃ t31 : Bool, ∃ t32 : Int, v26 = (.tuple #[(.agg #[(.int .i64 t_027), (.int .i64 t_128), (.int .i64 t_229), (.int .i64 t_330)]), (.bool t31), (.int .i64 t32)]) ∧
           Store w24 p24 [(.int .i64 t_027), (.int .i64 t_128), (.int .i64 t_229), (.int .i64 t_330)] [b0] fun w33 =>
            J17 p24 t31 t32 w33) ∧
        ∀ (c18 : Option Addr) (ok_runtime_errorString_RuntimeError : Bool) (e20 : Int) (w21 : World), J17 c18 ok_runtime_errorString_RuntimeError e20 w21 →
         ((e20 ≠ 0) →
          ((ok_runtime_errorString_RuntimeError = true) →
           ∀ w22, ExtB [b0] [] w21 w22 →
           Q (.bool false) w22) ∧
          ((ok_runtime_errorString_RuntimeError = false) →
           c18 ≠ none ∧
           ∃ t22 : Int, (cell w21 c18 0 = some (.int .i64 t22) ∧ Free [b0] c18) ∧
           ∃ t23 : Int, (cell w21 c18 1 = some (.int .i64 t23) ∧ Free [b0] c18) ∧
           ∃ t24 : Int, (cell w21 c18 2 = some (.int .i64 t24) ∧ Free [b0] c18) ∧
           ∃ t25 : Int, (cell w21 c18 3 = some (.int .i64 t25) ∧ Free [b0] c18) ∧
           ∀ w26, ExtB [b0] [] w21 w26 →
           Run Try.prog (.eq .neq 33 false false (.agg #[(.int .i64 t22), (.int .i64 t23), (.int .i64 t24), (.int .i64 t25)]) (.agg #[(.int .i64 0), (.int .i64 0), (.int .i64 0), (.int .i64 0)])) w26 fun v27 w27 =>
            Ext w26 w27 ∧
            ∃ t28 : Bool, v27 = (.bool t28) ∧
            ((t28 = true) →
             ∀ w29, ExtB [b0] [] w21 w29 →
             Q (.bool false) w29) ∧
            ((t28 = false) →
             InR .i64 (k10 + 1) ∧
             (I8 had9 (k10 + 1) c11 c12 c13 c14 w21 ∧ M8 had9 (k10 + 1) c11 c12 c13 c14 w21 < M8 had9 k10 c11 c12 c13 c14 w15)))) ∧
         ((e20 = 0) →
          ((ok_runtime_errorString_RuntimeError = false) →
           c18 ≠ none ∧
           ∃ t22 : Int, (cell w21 c18 0 = some (.int .i64 t22) ∧ Free [b0] c18) ∧
           ∃ t23 : Int, (cell w21 c18 1 = some (.int .i64 t23) ∧ Free [b0] c18) ∧
           ∃ t24 : Int, (cell w21 c18 2 = some (.int .i64 t24) ∧ Free [b0] c18) ∧
           ∃ t25 : Int, (cell w21 c18 3 = some (.int .i64 t25) ∧ Free [b0] c18) ∧
           ∀ w26, ExtB [b0] [] w21 w26 →
           Run Try.prog (.eq .neq 33 false false (.agg #[(.int .i64 t22), (.int .i64 t23), (.int .i64 t24), (.int .i64 t25)]) (.agg #[(.int .i64 c11), (.int .i64 c12), (.int .i64 c13), (.int .i64 c14)])) w26 fun v27 w27 =>
            Ext w26 w27 ∧
            ∃ t28 : Bool, v27 = (.bool t28) ∧
            ((t28 = true) →
             ∀ w29, ExtB [b0] [] w21 w29 →
             Q (.bool false) w29) ∧
            ((t28 = false) →
             InR .i64 (k10 + 1) ∧
             (I8 had9 (k10 + 1) c11 c12 c13 c14 w21 ∧ M8 had9 (k10 + 1) c11 c12 c13 c14 w21 < M8 had9 k10 c11 c12 c13 c14 w15))) ∧
          ((ok_runtime_errorString_RuntimeError = true) →
           c18 ≠ none ∧
           ∃ t22 : Int, (cell w21 c18 0 = some (.int .i64 t22) ∧ Free [b0] c18) ∧
           ∃ t23 : Int, (cell w21 c18 1 = some (.int .i64 t23) ∧ Free [b0] c18) ∧
           ∃ t24 : Int, (cell w21 c18 2 = some (.int .i64 t24) ∧ Free [b0] c18) ∧
           ∃ t25 : Int, (cell w21 c18 3 = some (.int .i64 t25) ∧ Free [b0] c18) ∧
           want ≠ none ∧
           (0 : Int) ≤ k10 ∧
           (k10 : Int) < (wantl : Int) ∧
           ∃ t26 : Int, (cell w21 (pIdx want k10 1) 0 = some (.int .i64 t26) ∧ Free [b0] (pIdx want k10 1)) ∧
           InR .i64 (had9 + t26) ∧
           InR .i64 (t16 - b_3) ∧
           (((t16 - b_3) < 1048576) →
            InR .i64 (t16 - b_3)) ∧
           (((t16 - b_3) < 1048576) →
            InR .i64 (t23 * (t16 - b_3))) ∧
           (((t16 - b_3) < 1048576) →
            InR .i64 (b_2 + (t23 * (t16 - b_3)))) ∧
           ((((((t16 - b_3) < 1048576) ∧ ((b_2 + (t23 * (t16 - b_3))) < (had9 + t26))) ∨ (t24 < 0)) ∨ (t22 < t24)) →
            ∀ w27, ExtB [b0] [] w21 w27 →
            Q (.bool false) w27) ∧
           (((((1048576 ≤ (t16 - b_3)) ∨ ((had9 + t26) ≤ (b_2 + (t23 * (t16 - b_3))))) ∧ (0 ≤ t24)) ∧ (t24 ≤ t22)) →
            InR .i64 (k10 + 1) ∧
            (I8 (had9 + t26) (k10 + 1) t22 t23 t24 t25 w21 ∧ M8 (had9 + t26) (k10 + 1) t22 t23 t24 t25 w21 < M8 had9 k10 c11 c12 c13 c14 w15))))) ∧
       (((((min (min (at_vl : Int) (wantl : Int)) 50) - 0).toNat : Int) ≤ k10) →
        ∀ w16, ExtB [b0] [] w15 w16 →
        Q (.bool true) w16)))

theorem ok_shiftbellkeep_RetryBucket (b_0 : Int) (b_1 : Int) (b_2 : Int) (b_3 : Int) (at_v : Option Addr) (at_vl : Nat) (at_vc : Nat) (want : Option Addr) (wantl : Nat) (wantc : Nat) (w : World) (Q : Value → World → Prop) (h : wp_shiftbellkeep_RetryBucket b_0 b_1 b_2 b_3 at_v at_vl at_vc want wantl wantc w Q) : FnP Try.prog F_shiftbellkeep_RetryBucket #[(.agg #[(.int .i64 b_0), (.int .i64 b_1), (.int .i64 b_2), (.int .i64 b_3)]), (.slice at_v at_vl at_vc), (.slice want wantl wantc)] w Q := by
  have e_ : wp_shiftbellkeep_RetryBucket b_0 b_1 b_2 b_3 at_v at_vl at_vc want wantl wantc w Q = Runs Try.prog Q ({ N := 154, wrap := [], pub := [14], muts := [] } : Cfg) Try.f6 (Try.f6.body.getD .skip) [.agg [.int .i64 b_0, .int .i64 b_1, .int .i64 b_2, .int .i64 b_3], .sc (.slc at_v at_vl at_vc), .sc (.slc want wantl wantc)] w := by kernel_rfl
  rw [e_] at h
  exact runs_fn h Try.func6 (by kernel_rfl) (fun args w => Try.call6 args w) (by kernel_rfl) (by kernel_rfl) rfl rfl

theorem open_shiftbellkeep_RetryBucket (W : World) (R : Array Value → Prop) (h : ∀ b_0 : Int, InR .i64 b_0 → ∀ b_1 : Int, InR .i64 b_1 → ∀ b_2 : Int, InR .i64 b_2 → ∀ b_3 : Int, InR .i64 b_3 → ∀ at_v : Option Addr, ∀ at_vl : Nat, ∀ at_vc : Nat, SlcArg Try.prog W 2 at_v at_vl at_vc → ∀ want : Option Addr, ∀ wantl : Nat, ∀ wantc : Nat, SlcArg Try.prog W 2 want wantl wantc → R #[(.agg #[(.int .i64 b_0), (.int .i64 b_1), (.int .i64 b_2), (.int .i64 b_3)]), (.slice at_v at_vl at_vc), (.slice want wantl wantc)]) (args : Array Value) (hg : GoodAll Try.prog W Try.f6.params.toList args.toList) : R args := by
  have e_ : (ArgsAll Try.prog W Try.f6.params.toList fun l => R l.toArray) = (∀ b_0 : Int, InR .i64 b_0 → ∀ b_1 : Int, InR .i64 b_1 → ∀ b_2 : Int, InR .i64 b_2 → ∀ b_3 : Int, InR .i64 b_3 → ∀ at_v : Option Addr, ∀ at_vl : Nat, ∀ at_vc : Nat, SlcArg Try.prog W 2 at_v at_vl at_vc → ∀ want : Option Addr, ∀ wantl : Nat, ∀ wantc : Nat, SlcArg Try.prog W 2 want wantl wantc → R #[(.agg #[(.int .i64 b_0), (.int .i64 b_1), (.int .i64 b_2), (.int .i64 b_3)]), (.slice at_v at_vl at_vc), (.slice want wantl wantc)]) := by kernel_rfl
  exact args_open (by rw [e_]; exact h) args hg
-- wit 6 #[(.agg #[(.int .i64 0), (.int .i64 0), (.int .i64 0), (.int .i64 0)]), (.slice none 0 0), (.slice none 0 0)]

end Go.Proofs.Ytohgdhcgahjfoaa
