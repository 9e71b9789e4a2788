/- The texts of this seat's functions: what each computes, as its symbolic run says it. -/
import Derived.Test.YtjeboeahhhhbdaaRows
import Derived.Test.YtjeboeahhhhbdaaSxD
import Derived.Test.YtjeboeahhhhbdaaSxN
import Derived.Test.YtjeboeahhhhbdaaTxt
set_option linter.unusedVariables false
set_option linter.unusedSimpArgs false
set_option maxRecDepth 100000
namespace Go.Proofs.Ytjeboeahhhhbdaa
open Go.Sx Go.RowKit


/-- strings.Index -/
def wp_strings_Index (s : ByteArray) (substr : ByteArray) (w : World) (Q : Value → World → Prop) : Prop :=
  ∀ w0, Ext w w0 →
  FnP Try.prog F_internal_stringslite_Index #[(.string s), (.string substr)] w0 fun v1 w1 =>
   Ext w0 w1 ∧
   ∃ t2 : Int, v1 = (.int .i64 t2) ∧
   ∀ w3, Ext w w3 →
   Q (.int .i64 t2) w3

theorem ok_strings_Index (s : ByteArray) (substr : ByteArray) (w : World) (Q : Value → World → Prop) (h : wp_strings_Index s substr w Q) : FnP Try.prog F_strings_Index #[(.string s), (.string substr)] w Q := by
  have e_ : wp_strings_Index s substr w Q = Runs Try.prog Q ({ N := 8, wrap := [], pub := [], muts := [], joins := [] } : Cfg) Try.f22 (Try.f22.body.getD .skip) [.sc (.str s), .sc (.str substr)] w := by kernel_rfl
  rw [e_] at h
  exact runs_fn h Try.func22 (by kernel_rfl) (fun args w => Try.call22 args w) (by kernel_rfl) (by kernel_rfl) rfl rfl

end Go.Proofs.Ytjeboeahhhhbdaa
