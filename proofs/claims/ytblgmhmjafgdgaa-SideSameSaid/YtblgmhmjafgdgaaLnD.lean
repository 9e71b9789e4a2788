/- slices.Equal: two rows that hold the same are equal. -/
import Derived.Test.YtblgmhmjafgdgaaLnC
set_option linter.unusedVariables false
set_option linter.unusedSimpArgs false
namespace Go.Proofs.Ytblgmhmjafgdgaa
open Go.Sx Go.RowKit

theorem Equal64_k (p q : Option Addr) (c d : Nat) (X : List Int) (h64 : (X.length : Int) ≤ 1000000) (w : World) (hp : Ints .i64 w p X) (hq : Ints .i64 w q X) :
    FnP Try.prog F_slices_Equal_int64_int64 #[.slice p X.length c, .slice q X.length d] w fun v w' => v = .bool true := by
  refine ok_slices_Equal_int64_int64 p X.length c q X.length d w _ ⟨fun h => absurd rfl h, fun _ => ⟨fun k w' => w' = w ∧ 0 ≤ k ∧ k ≤ X.length, fun k _ => (X.length - k).toNat, ⟨rfl, by omega, by omega⟩, ?_⟩⟩
  rintro k w ⟨rfl, hk0, hk1⟩
  refine ⟨fun hlt => ?_, fun hge w3 h3 => rfl⟩
  have g1 := Ints.idx hp hk0 hlt
  have g2 := Ints.idx hq hk0 hlt
  exact ⟨fun hn => cell_p g1 (pIdx_none.2 hn), hk0, hlt, _, g1, fun hn => cell_p g2 (pIdx_none.2 hn), hk0, hlt, _, g2, fun hne => absurd rfl hne, fun _ => ⟨i64 (by omega), ⟨rfl, by omega, by omega⟩, by simp only []; omega⟩⟩
theorem EqualI_k (p q : Option Addr) (c d : Nat) (X : List Int) (h64 : (X.length : Int) ≤ 1000000) (w : World) (hp : Ints .i64 w p X) (hq : Ints .i64 w q X) :
    FnP Try.prog F_slices_Equal_int_int #[.slice p X.length c, .slice q X.length d] w fun v w' => v = .bool true := by
  refine ok_slices_Equal_int_int p X.length c q X.length d w _ ⟨fun h => absurd rfl h, fun _ => ⟨fun k w' => w' = w ∧ 0 ≤ k ∧ k ≤ X.length, fun k _ => (X.length - k).toNat, ⟨rfl, by omega, by omega⟩, ?_⟩⟩
  rintro k w ⟨rfl, hk0, hk1⟩
  refine ⟨fun hlt => ?_, fun hge w3 h3 => rfl⟩
  have g1 := Ints.idx hp hk0 hlt
  have g2 := Ints.idx hq hk0 hlt
  exact ⟨fun hn => cell_p g1 (pIdx_none.2 hn), hk0, hlt, _, g1, fun hn => cell_p g2 (pIdx_none.2 hn), hk0, hlt, _, g2, fun hne => absurd rfl hne, fun _ => ⟨i64 (by omega), ⟨rfl, by omega, by omega⟩, by simp only []; omega⟩⟩
end Go.Proofs.Ytblgmhmjafgdgaa
