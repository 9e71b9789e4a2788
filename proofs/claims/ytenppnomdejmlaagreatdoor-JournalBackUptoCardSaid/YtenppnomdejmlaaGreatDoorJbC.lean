/- Jobs are read as they were told. -/
import Derived.Test.YtenppnomdejmlaaGreatDoorJbB
set_option linter.unusedVariables false
set_option linter.unusedSimpArgs false
namespace Go.Proofs.YtenppnomdejmlaaGreatDoor
open Go.Sx Go.RowKit

theorem EqualI_k (l : List Int) (p q : Option Addr) (c d : Nat) (w : World) (hp : Ints .i64 w p l) (hq : Ints .i64 w q l) (h63 : l.length ≤ 9223372036854775807) : FnP Tryz.prog F_slices_Equal_int_int #[.slice p l.length c, .slice q l.length d] w fun v w' => Ext w w' ∧ v = .bool true := by
  refine ok_slices_Equal_int_int p l.length c q l.length d w _ ⟨fun h => absurd rfl h, fun _ => ?_⟩
  refine ⟨fun k w' => w' = w ∧ 0 ≤ k ∧ k ≤ l.length, fun k _ => (l.length - k).toNat, ⟨rfl, by omega, by omega⟩, ?_⟩
  rintro k w' ⟨rfl, hk0, hk1⟩
  refine ⟨fun hlt => ?_, fun hge w3 h3 => ⟨h3, rfl⟩⟩
  have g1 := Ints.idx hp hk0 hlt
  have g2 := Ints.idx hq hk0 hlt
  exact ⟨fun h => cell_p g1 (pIdx_none.2 h), hk0, hlt, _, g1, fun h => cell_p g2 (pIdx_none.2 h), hk0, hlt, _, g2, fun h => absurd rfl h, fun _ => ⟨i64 (by omega), ⟨rfl, by omega, by omega⟩, by simp only []; omega⟩⟩
theorem sameJ_k (j : Jb) (pa : Option Addr) (ca : Nat) (pf : Option Addr) (cf : Nat) (qa : Option Addr) (da : Nat) (qf : Option Addr) (df : Nat) (w : World) (h1 : IsJ w j pa ca pf) (h2 : IsJ w j qa da qf) (hW : WfJ j) :
    FnP Tryz.prog F_shiftbellkeep_sameJob #[jv j pa ca pf cf, jv j qa da qf df] w fun v w' => Ext w w' ∧ v = .bool true := by
  refine ok_shiftbellkeep_sameJob j.user j.prio j.nd.c j.nd.m j.nd.g j.ask.k j.ask.key j.ask.val j.ask.n pa j.ask.xs.length ca pf j.aft.length cf j.user j.prio j.nd.c j.nd.m j.nd.g j.ask.k j.ask.key j.ask.val j.ask.n qa j.ask.xs.length da qf j.aft.length df w _ fun b0 _ b1 _ => ⟨fun _ w2 e2 => ?_, fun h => by rcases h with h | h <;> exact absurd rfl h⟩
  refine eqN_k (a := j.nd) (b := j.nd) ⟨Ext.refl _, _, rfl, fun _ w5 e5 => ?_, fun h => by simp at h⟩
  refine (sameA_k j.ask pa ca qa da w5 (h1.1.ext e5) (h2.1.ext e5) hW.ask).mono fun v w6 ⟨e6, hv⟩ => ⟨e6, true, hv, fun _ w8 e8 => ?_, fun h => by cases h⟩
  exact (EqualI_k j.aft pf qf cf df w8 (h1.2.ext e8) (h2.2.ext e8) hW.len).mono fun v w9 ⟨e9, hv⟩ => ⟨e9, true, hv, fun w11 e11 => ⟨e11, rfl⟩⟩

theorem jtx_len (j : Jb) : (txt j.ask).length ≤ (jtx j).length := by
  unfold jtx jps
  rw [Lib.join_cons]
  simp [Lib.joinTail]
  omega
end Go.Proofs.YtenppnomdejmlaaGreatDoor
