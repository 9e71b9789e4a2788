/- The closed fact of graphs; edges that came in. -/
import Derived.Test.YtmdnjnflmijofaaGraph
set_option linter.unusedVariables false
set_option linter.unusedSimpArgs false
namespace Go.Proofs.Ytmdnjnflmijofaa
open Go.Sx Go.RowKit

theorem edges_open {W : World} {p : Option Addr} {n c : Nat} (h : SlcArg Try.prog W T_Edge p n c) : ∃ L : List E, L.length = n ∧ (L.length : Int) ≤ 9223372036854775807 ∧ (∀ e ∈ L, InR .i64 e.f ∧ InR .i64 e.t) ∧ Edges W p L := by
  obtain ⟨L, h1, h2, h3⟩ := h.recs2 (α := E) (t1 := T_int) (t2 := T_int) (k1 := .i64) (k2 := .i64) (by kernel_rfl) (by kernel_rfl) (by kernel_rfl) (by kernel_rfl) (fun a b => ⟨a, b⟩) encE (fun _ _ => rfl)
  refine ⟨L, h1, ?_, fun e he => ?_, h3⟩
  · have := h.le; have := h.max; omega
  · obtain ⟨a, b, rfl, ha, hb⟩ := h2 e he
    exact ⟨ha, hb⟩

end Go.Proofs.Ytmdnjnflmijofaa
