/- The law AskAnd. -/
import Derived.Test.YtenppnomdejmlaaGreatDoorAtA
set_option linter.unusedVariables false
set_option linter.unusedSimpArgs false
namespace Go.Proofs.YtenppnomdejmlaaGreatDoor
open Go.Sx Go.RowKit

/-- A host that came in. -/
abbrev opA (k : Int) (l : List AT) : AT := .mk k emS emS 0 l
theorem opA_wf {k : Int} (hk : 0 ≤ k ∧ k ≤ 100) {l : List AT} (hl : l.length ≤ 100) (h : ∀ x ∈ l, WfA x) : WfA (opA k l) := by
  unfold WfA
  exact ⟨i64 (by omega), by decide, by decide, i64 (by omega), by omega, WfL.of h⟩
/-- Asks that are put into a new row. -/
theorem isL_lit {w : World} {q : Option Addr} : ∀ {l : List (AT × Option Addr × Nat)} {i : Nat}, (∀ (j : Nat) u, (l.flatMap fun x => encA x.1 x.2.1 x.2.2)[j]? = some u → Go.Sx.cell w q (i * 5 + j) = some u) → (∀ x ∈ l, IsT w x.1 x.2.1 x.2.2) → IsL w (l.map (·.1)) q i
  | [], i, _, _ => by unfold IsL; trivial
  | x :: r, i, h, hT => by
    unfold IsL
    refine ⟨⟨x.2.1, x.2.2, fun j u hu => h j u ?_, hT x (List.mem_cons_self ..)⟩, isL_lit (fun j u hu => ?_) fun y hy => hT y (List.mem_cons_of_mem _ hy)⟩
    · rw [List.flatMap_cons, List.getElem?_append_left]
      · exact hu
      · exact (List.getElem?_eq_some_iff.1 hu).1
    · have := h (5 + j) u (by
        rw [List.flatMap_cons, List.getElem?_append_right (by simp [encA])]
        simpa [encA] using hu)
      rw [show (i + 1) * 5 + j = i * 5 + (5 + j) by omega]
      exact this
end Go.Proofs.YtenppnomdejmlaaGreatDoor
