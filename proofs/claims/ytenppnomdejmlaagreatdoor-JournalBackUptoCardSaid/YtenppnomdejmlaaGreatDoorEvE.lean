/- What a slice that came in holds, by its bulk. -/
import Derived.Test.YtenppnomdejmlaaGreatDoorEvD
import Derived.Test.YtenppnomdejmlaaGreatDoorJbD
set_option linter.unusedVariables false
set_option linter.unusedSimpArgs false
namespace Go.Proofs.YtenppnomdejmlaaGreatDoor
open Go.Sx Go.RowKit Go.ChangeShapes Go.WideShapes Go.ChangeAt

section
variable {P : Program} {H : Type} {enc : TypeId × Value → H}
theorem bulk_pos : ∀ d : DataW H, 1 ≤ Rows.uptoBulk d
  | .lit l => by cases l <;> unfold Rows.uptoBulk <;> omega
  | .nil => by unfold Rows.uptoBulk; omega
  | .ptr d => by unfold Rows.uptoBulk; omega
  | .slice a b => by unfold Rows.uptoBulk; omega
  | .agg a => by unfold Rows.uptoBulk; omega
  | .iface _ d => by unfold Rows.uptoBulk; omega
  | .map a => by unfold Rows.uptoBulk; omega
  | .held _ => by unfold Rows.uptoBulk; omega
theorem bulkAll_len : ∀ l : List (DataW H), l.length ≤ Rows.uptoBulkAll l
  | [] => by simp [Rows.uptoBulkAll]
  | d :: r => by
    have := bulk_pos d
    have := bulkAll_len r
    rw [Rows.uptoBulkAll, List.length_cons]; omega
/-- A slice's elements, as they are read. -/
theorem slice_reads {w : World} {t e : TypeId} (hu : P.underlying t = some (.slice e)) {n : Nat} {p : Option Addr} {l c : Nat} {d : DataW H} {ps : List MemPlace} (h : DataW.trod enc P w 0 (fun _ => true) true n t [.slice p l c] = some (d, ps)) :
    ∃ (m : Nat) (es : List (DataW H)), es.length = l ∧ Rows.uptoBulkAll es ≤ Rows.uptoBulk d ∧ ∀ a, p = some a → ∀ i, i < l → ∃ cs x qs, w.cells? 0 (a.add (i * P.cellsOf e)) (P.cellsOf e) = some cs ∧ es[i]? = some x ∧ DataW.trod enc P w 0 (fun _ => true) true m e cs = some (x, qs) := by
  cases n with
  | zero => cases h
  | succ n =>
    unfold DataW.trod at h
    rw [hu] at h
    cases p with
    | none =>
      cases l with
      | zero => exact ⟨n, [], rfl, by simp [Rows.uptoBulkAll], fun a ha => by cases ha⟩
      | succ l => simp at h
    | some a =>
      simp only at h
      split at h
      · cases hm : (List.range l).mapM (fun i => (w.cells? 0 (a.add (i * P.cellsOf e)) (P.cellsOf e)).bind (DataW.trod enc P w 0 (fun _ => true) true n e)) with
        | none => simp [hm] at h
        | some es =>
          rw [hm, Option.bind_some, Option.map_eq_some_iff] at h
          obtain ⟨rest, _, he⟩ := h
          obtain ⟨he, _⟩ := Prod.mk.inj he
          obtain ⟨hl, hget⟩ := mapM_get hm
          rw [List.length_range] at hl
          refine ⟨n, es.map (·.1), by simp [hl], by rw [← he, Rows.uptoBulk]; omega, fun b hb i hi => ?_⟩
          obtain rfl := Option.some.inj hb
          obtain ⟨y, hy, hfy⟩ := hget i i (by simp [hi])
          obtain ⟨cs, hcs, htr⟩ := Option.bind_eq_some_iff.1 hfy
          exact ⟨cs, y.1, y.2, hcs, by simp [hy], htr⟩
      · cases h
theorem slice_bulk {w : World} {t e : TypeId} (hu : P.underlying t = some (.slice e)) {n : Nat} {p : Option Addr} {l c : Nat} {d : DataW H} {ps : List MemPlace} (h : DataW.trod enc P w 0 (fun _ => true) true n t [.slice p l c] = some (d, ps)) : l ≤ Rows.uptoBulk d := by
  obtain ⟨_, es, h1, h2, _⟩ := slice_reads hu h
  have := bulkAll_len es
  omega
end
end Go.Proofs.YtenppnomdejmlaaGreatDoor
