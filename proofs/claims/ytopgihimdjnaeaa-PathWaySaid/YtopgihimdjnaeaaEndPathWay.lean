/- The law PathWay: for every input the call returns true, and turns nothing that was there; the statement's frame, by program. Conditions: none but the row's own. -/
import Derived.Test.YtopgihimdjnaeaaPathC
set_option linter.unusedVariables false
set_option linter.unusedSimpArgs false
namespace Go.Proofs.Ytopgihimdjnaeaa
open Go.Sx Go.RowKit Go.ChangeShapes Go.WideShapes Go.ChangeAt

theorem own_PathWay : ownKnob Try.prog.godebug = none := by kernel_rfl
theorem laidOut_PathWay : laidOutB Try.prog = true := by kernel_rfl
theorem law_PathWay (W : World) (args : Array Value) (h : GoodAll Try.prog W Try.f8.params.toList args.toList) : FnP Try.prog 8 args W fun v W' => v = .bool true ∧ Ext W W' :=
  open_shiftbellkeep_PathWay W (fun args => FnP Try.prog 8 args W fun v W' => v = .bool true ∧ Ext W W') (core_PathWay W ) args h

set_option maxRecDepth 100000 in
theorem lifted_PathWay (os : Os) (started : os.Started) (H : Type) (enc : TypeId × Value → H) :
    ReturnsInHanded {} Try.checked os 8 .any (Rows.pathWaySpec.pre6 enc Try.prog Try.f8 Rows.pathWayRow.domain false) (Rows.pathWaySpec.post enc Try.prog Try.f8 false true false false) := by
  refine returnsInHanded_of_change (C := Try.checked) own_PathWay started (by kernel_rfl) Try.func8
    (ChangeSpec.witness6 (enc := enc) (C := Try.checked) false ⟨#[], #[(.int .i64 0), (.slice none 0 0), (.slice none 0 0)], []⟩ 8 (by kernel_rfl) (by kernel_rfl) (by kernel_rfl) (by kernel_rfl)) ?_
  intro W base args ds gs before hval hW _ _
  exact law_at (P := Try.prog) (f := Try.f8) (s := Rows.pathWaySpec) (tb := 4) laidOut_PathWay (by kernel_rfl) (by kernel_rfl) (by kernel_rfl) rfl
    (fun ds hd => by
      rw [Try.params8] at hd
      match ds, hd with
      | [_, _, _], _ => rfl) W base args (law_PathWay W args) ds gs before hval hW

theorem holds_PathWay : Rows.PathWaySaid :=
  OpenClaim.holds_of_wide 8 Try.f8 rfl rfl rfl rfl rfl rfl rfl ⟨rfl, rfl, rfl, rfl, rfl⟩ rfl rfl rfl rfl rfl (by kernel_rfl) Try.func8 (by kernel_rfl)
    (of_decide_eq_true (by kernel_rfl)) (by unfold Func.isWrapper; first | (rw [if_pos (by decide +kernel)]; kernel_rfl) | (rw [if_neg (by decide +kernel)]; exact ⟨rfl, rfl⟩))
    (fun os started H enc _ => lifted_PathWay os started H enc)

end Go.Proofs.Ytopgihimdjnaeaa
