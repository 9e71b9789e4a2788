/- The law WheelPieces: for every input the call returns true, and turns nothing that was there; the statement's frame, by program. Conditions: none but the row's own. -/
import Derived.Test.YtkpkbbapaamflaaWhH
set_option linter.unusedVariables false
set_option linter.unusedSimpArgs false
namespace Go.Proofs.Ytkpkbbapaamflaa
open Go.Sx Go.RowKit Go.ChangeShapes Go.WideShapes Go.ChangeAt

theorem own_WheelPieces : ownKnob Try.prog.godebug = none := by kernel_rfl
theorem laidOut_WheelPieces : laidOutB Try.prog = true := by kernel_rfl
theorem law_WheelPieces (W : World) (args : Array Value) (h : GoodAll Try.prog W Try.f5.params.toList args.toList) : FnP Try.prog 5 args W fun v W' => v = .bool true ∧ Ext W W' :=
  open_shiftbellkeep_WheelPieces W (fun args => FnP Try.prog 5 args W fun v W' => v = .bool true ∧ Ext W W') (core_WheelPieces W ) args h

set_option maxRecDepth 100000 in
theorem lifted_WheelPieces (os : Os) (started : os.Started) (H : Type) (enc : TypeId × Value → H) :
    ReturnsInHanded {} Try.checked os 5 .any (Rows.wheelPiecesSpec.pre6 enc Try.prog Try.f5 Rows.wheelPiecesRow.domain false) (Rows.wheelPiecesSpec.post enc Try.prog Try.f5 false true false false) := by
  refine returnsInHanded_of_change (C := Try.checked) own_WheelPieces started (by kernel_rfl) Try.func5
    (ChangeSpec.witness6 (enc := enc) (C := Try.checked) false ⟨#[], #[(.slice none 0 0), (.int .i64 0), (.int .i64 0)], []⟩ 8 (by kernel_rfl) (by kernel_rfl) (by kernel_rfl) (by kernel_rfl)) ?_
  intro W base args ds gs before hval hW _ _
  exact law_at (P := Try.prog) (f := Try.f5) (s := Rows.wheelPiecesSpec) (tb := 4) laidOut_WheelPieces (by kernel_rfl) (by kernel_rfl) (by kernel_rfl) rfl
    (fun ds hd => by
      rw [Try.params5] at hd
      match ds, hd with
      | [_, _, _], _ => rfl) W base args (law_WheelPieces W args) ds gs before hval hW

theorem holds_WheelPieces : Rows.WheelPiecesSaid :=
  OpenClaim.holds_of_wide 5 Try.f5 rfl rfl rfl rfl rfl rfl rfl ⟨rfl, rfl, rfl, rfl, rfl⟩ rfl rfl rfl rfl rfl (by kernel_rfl) Try.func5 (by kernel_rfl)
    (of_decide_eq_true (by kernel_rfl)) (by unfold Func.isWrapper; first | (rw [if_pos (by decide +kernel)]; kernel_rfl) | (rw [if_neg (by decide +kernel)]; exact ⟨rfl, rfl⟩))
    (fun os started H enc _ => lifted_WheelPieces os started H enc)

end Go.Proofs.Ytkpkbbapaamflaa
