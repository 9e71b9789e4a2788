/- The law PackFits: for every input the call returns true, and turns nothing that was there; the statement's frame, by program. Conditions: none but the row's own. -/
import Derived.Test.YtmdnjnflmijofaaPLi
set_option linter.unusedVariables false
set_option linter.unusedSimpArgs false
namespace Go.Proofs.Ytmdnjnflmijofaa
open Go.Sx Go.RowKit Go.ChangeShapes Go.WideShapes Go.ChangeAt

theorem own_PackFits : ownKnob Try.prog.godebug = none := by kernel_rfl
theorem laidOut_PackFits : laidOutB Try.prog = true := by kernel_rfl
theorem law_PackFits (W : World) (args : Array Value) (h : GoodAll Try.prog W Try.f8.params.toList args.toList) : FnP Try.prog 8 args W fun v W' => v = .bool true ∧ Ext W W' :=
  open_shiftbellkeep_PackFits W (fun args => FnP Try.prog 8 args W fun v W' => v = .bool true ∧ Ext W W') (core_PackFits W ) args h

set_option maxRecDepth 100000 in
theorem lifted_PackFits (os : Os) (started : os.Started) (H : Type) (enc : TypeId × Value → H) :
    ReturnsInHanded {} Try.checked os 8 .any (Rows.packFitsSpec.pre6 enc Try.prog Try.f8 Rows.packFitsRow.domain false) (Rows.packFitsSpec.post enc Try.prog Try.f8 false true false false) := by
  refine returnsInHanded_of_change (C := Try.checked) own_PackFits started (by kernel_rfl) Try.func8
    (ChangeSpec.witness6 (enc := enc) (C := Try.checked) false ⟨#[], #[(.slice none 0 0), (.int .i64 0)], []⟩ 8 (by kernel_rfl) (by kernel_rfl) (by kernel_rfl) (by kernel_rfl)) ?_
  intro W base args ds gs before hval hW _ _
  exact law_at (P := Try.prog) (f := Try.f8) (s := Rows.packFitsSpec) (tb := 4) laidOut_PackFits (by kernel_rfl) (by kernel_rfl) (by kernel_rfl) rfl
    (fun ds hd => by
      rw [Try.params8] at hd
      match ds, hd with
      | [_, _], _ => rfl) W base args (law_PackFits W args) ds gs before hval hW

theorem holds_PackFits : Rows.PackFitsSaid :=
  OpenClaim.holds_of_wide 8 Try.f8 rfl rfl rfl rfl rfl rfl rfl ⟨rfl, rfl, rfl, rfl, rfl⟩ rfl rfl rfl rfl rfl (by kernel_rfl) Try.func8 (by kernel_rfl)
    (of_decide_eq_true (by kernel_rfl)) (by unfold Func.isWrapper; first | (rw [if_pos (by decide +kernel)]; kernel_rfl) | (rw [if_neg (by decide +kernel)]; exact ⟨rfl, rfl⟩))
    (fun os started H enc _ => lifted_PackFits os started H enc)

end Go.Proofs.Ytmdnjnflmijofaa
