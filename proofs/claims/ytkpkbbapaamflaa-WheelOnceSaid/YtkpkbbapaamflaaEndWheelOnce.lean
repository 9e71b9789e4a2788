/- The law WheelOnce: for every input the call returns true, and turns nothing that was there; the statement's frame, by program. Conditions: none but the row's own. -/
import Derived.Test.YtkpkbbapaamflaaWhI
set_option linter.unusedVariables false
set_option linter.unusedSimpArgs false
namespace Go.Proofs.Ytkpkbbapaamflaa
open Go.Sx Go.RowKit Go.ChangeShapes Go.WideShapes Go.ChangeAt

theorem own_WheelOnce : ownKnob Try.prog.godebug = none := by kernel_rfl
theorem laidOut_WheelOnce : laidOutB Try.prog = true := by kernel_rfl
theorem law_WheelOnce (W : World) (args : Array Value) (h : GoodAll Try.prog W Try.f3.params.toList args.toList) : FnP Try.prog 3 args W fun v W' => v = .bool true ∧ Ext W W' :=
  open_shiftbellkeep_WheelOnce W (fun args => FnP Try.prog 3 args W fun v W' => v = .bool true ∧ Ext W W') (core_WheelOnce W ) args h

set_option maxRecDepth 100000 in
theorem lifted_WheelOnce (os : Os) (started : os.Started) (H : Type) (enc : TypeId × Value → H) :
    ReturnsInHanded {} Try.checked os 3 .any (Rows.wheelOnceSpec.pre6 enc Try.prog Try.f3 Rows.wheelOnceRow.domain false) (Rows.wheelOnceSpec.post enc Try.prog Try.f3 false true false false) := by
  refine returnsInHanded_of_change (C := Try.checked) own_WheelOnce started (by kernel_rfl) Try.func3
    (ChangeSpec.witness6 (enc := enc) (C := Try.checked) false ⟨#[], #[(.slice none 0 0)], []⟩ 8 (by kernel_rfl) (by kernel_rfl) (by kernel_rfl) (by kernel_rfl)) ?_
  intro W base args ds gs before hval hW _ _
  exact law_at (P := Try.prog) (f := Try.f3) (s := Rows.wheelOnceSpec) (tb := 4) laidOut_WheelOnce (by kernel_rfl) (by kernel_rfl) (by kernel_rfl) rfl
    (fun ds hd => by
      rw [Try.params3] at hd
      match ds, hd with
      | [_], _ => rfl) W base args (law_WheelOnce W args) ds gs before hval hW

theorem holds_WheelOnce : Rows.WheelOnceSaid :=
  OpenClaim.holds_of_wide 3 Try.f3 rfl rfl rfl rfl rfl rfl rfl ⟨rfl, rfl, rfl, rfl, rfl⟩ rfl rfl rfl rfl rfl (by kernel_rfl) Try.func3 (by kernel_rfl)
    (of_decide_eq_true (by kernel_rfl)) (by unfold Func.isWrapper; first | (rw [if_pos (by decide +kernel)]; kernel_rfl) | (rw [if_neg (by decide +kernel)]; exact ⟨rfl, rfl⟩))
    (fun os started H enc _ => lifted_WheelOnce os started H enc)

end Go.Proofs.Ytkpkbbapaamflaa
