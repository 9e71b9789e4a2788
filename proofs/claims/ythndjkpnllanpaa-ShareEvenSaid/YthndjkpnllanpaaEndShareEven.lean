/- The law ShareEven: for every input the call returns true, and turns nothing that was there; the statement's frame, by program. Conditions: none but the row's own. -/
import Derived.Test.YthndjkpnllanpaaShE
set_option linter.unusedVariables false
set_option linter.unusedSimpArgs false
namespace Go.Proofs.Ythndjkpnllanpaa
open Go.Sx Go.RowKit Go.ChangeShapes Go.WideShapes Go.ChangeAt

theorem own_ShareEven : ownKnob Try.prog.godebug = none := by kernel_rfl
theorem laidOut_ShareEven : laidOutB Try.prog = true := by kernel_rfl
theorem law_ShareEven (W : World) (args : Array Value) (h : GoodAll Try.prog W Try.f7.params.toList args.toList) : FnP Try.prog 7 args W fun v W' => v = .bool true ∧ Ext W W' :=
  open_shiftbellkeep_ShareEven W (fun args => FnP Try.prog 7 args W fun v W' => v = .bool true ∧ Ext W W') (core_ShareEven W ) args h

set_option maxRecDepth 100000 in
theorem lifted_ShareEven (os : Os) (started : os.Started) (H : Type) (enc : TypeId × Value → H) :
    ReturnsInHanded {} Try.checked os 7 .any (Rows.shareEvenSpec.pre6 enc Try.prog Try.f7 Rows.shareEvenRow.domain false) (Rows.shareEvenSpec.post enc Try.prog Try.f7 false true false false) := by
  refine returnsInHanded_of_change (C := Try.checked) own_ShareEven started (by kernel_rfl) Try.func7
    (ChangeSpec.witness6 (enc := enc) (C := Try.checked) false ⟨#[], #[(.int .i64 0), (.slice none 0 0), (.int .i64 0), (.int .i64 0)], []⟩ 8 (by kernel_rfl) (by kernel_rfl) (by kernel_rfl) (by kernel_rfl)) ?_
  intro W base args ds gs before hval hW _ _
  exact law_at (P := Try.prog) (f := Try.f7) (s := Rows.shareEvenSpec) (tb := 4) laidOut_ShareEven (by kernel_rfl) (by kernel_rfl) (by kernel_rfl) rfl
    (fun ds hd => by
      rw [Try.params7] at hd
      match ds, hd with
      | [_, _, _, _], _ => rfl) W base args (law_ShareEven W args) ds gs before hval hW

theorem holds_ShareEven : Rows.ShareEvenSaid :=
  OpenClaim.holds_of_wide 7 Try.f7 rfl rfl rfl rfl rfl rfl rfl ⟨rfl, rfl, rfl, rfl, rfl⟩ rfl rfl rfl rfl rfl (by kernel_rfl) Try.func7 (by kernel_rfl)
    (of_decide_eq_true (by kernel_rfl)) (by unfold Func.isWrapper; first | (rw [if_pos (by decide +kernel)]; kernel_rfl) | (rw [if_neg (by decide +kernel)]; exact ⟨rfl, rfl⟩))
    (fun os started H enc _ => lifted_ShareEven os started H enc)

end Go.Proofs.Ythndjkpnllanpaa
