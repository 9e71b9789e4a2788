/- The law ShareParts: for every input the call returns true, and turns nothing that was there; the statement's frame, by program. Conditions: none but the row's own. -/
import Derived.Test.YthndjkpnllanpaaShE
set_option linter.unusedVariables false
set_option linter.unusedSimpArgs false
namespace Go.Proofs.Ythndjkpnllanpaa
open Go.Sx Go.RowKit Go.ChangeShapes Go.WideShapes Go.ChangeAt

theorem own_ShareParts : ownKnob Try.prog.godebug = none := by kernel_rfl
theorem laidOut_ShareParts : laidOutB Try.prog = true := by kernel_rfl
theorem law_ShareParts (W : World) (args : Array Value) (h : GoodAll Try.prog W Try.f6.params.toList args.toList) : FnP Try.prog 6 args W fun v W' => v = .bool true ∧ Ext W W' :=
  open_shiftbellkeep_ShareParts W (fun args => FnP Try.prog 6 args W fun v W' => v = .bool true ∧ Ext W W') (core_ShareParts W ) args h

set_option maxRecDepth 100000 in
theorem lifted_ShareParts (os : Os) (started : os.Started) (H : Type) (enc : TypeId × Value → H) :
    ReturnsInHanded {} Try.checked os 6 .any (Rows.sharePartsSpec.pre6 enc Try.prog Try.f6 Rows.sharePartsRow.domain false) (Rows.sharePartsSpec.post enc Try.prog Try.f6 false true false false) := by
  refine returnsInHanded_of_change (C := Try.checked) own_ShareParts started (by kernel_rfl) Try.func6
    (ChangeSpec.witness6 (enc := enc) (C := Try.checked) false ⟨#[], #[(.int .i64 0), (.slice none 0 0)], []⟩ 8 (by kernel_rfl) (by kernel_rfl) (by kernel_rfl) (by kernel_rfl)) ?_
  intro W base args ds gs before hval hW _ _
  exact law_at (P := Try.prog) (f := Try.f6) (s := Rows.sharePartsSpec) (tb := 4) laidOut_ShareParts (by kernel_rfl) (by kernel_rfl) (by kernel_rfl) rfl
    (fun ds hd => by
      rw [Try.params6] at hd
      match ds, hd with
      | [_, _], _ => rfl) W base args (law_ShareParts W args) ds gs before hval hW

theorem holds_ShareParts : Rows.SharePartsSaid :=
  OpenClaim.holds_of_wide 6 Try.f6 rfl rfl rfl rfl rfl rfl rfl ⟨rfl, rfl, rfl, rfl, rfl⟩ rfl rfl rfl rfl rfl (by kernel_rfl) Try.func6 (by kernel_rfl)
    (of_decide_eq_true (by kernel_rfl)) (by unfold Func.isWrapper; first | (rw [if_pos (by decide +kernel)]; kernel_rfl) | (rw [if_neg (by decide +kernel)]; exact ⟨rfl, rfl⟩))
    (fun os started H enc _ => lifted_ShareParts os started H enc)

end Go.Proofs.Ythndjkpnllanpaa
