/- The law FarmFirst: for every input the call returns true, and turns nothing that was there; the statement's frame, by program. Conditions: none but the row's own. -/
import Derived.Test.YtblafknmfblgfaaFaP
set_option linter.unusedVariables false
set_option linter.unusedSimpArgs false
namespace Go.Proofs.Ytblafknmfblgfaa
open Go.Sx Go.RowKit Go.ChangeShapes Go.WideShapes Go.ChangeAt

theorem own_FarmFirst : ownKnob Try.prog.godebug = none := by kernel_rfl
theorem laidOut_FarmFirst : laidOutB Try.prog = true := by kernel_rfl
theorem law_FarmFirst (W : World) (args : Array Value) (h : GoodAll Try.prog W Try.f7.params.toList args.toList) : FnP Try.prog 7 args W fun v W' => v = .bool true ∧ Ext W W' :=
  open_shiftbellkeep_FarmFirst W (fun args => FnP Try.prog 7 args W fun v W' => v = .bool true ∧ Ext W W') (core_FarmFirst W ) args h

set_option maxRecDepth 100000 in
theorem lifted_FarmFirst (os : Os) (started : os.Started) (H : Type) (enc : TypeId × Value → H) :
    ReturnsInHanded {} Try.checked os 7 .any (Rows.farmFirstSpec.pre6 enc Try.prog Try.f7 Rows.farmFirstRow.domain false) (Rows.farmFirstSpec.post enc Try.prog Try.f7 false true false false) := by
  refine returnsInHanded_of_change (C := Try.checked) own_FarmFirst started (by kernel_rfl) Try.func7
    (ChangeSpec.witness6 (enc := enc) (C := Try.checked) false ⟨#[], #[(.agg #[(.slice none 0 0), (.int .i64 0), (.int .i64 0), (.int .i64 0), (.int .i64 0)]), (.slice none 0 0)], []⟩ 8 (by kernel_rfl) (by kernel_rfl) (by kernel_rfl) (by kernel_rfl)) ?_
  intro W base args ds gs before hval hW _ _
  exact law_at (P := Try.prog) (f := Try.f7) (s := Rows.farmFirstSpec) (tb := 4) laidOut_FarmFirst (by kernel_rfl) (by kernel_rfl) (by kernel_rfl) rfl
    (fun ds hd => by
      rw [Try.params7] at hd
      match ds, hd with
      | [_, _], _ => rfl) W base args (law_FarmFirst W args) ds gs before hval hW

theorem holds_FarmFirst : Rows.FarmFirstSaid :=
  OpenClaim.holds_of_wide 7 Try.f7 rfl rfl rfl rfl rfl rfl rfl ⟨rfl, rfl, rfl, rfl, rfl⟩ rfl rfl rfl rfl rfl (by kernel_rfl) Try.func7 (by kernel_rfl)
    (of_decide_eq_true (by kernel_rfl)) (by unfold Func.isWrapper; first | (rw [if_pos (by decide +kernel)]; kernel_rfl) | (rw [if_neg (by decide +kernel)]; exact ⟨rfl, rfl⟩))
    (fun os started H enc _ => lifted_FarmFirst os started H enc)

end Go.Proofs.Ytblafknmfblgfaa
