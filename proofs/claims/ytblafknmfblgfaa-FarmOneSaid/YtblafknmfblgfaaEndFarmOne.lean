/- The law FarmOne: for every input the call returns true, and turns nothing that was there; the statement's frame, by program. Conditions: none but the row's own. -/
import Derived.Test.YtblafknmfblgfaaFaQ
set_option linter.unusedVariables false
set_option linter.unusedSimpArgs false
namespace Go.Proofs.Ytblafknmfblgfaa
open Go.Sx Go.RowKit Go.ChangeShapes Go.WideShapes Go.ChangeAt

theorem own_FarmOne : ownKnob Try.prog.godebug = none := by kernel_rfl
theorem laidOut_FarmOne : laidOutB Try.prog = true := by kernel_rfl
theorem law_FarmOne (W : World) (args : Array Value) (h : GoodAll Try.prog W Try.f9.params.toList args.toList) : FnP Try.prog 9 args W fun v W' => v = .bool true ∧ Ext W W' :=
  open_shiftbellkeep_FarmOne W (fun args => FnP Try.prog 9 args W fun v W' => v = .bool true ∧ Ext W W') (core_FarmOne W ) args h

set_option maxRecDepth 100000 in
theorem lifted_FarmOne (os : Os) (started : os.Started) (H : Type) (enc : TypeId × Value → H) :
    ReturnsInHanded {} Try.checked os 9 .any (Rows.farmOneSpec.pre6 enc Try.prog Try.f9 Rows.farmOneRow.domain false) (Rows.farmOneSpec.post enc Try.prog Try.f9 false true false false) := by
  refine returnsInHanded_of_change (C := Try.checked) own_FarmOne started (by kernel_rfl) Try.func9
    (ChangeSpec.witness6 (enc := enc) (C := Try.checked) false ⟨#[], #[(.agg #[(.slice none 0 0), (.int .i64 0), (.int .i64 0), (.int .i64 0), (.int .i64 0)]), (.slice none 0 0), (.agg #[(.int .i64 0), (.string (⟨#[]⟩ : ByteArray)), (.int .i64 0), (.int .i64 0), (.int .i64 0), (.int .i64 0), (.int .i64 0), (.string (⟨#[]⟩ : ByteArray)), (.string (⟨#[]⟩ : ByteArray)), (.int .i64 0), (.slice none 0 0), (.slice none 0 0), (.int .i64 0), (.int .i64 0), (.bool false)])], []⟩ 8 (by kernel_rfl) (by kernel_rfl) (by kernel_rfl) (by kernel_rfl)) ?_
  intro W base args ds gs before hval hW _ _
  exact law_at (P := Try.prog) (f := Try.f9) (s := Rows.farmOneSpec) (tb := 4) laidOut_FarmOne (by kernel_rfl) (by kernel_rfl) (by kernel_rfl) rfl
    (fun ds hd => by
      rw [Try.params9] at hd
      match ds, hd with
      | [_, _, _], _ => rfl) W base args (law_FarmOne W args) ds gs before hval hW

theorem holds_FarmOne : Rows.FarmOneSaid :=
  OpenClaim.holds_of_wide 9 Try.f9 rfl rfl rfl rfl rfl rfl rfl ⟨rfl, rfl, rfl, rfl, rfl⟩ rfl rfl rfl rfl rfl (by kernel_rfl) Try.func9 (by kernel_rfl)
    (of_decide_eq_true (by kernel_rfl)) (by unfold Func.isWrapper; first | (rw [if_pos (by decide +kernel)]; kernel_rfl) | (rw [if_neg (by decide +kernel)]; exact ⟨rfl, rfl⟩))
    (fun os started H enc _ => lifted_FarmOne os started H enc)

end Go.Proofs.Ytblafknmfblgfaa
