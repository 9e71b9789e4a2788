/- The law ListLong: for every input the call returns true, and turns nothing that was there; the statement's frame, by program. Conditions: none but the row's own. -/
import Derived.Test.YtmdnjnflmijofaaPLk
set_option linter.unusedVariables false
set_option linter.unusedSimpArgs false
namespace Go.Proofs.Ytmdnjnflmijofaa
open Go.Sx Go.RowKit Go.ChangeShapes Go.WideShapes Go.ChangeAt

theorem own_ListLong : ownKnob Try.prog.godebug = none := by kernel_rfl
theorem laidOut_ListLong : laidOutB Try.prog = true := by kernel_rfl
theorem law_ListLong (W : World) (args : Array Value) (h : GoodAll Try.prog W Try.f10.params.toList args.toList) : FnP Try.prog 10 args W fun v W' => v = .bool true ∧ Ext W W' :=
  open_shiftbellkeep_ListLong W (fun args => FnP Try.prog 10 args W fun v W' => v = .bool true ∧ Ext W W') (core_ListLong W ) args h

set_option maxRecDepth 100000 in
theorem lifted_ListLong (os : Os) (started : os.Started) (H : Type) (enc : TypeId × Value → H) :
    ReturnsInHanded {} Try.checked os 10 .any (Rows.listLongSpec.pre6 enc Try.prog Try.f10 Rows.listLongRow.domain false) (Rows.listLongSpec.post enc Try.prog Try.f10 false true false false) := by
  refine returnsInHanded_of_change (C := Try.checked) own_ListLong started (by kernel_rfl) Try.func10
    (ChangeSpec.witness6 (enc := enc) (C := Try.checked) false ⟨#[], #[(.int .i64 0), (.slice none 0 0)], []⟩ 8 (by kernel_rfl) (by kernel_rfl) (by kernel_rfl) (by kernel_rfl)) ?_
  intro W base args ds gs before hval hW _ _
  exact law_at (P := Try.prog) (f := Try.f10) (s := Rows.listLongSpec) (tb := 4) laidOut_ListLong (by kernel_rfl) (by kernel_rfl) (by kernel_rfl) rfl
    (fun ds hd => by
      rw [Try.params10] at hd
      match ds, hd with
      | [_, _], _ => rfl) W base args (law_ListLong W args) ds gs before hval hW

theorem holds_ListLong : Rows.ListLongSaid :=
  OpenClaim.holds_of_wide 10 Try.f10 rfl rfl rfl rfl rfl rfl rfl ⟨rfl, rfl, rfl, rfl, rfl⟩ rfl rfl rfl rfl rfl (by kernel_rfl) Try.func10 (by kernel_rfl)
    (of_decide_eq_true (by kernel_rfl)) (by unfold Func.isWrapper; first | (rw [if_pos (by decide +kernel)]; kernel_rfl) | (rw [if_neg (by decide +kernel)]; exact ⟨rfl, rfl⟩))
    (fun os started H enc _ => lifted_ListLong os started H enc)

end Go.Proofs.Ytmdnjnflmijofaa
