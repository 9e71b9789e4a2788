/- The law CivilText: for every input the call returns true, and turns nothing that was there; the statement's frame, by program. Conditions: none but the row's own. -/
import Derived.Test.YtcliejgmehlojaaDoorCvT
import Derived.Test.YtcliejgmehlojaaDoorCards
import Derived.Test.YtcliejgmehlojaaDoorTie
set_option linter.unusedVariables false
set_option linter.unusedSimpArgs false
namespace Go.Proofs.YtcliejgmehlojaaDoor
open Go.Sx Go.RowKit Go.ChangeShapes Go.WideShapes Go.ChangeAt

theorem own_CivilText : ownKnob Tryd.prog.godebug = none := by kernel_rfl
theorem laidOut_CivilText : laidOutB Tryd.prog = true := by kernel_rfl
theorem law_CivilText (W : World) (hg : GL W) (args : Array Value) (h : GoodAll Tryd.prog W Tryd.f9.params.toList args.toList) : FnP Tryd.prog 9 args W fun v W' => v = .bool true ∧ Ext W W' :=
  open_shiftbellkeep_CivilText W (fun args => FnP Tryd.prog 9 args W fun v W' => v = .bool true ∧ Ext W W') (core_CivilText W hg) args h

def list_CivilText : List (String × DataW Unit) := [("shiftbell/civil.ahead", Rows.laid_shiftbell_civil_ahead)]
theorem door_CivilText (os : Os) (args : Array Value) : laidMetH Tryd.prog list_CivilText ((World.doorLaid Tryd.prog 400 os).forCall (fun _ _ => 0) ⟨#[], args, []⟩).memory :=
  laidMetH_of_parts3 (fuel := 8) (laidMet_of_run' 8 (by kernel_rfl) (by kernel_rfl)) (by kernel_rfl) (by kernel_rfl)
set_option maxRecDepth 100000 in
theorem lifted_CivilText (os : Os) (started : os.Started) (H : Type) (enc : TypeId × Value → H) :
    ReturnsInHanded {} Tryd.checked os 9 .any (fun w args => (Rows.civilTextSpec.pre enc Tryd.prog Tryd.f9 [] false w args ∧ laidMetH Tryd.prog list_CivilText w) ∧ sizedMet enc Tryd.prog Tryd.f9 (OpenSpec.ofChange Rows.civilTextSpec) false w args)
      (Rows.civilTextSpec.post enc Tryd.prog Tryd.f9 false true false false) := by
  refine returnsInHanded_of_change_and (C := Tryd.checked) (X := fun w _ => laidMetH Tryd.prog list_CivilText w) (fun _ _ _ hh h => h.of_heap hh) own_CivilText started (by kernel_rfl) Tryd.func9
    (ChangeSpec.witness_shaped (enc := enc) (C := Tryd.checked) (os := os) (X := fun w _ => laidMetH Tryd.prog list_CivilText w) false (World.doorLaid Tryd.prog 400 os) #[(.int .i64 0), (.int .i64 0), (.string (⟨#[]⟩ : ByteArray))] 8 rfl (World.shaped_of_RefB (by kernel_rfl) (by kernel_rfl)) (by kernel_rfl) (by kernel_rfl) (by kernel_rfl) (door_CivilText os _)) ?_
  intro W base args ds gs before hval hW _ _ hL _
  exact law_at (P := Tryd.prog) (f := Tryd.f9) (s := Rows.civilTextSpec) (tb := 4) laidOut_CivilText (by kernel_rfl) (by kernel_rfl) (by kernel_rfl) rfl
    (fun ds hd => by
      rw [Tryd.params9] at hd
      match ds, hd with
      | [_, _, _], _ => rfl) W base args (law_CivilText W (laid_ok hL) args) ds gs before hval hW

theorem holds_CivilText : Rows.CivilTextSaid :=
  OpenClaim.holds_of_wide 9 Tryd.f9 rfl rfl rfl rfl rfl rfl rfl ⟨rfl, rfl, rfl, rfl, rfl⟩ rfl rfl rfl rfl rfl (by kernel_rfl) Tryd.func9 (by kernel_rfl)
    (of_decide_eq_true (by kernel_rfl)) (by unfold Func.isWrapper; first | (rw [if_pos (by decide +kernel)]; kernel_rfl) | (rw [if_neg (by decide +kernel)]; exact ⟨rfl, rfl⟩))
    (fun os started H enc _ => lifted_CivilText os started H enc)

theorem card_CivilText : Rows.CivilTextCardSaid :=
  Claim7.holds_tied_plain_at .later [] [.data] true (true, "f93b5a62dc56ca3dd6800a3a193e52fa01be55fab0c6d71013dc96a58d77cba6") false
    holds_CivilText (fun _ h => by cases h) (by kernel_rfl) (fun _ h => by cases h) civilText_row_tie rfl ⟨rfl, rfl⟩ (by kernel_rfl) rfl
    (fun f fn hf hfn => by
      obtain rfl : f = 9 := Option.some.inj ((show Tryd.prog.funcNamed "shiftbell/shiftbellkeep.CivilText" = some 9 by kernel_rfl).symm.trans hf) |>.symm
      obtain rfl : fn = Tryd.f9 := (Option.some.inj (Tryd.func9.symm.trans hfn)).symm
      exact ⟨by kernel_rfl, fun j t ht => by
        have hm : t ∈ Tryd.f9.params.toList := by simpa using Array.mem_of_getElem? ht
        have hall : (Tryd.f9.params.toList.all fun u => !Tryd.prog.wantsStandIn u) = true := by kernel_rfl
        exact (show Tryd.prog.wantsStandIn t = false by simpa using List.all_eq_true.1 hall t hm)⟩)
    (by kernel_rfl)

end Go.Proofs.YtcliejgmehlojaaDoor
