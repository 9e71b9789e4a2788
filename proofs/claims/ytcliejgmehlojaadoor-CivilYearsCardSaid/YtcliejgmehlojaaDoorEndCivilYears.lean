/- The law CivilYears: for every input the call returns true, and turns nothing that was there; the statement's frame, by program. Conditions: none but the row's own. -/
import Derived.Test.YtcliejgmehlojaaDoorCivA
import Derived.Test.YtcliejgmehlojaaDoorCards
import Derived.Test.YtcliejgmehlojaaDoorTie
set_option linter.unusedVariables false
set_option linter.unusedSimpArgs false
namespace Go.Proofs.YtcliejgmehlojaaDoor
open Go.Sx Go.RowKit Go.ChangeShapes Go.WideShapes Go.ChangeAt

theorem own_CivilYears : ownKnob Tryd.prog.godebug = none := by kernel_rfl
theorem laidOut_CivilYears : laidOutB Tryd.prog = true := by kernel_rfl
theorem law_CivilYears (W : World) (hg : GL W) (args : Array Value) (h : GoodAll Tryd.prog W Tryd.f7.params.toList args.toList) : FnP Tryd.prog 7 args W fun v W' => v = .bool true ∧ Ext W W' :=
  open_shiftbellkeep_CivilYears W (fun args => FnP Tryd.prog 7 args W fun v W' => v = .bool true ∧ Ext W W') (core_CivilYears W hg) args h

def list_CivilYears : List (String × DataW Unit) := [("shiftbell/civil.ahead", Rows.laid_shiftbell_civil_ahead)]
theorem door_CivilYears (os : Os) (args : Array Value) : laidMetH Tryd.prog list_CivilYears ((World.doorLaid Tryd.prog 400 os).forCall (fun _ _ => 0) ⟨#[], args, []⟩).memory :=
  laidMetH_of_parts3 (fuel := 8) (laidMet_of_run' 8 (by kernel_rfl) (by kernel_rfl)) (by kernel_rfl) (by kernel_rfl)
set_option maxRecDepth 100000 in
theorem lifted_CivilYears (os : Os) (started : os.Started) (H : Type) (enc : TypeId × Value → H) :
    ReturnsInHanded {} Tryd.checked os 7 .any (fun w args => (Rows.civilYearsSpec.pre enc Tryd.prog Tryd.f7 [] false w args ∧ laidMetH Tryd.prog list_CivilYears w) ∧ sizedMet enc Tryd.prog Tryd.f7 (OpenSpec.ofChange Rows.civilYearsSpec) false w args)
      (Rows.civilYearsSpec.post enc Tryd.prog Tryd.f7 false true false false) := by
  refine returnsInHanded_of_change_and (C := Tryd.checked) (X := fun w _ => laidMetH Tryd.prog list_CivilYears w) (fun _ _ _ hh h => h.of_heap hh) own_CivilYears started (by kernel_rfl) Tryd.func7
    (ChangeSpec.witness_shaped (enc := enc) (C := Tryd.checked) (os := os) (X := fun w _ => laidMetH Tryd.prog list_CivilYears w) false (World.doorLaid Tryd.prog 400 os) #[(.int .i64 0)] 8 rfl (World.shaped_of_RefB (by kernel_rfl) (by kernel_rfl)) (by kernel_rfl) (by kernel_rfl) (by kernel_rfl) (door_CivilYears os _)) ?_
  intro W base args ds gs before hval hW _ _ hL _
  exact law_at (P := Tryd.prog) (f := Tryd.f7) (s := Rows.civilYearsSpec) (tb := 4) laidOut_CivilYears (by kernel_rfl) (by kernel_rfl) (by kernel_rfl) rfl
    (fun ds hd => by
      rw [Tryd.params7] at hd
      match ds, hd with
      | [_], _ => rfl) W base args (law_CivilYears W (laid_ok hL) args) ds gs before hval hW

theorem holds_CivilYears : Rows.CivilYearsSaid :=
  OpenClaim.holds_of_wide 7 Tryd.f7 rfl rfl rfl rfl rfl rfl rfl ⟨rfl, rfl, rfl, rfl, rfl⟩ rfl rfl rfl rfl rfl (by kernel_rfl) Tryd.func7 (by kernel_rfl)
    (of_decide_eq_true (by kernel_rfl)) (by unfold Func.isWrapper; first | (rw [if_pos (by decide +kernel)]; kernel_rfl) | (rw [if_neg (by decide +kernel)]; exact ⟨rfl, rfl⟩))
    (fun os started H enc _ => lifted_CivilYears os started H enc)

theorem card_CivilYears : Rows.CivilYearsCardSaid :=
  Claim7.holds_tied_plain_at .later [] [.data] true (true, "f93b5a62dc56ca3dd6800a3a193e52fa01be55fab0c6d71013dc96a58d77cba6") false
    holds_CivilYears (fun _ h => by cases h) (by kernel_rfl) (fun _ h => by cases h) civilYears_row_tie rfl ⟨rfl, rfl⟩ (by kernel_rfl) rfl
    (fun f fn hf hfn => by
      obtain rfl : f = 7 := Option.some.inj ((show Tryd.prog.funcNamed "shiftbell/shiftbellkeep.CivilYears" = some 7 by kernel_rfl).symm.trans hf) |>.symm
      obtain rfl : fn = Tryd.f7 := (Option.some.inj (Tryd.func7.symm.trans hfn)).symm
      exact ⟨by kernel_rfl, fun j t ht => by
        have hm : t ∈ Tryd.f7.params.toList := by simpa using Array.mem_of_getElem? ht
        have hall : (Tryd.f7.params.toList.all fun u => !Tryd.prog.wantsStandIn u) = true := by kernel_rfl
        exact (show Tryd.prog.wantsStandIn t = false by simpa using List.all_eq_true.1 hall t hm)⟩)
    (by kernel_rfl)

end Go.Proofs.YtcliejgmehlojaaDoor
