/- The law CivilCut: for every input the call returns true, and turns nothing that was there; the statement's frame, by program. Conditions: none but the row's own. -/
import Derived.Test.YtcliejgmehlojaaDoorCivA
import Derived.Test.YtcliejgmehlojaaDoorCards
import Derived.Test.YtcliejgmehlojaaDoorTie
set_option linter.unusedVariables false
set_option linter.unusedSimpArgs false
namespace Go.Proofs.YtcliejgmehlojaaDoor
open Go.Sx Go.RowKit Go.ChangeShapes Go.WideShapes Go.ChangeAt

theorem own_CivilCut : ownKnob Tryd.prog.godebug = none := by kernel_rfl
theorem laidOut_CivilCut : laidOutB Tryd.prog = true := by kernel_rfl
theorem law_CivilCut (W : World) (hg : GL W) (args : Array Value) (h : GoodAll Tryd.prog W Tryd.f8.params.toList args.toList) : FnP Tryd.prog 8 args W fun v W' => v = .bool true ∧ Ext W W' :=
  open_shiftbellkeep_CivilCut W (fun args => FnP Tryd.prog 8 args W fun v W' => v = .bool true ∧ Ext W W') (core_CivilCut W hg) args h

def list_CivilCut : List (String × DataW Unit) := [("shiftbell/civil.ahead", Rows.laid_shiftbell_civil_ahead)]
theorem door_CivilCut (os : Os) (args : Array Value) : laidMetH Tryd.prog list_CivilCut ((World.doorLaid Tryd.prog 400 os).forCall (fun _ _ => 0) ⟨#[], args, []⟩).memory :=
  laidMetH_of_parts3 (fuel := 8) (laidMet_of_run' 8 (by kernel_rfl) (by kernel_rfl)) (by kernel_rfl) (by kernel_rfl)
set_option maxRecDepth 100000 in
theorem lifted_CivilCut (os : Os) (started : os.Started) (H : Type) (enc : TypeId × Value → H) :
    ReturnsInHanded {} Tryd.checked os 8 .any (fun w args => (Rows.civilCutSpec.pre enc Tryd.prog Tryd.f8 [] false w args ∧ laidMetH Tryd.prog list_CivilCut w) ∧ sizedMet enc Tryd.prog Tryd.f8 (OpenSpec.ofChange Rows.civilCutSpec) false w args)
      (Rows.civilCutSpec.post enc Tryd.prog Tryd.f8 false true false false) := by
  refine returnsInHanded_of_change_and (C := Tryd.checked) (X := fun w _ => laidMetH Tryd.prog list_CivilCut w) (fun _ _ _ hh h => h.of_heap hh) own_CivilCut started (by kernel_rfl) Tryd.func8
    (ChangeSpec.witness_shaped (enc := enc) (C := Tryd.checked) (os := os) (X := fun w _ => laidMetH Tryd.prog list_CivilCut w) false (World.doorLaid Tryd.prog 400 os) #[(.int .i64 0)] 8 rfl (World.shaped_of_RefB (by kernel_rfl) (by kernel_rfl)) (by kernel_rfl) (by kernel_rfl) (by kernel_rfl) (door_CivilCut os _)) ?_
  intro W base args ds gs before hval hW _ _ hL _
  exact law_at (P := Tryd.prog) (f := Tryd.f8) (s := Rows.civilCutSpec) (tb := 4) laidOut_CivilCut (by kernel_rfl) (by kernel_rfl) (by kernel_rfl) rfl
    (fun ds hd => by
      rw [Tryd.params8] at hd
      match ds, hd with
      | [_], _ => rfl) W base args (law_CivilCut W (laid_ok hL) args) ds gs before hval hW

theorem holds_CivilCut : Rows.CivilCutSaid :=
  OpenClaim.holds_of_wide 8 Tryd.f8 rfl rfl rfl rfl rfl rfl rfl ⟨rfl, rfl, rfl, rfl, rfl⟩ rfl rfl rfl rfl rfl (by kernel_rfl) Tryd.func8 (by kernel_rfl)
    (of_decide_eq_true (by kernel_rfl)) (by unfold Func.isWrapper; first | (rw [if_pos (by decide +kernel)]; kernel_rfl) | (rw [if_neg (by decide +kernel)]; exact ⟨rfl, rfl⟩))
    (fun os started H enc _ => lifted_CivilCut os started H enc)

theorem card_CivilCut : Rows.CivilCutCardSaid :=
  Claim7.holds_tied_plain_at .later [] [.data] true (true, "f93b5a62dc56ca3dd6800a3a193e52fa01be55fab0c6d71013dc96a58d77cba6") false
    holds_CivilCut (fun _ h => by cases h) (by kernel_rfl) (fun _ h => by cases h) civilCut_row_tie rfl ⟨rfl, rfl⟩ (by kernel_rfl) rfl
    (fun f fn hf hfn => by
      obtain rfl : f = 8 := Option.some.inj ((show Tryd.prog.funcNamed "shiftbell/shiftbellkeep.CivilCut" = some 8 by kernel_rfl).symm.trans hf) |>.symm
      obtain rfl : fn = Tryd.f8 := (Option.some.inj (Tryd.func8.symm.trans hfn)).symm
      exact ⟨by kernel_rfl, fun j t ht => by
        have hm : t ∈ Tryd.f8.params.toList := by simpa using Array.mem_of_getElem? ht
        have hall : (Tryd.f8.params.toList.all fun u => !Tryd.prog.wantsStandIn u) = true := by kernel_rfl
        exact (show Tryd.prog.wantsStandIn t = false by simpa using List.all_eq_true.1 hall t hm)⟩)
    (by kernel_rfl)

end Go.Proofs.YtcliejgmehlojaaDoor
