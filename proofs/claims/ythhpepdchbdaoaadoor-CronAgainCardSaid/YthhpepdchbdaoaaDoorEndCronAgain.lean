/- The law CronAgain: for every input the call returns true, and turns nothing that was there; the statement's frame, by program. Conditions: none but the row's own. -/
import Derived.Test.YthhpepdchbdaoaaDoorCrL
import Derived.Test.YthhpepdchbdaoaaDoorCards
import Derived.Test.YthhpepdchbdaoaaDoorTie
set_option linter.unusedVariables false
set_option linter.unusedSimpArgs false
namespace Go.Proofs.YthhpepdchbdaoaaDoor
open Go.Sx Go.RowKit Go.ChangeShapes Go.WideShapes Go.ChangeAt

theorem own_CronAgain : ownKnob Tryd.prog.godebug = none := by kernel_rfl
theorem laidOut_CronAgain : laidOutB Tryd.prog = true := by kernel_rfl
theorem law_CronAgain (W : World) (hg : GL W) (args : Array Value) (h : GoodAll Tryd.prog W Tryd.f6.params.toList args.toList) : FnP Tryd.prog 6 args W fun v W' => v = .bool true ∧ Ext W W' :=
  open_shiftbellkeep_CronAgain W (fun args => FnP Tryd.prog 6 args W fun v W' => v = .bool true ∧ Ext W W') (core_CronAgain W hg) args h

def list_CronAgain : List (String × DataW Unit) := [("math/bits.deBruijn64tab", Rows.laid_math_bits_deBruijn64tab), ("shiftbell/civil.ahead", Rows.laid_shiftbell_civil_ahead)]
theorem door_CronAgain (os : Os) (args : Array Value) : laidMetH Tryd.prog list_CronAgain ((World.doorLaid Tryd.prog 400 os).forCall (fun _ _ => 0) ⟨#[], args, []⟩).memory :=
  laidMetH_of_parts3 (fuel := 8) (laidMet_of_run' 8 (by kernel_rfl) (by kernel_rfl)) (by kernel_rfl) (by kernel_rfl)
set_option maxRecDepth 100000 in
theorem lifted_CronAgain (os : Os) (started : os.Started) (H : Type) (enc : TypeId × Value → H) :
    ReturnsInHanded {} Tryd.checked os 6 .any (fun w args => (Rows.cronAgainSpec.pre enc Tryd.prog Tryd.f6 [] false w args ∧ laidMetH Tryd.prog list_CronAgain w) ∧ sizedMet enc Tryd.prog Tryd.f6 (OpenSpec.ofChange Rows.cronAgainSpec) false w args)
      (Rows.cronAgainSpec.post enc Tryd.prog Tryd.f6 false true false false) := by
  refine returnsInHanded_of_change_and (C := Tryd.checked) (X := fun w _ => laidMetH Tryd.prog list_CronAgain w) (fun _ _ _ hh h => h.of_heap hh) own_CronAgain started (by kernel_rfl) Tryd.func6
    (ChangeSpec.witness_shaped (enc := enc) (C := Tryd.checked) (os := os) (X := fun w _ => laidMetH Tryd.prog list_CronAgain w) false (World.doorLaid Tryd.prog 400 os) #[(.agg #[(.int .u64 0), (.int .u64 0), (.int .u64 0), (.int .u64 0), (.int .u64 0)]), (.int .i64 0)] 8 rfl (World.shaped_of_RefB (by kernel_rfl) (by kernel_rfl)) (by kernel_rfl) (by kernel_rfl) (by kernel_rfl) (door_CronAgain os _)) ?_
  intro W base args ds gs before hval hW _ _ hL _
  exact law_at (P := Tryd.prog) (f := Tryd.f6) (s := Rows.cronAgainSpec) (tb := 4) laidOut_CronAgain (by kernel_rfl) (by kernel_rfl) (by kernel_rfl) rfl
    (fun ds hd => by
      rw [Tryd.params6] at hd
      match ds, hd with
      | [_, _], _ => rfl) W base args (law_CronAgain W (laid_ok hL) args) ds gs before hval hW

theorem holds_CronAgain : Rows.CronAgainSaid :=
  OpenClaim.holds_of_wide 6 Tryd.f6 rfl rfl rfl rfl rfl rfl rfl ⟨rfl, rfl, rfl, rfl, rfl⟩ rfl rfl rfl rfl rfl (by kernel_rfl) Tryd.func6 (by kernel_rfl)
    (of_decide_eq_true (by kernel_rfl)) (by unfold Func.isWrapper; first | (rw [if_pos (by decide +kernel)]; kernel_rfl) | (rw [if_neg (by decide +kernel)]; exact ⟨rfl, rfl⟩))
    (fun os started H enc _ => lifted_CronAgain os started H enc)

theorem card_CronAgain : Rows.CronAgainCardSaid :=
  Claim7.holds_tied_plain_at .later [] [.data, .data] true (true, "ce09dba20ee8b4525538e5baced7eac427f1fae750aa3edb2274321d822775c7") true
    holds_CronAgain (fun _ h => by cases h) (by kernel_rfl) (fun _ h => by cases h) cronAgain_row_tie rfl ⟨rfl, rfl⟩ (by kernel_rfl) rfl
    (fun f fn hf hfn => by
      obtain rfl : f = 6 := Option.some.inj ((show Tryd.prog.funcNamed "shiftbell/shiftbellkeep.CronAgain" = some 6 by kernel_rfl).symm.trans hf) |>.symm
      obtain rfl : fn = Tryd.f6 := (Option.some.inj (Tryd.func6.symm.trans hfn)).symm
      exact ⟨by kernel_rfl, fun j t ht => by
        have hm : t ∈ Tryd.f6.params.toList := by simpa using Array.mem_of_getElem? ht
        have hall : (Tryd.f6.params.toList.all fun u => !Tryd.prog.wantsStandIn u) = true := by kernel_rfl
        exact (show Tryd.prog.wantsStandIn t = false by simpa using List.all_eq_true.1 hall t hm)⟩)
    (by kernel_rfl)

end Go.Proofs.YthhpepdchbdaoaaDoor
