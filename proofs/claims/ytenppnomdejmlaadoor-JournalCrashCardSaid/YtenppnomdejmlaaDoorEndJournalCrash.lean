/- The law JournalCrash: for every input the call returns true, and turns nothing that was there; the statement's frame, by program. Conditions: none but the row's own. -/
import Derived.Test.YtenppnomdejmlaaDoorJcC
import Derived.Test.YtenppnomdejmlaaDoorCards
import Derived.Test.YtenppnomdejmlaaDoorTie
import Derived.Lay
import Derived.MakeChecks
set_option linter.unusedVariables false
set_option linter.unusedSimpArgs false
namespace Go.Proofs.YtenppnomdejmlaaDoor
open Go.Sx Go.RowKit Go.ChangeShapes Go.WideShapes Go.ChangeAt

theorem own_JournalCrash : ownKnob Tryd.prog.godebug = none := by kernel_rfl
theorem laidOut_JournalCrash : laidOutB Tryd.prog = true := by kernel_rfl
theorem law_JournalCrash (W : World) (hg : GL W) (args : Array Value) (h : GoodAll Tryd.prog W Tryd.f3.params.toList args.toList) : FnP Tryd.prog 3 args W fun v W' => v = .bool true ∧ Ext W W' :=
  open_shiftbellkeep_JournalCrash W (fun args => FnP Tryd.prog 3 args W fun v W' => v = .bool true ∧ Ext W W') (core_JournalCrash W hg) args h

def list_JournalCrash : List (String × DataW Unit) := [("math/bits.deBruijn32tab", Rows.laid_math_bits_deBruijn32tab), ("math/bits.deBruijn64tab", Rows.laid_math_bits_deBruijn64tab), ("internal/strconv.uint64pow10", Rows.laid_internal_strconv_uint64pow10)]
theorem door_JournalCrash (os : Os) (args : Array Value) : laidMetH Tryd.prog list_JournalCrash ((World.doorLaid Tryd.prog 400 os).forCall (fun _ _ => 0) ⟨#[], args, []⟩).memory := laidMetH_of_parts3 (fuel := 8) (laidMet_of_run' 8 (by kernel_rfl) (by kernel_rfl)) (by kernel_rfl) (by kernel_rfl)
set_option maxRecDepth 100000 in
theorem lifted_JournalCrash (os : Os) (started : os.Started) (H : Type) (enc : TypeId × Value → H) :
    ReturnsInHanded {} Tryd.checked os 3 .any (fun w args => (Rows.journalCrashSpec.pre enc Tryd.prog Tryd.f3 [] false w args ∧ laidMetH Tryd.prog list_JournalCrash w) ∧ sizedMet enc Tryd.prog Tryd.f3 (OpenSpec.ofChange Rows.journalCrashSpec) false w args)
      (Rows.journalCrashSpec.post enc Tryd.prog Tryd.f3 false true false false) := by
  refine returnsInHanded_of_change_and (C := Tryd.checked) (X := fun w _ => laidMetH Tryd.prog list_JournalCrash w) (fun _ _ _ hh h => h.of_heap hh) own_JournalCrash started (by kernel_rfl) Tryd.func3
    (ChangeSpec.witness_shaped (enc := enc) (C := Tryd.checked) (os := os) (X := fun w _ => laidMetH Tryd.prog list_JournalCrash w) false (World.doorLaid Tryd.prog 400 os) #[(.slice none 0 0), (.int .i64 0), (.int .i64 0), (.slice none 0 0)] 8 rfl (World.shaped_of_RefB (by kernel_rfl) (by kernel_rfl)) (by kernel_rfl) (by kernel_rfl) (by kernel_rfl) (door_JournalCrash os _)) ?_
  intro W base args ds gs before hval hW _ _ hL _
  exact law_at (P := Tryd.prog) (f := Tryd.f3) (s := Rows.journalCrashSpec) (tb := 4) laidOut_JournalCrash (by kernel_rfl) (by kernel_rfl) (by kernel_rfl) rfl
    (fun ds hd => by
      rw [Tryd.params3] at hd
      match ds, hd with
      | [_, _, _, _], _ => rfl) W base args (law_JournalCrash W (laid_ok hL) args) ds gs before hval hW

theorem holds_JournalCrash : Rows.JournalCrashSaid :=
  OpenClaim.holds_of_wide 3 Tryd.f3 rfl rfl rfl rfl rfl rfl rfl ⟨rfl, rfl, rfl, rfl, rfl⟩ rfl rfl rfl rfl rfl (by kernel_rfl) Tryd.func3 (by kernel_rfl)
    (of_decide_eq_true (by kernel_rfl)) (by unfold Func.isWrapper; first | (rw [if_pos (by decide +kernel)]; kernel_rfl) | (rw [if_neg (by decide +kernel)]; exact ⟨rfl, rfl⟩))
    (fun os started H enc _ => lifted_JournalCrash os started H enc)

theorem card_JournalCrash : Rows.JournalCrashCardSaid :=
  Claim7.holds_tied_plain_at .later [] [.data, .data, .data] true (true, "ee7ddafc0f1b67d041a4849db574abf061dc4b3e034bc667d74d97d20559f1ff") true
    holds_JournalCrash (fun _ h => by cases h) (by kernel_rfl) (fun _ h => by cases h) journalCrash_row_tie rfl ⟨rfl, rfl⟩ (by kernel_rfl) rfl
    (fun f fn hf hfn => by
      obtain rfl : f = 3 := Option.some.inj ((show Tryd.prog.funcNamed "shiftbell/shiftbellkeep.JournalCrash" = some 3 by kernel_rfl).symm.trans hf) |>.symm
      obtain rfl : fn = Tryd.f3 := (Option.some.inj (Tryd.func3.symm.trans hfn)).symm
      exact ⟨by kernel_rfl, fun j t ht => by
        have hm : t ∈ Tryd.f3.params.toList := by simpa using Array.mem_of_getElem? ht
        have hall : (Tryd.f3.params.toList.all fun u => !Tryd.prog.wantsStandIn u) = true := by kernel_rfl
        exact (show Tryd.prog.wantsStandIn t = false by simpa using List.all_eq_true.1 hall t hm)⟩)
    (by kernel_rfl)

end Go.Proofs.YtenppnomdejmlaaDoor
