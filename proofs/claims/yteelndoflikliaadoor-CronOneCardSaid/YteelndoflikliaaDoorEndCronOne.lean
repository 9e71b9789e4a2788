/- The law CronOne: for every input the call returns true, and turns nothing that was there; the statement's frame, by program. Conditions: none but the row's own. -/
import Derived.Test.YteelndoflikliaaDoorCtL
import Derived.Test.YteelndoflikliaaDoorCards
import Derived.Test.YteelndoflikliaaDoorTie
import Derived.Lay
import Derived.MakeChecks
set_option linter.unusedVariables false
set_option linter.unusedSimpArgs false
namespace Go.Proofs.YteelndoflikliaaDoor
open Go.Sx Go.RowKit Go.ChangeShapes Go.WideShapes Go.ChangeAt

theorem own_CronOne : ownKnob Tryd.prog.godebug = none := by kernel_rfl
theorem laidOut_CronOne : laidOutB Tryd.prog = true := by kernel_rfl
theorem law_CronOne (W : World) (hg : GL W) (args : Array Value) (h : GoodAll Tryd.prog W Tryd.f7.params.toList args.toList) : FnP Tryd.prog 7 args W fun v W' => v = .bool true ∧ Ext W W' :=
  open_shiftbellkeep_CronOne W (fun args => FnP Tryd.prog 7 args W fun v W' => v = .bool true ∧ Ext W W') (core_CronOne W hg) args h

def list_CronOne : List (String × DataW Unit) := [("math/bits.deBruijn32tab", Rows.laid_math_bits_deBruijn32tab), ("math/bits.deBruijn64tab", Rows.laid_math_bits_deBruijn64tab), ("internal/strconv.uint64pow10", Rows.laid_internal_strconv_uint64pow10), ("shiftbell/civil.ahead", Rows.laid_shiftbell_civil_ahead), ("unicode/utf8.acceptRanges", Rows.laid_unicode_utf8_acceptRanges), ("strconv.ErrRange", Rows.laid_strconv_ErrRange), ("strconv.ErrSyntax", Rows.laid_strconv_ErrSyntax), ("unicode/utf8.first", Rows.laid_unicode_utf8_first)]
theorem door_CronOne (os : Os) (args : Array Value) : laidMetH Tryd.prog list_CronOne ((World.laidAll Tryd.prog os list_CronOne).forCall (fun _ _ => 0) ⟨#[], args, []⟩).memory := by rw [MakeChecks.laidMetH_plain _ _ _ (by kernel_rfl)]; exact laidMet_laidAll _ (by kernel_rfl) (by kernel_rfl)
set_option maxRecDepth 100000 in
theorem lifted_CronOne (os : Os) (started : os.Started) (H : Type) (enc : TypeId × Value → H) :
    ReturnsInHanded {} Tryd.checked os 7 .any (fun w args => (Rows.cronOneSpec.pre enc Tryd.prog Tryd.f7 [] false w args ∧ laidMetH Tryd.prog list_CronOne w) ∧ sizedMet enc Tryd.prog Tryd.f7 (OpenSpec.ofChange Rows.cronOneSpec) false w args)
      (Rows.cronOneSpec.post enc Tryd.prog Tryd.f7 false true false false) := by
  refine handed_shaped (C := Tryd.checked) (X := fun w _ => laidMetH Tryd.prog list_CronOne w) (fun _ _ _ hh h => h.of_heap hh) own_CronOne started (by kernel_rfl) Tryd.func7
    (ChangeSpec.witness_shaped (enc := enc) (C := Tryd.checked) (os := os) (X := fun w _ => laidMetH Tryd.prog list_CronOne w) false (World.laidAll Tryd.prog os list_CronOne) #[(.string (⟨#[]⟩ : ByteArray))] 8 (World.laidAll_os _ _ _) (World.shaped_of_ZipB (by kernel_rfl) (by kernel_rfl)) (by kernel_rfl) (by kernel_rfl) (by kernel_rfl) (door_CronOne os _)) ?_
  intro W base args ds gs before hval hW _ _ hL _ hsp
  exact law_at (P := Tryd.prog) (f := Tryd.f7) (s := Rows.cronOneSpec) (tb := 4) laidOut_CronOne (by kernel_rfl) (by kernel_rfl) (by kernel_rfl) rfl
    (fun ds hd => by
      rw [Tryd.params7] at hd
      match ds, hd with
      | [_], _ => rfl) W base args (law_CronOne W (laid_okS hL hsp) args) ds gs before hval hW

theorem holds_CronOne : Rows.CronOneSaid :=
  OpenClaim.holds_of_wide 7 Tryd.f7 rfl rfl rfl rfl rfl rfl rfl ⟨rfl, rfl, rfl, rfl, rfl⟩ rfl rfl rfl rfl rfl (by kernel_rfl) Tryd.func7 (by kernel_rfl)
    (of_decide_eq_true (by kernel_rfl)) (by unfold Func.isWrapper; first | (rw [if_pos (by decide +kernel)]; kernel_rfl) | (rw [if_neg (by decide +kernel)]; exact ⟨rfl, rfl⟩))
    (fun os started H enc _ => lifted_CronOne os started H enc)

theorem card_CronOne : Rows.CronOneCardSaid :=
  Claim7.holds_tied_plain_at .later [] [.data, .data, .data, .data, .data, .sentinel, .sentinel, .pinned] true (true, "01258724e008b33df99b50a1517b6a2b602ae0de7535c79d8bd66ae6e693adde") true
    holds_CronOne (fun _ h => by cases h) (by kernel_rfl) (fun _ h => by cases h) cronOne_row_tie rfl ⟨rfl, rfl⟩ (by kernel_rfl) rfl
    (fun f fn hf hfn => by
      obtain rfl : f = 7 := Option.some.inj ((show Tryd.prog.funcNamed "shiftbell/shiftbellkeep.CronOne" = some 7 by kernel_rfl).symm.trans hf) |>.symm
      obtain rfl : fn = Tryd.f7 := (Option.some.inj (Tryd.func7.symm.trans hfn)).symm
      exact ⟨by kernel_rfl, fun j t ht => by
        have hm : t ∈ Tryd.f7.params.toList := by simpa using Array.mem_of_getElem? ht
        have hall : (Tryd.f7.params.toList.all fun u => !Tryd.prog.wantsStandIn u) = true := by kernel_rfl
        exact (show Tryd.prog.wantsStandIn t = false by simpa using List.all_eq_true.1 hall t hm)⟩)
    (by kernel_rfl)

end Go.Proofs.YteelndoflikliaaDoor
