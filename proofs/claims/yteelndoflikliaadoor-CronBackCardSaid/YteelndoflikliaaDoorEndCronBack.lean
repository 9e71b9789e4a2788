/- The law CronBack: for every input the call returns true, and turns nothing that was there; the statement's frame, by program. Conditions: none but the row's own. -/
import Derived.Test.YteelndoflikliaaDoorCtL
import Derived.Test.YteelndoflikliaaDoorCards
import Derived.Test.YteelndoflikliaaDoorTie
import Derived.Lay
import Derived.MakeChecks
set_option linter.unusedVariables false
set_option linter.unusedSimpArgs false
namespace Go.Proofs.YteelndoflikliaaDoor
open Go.Sx Go.RowKit Go.ChangeShapes Go.WideShapes Go.ChangeAt

theorem own_CronBack : ownKnob Tryd.prog.godebug = none := by kernel_rfl
theorem laidOut_CronBack : laidOutB Tryd.prog = true := by kernel_rfl
theorem law_CronBack (W : World) (hg : GL W) (args : Array Value) (h : GoodAll Tryd.prog W Tryd.f6.params.toList args.toList) : FnP Tryd.prog 6 args W fun v W' => v = .bool true ∧ Ext W W' :=
  open_shiftbellkeep_CronBack W (fun args => FnP Tryd.prog 6 args W fun v W' => v = .bool true ∧ Ext W W') (core_CronBack W hg) args h

def list_CronBack : List (String × DataW Unit) := [("math/bits.deBruijn32tab", Rows.laid_math_bits_deBruijn32tab), ("math/bits.deBruijn64tab", Rows.laid_math_bits_deBruijn64tab), ("internal/strconv.uint64pow10", Rows.laid_internal_strconv_uint64pow10), ("shiftbell/civil.ahead", Rows.laid_shiftbell_civil_ahead), ("unicode/utf8.acceptRanges", Rows.laid_unicode_utf8_acceptRanges), ("strconv.ErrRange", Rows.laid_strconv_ErrRange), ("strconv.ErrSyntax", Rows.laid_strconv_ErrSyntax), ("unicode/utf8.first", Rows.laid_unicode_utf8_first)]
theorem door_CronBack (os : Os) (args : Array Value) : laidMetH Tryd.prog list_CronBack ((World.laidAll Tryd.prog os list_CronBack).forCall (fun _ _ => 0) ⟨#[], args, []⟩).memory := by rw [MakeChecks.laidMetH_plain _ _ _ (by kernel_rfl)]; exact laidMet_laidAll _ (by kernel_rfl) (by kernel_rfl)
set_option maxRecDepth 100000 in
theorem lifted_CronBack (os : Os) (started : os.Started) (H : Type) (enc : TypeId × Value → H) :
    ReturnsInHanded {} Tryd.checked os 6 .any (fun w args => (Rows.cronBackSpec.pre enc Tryd.prog Tryd.f6 [] false w args ∧ laidMetH Tryd.prog list_CronBack w) ∧ sizedMet enc Tryd.prog Tryd.f6 (OpenSpec.ofChange Rows.cronBackSpec) false w args)
      (Rows.cronBackSpec.post enc Tryd.prog Tryd.f6 false true false false) := by
  refine handed_shaped (C := Tryd.checked) (X := fun w _ => laidMetH Tryd.prog list_CronBack w) (fun _ _ _ hh h => h.of_heap hh) own_CronBack started (by kernel_rfl) Tryd.func6
    (ChangeSpec.witness_shaped (enc := enc) (C := Tryd.checked) (os := os) (X := fun w _ => laidMetH Tryd.prog list_CronBack w) false (World.laidAll Tryd.prog os list_CronBack) #[(.agg #[(.int .u64 0), (.int .u64 0), (.int .u64 0), (.int .u64 0), (.int .u64 0)])] 8 (World.laidAll_os _ _ _) (World.shaped_of_ZipB (by kernel_rfl) (by kernel_rfl)) (by kernel_rfl) (by kernel_rfl) (by kernel_rfl) (door_CronBack os _)) ?_
  intro W base args ds gs before hval hW _ _ hL _ hsp
  exact law_at (P := Tryd.prog) (f := Tryd.f6) (s := Rows.cronBackSpec) (tb := 4) laidOut_CronBack (by kernel_rfl) (by kernel_rfl) (by kernel_rfl) rfl
    (fun ds hd => by
      rw [Tryd.params6] at hd
      match ds, hd with
      | [_], _ => rfl) W base args (law_CronBack W (laid_okS hL hsp) args) ds gs before hval hW

theorem holds_CronBack : Rows.CronBackSaid :=
  OpenClaim.holds_of_wide 6 Tryd.f6 rfl rfl rfl rfl rfl rfl rfl ⟨rfl, rfl, rfl, rfl, rfl⟩ rfl rfl rfl rfl rfl (by kernel_rfl) Tryd.func6 (by kernel_rfl)
    (of_decide_eq_true (by kernel_rfl)) (by unfold Func.isWrapper; first | (rw [if_pos (by decide +kernel)]; kernel_rfl) | (rw [if_neg (by decide +kernel)]; exact ⟨rfl, rfl⟩))
    (fun os started H enc _ => lifted_CronBack os started H enc)

theorem card_CronBack : Rows.CronBackCardSaid :=
  Claim7.holds_tied_plain_at .later [] [.data, .data, .data, .data, .data, .sentinel, .sentinel, .pinned] true (true, "01258724e008b33df99b50a1517b6a2b602ae0de7535c79d8bd66ae6e693adde") true
    holds_CronBack (fun _ h => by cases h) (by kernel_rfl) (fun _ h => by cases h) cronBack_row_tie rfl ⟨rfl, rfl⟩ (by kernel_rfl) rfl
    (fun f fn hf hfn => by
      obtain rfl : f = 6 := Option.some.inj ((show Tryd.prog.funcNamed "shiftbell/shiftbellkeep.CronBack" = some 6 by kernel_rfl).symm.trans hf) |>.symm
      obtain rfl : fn = Tryd.f6 := (Option.some.inj (Tryd.func6.symm.trans hfn)).symm
      exact ⟨by kernel_rfl, fun j t ht => by
        have hm : t ∈ Tryd.f6.params.toList := by simpa using Array.mem_of_getElem? ht
        have hall : (Tryd.f6.params.toList.all fun u => !Tryd.prog.wantsStandIn u) = true := by kernel_rfl
        exact (show Tryd.prog.wantsStandIn t = false by simpa using List.all_eq_true.1 hall t hm)⟩)
    (by kernel_rfl)

end Go.Proofs.YteelndoflikliaaDoor
