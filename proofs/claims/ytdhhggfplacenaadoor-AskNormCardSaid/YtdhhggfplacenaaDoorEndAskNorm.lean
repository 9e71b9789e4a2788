/- The law AskNorm: for every input the call returns true, and turns nothing that was there; the statement's frame, by program. Conditions: none but the row's own. -/
import Derived.Test.YtdhhggfplacenaaDoorAnL
import Derived.Test.YtdhhggfplacenaaDoorCards
import Derived.Test.YtdhhggfplacenaaDoorTie
set_option linter.unusedVariables false
set_option linter.unusedSimpArgs false
namespace Go.Proofs.YtdhhggfplacenaaDoor
open Go.Sx Go.RowKit Go.ChangeShapes Go.WideShapes Go.ChangeAt

theorem own_AskNorm : ownKnob Tryd.prog.godebug = none := by kernel_rfl
theorem laidOut_AskNorm : laidOutB Tryd.prog = true := by kernel_rfl
theorem law_AskNorm (W : World) (hg : GL W) (args : Array Value) (h : GoodAll Tryd.prog W Tryd.f7.params.toList args.toList) : FnP Tryd.prog 7 args W fun v W' => v = .bool true ∧ Ext W W' :=
  open_shiftbellkeep_AskNorm W (fun args => FnP Tryd.prog 7 args W fun v W' => v = .bool true ∧ Ext W W') (core_AskNorm W hg) args h

def list_AskNorm : List (String × DataW Unit) := [("math/bits.deBruijn32tab", Rows.laid_math_bits_deBruijn32tab), ("math/bits.deBruijn64tab", Rows.laid_math_bits_deBruijn64tab), ("internal/strconv.uint64pow10", Rows.laid_internal_strconv_uint64pow10)]
theorem door_AskNorm (os : Os) (args : Array Value) : laidMetH Tryd.prog list_AskNorm ((World.doorLaid Tryd.prog 400 os).forCall (fun _ _ => 0) ⟨#[], args, []⟩).memory :=
  laidMetH_of_parts3 (fuel := 8) (laidMet_of_run' 8 (by kernel_rfl) (by kernel_rfl)) (by kernel_rfl) (by kernel_rfl)
set_option maxRecDepth 100000 in
theorem lifted_AskNorm (os : Os) (started : os.Started) (H : Type) (enc : TypeId × Value → H) :
    ReturnsInHanded {} Tryd.checked os 7 .any (fun w args => (Rows.askNormSpec.pre enc Tryd.prog Tryd.f7 [] false w args ∧ laidMetH Tryd.prog list_AskNorm w) ∧ sizedMet enc Tryd.prog Tryd.f7 (OpenSpec.ofChange Rows.askNormSpec) false w args)
      (Rows.askNormSpec.post enc Tryd.prog Tryd.f7 false true false false) := by
  refine returnsInHanded_of_change_and (C := Tryd.checked) (X := fun w _ => laidMetH Tryd.prog list_AskNorm w) (fun _ _ _ hh h => h.of_heap hh) own_AskNorm started (by kernel_rfl) Tryd.func7
    (ChangeSpec.witness_shaped (enc := enc) (C := Tryd.checked) (os := os) (X := fun w _ => laidMetH Tryd.prog list_AskNorm w) false (World.doorLaid Tryd.prog 400 os) #[(.agg #[(.int .i64 0), (.string (⟨#[]⟩ : ByteArray)), (.string (⟨#[]⟩ : ByteArray)), (.int .i64 0), (.slice none 0 0)]), (.agg #[(.string (⟨#[]⟩ : ByteArray)), (.slice none 0 0), (.int .i64 0), (.int .i64 0), (.int .i64 0), (.int .i64 0), (.int .i64 0), (.int .i64 0)])] 8 rfl (World.shaped_of_RefB (by kernel_rfl) (by kernel_rfl)) (by kernel_rfl) (by kernel_rfl) (by kernel_rfl) (door_AskNorm os _)) ?_
  intro W base args ds gs before hval hW _ _ hL _
  exact law_at (P := Tryd.prog) (f := Tryd.f7) (s := Rows.askNormSpec) (tb := 4) laidOut_AskNorm (by kernel_rfl) (by kernel_rfl) (by kernel_rfl) rfl
    (fun ds hd => by
      rw [Tryd.params7] at hd
      match ds, hd with
      | [_, _], _ => rfl) W base args (law_AskNorm W (laid_ok hL) args) ds gs before hval hW

theorem holds_AskNorm : Rows.AskNormSaid :=
  OpenClaim.holds_of_wide 7 Tryd.f7 rfl rfl rfl rfl rfl rfl rfl ⟨rfl, rfl, rfl, rfl, rfl⟩ rfl rfl rfl rfl rfl (by kernel_rfl) Tryd.func7 (by kernel_rfl)
    (of_decide_eq_true (by kernel_rfl)) (by unfold Func.isWrapper; first | (rw [if_pos (by decide +kernel)]; kernel_rfl) | (rw [if_neg (by decide +kernel)]; exact ⟨rfl, rfl⟩))
    (fun os started H enc _ => lifted_AskNorm os started H enc)

theorem card_AskNorm : Rows.AskNormCardSaid :=
  Claim7.holds_tied_plain_at .later [] [.data, .data, .data] true (true, "f4b82be4f822c867178712701565c1c9c0c6829c14e622bc8787a65ac0ad6279") true
    holds_AskNorm (fun _ h => by cases h) (by kernel_rfl) (fun _ h => by cases h) askNorm_row_tie rfl ⟨rfl, rfl⟩ (by kernel_rfl) rfl
    (fun f fn hf hfn => by
      obtain rfl : f = 7 := Option.some.inj ((show Tryd.prog.funcNamed "shiftbell/shiftbellkeep.AskNorm" = some 7 by kernel_rfl).symm.trans hf) |>.symm
      obtain rfl : fn = Tryd.f7 := (Option.some.inj (Tryd.func7.symm.trans hfn)).symm
      exact ⟨by kernel_rfl, fun j t ht => by
        have hm : t ∈ Tryd.f7.params.toList := by simpa using Array.mem_of_getElem? ht
        have hall : (Tryd.f7.params.toList.all fun u => !Tryd.prog.wantsStandIn u) = true := by kernel_rfl
        exact (show Tryd.prog.wantsStandIn t = false by simpa using List.all_eq_true.1 hall t hm)⟩)
    (by kernel_rfl)

end Go.Proofs.YtdhhggfplacenaaDoor
