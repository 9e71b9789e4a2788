/- The law TopTickets: for every input the call returns true, and turns nothing that was there; the statement's frame, by program. Conditions: none but the row's own. Own names of the parts ahead are short, for the claim's size. -/
import Derived.Test.YtcceeahmcecbnaaGreatDoorWTopTickets6
import Derived.Test.YtcceeahmcecbnaaGreatDoorZyTopTickets
import Derived.Test.YtcceeahmcecbnaaGreatDoorCards
import Derived.Test.YtcceeahmcecbnaaGreatDoorTie
import Derived.Lay
import Derived.MakeChecks
set_option linter.unusedVariables false
set_option linter.unusedSimpArgs false
namespace Go.Proofs.YtcceeahmcecbnaaGreatDoor
open Go.Sx Go.RowKit Go.ChangeShapes Go.WideShapes Go.ChangeAt

theorem own_TopTickets : ownKnob Tryz.prog.godebug = none := by kernel_rfl
theorem laidOut_TopTickets : laidOutB Tryz.prog = true := by kernel_rfl
theorem law_TopTickets (W : World) (hg : GD W) (args : Array Value) (h : zcB Tryz.prog W Tryz.f10.params.toList args.toList) : FnP Tryz.prog 10 args W fun v W' => v = .bool true ∧ Ext W W' :=
  zpS W (fun args => FnP Tryz.prog 10 args W fun v W' => v = .bool true ∧ Ext W W') (zEN W hg) args h

def list_TopTickets : List (String × DataW Unit) := [("math/bits.deBruijn32tab", Rows.laid_math_bits_deBruijn32tab), ("math/bits.deBruijn64tab", Rows.laid_math_bits_deBruijn64tab), ("internal/strconv.uint64pow10", Rows.laid_internal_strconv_uint64pow10), ("shiftbell/civil.ahead", Rows.laid_shiftbell_civil_ahead), ("unicode/utf8.acceptRanges", Rows.laid_unicode_utf8_acceptRanges), ("errors.errorType", Rows.laid_errors_errorType), ("strconv.ErrRange", Rows.laid_strconv_ErrRange), ("strconv.ErrSyntax", Rows.laid_strconv_ErrSyntax), ("shiftbell/desk.whats", Rows.laid_shiftbell_desk_whats), ("unicode/utf8.first", Rows.laid_unicode_utf8_first)]
theorem door_TopTickets (os : Os) (args : Array Value) : laidMetH Tryz.prog list_TopTickets ((zGS os).forCall (fun _ _ => 0) ⟨#[], args, []⟩).memory := door_D os args
set_option maxRecDepth 100000 in
theorem lifted_TopTickets (os : Os) (started : os.Started) (H : Type) (enc : TypeId × Value → H) :
    ReturnsInHanded {} Tryz.checked os 10 .any (fun w args => (Rows.topTicketsSpec.pre enc Tryz.prog Tryz.f10 [] false w args ∧ laidMetH Tryz.prog list_TopTickets w) ∧ sizedMet enc Tryz.prog Tryz.f10 (OpenSpec.ofChange Rows.topTicketsSpec) false w args)
      (Rows.topTicketsSpec.post enc Tryz.prog Tryz.f10 false true false false) := by
  refine zIY (C := Tryz.checked) (X := fun w _ => laidMetH Tryz.prog list_TopTickets w) (fun _ _ _ hh h => h.of_heap hh) own_TopTickets started (by kernel_rfl) Tryz.func10
    (ChangeSpec.witness_shaped (enc := enc) (C := Tryz.checked) (os := os) (X := fun w _ => laidMetH Tryz.prog list_TopTickets w) false (zGS os) #[(.int .u64 0), (.agg #[(.string (⟨#[]⟩ : ByteArray)), (.int .i64 0), (.int .i64 0), (.int .i64 0)]), (.slice none 0 0)] 8 (startD_os _) (World.shaped_of_ZipB (by kernel_rfl) (by kernel_rfl)) (by kernel_rfl) (by kernel_rfl) (by kernel_rfl) (door_TopTickets os _)) ?_
  intro W base args ds gs zcn hval hW _ _ hL _ hsp
  exact law_at (P := Tryz.prog) (f := Tryz.f10) (s := Rows.topTicketsSpec) (tb := 4) laidOut_TopTickets (by kernel_rfl) (by kernel_rfl) (by kernel_rfl) rfl
    (fun ds hd => by
      rw [Tryz.params10] at hd
      match ds, hd with
      | [_, _, _], _ => rfl) W base args (law_TopTickets W (laid_okD hL hsp) args) ds gs zcn hval hW

theorem holds_TopTickets : Rows.TopTicketsSaid :=
  OpenClaim.holds_of_wide 10 Tryz.f10 rfl rfl rfl rfl rfl rfl rfl ⟨rfl, rfl, rfl, rfl, rfl⟩ rfl rfl rfl rfl rfl (by kernel_rfl) Tryz.func10 joined_TopTickets
    (of_decide_eq_true (by kernel_rfl)) (by unfold Func.isWrapper; first | (rw [if_pos (by decide +kernel)]; kernel_rfl) | (rw [if_neg (by decide +kernel)]; exact ⟨rfl, rfl⟩))
    (fun os started H enc _ => lifted_TopTickets os started H enc)

theorem card_TopTickets : Rows.TopTicketsCardSaid :=
  Claim7.holds_tied_plain_at .later [] [.data, .data, .data, .data, .data, .handle, .sentinel, .sentinel, .data, .pinned] true (true, "ab0d7383ac3b8daf502fd3624946ed10df3a579711b5a5ab2fb5bc61eda94f27") true
    holds_TopTickets (fun _ h => by cases h) (by kernel_rfl) (fun _ h => by cases h) topTickets_row_tie rfl ⟨rfl, rfl⟩ (by kernel_rfl) rfl
    (fun f fn hf hfn => by
      obtain rfl : f = 10 := Option.some.inj ((show Tryz.prog.funcNamed "shiftbell/shiftbelltop.TopTickets" = some 10 by kernel_rfl).symm.trans hf) |>.symm
      obtain rfl : fn = Tryz.f10 := (Option.some.inj (Tryz.func10.symm.trans hfn)).symm
      exact ⟨by kernel_rfl, fun j t ht => by
        have hm : t ∈ Tryz.f10.params.toList := by simpa using Array.mem_of_getElem? ht
        have hall : (Tryz.f10.params.toList.all fun u => !Tryz.prog.wantsStandIn u) = true := by kernel_rfl
        exact (show Tryz.prog.wantsStandIn t = false by simpa using List.all_eq_true.1 hall t hm)⟩)
    (by kernel_rfl)

end Go.Proofs.YtcceeahmcecbnaaGreatDoor
