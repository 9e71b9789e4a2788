/- The law TicketApart: for every input the call returns true, and turns nothing that was there; the statement's frame, by program. Conditions: none but the row's own. -/
import Derived.Test.YtjeboeahhhhbdaaDoorTkLA
import Derived.Test.YtjeboeahhhhbdaaDoorCards
import Derived.Test.YtjeboeahhhhbdaaDoorTie
set_option linter.unusedVariables false
set_option linter.unusedSimpArgs false
namespace Go.Proofs.YtjeboeahhhhbdaaDoor
open Go.Sx Go.RowKit Go.ChangeShapes Go.WideShapes Go.ChangeAt

theorem own_TicketApart : ownKnob Tryd.prog.godebug = none := by kernel_rfl
theorem laidOut_TicketApart : laidOutB Tryd.prog = true := by kernel_rfl
theorem law_TicketApart (W : World) (hg : GL W) (args : Array Value) (h : GoodAll Tryd.prog W Tryd.f4.params.toList args.toList) : FnP Tryd.prog 4 args W fun v W' => v = .bool true ∧ Ext W W' :=
  open_shiftbellkeep_TicketApart W (fun args => FnP Tryd.prog 4 args W fun v W' => v = .bool true ∧ Ext W W') (core_TicketApart W hg) args h

def list_TicketApart : List (String × DataW Unit) := [("math/bits.deBruijn32tab", Rows.laid_math_bits_deBruijn32tab), ("math/bits.deBruijn64tab", Rows.laid_math_bits_deBruijn64tab), ("internal/strconv.uint64pow10", Rows.laid_internal_strconv_uint64pow10)]
theorem door_TicketApart (os : Os) (args : Array Value) : laidMetH Tryd.prog list_TicketApart ((World.doorLaid Tryd.prog 400 os).forCall (fun _ _ => 0) ⟨#[], args, []⟩).memory :=
  laidMetH_of_parts3 (fuel := 8) (laidMet_of_run' 8 (by kernel_rfl) (by kernel_rfl)) (by kernel_rfl) (by kernel_rfl)
set_option maxRecDepth 100000 in
theorem lifted_TicketApart (os : Os) (started : os.Started) (H : Type) (enc : TypeId × Value → H) :
    ReturnsInHanded {} Tryd.checked os 4 .any (fun w args => (Rows.ticketApartSpec.pre enc Tryd.prog Tryd.f4 [] false w args ∧ laidMetH Tryd.prog list_TicketApart w) ∧ sizedMet enc Tryd.prog Tryd.f4 (OpenSpec.ofChange Rows.ticketApartSpec) false w args)
      (Rows.ticketApartSpec.post enc Tryd.prog Tryd.f4 false true false false) := by
  refine returnsInHanded_of_change_and (C := Tryd.checked) (X := fun w _ => laidMetH Tryd.prog list_TicketApart w) (fun _ _ _ hh h => h.of_heap hh) own_TicketApart started (by kernel_rfl) Tryd.func4
    (ChangeSpec.witness_shaped (enc := enc) (C := Tryd.checked) (os := os) (X := fun w _ => laidMetH Tryd.prog list_TicketApart w) false (World.doorLaid Tryd.prog 400 os) #[(.int .u64 0), (.agg #[(.string (⟨#[]⟩ : ByteArray)), (.int .i64 0), (.int .i64 0), (.int .i64 0)]), (.agg #[(.string (⟨#[]⟩ : ByteArray)), (.int .i64 0), (.int .i64 0), (.int .i64 0)])] 8 rfl (World.shaped_of_RefB (by kernel_rfl) (by kernel_rfl)) (by kernel_rfl) (by kernel_rfl) (by kernel_rfl) (door_TicketApart os _)) ?_
  intro W base args ds gs before hval hW _ _ hL _
  exact law_at (P := Tryd.prog) (f := Tryd.f4) (s := Rows.ticketApartSpec) (tb := 4) laidOut_TicketApart (by kernel_rfl) (by kernel_rfl) (by kernel_rfl) rfl
    (fun ds hd => by
      rw [Tryd.params4] at hd
      match ds, hd with
      | [_, _, _], _ => rfl) W base args (law_TicketApart W (laid_ok hL) args) ds gs before hval hW

theorem holds_TicketApart : Rows.TicketApartSaid :=
  OpenClaim.holds_of_wide 4 Tryd.f4 rfl rfl rfl rfl rfl rfl rfl ⟨rfl, rfl, rfl, rfl, rfl⟩ rfl rfl rfl rfl rfl (by kernel_rfl) Tryd.func4 (by kernel_rfl)
    (of_decide_eq_true (by kernel_rfl)) (by unfold Func.isWrapper; first | (rw [if_pos (by decide +kernel)]; kernel_rfl) | (rw [if_neg (by decide +kernel)]; exact ⟨rfl, rfl⟩))
    (fun os started H enc _ => lifted_TicketApart os started H enc)

theorem card_TicketApart : Rows.TicketApartCardSaid :=
  Claim7.holds_tied_plain_at .later [] [.data, .data, .data] true (true, "ff81e07aef70ba71615db82cbddf925ee7b5af2fdd3b27042175e3fb68e44d48") true
    holds_TicketApart (fun _ h => by cases h) (by kernel_rfl) (fun _ h => by cases h) ticketApart_row_tie rfl ⟨rfl, rfl⟩ (by kernel_rfl) rfl
    (fun f fn hf hfn => by
      obtain rfl : f = 4 := Option.some.inj ((show Tryd.prog.funcNamed "shiftbell/shiftbellkeep.TicketApart" = some 4 by kernel_rfl).symm.trans hf) |>.symm
      obtain rfl : fn = Tryd.f4 := (Option.some.inj (Tryd.func4.symm.trans hfn)).symm
      exact ⟨by kernel_rfl, fun j t ht => by
        have hm : t ∈ Tryd.f4.params.toList := by simpa using Array.mem_of_getElem? ht
        have hall : (Tryd.f4.params.toList.all fun u => !Tryd.prog.wantsStandIn u) = true := by kernel_rfl
        exact (show Tryd.prog.wantsStandIn t = false by simpa using List.all_eq_true.1 hall t hm)⟩)
    (by kernel_rfl)

end Go.Proofs.YtjeboeahhhhbdaaDoor
