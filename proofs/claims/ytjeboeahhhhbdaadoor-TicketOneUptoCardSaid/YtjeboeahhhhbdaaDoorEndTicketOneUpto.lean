/- The law TicketOne: for every input the call returns true, and turns nothing that was there; the statement's frame, by program. Condition: the row's own, and what came in is of bulk at most 1048576. -/
import Derived.Test.YtjeboeahhhhbdaaDoorTkI
import Derived.Test.YtjeboeahhhhbdaaDoorCards
import Derived.Test.YtjeboeahhhhbdaaDoorTie
import Derived.Lay
import Derived.MakeChecks
set_option linter.unusedVariables false
set_option linter.unusedSimpArgs false
namespace Go.Proofs.YtjeboeahhhhbdaaDoor
open Go.Sx Go.RowKit Go.ChangeShapes Go.WideShapes Go.ChangeAt

theorem own_TicketOne : ownKnob Tryd.prog.godebug = none := by kernel_rfl
theorem laidOut_TicketOne : laidOutB Tryd.prog = true := by kernel_rfl
theorem law_TicketOne (W : World) (hg : GL W) (args : Array Value) (hb : (∀ s : ByteArray, args.toList[1]? = some (.string s) → s.size ≤ 1048576)) (h : GoodAll Tryd.prog W Tryd.f6.params.toList args.toList) : FnP Tryd.prog 6 args W fun v W' => v = .bool true ∧ Ext W W' :=
  open_shiftbellkeep_TicketOne W (fun args => (∀ s : ByteArray, args.toList[1]? = some (.string s) → s.size ≤ 1048576) → FnP Tryd.prog 6 args W fun v W' => v = .bool true ∧ Ext W W') (fun key hk s _ now hn hb => core_TicketOne W hg key hk s (hb s rfl) now hn) args h hb

def list_TicketOne : List (String × DataW Unit) := [("math/bits.deBruijn32tab", Rows.laid_math_bits_deBruijn32tab), ("math/bits.deBruijn64tab", Rows.laid_math_bits_deBruijn64tab), ("internal/strconv.uint64pow10", Rows.laid_internal_strconv_uint64pow10), ("unicode/utf8.acceptRanges", Rows.laid_unicode_utf8_acceptRanges), ("strconv.ErrRange", Rows.laid_strconv_ErrRange), ("strconv.ErrSyntax", Rows.laid_strconv_ErrSyntax), ("unicode/utf8.first", Rows.laid_unicode_utf8_first)]
theorem door_TicketOne (os : Os) (args : Array Value) : laidMetH Tryd.prog list_TicketOne ((World.laidAll Tryd.prog os list_TicketOne).forCall (fun _ _ => 0) ⟨#[], args, []⟩).memory := by rw [MakeChecks.laidMetH_plain _ _ _ (by kernel_rfl)]; exact laidMet_laidAll _ (by kernel_rfl) (by kernel_rfl)
set_option maxRecDepth 100000 in
theorem lifted_TicketOne (os : Os) (started : os.Started) (H : Type) (enc : TypeId × Value → H) :
    ReturnsInHanded {} Tryd.checked os 6 .any (fun w args => ((Rows.OpenSpec.upto Rows.ticketOneSpec).pre enc Tryd.prog Tryd.f6 [] false w args ∧ laidMetH Tryd.prog list_TicketOne w) ∧ sizedMet enc Tryd.prog Tryd.f6 (Rows.OpenSpec.upto Rows.ticketOneSpec) false w args)
      (Rows.ticketOneSpec.post enc Tryd.prog Tryd.f6 false true false false) := by
  refine handed_upto (C := Tryd.checked) (X := fun w _ => laidMetH Tryd.prog list_TicketOne w) (fun _ _ _ hh h => h.of_heap hh) own_TicketOne started (by kernel_rfl) Tryd.func6
    (witness_upto (s := Rows.ticketOneSpec) (conds := []) (apart := false) (fn := Tryd.f6) (f := 6) (enc := enc) (C := Tryd.checked) (os := os) (X := fun w _ => laidMetH Tryd.prog list_TicketOne w) false (World.laidAll Tryd.prog os list_TicketOne) #[(.int .u64 0), (.string (⟨#[]⟩ : ByteArray)), (.int .i64 0)] 8 (World.laidAll_os _ _ _) (World.shaped_of_ZipB (by kernel_rfl) (by kernel_rfl)) (by kernel_rfl) (by kernel_rfl) (by kernel_rfl) (door_TicketOne os _)) ?_
  intro W base args ds gs before hval hW hbulk hL hsp
  have hb : (∀ s : ByteArray, args.toList[1]? = some (.string s) → s.size ≤ 1048576) := by
    obtain ⟨pp, qq, hA, _⟩ := id hW
    exact fun s hs => by have := bulk_str (gs := gs) hA 1 (t := T_string) (by kernel_rfl) hs (by kernel_rfl); omega
  exact law_at (P := Tryd.prog) (f := Tryd.f6) (s := Rows.ticketOneSpec) (tb := 4) laidOut_TicketOne (by kernel_rfl) (by kernel_rfl) (by kernel_rfl) rfl
    (fun ds hd => by
      rw [Tryd.params6] at hd
      match ds, hd with
      | [_, _, _], _ => rfl) W base args (law_TicketOne W (laid_okS hL hsp) args hb) ds gs before hval hW

theorem holds_TicketOneUpto : Rows.TicketOneUptoSaid :=
  OpenClaim.holds_of_cond 6 Tryd.f6 rfl rfl rfl rfl rfl rfl rfl ⟨rfl, rfl, rfl, rfl, rfl⟩ rfl rfl rfl rfl rfl (by kernel_rfl) Tryd.func6 (by kernel_rfl)
    (of_decide_eq_true (by kernel_rfl)) (by unfold Func.isWrapper; first | (rw [if_pos (by decide +kernel)]; kernel_rfl) | (rw [if_neg (by decide +kernel)]; exact ⟨rfl, rfl⟩))
    (fun os started H enc _ _ => lifted_TicketOne os started H enc)

theorem card_TicketOneUpto : Rows.TicketOneUptoCardSaid :=
  Claim7.holds_tied_plain_at .later [] [.data, .data, .data, .data, .sentinel, .sentinel, .pinned] true (true, "ff81e07aef70ba71615db82cbddf925ee7b5af2fdd3b27042175e3fb68e44d48") true
    holds_TicketOneUpto (fun _ h => by cases h) (by kernel_rfl) (fun _ h => by cases h) ticketOneUpto_row_tie rfl ⟨rfl, rfl⟩ (by kernel_rfl) rfl
    (fun f fn hf hfn => by
      obtain rfl : f = 6 := Option.some.inj ((show Tryd.prog.funcNamed "shiftbell/shiftbellkeep.TicketOne" = some 6 by kernel_rfl).symm.trans hf) |>.symm
      obtain rfl : fn = Tryd.f6 := (Option.some.inj (Tryd.func6.symm.trans hfn)).symm
      exact ⟨by kernel_rfl, fun j t ht => by
        have hm : t ∈ Tryd.f6.params.toList := by simpa using Array.mem_of_getElem? ht
        have hall : (Tryd.f6.params.toList.all fun u => !Tryd.prog.wantsStandIn u) = true := by kernel_rfl
        exact (show Tryd.prog.wantsStandIn t = false by simpa using List.all_eq_true.1 hall t hm)⟩)
    (by kernel_rfl)

end Go.Proofs.YtjeboeahhhhbdaaDoor
