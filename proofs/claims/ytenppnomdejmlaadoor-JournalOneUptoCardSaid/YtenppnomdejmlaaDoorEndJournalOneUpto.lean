/- The law JournalOne: for every input the call returns true, and turns nothing that was there; the statement's frame, by program. Condition: the row's own, and what came in is of bulk at most 1048576. -/
import Derived.Test.YtenppnomdejmlaaDoorEvE
import Derived.Test.YtenppnomdejmlaaDoorCards
import Derived.Test.YtenppnomdejmlaaDoorTie
import Derived.Lay
import Derived.MakeChecks
set_option linter.unusedVariables false
set_option linter.unusedSimpArgs false
namespace Go.Proofs.YtenppnomdejmlaaDoor
open Go.Sx Go.RowKit Go.ChangeShapes Go.WideShapes Go.ChangeAt

theorem own_JournalOne : ownKnob Tryd.prog.godebug = none := by kernel_rfl
theorem laidOut_JournalOne : laidOutB Tryd.prog = true := by kernel_rfl
theorem law_JournalOne (W : World) (hg : GL W) (args : Array Value) (hb : (∀ (p : Option Addr) (l c : Nat), args.toList[0]? = some (.slice p l c) → l ≤ 1048576)) (h : GoodAll Tryd.prog W Tryd.f5.params.toList args.toList) : FnP Tryd.prog 5 args W fun v W' => v = .bool true ∧ Ext W W' :=
  open_shiftbellkeep_JournalOne W (fun args => (∀ (p : Option Addr) (l c : Nat), args.toList[0]? = some (.slice p l c) → l ≤ 1048576) → FnP Tryd.prog 5 args W fun v W' => v = .bool true ∧ Ext W W') (fun b bl bc h hb => one_args W hg h (hb b bl bc rfl)) args h hb

def list_JournalOne : List (String × DataW Unit) := [("math/bits.deBruijn32tab", Rows.laid_math_bits_deBruijn32tab), ("math/bits.deBruijn64tab", Rows.laid_math_bits_deBruijn64tab), ("internal/strconv.uint64pow10", Rows.laid_internal_strconv_uint64pow10), ("unicode/utf8.acceptRanges", Rows.laid_unicode_utf8_acceptRanges), ("strconv.ErrRange", Rows.laid_strconv_ErrRange), ("strconv.ErrSyntax", Rows.laid_strconv_ErrSyntax), ("unicode/utf8.first", Rows.laid_unicode_utf8_first)]
theorem door_JournalOne (os : Os) (args : Array Value) : laidMetH Tryd.prog list_JournalOne ((World.laidAll Tryd.prog os list_JournalOne).forCall (fun _ _ => 0) ⟨#[], args, []⟩).memory := by rw [MakeChecks.laidMetH_plain _ _ _ (by kernel_rfl)]; exact laidMet_laidAll _ (by kernel_rfl) (by kernel_rfl)
set_option maxRecDepth 100000 in
theorem lifted_JournalOne (os : Os) (started : os.Started) (H : Type) (enc : TypeId × Value → H) :
    ReturnsInHanded {} Tryd.checked os 5 .any (fun w args => ((Rows.OpenSpec.upto Rows.journalOneSpec).pre enc Tryd.prog Tryd.f5 [] false w args ∧ laidMetH Tryd.prog list_JournalOne w) ∧ sizedMet enc Tryd.prog Tryd.f5 (Rows.OpenSpec.upto Rows.journalOneSpec) false w args)
      (Rows.journalOneSpec.post enc Tryd.prog Tryd.f5 false true false false) := by
  refine handed_upto (C := Tryd.checked) (X := fun w _ => laidMetH Tryd.prog list_JournalOne w) (fun _ _ _ hh h => h.of_heap hh) own_JournalOne started (by kernel_rfl) Tryd.func5
    (witness_upto (s := Rows.journalOneSpec) (conds := []) (apart := false) (fn := Tryd.f5) (f := 5) (enc := enc) (C := Tryd.checked) (os := os) (X := fun w _ => laidMetH Tryd.prog list_JournalOne w) false (World.laidAll Tryd.prog os list_JournalOne) #[(.slice none 0 0)] 8 (World.laidAll_os _ _ _) (World.shaped_of_ZipB (by kernel_rfl) (by kernel_rfl)) (by kernel_rfl) (by kernel_rfl) (by kernel_rfl) (door_JournalOne os _)) ?_
  intro W base args ds gs before hval hW hbulk hL hsp
  have hb : (∀ (p : Option Addr) (l c : Nat), args.toList[0]? = some (.slice p l c) → l ≤ 1048576) := by
    obtain ⟨pp, qq, hA, _⟩ := id hW
    exact fun p l c hv => (by obtain ⟨d, qs, n, hd, hle⟩ := bulk_at (gs := gs) hA 0 (t := T_sl_uint8) (by kernel_rfl) hv; exact Nat.le_trans (slice_bulk (e := T_uint8) (by kernel_rfl) hd) (Nat.le_trans hle hbulk))
  exact law_at (P := Tryd.prog) (f := Tryd.f5) (s := Rows.journalOneSpec) (tb := 4) laidOut_JournalOne (by kernel_rfl) (by kernel_rfl) (by kernel_rfl) rfl
    (fun ds hd => by
      rw [Tryd.params5] at hd
      match ds, hd with
      | [_], _ => rfl) W base args (law_JournalOne W (laid_okS hL hsp) args hb) ds gs before hval hW

theorem holds_JournalOneUpto : Rows.JournalOneUptoSaid :=
  OpenClaim.holds_of_cond 5 Tryd.f5 rfl rfl rfl rfl rfl rfl rfl ⟨rfl, rfl, rfl, rfl, rfl⟩ rfl rfl rfl rfl rfl (by kernel_rfl) Tryd.func5 (by kernel_rfl)
    (of_decide_eq_true (by kernel_rfl)) (by unfold Func.isWrapper; first | (rw [if_pos (by decide +kernel)]; kernel_rfl) | (rw [if_neg (by decide +kernel)]; exact ⟨rfl, rfl⟩))
    (fun os started H enc _ _ => lifted_JournalOne os started H enc)

theorem card_JournalOneUpto : Rows.JournalOneUptoCardSaid :=
  Claim7.holds_tied_plain_at .later [] [.data, .data, .data, .data, .sentinel, .sentinel, .pinned] true (true, "ee7ddafc0f1b67d041a4849db574abf061dc4b3e034bc667d74d97d20559f1ff") true
    holds_JournalOneUpto (fun _ h => by cases h) (by kernel_rfl) (fun _ h => by cases h) journalOneUpto_row_tie rfl ⟨rfl, rfl⟩ (by kernel_rfl) rfl
    (fun f fn hf hfn => by
      obtain rfl : f = 5 := Option.some.inj ((show Tryd.prog.funcNamed "shiftbell/shiftbellkeep.JournalOne" = some 5 by kernel_rfl).symm.trans hf) |>.symm
      obtain rfl : fn = Tryd.f5 := (Option.some.inj (Tryd.func5.symm.trans hfn)).symm
      exact ⟨by kernel_rfl, fun j t ht => by
        have hm : t ∈ Tryd.f5.params.toList := by simpa using Array.mem_of_getElem? ht
        have hall : (Tryd.f5.params.toList.all fun u => !Tryd.prog.wantsStandIn u) = true := by kernel_rfl
        exact (show Tryd.prog.wantsStandIn t = false by simpa using List.all_eq_true.1 hall t hm)⟩)
    (by kernel_rfl)

end Go.Proofs.YtenppnomdejmlaaDoor
