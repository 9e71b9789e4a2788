/- The law NeedText: for every input the call returns true, and turns nothing that was there; the statement's frame, by program. Condition: the row's own, and what came in is of bulk at most 1048576. -/
import Derived.Test.YteelndoflikliaaDoorNtD
import Derived.Test.YteelndoflikliaaDoorCards
import Derived.Test.YteelndoflikliaaDoorTie
import Derived.Lay
import Derived.MakeChecks
set_option linter.unusedVariables false
set_option linter.unusedSimpArgs false
namespace Go.Proofs.YteelndoflikliaaDoor
open Go.Sx Go.RowKit Go.ChangeShapes Go.WideShapes Go.ChangeAt

theorem own_NeedText : ownKnob Tryd.prog.godebug = none := by kernel_rfl
theorem laidOut_NeedText : laidOutB Tryd.prog = true := by kernel_rfl
theorem law_NeedText (W : World) (hg : GL W) (args : Array Value) (hb : (∀ s : ByteArray, args.toList[1]? = some (.string s) → s.size ≤ 1048576)) (h : GoodAll Tryd.prog W Tryd.f5.params.toList args.toList) : FnP Tryd.prog 5 args W fun v W' => v = .bool true ∧ Ext W W' :=
  open_shiftbellkeep_NeedText W (fun args => (∀ s : ByteArray, args.toList[1]? = some (.string s) → s.size ≤ 1048576) → FnP Tryd.prog 5 args W fun v W' => v = .bool true ∧ Ext W W') (fun a0 h0 a1 h1 a2 h2 s _ hb => core_NeedText W hg a0 h0 a1 h1 a2 h2 s (hb s rfl)) args h hb

def list_NeedText : List (String × DataW Unit) := [("math/bits.deBruijn32tab", Rows.laid_math_bits_deBruijn32tab), ("math/bits.deBruijn64tab", Rows.laid_math_bits_deBruijn64tab), ("internal/strconv.uint64pow10", Rows.laid_internal_strconv_uint64pow10), ("unicode/utf8.acceptRanges", Rows.laid_unicode_utf8_acceptRanges), ("strconv.ErrRange", Rows.laid_strconv_ErrRange), ("strconv.ErrSyntax", Rows.laid_strconv_ErrSyntax), ("unicode/utf8.first", Rows.laid_unicode_utf8_first)]
theorem door_NeedText (os : Os) (args : Array Value) : laidMetH Tryd.prog list_NeedText ((World.laidAll Tryd.prog os list_NeedText).forCall (fun _ _ => 0) ⟨#[], args, []⟩).memory := by rw [MakeChecks.laidMetH_plain _ _ _ (by kernel_rfl)]; exact laidMet_laidAll _ (by kernel_rfl) (by kernel_rfl)
set_option maxRecDepth 100000 in
theorem lifted_NeedText (os : Os) (started : os.Started) (H : Type) (enc : TypeId × Value → H) :
    ReturnsInHanded {} Tryd.checked os 5 .any (fun w args => ((Rows.OpenSpec.upto Rows.needTextSpec).pre enc Tryd.prog Tryd.f5 [] false w args ∧ laidMetH Tryd.prog list_NeedText w) ∧ sizedMet enc Tryd.prog Tryd.f5 (Rows.OpenSpec.upto Rows.needTextSpec) false w args)
      (Rows.needTextSpec.post enc Tryd.prog Tryd.f5 false true false false) := by
  refine handed_upto (C := Tryd.checked) (X := fun w _ => laidMetH Tryd.prog list_NeedText w) (fun _ _ _ hh h => h.of_heap hh) own_NeedText started (by kernel_rfl) Tryd.func5
    (witness_upto (s := Rows.needTextSpec) (conds := []) (apart := false) (fn := Tryd.f5) (f := 5) (enc := enc) (C := Tryd.checked) (os := os) (X := fun w _ => laidMetH Tryd.prog list_NeedText w) false (World.laidAll Tryd.prog os list_NeedText) #[(.agg #[(.int .i64 0), (.int .i64 0), (.int .i64 0)]), (.string (⟨#[]⟩ : ByteArray))] 8 (World.laidAll_os _ _ _) (World.shaped_of_ZipB (by kernel_rfl) (by kernel_rfl)) (by kernel_rfl) (by kernel_rfl) (by kernel_rfl) (door_NeedText os _)) ?_
  intro W base args ds gs before hval hW hbulk hL hsp
  have hb : (∀ s : ByteArray, args.toList[1]? = some (.string s) → s.size ≤ 1048576) := by
    obtain ⟨pp, qq, hA, _⟩ := id hW
    exact fun s hs => by have := bulk_str (gs := gs) hA 1 (t := T_string) (by kernel_rfl) hs (by kernel_rfl); omega
  exact law_at (P := Tryd.prog) (f := Tryd.f5) (s := Rows.needTextSpec) (tb := 4) laidOut_NeedText (by kernel_rfl) (by kernel_rfl) (by kernel_rfl) rfl
    (fun ds hd => by
      rw [Tryd.params5] at hd
      match ds, hd with
      | [_, _], _ => rfl) W base args (law_NeedText W (laid_okS hL hsp) args hb) ds gs before hval hW

theorem holds_NeedTextUpto : Rows.NeedTextUptoSaid :=
  OpenClaim.holds_of_cond 5 Tryd.f5 rfl rfl rfl rfl rfl rfl rfl ⟨rfl, rfl, rfl, rfl, rfl⟩ rfl rfl rfl rfl rfl (by kernel_rfl) Tryd.func5 (by kernel_rfl)
    (of_decide_eq_true (by kernel_rfl)) (by unfold Func.isWrapper; first | (rw [if_pos (by decide +kernel)]; kernel_rfl) | (rw [if_neg (by decide +kernel)]; exact ⟨rfl, rfl⟩))
    (fun os started H enc _ _ => lifted_NeedText os started H enc)

theorem card_NeedTextUpto : Rows.NeedTextUptoCardSaid :=
  Claim7.holds_tied_plain_at .later [] [.data, .data, .data, .data, .sentinel, .sentinel, .pinned] true (true, "01258724e008b33df99b50a1517b6a2b602ae0de7535c79d8bd66ae6e693adde") true
    holds_NeedTextUpto (fun _ h => by cases h) (by kernel_rfl) (fun _ h => by cases h) needTextUpto_row_tie rfl ⟨rfl, rfl⟩ (by kernel_rfl) rfl
    (fun f fn hf hfn => by
      obtain rfl : f = 5 := Option.some.inj ((show Tryd.prog.funcNamed "shiftbell/shiftbellkeep.NeedText" = some 5 by kernel_rfl).symm.trans hf) |>.symm
      obtain rfl : fn = Tryd.f5 := (Option.some.inj (Tryd.func5.symm.trans hfn)).symm
      exact ⟨by kernel_rfl, fun j t ht => by
        have hm : t ∈ Tryd.f5.params.toList := by simpa using Array.mem_of_getElem? ht
        have hall : (Tryd.f5.params.toList.all fun u => !Tryd.prog.wantsStandIn u) = true := by kernel_rfl
        exact (show Tryd.prog.wantsStandIn t = false by simpa using List.all_eq_true.1 hall t hm)⟩)
    (by kernel_rfl)

end Go.Proofs.YteelndoflikliaaDoor
