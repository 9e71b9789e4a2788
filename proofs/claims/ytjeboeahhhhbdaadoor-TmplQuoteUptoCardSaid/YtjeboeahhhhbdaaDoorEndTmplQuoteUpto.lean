/- The law TmplQuote: for every input the call returns true, and turns nothing that was there; the statement's frame, by program. Condition: the row's own, and what came in is of bulk at most 1048576. -/
import Derived.Test.YtjeboeahhhhbdaaDoorTmQ
import Derived.Test.YtjeboeahhhhbdaaDoorCards
import Derived.Test.YtjeboeahhhhbdaaDoorTie
import Derived.Lay
import Derived.MakeChecks
set_option linter.unusedVariables false
set_option linter.unusedSimpArgs false
namespace Go.Proofs.YtjeboeahhhhbdaaDoor
open Go.Sx Go.RowKit Go.ChangeShapes Go.WideShapes Go.ChangeAt

theorem own_TmplQuote : ownKnob Tryd.prog.godebug = none := by kernel_rfl
theorem laidOut_TmplQuote : laidOutB Tryd.prog = true := by kernel_rfl
theorem law_TmplQuote (W : World) (hg : GL W) (args : Array Value) (hb : ((∀ s : ByteArray, args.toList[0]? = some (.string s) → s.size ≤ 1048576) ∧ ∀ (q : Option Addr) (m d : Nat) (L : List Lb), args.toList[1]? = some (.slice q m d) → L.length = m → Lbs W q L → ∀ x ∈ L, x.val.size ≤ 1048576)) (h : GoodAll Tryd.prog W Tryd.f3.params.toList args.toList) : FnP Tryd.prog 3 args W fun v W' => v = .bool true ∧ Ext W W' :=
  open_shiftbellkeep_TmplQuote W (fun args => ((∀ s : ByteArray, args.toList[0]? = some (.string s) → s.size ≤ 1048576) ∧ ∀ (q : Option Addr) (m d : Nat) (L : List Lb), args.toList[1]? = some (.slice q m d) → L.length = m → Lbs W q L → ∀ x ∈ L, x.val.size ≤ 1048576) → FnP Tryd.prog 3 args W fun v W' => v = .bool true ∧ Ext W W') (fun s _ q m d hL hb => core_TmplQuote W hg s (hb.1 s rfl) q m d hL fun L hm hR => hb.2 q m d L rfl hm hR) args h hb

def list_TmplQuote : List (String × DataW Unit) := [("unicode/utf8.acceptRanges", Rows.laid_unicode_utf8_acceptRanges), ("unicode/utf8.first", Rows.laid_unicode_utf8_first)]
theorem door_TmplQuote (os : Os) (args : Array Value) : laidMetH Tryd.prog list_TmplQuote ((World.laidAll Tryd.prog os list_TmplQuote).forCall (fun _ _ => 0) ⟨#[], args, []⟩).memory := by rw [MakeChecks.laidMetH_plain _ _ _ (by kernel_rfl)]; exact laidMet_laidAll _ (by kernel_rfl) (by kernel_rfl)
set_option maxRecDepth 100000 in
theorem lifted_TmplQuote (os : Os) (started : os.Started) (H : Type) (enc : TypeId × Value → H) :
    ReturnsInHanded {} Tryd.checked os 3 .any (fun w args => ((Rows.OpenSpec.upto Rows.tmplQuoteSpec).pre enc Tryd.prog Tryd.f3 [] false w args ∧ laidMetH Tryd.prog list_TmplQuote w) ∧ sizedMet enc Tryd.prog Tryd.f3 (Rows.OpenSpec.upto Rows.tmplQuoteSpec) false w args)
      (Rows.tmplQuoteSpec.post enc Tryd.prog Tryd.f3 false true false false) := by
  refine handed_upto (C := Tryd.checked) (X := fun w _ => laidMetH Tryd.prog list_TmplQuote w) (fun _ _ _ hh h => h.of_heap hh) own_TmplQuote started (by kernel_rfl) Tryd.func3
    (witness_upto (s := Rows.tmplQuoteSpec) (conds := []) (apart := false) (fn := Tryd.f3) (f := 3) (enc := enc) (C := Tryd.checked) (os := os) (X := fun w _ => laidMetH Tryd.prog list_TmplQuote w) false (World.laidAll Tryd.prog os list_TmplQuote) #[(.string (⟨#[]⟩ : ByteArray)), (.slice none 0 0)] 8 (World.laidAll_os _ _ _) (World.shaped_of_ZipB (by kernel_rfl) (by kernel_rfl)) (by kernel_rfl) (by kernel_rfl) (by kernel_rfl) (door_TmplQuote os _)) ?_
  intro W base args ds gs before hval hW hbulk hL hsp
  have hb : ((∀ s : ByteArray, args.toList[0]? = some (.string s) → s.size ≤ 1048576) ∧ ∀ (q : Option Addr) (m d : Nat) (L : List Lb), args.toList[1]? = some (.slice q m d) → L.length = m → Lbs W q L → ∀ x ∈ L, x.val.size ≤ 1048576) := by
    obtain ⟨pp, qq, hA, _⟩ := id hW
    refine ⟨fun s hs => by have := bulk_str (gs := gs) hA 0 (t := T_string) (by kernel_rfl) hs (by kernel_rfl); omega, ?_⟩
    intro q m d L hs hm hL x hx
    subst hm
    obtain ⟨e, qs, n, h1, h2⟩ := bulk_at (gs := gs) hA 1 (t := T_sl_Label) (by kernel_rfl) hs
    have := lbs_bulk (q := q) (c := d) h1 hL x hx
    omega
  exact law_at (P := Tryd.prog) (f := Tryd.f3) (s := Rows.tmplQuoteSpec) (tb := 4) laidOut_TmplQuote (by kernel_rfl) (by kernel_rfl) (by kernel_rfl) rfl
    (fun ds hd => by
      rw [Tryd.params3] at hd
      match ds, hd with
      | [_, _], _ => rfl) W base args (law_TmplQuote W (laid_okS hL hsp) args hb) ds gs before hval hW

theorem holds_TmplQuoteUpto : Rows.TmplQuoteUptoSaid :=
  OpenClaim.holds_of_cond 3 Tryd.f3 rfl rfl rfl rfl rfl rfl rfl ⟨rfl, rfl, rfl, rfl, rfl⟩ rfl rfl rfl rfl rfl (by kernel_rfl) Tryd.func3 (by kernel_rfl)
    (of_decide_eq_true (by kernel_rfl)) (by unfold Func.isWrapper; first | (rw [if_pos (by decide +kernel)]; kernel_rfl) | (rw [if_neg (by decide +kernel)]; exact ⟨rfl, rfl⟩))
    (fun os started H enc _ _ => lifted_TmplQuote os started H enc)

theorem card_TmplQuoteUpto : Rows.TmplQuoteUptoCardSaid :=
  Claim7.holds_tied_plain_at .later [] [.data, .pinned] true (true, "ff81e07aef70ba71615db82cbddf925ee7b5af2fdd3b27042175e3fb68e44d48") true
    holds_TmplQuoteUpto (fun _ h => by cases h) (by kernel_rfl) (fun _ h => by cases h) tmplQuoteUpto_row_tie rfl ⟨rfl, rfl⟩ (by kernel_rfl) rfl
    (fun f fn hf hfn => by
      obtain rfl : f = 3 := Option.some.inj ((show Tryd.prog.funcNamed "shiftbell/shiftbellkeep.TmplQuote" = some 3 by kernel_rfl).symm.trans hf) |>.symm
      obtain rfl : fn = Tryd.f3 := (Option.some.inj (Tryd.func3.symm.trans hfn)).symm
      exact ⟨by kernel_rfl, fun j t ht => by
        have hm : t ∈ Tryd.f3.params.toList := by simpa using Array.mem_of_getElem? ht
        have hall : (Tryd.f3.params.toList.all fun u => !Tryd.prog.wantsStandIn u) = true := by kernel_rfl
        exact (show Tryd.prog.wantsStandIn t = false by simpa using List.all_eq_true.1 hall t hm)⟩)
    (by kernel_rfl)

end Go.Proofs.YtjeboeahhhhbdaaDoor
