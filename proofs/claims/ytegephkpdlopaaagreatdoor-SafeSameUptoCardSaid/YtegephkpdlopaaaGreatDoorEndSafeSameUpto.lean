/- The law SafeSame: for every input the call returns true, and turns nothing that was there; the statement's frame, by program. Condition: the row's own, and what came in is of bulk at most 1048576. -/
import Derived.Test.YtegephkpdlopaaaGreatDoorY9
import Derived.Test.YtegephkpdlopaaaGreatDoorCards
import Derived.Test.YtegephkpdlopaaaGreatDoorTie
import Derived.Lay
import Derived.MakeChecks
set_option linter.unusedVariables false
set_option linter.unusedSimpArgs false
namespace Go.Proofs.YtegephkpdlopaaaGreatDoor
open Go.Sx Go.RowKit Go.ChangeShapes Go.WideShapes Go.ChangeAt

theorem own_SafeSame : ownKnob Tryz.prog.godebug = none := by kernel_rfl
theorem laidOut_SafeSame : laidOutB Tryz.prog = true := by kernel_rfl
theorem law_SafeSame (W : World) (hg : GL W) (args : Array Value) (hb : (∀ j ∈ [1], ∀ (p : Option Addr) (c : Nat) (L : List EvR), args.toList[j]? = some (.slice p L.length c) → BulkE W p L)) (h : GoodAll Tryz.prog W Tryz.f5.params.toList args.toList) : FnP Tryz.prog 5 args W fun v W' => v = .bool true ∧ Ext W W' :=
  open_shiftbellkeep_SafeSame W (fun args => (∀ j ∈ [1], ∀ (p : Option Addr) (c : Nat) (L : List EvR), args.toList[j]? = some (.slice p L.length c) → BulkE W p L) → FnP Tryz.prog 5 args W fun v W' => v = .bool true ∧ Ext W W') (fun p l c hA x1 _ x2 _ x3 _ x4 _ q el d hq at_ _ hb => same_args W hg hA x1 x2 x3 x4 hq at_ (fun L hl => hb 1 (by simp) q d L (by subst hl; rfl))) args h hb

def list_SafeSame : List (String × DataW Unit) := [("math/bits.deBruijn32tab", Rows.laid_math_bits_deBruijn32tab), ("math/bits.deBruijn64tab", Rows.laid_math_bits_deBruijn64tab), ("internal/strconv.uint64pow10", Rows.laid_internal_strconv_uint64pow10), ("unicode/utf8.acceptRanges", Rows.laid_unicode_utf8_acceptRanges), ("strconv.ErrRange", Rows.laid_strconv_ErrRange), ("strconv.ErrSyntax", Rows.laid_strconv_ErrSyntax), ("unicode/utf8.first", Rows.laid_unicode_utf8_first)]
theorem door_SafeSame (os : Os) (args : Array Value) : laidMetH Tryz.prog list_SafeSame ((World.laidAll Tryz.prog os list_SafeSame).forCall (fun _ _ => 0) ⟨#[], args, []⟩).memory := by rw [MakeChecks.laidMetH_plain _ _ _ (by kernel_rfl)]; exact laidMet_laidAll _ (by kernel_rfl) (by kernel_rfl)
set_option maxRecDepth 100000 in
theorem lifted_SafeSame (os : Os) (started : os.Started) (H : Type) (enc : TypeId × Value → H) :
    ReturnsInHanded {} Tryz.checked os 5 .any (fun w args => ((Rows.OpenSpec.upto Rows.safeSameSpec).pre enc Tryz.prog Tryz.f5 [] false w args ∧ laidMetH Tryz.prog list_SafeSame w) ∧ sizedMet enc Tryz.prog Tryz.f5 (Rows.OpenSpec.upto Rows.safeSameSpec) false w args)
      (Rows.safeSameSpec.post enc Tryz.prog Tryz.f5 false true false false) := by
  refine handed_upto (C := Tryz.checked) (X := fun w _ => laidMetH Tryz.prog list_SafeSame w) (fun _ _ _ hh h => h.of_heap hh) own_SafeSame started (by kernel_rfl) Tryz.func5
    (witness_upto (s := Rows.safeSameSpec) (conds := []) (apart := false) (fn := Tryz.f5) (f := 5) (enc := enc) (C := Tryz.checked) (os := os) (X := fun w _ => laidMetH Tryz.prog list_SafeSame w) false (World.laidAll Tryz.prog os list_SafeSame) #[(.agg #[(.slice none 0 0), (.int .i64 0), (.int .i64 0), (.int .i64 0), (.int .i64 0)]), (.slice none 0 0), (.int .i64 0)] 8 (World.laidAll_os _ _ _) (World.shaped_of_ZipB (by kernel_rfl) (by kernel_rfl)) (by kernel_rfl) (by kernel_rfl) (by kernel_rfl) (door_SafeSame os _)) ?_
  intro W base args ds gs before hval hW hbulk hL hsp
  have hb : (∀ j ∈ [1], ∀ (p : Option Addr) (c : Nat) (L : List EvR), args.toList[j]? = some (.slice p L.length c) → BulkE W p L) := by
    obtain ⟨pp, qq, hA, _⟩ := id hW
    exact fun j hj p c L hv => by
      simp only [List.mem_cons, List.not_mem_nil, or_false] at hj
      subst hj
      obtain ⟨d, qs, n, hd, hle⟩ := bulk_at (gs := gs) hA 1 (t := T_sl_Event) (by kernel_rfl) hv
      exact bulkE hd (Nat.le_trans hle hbulk)
  exact law_at (P := Tryz.prog) (f := Tryz.f5) (s := Rows.safeSameSpec) (tb := 4) laidOut_SafeSame (by kernel_rfl) (by kernel_rfl) (by kernel_rfl) rfl
    (fun ds hd => by
      rw [Tryz.params5] at hd
      match ds, hd with
      | [_, _, _], _ => rfl) W base args (law_SafeSame W (laid_okS hL hsp) args hb) ds gs before hval hW

theorem holds_SafeSameUpto : Rows.SafeSameUptoSaid :=
  OpenClaim.holds_of_cond 5 Tryz.f5 rfl rfl rfl rfl rfl rfl rfl ⟨rfl, rfl, rfl, rfl, rfl⟩ rfl rfl rfl rfl rfl (by kernel_rfl) Tryz.func5 (by kernel_rfl)
    (of_decide_eq_true (by kernel_rfl)) (by unfold Func.isWrapper; first | (rw [if_pos (by decide +kernel)]; kernel_rfl) | (rw [if_neg (by decide +kernel)]; exact ⟨rfl, rfl⟩))
    (fun os started H enc _ _ => lifted_SafeSame os started H enc)

theorem card_SafeSameUpto : Rows.SafeSameUptoCardSaid :=
  Claim7.holds_tied_plain_at .later [] [.data, .data, .data, .data, .sentinel, .sentinel, .pinned] true (true, "0fb3392eb6c6a29b82e045039856e46fad943b91063a44c80e45fe17625ac3aa") true
    holds_SafeSameUpto (fun _ h => by cases h) (by kernel_rfl) (fun _ h => by cases h) safeSameUpto_row_tie rfl ⟨rfl, rfl⟩ (by kernel_rfl) rfl
    (fun f fn hf hfn => by
      obtain rfl : f = 5 := Option.some.inj ((show Tryz.prog.funcNamed "shiftbell/shiftbellkeep.SafeSame" = some 5 by kernel_rfl).symm.trans hf) |>.symm
      obtain rfl : fn = Tryz.f5 := (Option.some.inj (Tryz.func5.symm.trans hfn)).symm
      exact ⟨by kernel_rfl, fun j t ht => by
        have hm : t ∈ Tryz.f5.params.toList := by simpa using Array.mem_of_getElem? ht
        have hall : (Tryz.f5.params.toList.all fun u => !Tryz.prog.wantsStandIn u) = true := by kernel_rfl
        exact (show Tryz.prog.wantsStandIn t = false by simpa using List.all_eq_true.1 hall t hm)⟩)
    (by kernel_rfl)

end Go.Proofs.YtegephkpdlopaaaGreatDoor
