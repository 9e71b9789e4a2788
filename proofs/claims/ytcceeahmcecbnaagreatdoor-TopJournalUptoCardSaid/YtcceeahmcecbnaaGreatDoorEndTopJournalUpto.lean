/- The law TopJournal: for every input the call returns true, and turns nothing that was there; the statement's frame, by program. Condition: the row's own, and what came in is of bulk at most 1048576. Own names of the parts ahead are short, for the claim's size. -/
import Derived.Test.YtcceeahmcecbnaaGreatDoorWTopJournalUpto7
import Derived.Test.YtcceeahmcecbnaaGreatDoorZyTopJournal
import Derived.Test.YtcceeahmcecbnaaGreatDoorCards
import Derived.Test.YtcceeahmcecbnaaGreatDoorTie
import Derived.Lay
import Derived.MakeChecks
set_option linter.unusedVariables false
set_option linter.unusedSimpArgs false
namespace Go.Proofs.YtcceeahmcecbnaaGreatDoor
open Go.Sx Go.RowKit Go.ChangeShapes Go.WideShapes Go.ChangeAt

theorem own_TopJournal : ownKnob Tryz.prog.godebug = none := by kernel_rfl
theorem laidOut_TopJournal : laidOutB Tryz.prog = true := by kernel_rfl
theorem law_TopJournal (W : World) (hg : GD W) (args : Array Value) (hb : (∀ (p : Option Addr) (c : Nat) (L : List EvR), args.toList[1]? = some (.slice p L.length c) → zIC W p L)) (h : zcD Tryz.prog W Tryz.f9.params.toList args.toList) : FnP Tryz.prog 9 args W fun v W' => v = .bool true ∧ Ext W W' :=
  zoD W (fun args => (∀ (p : Option Addr) (c : Nat) (L : List EvR), args.toList[1]? = some (.slice p L.length c) → zIC W p L) → FnP Tryz.prog 9 args W fun v W' => v = .bool true ∧ Ext W W') (fun p l c hA x1 h1 x2 h2 x3 h3 x4 h4 q el d hq hb => zCn W hg p l c hA x1 h1 x2 h2 x3 h3 x4 h4 q el d hq (fun L hl => hb q d L (by subst hl; rfl))) args h hb

def list_TopJournal : List (String × DataW Unit) := [("math/bits.deBruijn32tab", Rows.laid_math_bits_deBruijn32tab), ("math/bits.deBruijn64tab", Rows.laid_math_bits_deBruijn64tab), ("internal/strconv.uint64pow10", Rows.laid_internal_strconv_uint64pow10), ("shiftbell/civil.ahead", Rows.laid_shiftbell_civil_ahead), ("unicode/utf8.acceptRanges", Rows.laid_unicode_utf8_acceptRanges), ("errors.errorType", Rows.laid_errors_errorType), ("strconv.ErrRange", Rows.laid_strconv_ErrRange), ("strconv.ErrSyntax", Rows.laid_strconv_ErrSyntax), ("shiftbell/desk.whats", Rows.laid_shiftbell_desk_whats), ("unicode/utf8.first", Rows.laid_unicode_utf8_first)]
theorem door_TopJournal (os : Os) (args : Array Value) : laidMetH Tryz.prog list_TopJournal ((zEi os).forCall (fun _ _ => 0) ⟨#[], args, []⟩).memory := door_D os args
set_option maxRecDepth 100000 in
theorem lifted_TopJournal (os : Os) (started : os.Started) (H : Type) (enc : TypeId × Value → H) :
    ReturnsInHanded {} Tryz.checked os 9 .any (fun w args => ((Rows.OpenSpec.upto Rows.topJournalSpec).pre enc Tryz.prog Tryz.f9 [] false w args ∧ laidMetH Tryz.prog list_TopJournal w) ∧ sizedMet enc Tryz.prog Tryz.f9 (Rows.OpenSpec.upto Rows.topJournalSpec) false w args)
      (Rows.topJournalSpec.post enc Tryz.prog Tryz.f9 false true false false) := by
  refine zJX (C := Tryz.checked) (X := fun w _ => laidMetH Tryz.prog list_TopJournal w) (fun _ _ _ hh h => h.of_heap hh) own_TopJournal started (by kernel_rfl) Tryz.func9
    (zIz (s := Rows.topJournalSpec) (conds := []) (apart := false) (fn := Tryz.f9) (f := 9) (enc := enc) (C := Tryz.checked) (os := os) (X := fun w _ => laidMetH Tryz.prog list_TopJournal w) false (zEi os) #[(.agg #[(.slice none 0 0), (.int .i64 0), (.int .i64 0), (.int .i64 0), (.int .i64 0)]), (.slice none 0 0)] 8 (startD_os _) (World.shaped_of_ZipB (by kernel_rfl) (by kernel_rfl)) (by kernel_rfl) (by kernel_rfl) (by kernel_rfl) (door_TopJournal os _)) ?_
  intro W base args ds gs zcN hval hW hbulk hL hsp
  have hb : (∀ (p : Option Addr) (c : Nat) (L : List EvR), args.toList[1]? = some (.slice p L.length c) → zIC W p L) := by
    obtain ⟨pp, qq, hA, _⟩ := id hW
    exact fun p c L hv => by
      obtain ⟨d, qs, n, hd, hle⟩ := zJd (gs := gs) hA 1 (t := zrB) (by kernel_rfl) hv
      exact bulkE hd (Nat.le_trans hle hbulk)
  exact law_at (P := Tryz.prog) (f := Tryz.f9) (s := Rows.topJournalSpec) (tb := 4) laidOut_TopJournal (by kernel_rfl) (by kernel_rfl) (by kernel_rfl) rfl
    (fun ds hd => by
      rw [Tryz.params9] at hd
      match ds, hd with
      | [_, _], _ => rfl) W base args (law_TopJournal W (laid_okD hL hsp) args hb) ds gs zcN hval hW

theorem holds_TopJournalUpto : Rows.TopJournalUptoSaid :=
  OpenClaim.holds_of_cond 9 Tryz.f9 rfl rfl rfl rfl rfl rfl rfl ⟨rfl, rfl, rfl, rfl, rfl⟩ rfl rfl rfl rfl rfl (by kernel_rfl) Tryz.func9 joined_TopJournal
    (of_decide_eq_true (by kernel_rfl)) (by unfold Func.isWrapper; first | (rw [if_pos (by decide +kernel)]; kernel_rfl) | (rw [if_neg (by decide +kernel)]; exact ⟨rfl, rfl⟩))
    (fun os started H enc _ _ => lifted_TopJournal os started H enc)

theorem card_TopJournalUpto : Rows.TopJournalUptoCardSaid :=
  Claim7.holds_tied_plain_at .later [] [.data, .data, .data, .data, .data, .handle, .sentinel, .sentinel, .data, .pinned] true (true, "ab0d7383ac3b8daf502fd3624946ed10df3a579711b5a5ab2fb5bc61eda94f27") true
    holds_TopJournalUpto (fun _ h => by cases h) (by kernel_rfl) (fun _ h => by cases h) topJournalUpto_row_tie rfl ⟨rfl, rfl⟩ (by kernel_rfl) rfl
    (fun f fn hf hfn => by
      obtain rfl : f = 9 := Option.some.inj ((show Tryz.prog.funcNamed "shiftbell/shiftbelltop.TopJournal" = some 9 by kernel_rfl).symm.trans hf) |>.symm
      obtain rfl : fn = Tryz.f9 := (Option.some.inj (Tryz.func9.symm.trans hfn)).symm
      exact ⟨by kernel_rfl, fun j t ht => by
        have hm : t ∈ Tryz.f9.params.toList := by simpa using Array.mem_of_getElem? ht
        have hall : (Tryz.f9.params.toList.all fun u => !Tryz.prog.wantsStandIn u) = true := by kernel_rfl
        exact (show Tryz.prog.wantsStandIn t = false by simpa using List.all_eq_true.1 hall t hm)⟩)
    (by kernel_rfl)

end Go.Proofs.YtcceeahmcecbnaaGreatDoor
