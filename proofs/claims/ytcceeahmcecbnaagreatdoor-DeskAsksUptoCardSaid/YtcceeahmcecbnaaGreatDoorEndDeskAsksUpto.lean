/- The law DeskAsks: for every input the call returns true, and turns nothing that was there; the statement's frame, by program. Condition: the row's own, and what came in is of bulk at most 1048576. Own names of the parts ahead are short, for the claim's size. -/
import Derived.Test.YtcceeahmcecbnaaGreatDoorWDeskAsksUpto6
import Derived.Test.YtcceeahmcecbnaaGreatDoorZyDeskAsks
import Derived.Test.YtcceeahmcecbnaaGreatDoorCards
import Derived.Test.YtcceeahmcecbnaaGreatDoorTie
import Derived.Lay
import Derived.MakeChecks
set_option linter.unusedVariables false
set_option linter.unusedSimpArgs false
namespace Go.Proofs.YtcceeahmcecbnaaGreatDoor
open Go.Sx Go.RowKit Go.ChangeShapes Go.WideShapes Go.ChangeAt

theorem own_DeskAsks : ownKnob Tryz.prog.godebug = none := by kernel_rfl
theorem laidOut_DeskAsks : laidOutB Tryz.prog = true := by kernel_rfl
theorem law_DeskAsks (W : World) (hg : GD W) (args : Array Value) (hb : ((∀ (p : Option Addr) (n c : Nat), args.toList[0]? = some (.slice p n c) → zkw W p n) ∧ ∀ s : ByteArray, args.toList[1]? = some (.string s) → s.size ≤ 1048576)) (h : zds Tryz.prog W Tryz.f5.params.toList args.toList) : FnP Tryz.prog 5 args W fun v W' => v = .bool true ∧ Ext W W' :=
  zpa W (fun args => ((∀ (p : Option Addr) (n c : Nat), args.toList[0]? = some (.slice p n c) → zkw W p n) ∧ ∀ s : ByteArray, args.toList[1]? = some (.string s) → s.size ≤ 1048576) → FnP Tryz.prog 5 args W fun v W' => v = .bool true ∧ Ext W W') (fun l ll lc hl s _ k hk hb => zEK W hg l ll lc hl s (hb.2 s rfl) k hk (hb.1 l ll lc rfl)) args h hb

def list_DeskAsks : List (String × DataW Unit) := [("math/bits.deBruijn32tab", Rows.laid_math_bits_deBruijn32tab), ("math/bits.deBruijn64tab", Rows.laid_math_bits_deBruijn64tab), ("internal/strconv.uint64pow10", Rows.laid_internal_strconv_uint64pow10), ("shiftbell/civil.ahead", Rows.laid_shiftbell_civil_ahead), ("unicode/utf8.acceptRanges", Rows.laid_unicode_utf8_acceptRanges), ("errors.errorType", Rows.laid_errors_errorType), ("strconv.ErrRange", Rows.laid_strconv_ErrRange), ("strconv.ErrSyntax", Rows.laid_strconv_ErrSyntax), ("shiftbell/desk.whats", Rows.laid_shiftbell_desk_whats), ("unicode/utf8.first", Rows.laid_unicode_utf8_first)]
theorem door_DeskAsks (os : Os) (args : Array Value) : laidMetH Tryz.prog list_DeskAsks ((zDd os).forCall (fun _ _ => 0) ⟨#[], args, []⟩).memory := door_D os args
set_option maxRecDepth 100000 in
theorem lifted_DeskAsks (os : Os) (started : os.Started) (H : Type) (enc : TypeId × Value → H) :
    ReturnsInHanded {} Tryz.checked os 5 .any (fun w args => ((Rows.OpenSpec.upto Rows.deskAsksSpec).pre enc Tryz.prog Tryz.f5 [] false w args ∧ laidMetH Tryz.prog list_DeskAsks w) ∧ sizedMet enc Tryz.prog Tryz.f5 (Rows.OpenSpec.upto Rows.deskAsksSpec) false w args)
      (Rows.deskAsksSpec.post enc Tryz.prog Tryz.f5 false true false false) := by
  refine zIR (C := Tryz.checked) (X := fun w _ => laidMetH Tryz.prog list_DeskAsks w) (fun _ _ _ hh h => h.of_heap hh) own_DeskAsks started (by kernel_rfl) Tryz.func5
    (zHq (s := Rows.deskAsksSpec) (conds := []) (apart := false) (fn := Tryz.f5) (f := 5) (enc := enc) (C := Tryz.checked) (os := os) (X := fun w _ => laidMetH Tryz.prog list_DeskAsks w) false (zDd os) #[(.slice none 0 0), (.string (⟨#[]⟩ : ByteArray)), (.int .i64 0)] 8 (startD_os _) (World.shaped_of_ZipB (by kernel_rfl) (by kernel_rfl)) (by kernel_rfl) (by kernel_rfl) (by kernel_rfl) (door_DeskAsks os _)) ?_
  intro W base args ds gs zcy hval hW hbulk hL hsp
  have hb : ((∀ (p : Option Addr) (n c : Nat), args.toList[0]? = some (.slice p n c) → zkw W p n) ∧ ∀ s : ByteArray, args.toList[1]? = some (.string s) → s.size ≤ 1048576) := by
    obtain ⟨pp, qq, hA, _⟩ := id hW
    exact ⟨fun p n c hv => by
      obtain ⟨d, qs, m, hd, hle⟩ := zH5 (gs := gs) hA 0 (t := zvL) (by kernel_rfl) hv
      exact strs_bulk hd (Nat.le_trans hle hbulk), fun s hs => by have := zEA (gs := gs) hA 1 (t := zai) (by kernel_rfl) hs (by kernel_rfl); omega⟩
  exact law_at (P := Tryz.prog) (f := Tryz.f5) (s := Rows.deskAsksSpec) (tb := 4) laidOut_DeskAsks (by kernel_rfl) (by kernel_rfl) (by kernel_rfl) rfl
    (fun ds hd => by
      rw [Tryz.params5] at hd
      match ds, hd with
      | [_, _, _], _ => rfl) W base args (law_DeskAsks W (laid_okD hL hsp) args hb) ds gs zcy hval hW

theorem holds_DeskAsksUpto : Rows.DeskAsksUptoSaid :=
  OpenClaim.holds_of_cond 5 Tryz.f5 rfl rfl rfl rfl rfl rfl rfl ⟨rfl, rfl, rfl, rfl, rfl⟩ rfl rfl rfl rfl rfl (by kernel_rfl) Tryz.func5 joined_DeskAsks
    (of_decide_eq_true (by kernel_rfl)) (by unfold Func.isWrapper; first | (rw [if_pos (by decide +kernel)]; kernel_rfl) | (rw [if_neg (by decide +kernel)]; exact ⟨rfl, rfl⟩))
    (fun os started H enc _ _ => lifted_DeskAsks os started H enc)

theorem card_DeskAsksUpto : Rows.DeskAsksUptoCardSaid :=
  Claim7.holds_tied_plain_at .later [] [.data, .data, .data, .data, .data, .handle, .sentinel, .sentinel, .data, .pinned] true (true, "ab0d7383ac3b8daf502fd3624946ed10df3a579711b5a5ab2fb5bc61eda94f27") true
    holds_DeskAsksUpto (fun _ h => by cases h) (by kernel_rfl) (fun _ h => by cases h) deskAsksUpto_row_tie rfl ⟨rfl, rfl⟩ (by kernel_rfl) rfl
    (fun f fn hf hfn => by
      obtain rfl : f = 5 := Option.some.inj ((show Tryz.prog.funcNamed "shiftbell/shiftbellkeep.DeskAsks" = some 5 by kernel_rfl).symm.trans hf) |>.symm
      obtain rfl : fn = Tryz.f5 := (Option.some.inj (Tryz.func5.symm.trans hfn)).symm
      exact ⟨by kernel_rfl, fun j t ht => by
        have hm : t ∈ Tryz.f5.params.toList := by simpa using Array.mem_of_getElem? ht
        have hall : (Tryz.f5.params.toList.all fun u => !Tryz.prog.wantsStandIn u) = true := by kernel_rfl
        exact (show Tryz.prog.wantsStandIn t = false by simpa using List.all_eq_true.1 hall t hm)⟩)
    (by kernel_rfl)

end Go.Proofs.YtcceeahmcecbnaaGreatDoor
