/- The law JournalBack: for every input the call returns true, and turns nothing that was there; the statement's frame, by program. Condition: the row's own, and what came in is of bulk at most 1048576. -/
import Derived.Test.YtenppnomdejmlaaGreatDoorEvG
import Derived.Test.YtenppnomdejmlaaGreatDoorCards
import Derived.Test.YtenppnomdejmlaaGreatDoorTie
import Derived.Lay
import Derived.MakeChecks
set_option linter.unusedVariables false
set_option linter.unusedSimpArgs false
namespace Go.Proofs.YtenppnomdejmlaaGreatDoor
open Go.Sx Go.RowKit Go.ChangeShapes Go.WideShapes Go.ChangeAt

theorem own_JournalBack : ownKnob Tryz.prog.godebug = none := by kernel_rfl
theorem laidOut_JournalBack : laidOutB Tryz.prog = true := by kernel_rfl
theorem law_JournalBack (W : World) (hg : GL W) (args : Array Value) (hb : (∀ (p : Option Addr) (c : Nat) (L : List EvR), args.toList[0]? = some (.slice p L.length c) → Recs 15 encR W p L → (∀ r ∈ L, IsT W r.x.job.ask r.pa r.ca) → ∀ r ∈ L, nod r.x.job.ask ≤ 1048576)) (h : GoodAll Tryz.prog W Tryz.f4.params.toList args.toList) : FnP Tryz.prog 4 args W fun v W' => v = .bool true ∧ Ext W W' :=
  open_shiftbellkeep_JournalBack W (fun args => (∀ (p : Option Addr) (c : Nat) (L : List EvR), args.toList[0]? = some (.slice p L.length c) → Recs 15 encR W p L → (∀ r ∈ L, IsT W r.x.job.ask r.pa r.ca) → ∀ r ∈ L, nod r.x.job.ask ≤ 1048576) → FnP Tryz.prog 4 args W fun v W' => v = .bool true ∧ Ext W W') (fun p l c hA keep hk hb => jourback_args W hg hA keep (fun L hl hR hT => hb p c L (by subst hl; rfl) hR hT)) args h hb

def list_JournalBack : List (String × DataW Unit) := [("math/bits.deBruijn32tab", Rows.laid_math_bits_deBruijn32tab), ("math/bits.deBruijn64tab", Rows.laid_math_bits_deBruijn64tab), ("internal/strconv.uint64pow10", Rows.laid_internal_strconv_uint64pow10), ("unicode/utf8.acceptRanges", Rows.laid_unicode_utf8_acceptRanges), ("strconv.ErrRange", Rows.laid_strconv_ErrRange), ("strconv.ErrSyntax", Rows.laid_strconv_ErrSyntax), ("unicode/utf8.first", Rows.laid_unicode_utf8_first)]
theorem door_JournalBack (os : Os) (args : Array Value) : laidMetH Tryz.prog list_JournalBack ((World.laidAll Tryz.prog os list_JournalBack).forCall (fun _ _ => 0) ⟨#[], args, []⟩).memory := by rw [MakeChecks.laidMetH_plain _ _ _ (by kernel_rfl)]; exact laidMet_laidAll _ (by kernel_rfl) (by kernel_rfl)
set_option maxRecDepth 100000 in
theorem lifted_JournalBack (os : Os) (started : os.Started) (H : Type) (enc : TypeId × Value → H) :
    ReturnsInHanded {} Tryz.checked os 4 .any (fun w args => ((Rows.OpenSpec.upto Rows.journalBackSpec).pre enc Tryz.prog Tryz.f4 [] false w args ∧ laidMetH Tryz.prog list_JournalBack w) ∧ sizedMet enc Tryz.prog Tryz.f4 (Rows.OpenSpec.upto Rows.journalBackSpec) false w args)
      (Rows.journalBackSpec.post enc Tryz.prog Tryz.f4 false true false false) := by
  refine handed_upto (C := Tryz.checked) (X := fun w _ => laidMetH Tryz.prog list_JournalBack w) (fun _ _ _ hh h => h.of_heap hh) own_JournalBack started (by kernel_rfl) Tryz.func4
    (witness_upto (s := Rows.journalBackSpec) (conds := []) (apart := false) (fn := Tryz.f4) (f := 4) (enc := enc) (C := Tryz.checked) (os := os) (X := fun w _ => laidMetH Tryz.prog list_JournalBack w) false (World.laidAll Tryz.prog os list_JournalBack) #[(.slice none 0 0), (.int .i64 0)] 8 (World.laidAll_os _ _ _) (World.shaped_of_ZipB (by kernel_rfl) (by kernel_rfl)) (by kernel_rfl) (by kernel_rfl) (by kernel_rfl) (door_JournalBack os _)) ?_
  intro W base args ds gs before hval hW hbulk hL hsp
  have hb : (∀ (p : Option Addr) (c : Nat) (L : List EvR), args.toList[0]? = some (.slice p L.length c) → Recs 15 encR W p L → (∀ r ∈ L, IsT W r.x.job.ask r.pa r.ca) → ∀ r ∈ L, nod r.x.job.ask ≤ 1048576) := by
    obtain ⟨pp, qq, hA, _⟩ := id hW
    exact fun p c L hv hR hT r hr => (by obtain ⟨d, qs, n, hd, hle⟩ := bulk_at (gs := gs) hA 0 (t := T_sl_Event) (by kernel_rfl) hv; exact Nat.le_trans (evs_bulk hR hT hd r hr) (Nat.le_trans hle hbulk))
  exact law_at (P := Tryz.prog) (f := Tryz.f4) (s := Rows.journalBackSpec) (tb := 4) laidOut_JournalBack (by kernel_rfl) (by kernel_rfl) (by kernel_rfl) rfl
    (fun ds hd => by
      rw [Tryz.params4] at hd
      match ds, hd with
      | [_, _], _ => rfl) W base args (law_JournalBack W (laid_okS hL hsp) args hb) ds gs before hval hW

theorem holds_JournalBackUpto : Rows.JournalBackUptoSaid :=
  OpenClaim.holds_of_cond 4 Tryz.f4 rfl rfl rfl rfl rfl rfl rfl ⟨rfl, rfl, rfl, rfl, rfl⟩ rfl rfl rfl rfl rfl (by kernel_rfl) Tryz.func4 (by kernel_rfl)
    (of_decide_eq_true (by kernel_rfl)) (by unfold Func.isWrapper; first | (rw [if_pos (by decide +kernel)]; kernel_rfl) | (rw [if_neg (by decide +kernel)]; exact ⟨rfl, rfl⟩))
    (fun os started H enc _ _ => lifted_JournalBack os started H enc)

theorem card_JournalBackUpto : Rows.JournalBackUptoCardSaid :=
  Claim7.holds_tied_plain_at .later [] [.data, .data, .data, .data, .sentinel, .sentinel, .pinned] true (true, "f5aa81fd82ae71ec0e9ba9d336b39b9663cecfe54d069302feb47f07c1313515") true
    holds_JournalBackUpto (fun _ h => by cases h) (by kernel_rfl) (fun _ h => by cases h) journalBackUpto_row_tie rfl ⟨rfl, rfl⟩ (by kernel_rfl) rfl
    (fun f fn hf hfn => by
      obtain rfl : f = 4 := Option.some.inj ((show Tryz.prog.funcNamed "shiftbell/shiftbellkeep.JournalBack" = some 4 by kernel_rfl).symm.trans hf) |>.symm
      obtain rfl : fn = Tryz.f4 := (Option.some.inj (Tryz.func4.symm.trans hfn)).symm
      exact ⟨by kernel_rfl, fun j t ht => by
        have hm : t ∈ Tryz.f4.params.toList := by simpa using Array.mem_of_getElem? ht
        have hall : (Tryz.f4.params.toList.all fun u => !Tryz.prog.wantsStandIn u) = true := by kernel_rfl
        exact (show Tryz.prog.wantsStandIn t = false by simpa using List.all_eq_true.1 hall t hm)⟩)
    (by kernel_rfl)

end Go.Proofs.YtenppnomdejmlaaGreatDoor
