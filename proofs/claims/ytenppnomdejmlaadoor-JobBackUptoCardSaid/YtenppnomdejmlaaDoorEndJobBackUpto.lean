/- The law JobBack: for every input the call returns true, and turns nothing that was there; the statement's frame, by program. Condition: the row's own, and what came in is of bulk at most 1048576. -/
import Derived.Test.YtenppnomdejmlaaDoorJbD
import Derived.Test.YtenppnomdejmlaaDoorCards
import Derived.Test.YtenppnomdejmlaaDoorTie
import Derived.Lay
import Derived.MakeChecks
set_option linter.unusedVariables false
set_option linter.unusedSimpArgs false
namespace Go.Proofs.YtenppnomdejmlaaDoor
open Go.Sx Go.RowKit Go.ChangeShapes Go.WideShapes Go.ChangeAt

theorem own_JobBack : ownKnob Tryd.prog.godebug = none := by kernel_rfl
theorem laidOut_JobBack : laidOutB Tryd.prog = true := by kernel_rfl
theorem law_JobBack (W : World) (hg : GL W) (args : Array Value) (hb : (∀ (j : Jb) (pa : Option Addr) (ca : Nat) (pf : Option Addr) (cf : Nat), args.toList[0]? = some (jv j pa ca pf cf) → IsT W j.ask pa ca → nod j.ask ≤ 1048576)) (h : GoodAll Tryd.prog W Tryd.f4.params.toList args.toList) : FnP Tryd.prog 4 args W fun v W' => v = .bool true ∧ Ext W W' :=
  open_shiftbellkeep_JobBack W (fun args => (∀ (j : Jb) (pa : Option Addr) (ca : Nat) (pf : Option Addr) (cf : Nat), args.toList[0]? = some (jv j pa ca pf cf) → IsT W j.ask pa ca → nod j.ask ≤ 1048576) → FnP Tryd.prog 4 args W fun v W' => v = .bool true ∧ Ext W W') (fun a0 h0 a1 h1 a2 h2 a3 h3 a4 h4 a5 h5 a6 h6 a7 h7 a8 h8 p l c hA q m d hF s hs hb => jback_args W hg h0 h1 h2 h3 h4 h5 h6 h7 h8 hA hF s hs (fun j e hT => hb j p c q d (by show some (Value.agg (_ : Array Value)) = some (Value.agg (jcs j p c q d).toArray); rw [e]) hT)) args h hb

def list_JobBack : List (String × DataW Unit) := [("math/bits.deBruijn32tab", Rows.laid_math_bits_deBruijn32tab), ("math/bits.deBruijn64tab", Rows.laid_math_bits_deBruijn64tab), ("internal/strconv.uint64pow10", Rows.laid_internal_strconv_uint64pow10), ("unicode/utf8.acceptRanges", Rows.laid_unicode_utf8_acceptRanges), ("strconv.ErrRange", Rows.laid_strconv_ErrRange), ("strconv.ErrSyntax", Rows.laid_strconv_ErrSyntax), ("unicode/utf8.first", Rows.laid_unicode_utf8_first)]
theorem door_JobBack (os : Os) (args : Array Value) : laidMetH Tryd.prog list_JobBack ((World.laidAll Tryd.prog os list_JobBack).forCall (fun _ _ => 0) ⟨#[], args, []⟩).memory := by rw [MakeChecks.laidMetH_plain _ _ _ (by kernel_rfl)]; exact laidMet_laidAll _ (by kernel_rfl) (by kernel_rfl)
set_option maxRecDepth 100000 in
theorem lifted_JobBack (os : Os) (started : os.Started) (H : Type) (enc : TypeId × Value → H) :
    ReturnsInHanded {} Tryd.checked os 4 .any (fun w args => ((Rows.OpenSpec.upto Rows.jobBackSpec).pre enc Tryd.prog Tryd.f4 [] false w args ∧ laidMetH Tryd.prog list_JobBack w) ∧ sizedMet enc Tryd.prog Tryd.f4 (Rows.OpenSpec.upto Rows.jobBackSpec) false w args)
      (Rows.jobBackSpec.post enc Tryd.prog Tryd.f4 false true false false) := by
  refine handed_upto (C := Tryd.checked) (X := fun w _ => laidMetH Tryd.prog list_JobBack w) (fun _ _ _ hh h => h.of_heap hh) own_JobBack started (by kernel_rfl) Tryd.func4
    (witness_upto (s := Rows.jobBackSpec) (conds := []) (apart := false) (fn := Tryd.f4) (f := 4) (enc := enc) (C := Tryd.checked) (os := os) (X := fun w _ => laidMetH Tryd.prog list_JobBack w) false (World.laidAll Tryd.prog os list_JobBack) #[(.agg #[(.string (⟨#[]⟩ : ByteArray)), (.int .i64 0), (.int .i64 0), (.int .i64 0), (.int .i64 0), (.int .i64 0), (.string (⟨#[]⟩ : ByteArray)), (.string (⟨#[]⟩ : ByteArray)), (.int .i64 0), (.slice none 0 0), (.slice none 0 0)]), (.string (⟨#[]⟩ : ByteArray))] 8 (World.laidAll_os _ _ _) (World.shaped_of_ZipB (by kernel_rfl) (by kernel_rfl)) (by kernel_rfl) (by kernel_rfl) (by kernel_rfl) (door_JobBack os _)) ?_
  intro W base args ds gs before hval hW hbulk hL hsp
  have hb : (∀ (j : Jb) (pa : Option Addr) (ca : Nat) (pf : Option Addr) (cf : Nat), args.toList[0]? = some (jv j pa ca pf cf) → IsT W j.ask pa ca → nod j.ask ≤ 1048576) := by
    obtain ⟨pp, qq, hA, _⟩ := id hW
    exact fun j pa ca pf cf hv hT => (by obtain ⟨d, qs, n, hd, hle⟩ := bulk_at (gs := gs) hA 0 (t := T_Job) (by kernel_rfl) hv; exact Nat.le_trans (job_bulk hT hd) (Nat.le_trans hle hbulk))
  exact law_at (P := Tryd.prog) (f := Tryd.f4) (s := Rows.jobBackSpec) (tb := 4) laidOut_JobBack (by kernel_rfl) (by kernel_rfl) (by kernel_rfl) rfl
    (fun ds hd => by
      rw [Tryd.params4] at hd
      match ds, hd with
      | [_, _], _ => rfl) W base args (law_JobBack W (laid_okS hL hsp) args hb) ds gs before hval hW

theorem holds_JobBackUpto : Rows.JobBackUptoSaid :=
  OpenClaim.holds_of_cond 4 Tryd.f4 rfl rfl rfl rfl rfl rfl rfl ⟨rfl, rfl, rfl, rfl, rfl⟩ rfl rfl rfl rfl rfl (by kernel_rfl) Tryd.func4 (by kernel_rfl)
    (of_decide_eq_true (by kernel_rfl)) (by unfold Func.isWrapper; first | (rw [if_pos (by decide +kernel)]; kernel_rfl) | (rw [if_neg (by decide +kernel)]; exact ⟨rfl, rfl⟩))
    (fun os started H enc _ _ => lifted_JobBack os started H enc)

theorem card_JobBackUpto : Rows.JobBackUptoCardSaid :=
  Claim7.holds_tied_plain_at .later [] [.data, .data, .data, .data, .sentinel, .sentinel, .pinned] true (true, "ee7ddafc0f1b67d041a4849db574abf061dc4b3e034bc667d74d97d20559f1ff") true
    holds_JobBackUpto (fun _ h => by cases h) (by kernel_rfl) (fun _ h => by cases h) jobBackUpto_row_tie rfl ⟨rfl, rfl⟩ (by kernel_rfl) rfl
    (fun f fn hf hfn => by
      obtain rfl : f = 4 := Option.some.inj ((show Tryd.prog.funcNamed "shiftbell/shiftbellkeep.JobBack" = some 4 by kernel_rfl).symm.trans hf) |>.symm
      obtain rfl : fn = Tryd.f4 := (Option.some.inj (Tryd.func4.symm.trans hfn)).symm
      exact ⟨by kernel_rfl, fun j t ht => by
        have hm : t ∈ Tryd.f4.params.toList := by simpa using Array.mem_of_getElem? ht
        have hall : (Tryd.f4.params.toList.all fun u => !Tryd.prog.wantsStandIn u) = true := by kernel_rfl
        exact (show Tryd.prog.wantsStandIn t = false by simpa using List.all_eq_true.1 hall t hm)⟩)
    (by kernel_rfl)

end Go.Proofs.YtenppnomdejmlaaDoor
