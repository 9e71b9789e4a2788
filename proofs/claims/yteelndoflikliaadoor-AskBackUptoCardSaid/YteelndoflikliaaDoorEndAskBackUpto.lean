/- The law AskBack: for every input the call returns true, and turns nothing that was there; the statement's frame, by program. Condition: the row's own, and what came in is of bulk at most 1048576. -/
import Derived.Test.YteelndoflikliaaDoorAbE
import Derived.Test.YteelndoflikliaaDoorCards
import Derived.Test.YteelndoflikliaaDoorTie
import Derived.Lay
import Derived.MakeChecks
set_option linter.unusedVariables false
set_option linter.unusedSimpArgs false
namespace Go.Proofs.YteelndoflikliaaDoor
open Go.Sx Go.RowKit Go.ChangeShapes Go.WideShapes Go.ChangeAt

theorem own_AskBack : ownKnob Tryd.prog.godebug = none := by kernel_rfl
theorem laidOut_AskBack : laidOutB Tryd.prog = true := by kernel_rfl
theorem law_AskBack (W : World) (hg : GL W) (args : Array Value) (hb : (∀ (t : AT) (p : Option Addr) (c : Nat), args.toList[0]? = some (av t p c) → IsT W t p c → nod t ≤ 1048576)) (h : GoodAll Tryd.prog W Tryd.f4.params.toList args.toList) : FnP Tryd.prog 4 args W fun v W' => v = .bool true ∧ Ext W W' :=
  open_shiftbellkeep_AskBack W (fun args => (∀ (t : AT) (p : Option Addr) (c : Nat), args.toList[0]? = some (av t p c) → IsT W t p c → nod t ≤ 1048576) → FnP Tryd.prog 4 args W fun v W' => v = .bool true ∧ Ext W W') (fun x0 hx0 x1 hx1 x2 hx2 x3 hx3 px lx cx hX s _ hb => back_args W hg hx0 hx1 hx2 hx3 hX s (fun t he hT => hb t px cx (by rw [← he]; rfl) hT)) args h hb

def list_AskBack : List (String × DataW Unit) := [("math/bits.deBruijn32tab", Rows.laid_math_bits_deBruijn32tab), ("math/bits.deBruijn64tab", Rows.laid_math_bits_deBruijn64tab), ("internal/strconv.uint64pow10", Rows.laid_internal_strconv_uint64pow10), ("strconv.ErrRange", Rows.laid_strconv_ErrRange), ("strconv.ErrSyntax", Rows.laid_strconv_ErrSyntax)]
theorem door_AskBack (os : Os) (args : Array Value) : laidMetH Tryd.prog list_AskBack ((World.doorLaid Tryd.prog 400 os).forCall (fun _ _ => 0) ⟨#[], args, []⟩).memory := laidMetH_of_parts3 (fuel := 8) (laidMet_of_run' 8 (by kernel_rfl) (by kernel_rfl)) (by kernel_rfl) (by kernel_rfl)
set_option maxRecDepth 100000 in
theorem lifted_AskBack (os : Os) (started : os.Started) (H : Type) (enc : TypeId × Value → H) :
    ReturnsInHanded {} Tryd.checked os 4 .any (fun w args => ((Rows.OpenSpec.upto Rows.askBackSpec).pre enc Tryd.prog Tryd.f4 [] false w args ∧ laidMetH Tryd.prog list_AskBack w) ∧ sizedMet enc Tryd.prog Tryd.f4 (Rows.OpenSpec.upto Rows.askBackSpec) false w args)
      (Rows.askBackSpec.post enc Tryd.prog Tryd.f4 false true false false) := by
  refine handed_upto (C := Tryd.checked) (X := fun w _ => laidMetH Tryd.prog list_AskBack w) (fun _ _ _ hh h => h.of_heap hh) own_AskBack started (by kernel_rfl) Tryd.func4
    (witness_upto (s := Rows.askBackSpec) (conds := []) (apart := false) (fn := Tryd.f4) (f := 4) (enc := enc) (C := Tryd.checked) (os := os) (X := fun w _ => laidMetH Tryd.prog list_AskBack w) false (World.doorLaid Tryd.prog 400 os) #[(.agg #[(.int .i64 0), (.string (⟨#[]⟩ : ByteArray)), (.string (⟨#[]⟩ : ByteArray)), (.int .i64 0), (.slice none 0 0)]), (.string (⟨#[]⟩ : ByteArray))] 8 rfl (World.shaped_of_RefB (by kernel_rfl) (by kernel_rfl)) (by kernel_rfl) (by kernel_rfl) (by kernel_rfl) (door_AskBack os _)) ?_
  intro W base args ds gs before hval hW hbulk hL hsp
  have hb : (∀ (t : AT) (p : Option Addr) (c : Nat), args.toList[0]? = some (av t p c) → IsT W t p c → nod t ≤ 1048576) := by
    obtain ⟨pp, qq, hA, _⟩ := id hW
    exact fun t p c hv hT => (by obtain ⟨d, qs, n, hd, hle⟩ := bulk_at (gs := gs) hA 0 (t := T_Ask) (by kernel_rfl) hv; exact Nat.le_trans (nod_bulk n t p c d qs hT hd) (Nat.le_trans hle hbulk))
  exact law_at (P := Tryd.prog) (f := Tryd.f4) (s := Rows.askBackSpec) (tb := 4) laidOut_AskBack (by kernel_rfl) (by kernel_rfl) (by kernel_rfl) rfl
    (fun ds hd => by
      rw [Tryd.params4] at hd
      match ds, hd with
      | [_, _], _ => rfl) W base args (law_AskBack W (laid_okS hL hsp) args hb) ds gs before hval hW

theorem holds_AskBackUpto : Rows.AskBackUptoSaid :=
  OpenClaim.holds_of_cond 4 Tryd.f4 rfl rfl rfl rfl rfl rfl rfl ⟨rfl, rfl, rfl, rfl, rfl⟩ rfl rfl rfl rfl rfl (by kernel_rfl) Tryd.func4 (by kernel_rfl)
    (of_decide_eq_true (by kernel_rfl)) (by unfold Func.isWrapper; first | (rw [if_pos (by decide +kernel)]; kernel_rfl) | (rw [if_neg (by decide +kernel)]; exact ⟨rfl, rfl⟩))
    (fun os started H enc _ _ => lifted_AskBack os started H enc)

theorem card_AskBackUpto : Rows.AskBackUptoCardSaid :=
  Claim7.holds_tied_plain_at .later [] [.data, .data, .data, .sentinel, .sentinel] true (true, "01258724e008b33df99b50a1517b6a2b602ae0de7535c79d8bd66ae6e693adde") true
    holds_AskBackUpto (fun _ h => by cases h) (by kernel_rfl) (fun _ h => by cases h) askBackUpto_row_tie rfl ⟨rfl, rfl⟩ (by kernel_rfl) rfl
    (fun f fn hf hfn => by
      obtain rfl : f = 4 := Option.some.inj ((show Tryd.prog.funcNamed "shiftbell/shiftbellkeep.AskBack" = some 4 by kernel_rfl).symm.trans hf) |>.symm
      obtain rfl : fn = Tryd.f4 := (Option.some.inj (Tryd.func4.symm.trans hfn)).symm
      exact ⟨by kernel_rfl, fun j t ht => by
        have hm : t ∈ Tryd.f4.params.toList := by simpa using Array.mem_of_getElem? ht
        have hall : (Tryd.f4.params.toList.all fun u => !Tryd.prog.wantsStandIn u) = true := by kernel_rfl
        exact (show Tryd.prog.wantsStandIn t = false by simpa using List.all_eq_true.1 hall t hm)⟩)
    (by kernel_rfl)

end Go.Proofs.YteelndoflikliaaDoor
