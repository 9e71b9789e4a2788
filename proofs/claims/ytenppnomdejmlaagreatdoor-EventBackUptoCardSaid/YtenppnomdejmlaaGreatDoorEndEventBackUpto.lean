/- The law EventBack: for every input the call returns true, and turns nothing that was there; the statement's frame, by program. Condition: the row's own, and what came in is of bulk at most 1048576. -/
import Derived.Test.YtenppnomdejmlaaGreatDoorEvF
import Derived.Test.YtenppnomdejmlaaGreatDoorCards
import Derived.Test.YtenppnomdejmlaaGreatDoorTie
import Derived.Lay
import Derived.MakeChecks
set_option linter.unusedVariables false
set_option linter.unusedSimpArgs false
namespace Go.Proofs.YtenppnomdejmlaaGreatDoor
open Go.Sx Go.RowKit Go.ChangeShapes Go.WideShapes Go.ChangeAt

theorem own_EventBack : ownKnob Tryz.prog.godebug = none := by kernel_rfl
theorem laidOut_EventBack : laidOutB Tryz.prog = true := by kernel_rfl
theorem law_EventBack (W : World) (hg : GL W) (args : Array Value) (hb : (∀ (x : Ev) (pa : Option Addr) (ca : Nat) (pf : Option Addr) (cf : Nat), args.toList[0]? = some (evv x pa ca pf cf) → IsT W x.job.ask pa ca → nod x.job.ask ≤ 1048576)) (h : GoodAll Tryz.prog W Tryz.f3.params.toList args.toList) : FnP Tryz.prog 3 args W fun v W' => v = .bool true ∧ Ext W W' :=
  open_shiftbellkeep_EventBack W (fun args => (∀ (x : Ev) (pa : Option Addr) (ca : Nat) (pf : Option Addr) (cf : Nat), args.toList[0]? = some (evv x pa ca pf cf) → IsT W x.job.ask pa ca → nod x.job.ask ≤ 1048576) → FnP Tryz.prog 3 args W fun v W' => v = .bool true ∧ Ext W W') (fun k hk a0 h0 a1 h1 a2 h2 a3 h3 a4 h4 a5 h5 a6 h6 a7 h7 a8 h8 p l c hA q m d hF n hn id hid okb b bl bc hB hb => eback_args W hg hk h0 h1 h2 h3 h4 h5 h6 h7 h8 hA hF n id okb hB (fun x e hT => hb x p c q d (by show some (Value.agg (_ : Array Value)) = some (Value.agg (evcs x p c q d).toArray); rw [e]) hT)) args h hb

def list_EventBack : List (String × DataW Unit) := [("math/bits.deBruijn32tab", Rows.laid_math_bits_deBruijn32tab), ("math/bits.deBruijn64tab", Rows.laid_math_bits_deBruijn64tab), ("internal/strconv.uint64pow10", Rows.laid_internal_strconv_uint64pow10), ("unicode/utf8.acceptRanges", Rows.laid_unicode_utf8_acceptRanges), ("strconv.ErrRange", Rows.laid_strconv_ErrRange), ("strconv.ErrSyntax", Rows.laid_strconv_ErrSyntax), ("unicode/utf8.first", Rows.laid_unicode_utf8_first)]
theorem door_EventBack (os : Os) (args : Array Value) : laidMetH Tryz.prog list_EventBack ((World.laidAll Tryz.prog os list_EventBack).forCall (fun _ _ => 0) ⟨#[], args, []⟩).memory := by rw [MakeChecks.laidMetH_plain _ _ _ (by kernel_rfl)]; exact laidMet_laidAll _ (by kernel_rfl) (by kernel_rfl)
set_option maxRecDepth 100000 in
theorem lifted_EventBack (os : Os) (started : os.Started) (H : Type) (enc : TypeId × Value → H) :
    ReturnsInHanded {} Tryz.checked os 3 .any (fun w args => ((Rows.OpenSpec.upto Rows.eventBackSpec).pre enc Tryz.prog Tryz.f3 [] false w args ∧ laidMetH Tryz.prog list_EventBack w) ∧ sizedMet enc Tryz.prog Tryz.f3 (Rows.OpenSpec.upto Rows.eventBackSpec) false w args)
      (Rows.eventBackSpec.post enc Tryz.prog Tryz.f3 false true false false) := by
  refine handed_upto (C := Tryz.checked) (X := fun w _ => laidMetH Tryz.prog list_EventBack w) (fun _ _ _ hh h => h.of_heap hh) own_EventBack started (by kernel_rfl) Tryz.func3
    (witness_upto (s := Rows.eventBackSpec) (conds := []) (apart := false) (fn := Tryz.f3) (f := 3) (enc := enc) (C := Tryz.checked) (os := os) (X := fun w _ => laidMetH Tryz.prog list_EventBack w) false (World.laidAll Tryz.prog os list_EventBack) #[(.agg #[(.int .i64 0), (.string (⟨#[]⟩ : ByteArray)), (.int .i64 0), (.int .i64 0), (.int .i64 0), (.int .i64 0), (.int .i64 0), (.string (⟨#[]⟩ : ByteArray)), (.string (⟨#[]⟩ : ByteArray)), (.int .i64 0), (.slice none 0 0), (.slice none 0 0), (.int .i64 0), (.int .i64 0), (.bool false)]), (.slice none 0 0)] 8 (World.laidAll_os _ _ _) (World.shaped_of_ZipB (by kernel_rfl) (by kernel_rfl)) (by kernel_rfl) (by kernel_rfl) (by kernel_rfl) (door_EventBack os _)) ?_
  intro W base args ds gs before hval hW hbulk hL hsp
  have hb : (∀ (x : Ev) (pa : Option Addr) (ca : Nat) (pf : Option Addr) (cf : Nat), args.toList[0]? = some (evv x pa ca pf cf) → IsT W x.job.ask pa ca → nod x.job.ask ≤ 1048576) := by
    obtain ⟨pp, qq, hA, _⟩ := id hW
    exact fun x pa ca pf cf hv hT => (by obtain ⟨d, qs, n, hd, hle⟩ := bulk_at (gs := gs) hA 0 (t := T_Event) (by kernel_rfl) hv; exact Nat.le_trans (ev_bulk hT hd) (Nat.le_trans hle hbulk))
  exact law_at (P := Tryz.prog) (f := Tryz.f3) (s := Rows.eventBackSpec) (tb := 4) laidOut_EventBack (by kernel_rfl) (by kernel_rfl) (by kernel_rfl) rfl
    (fun ds hd => by
      rw [Tryz.params3] at hd
      match ds, hd with
      | [_, _], _ => rfl) W base args (law_EventBack W (laid_okS hL hsp) args hb) ds gs before hval hW

theorem holds_EventBackUpto : Rows.EventBackUptoSaid :=
  OpenClaim.holds_of_cond 3 Tryz.f3 rfl rfl rfl rfl rfl rfl rfl ⟨rfl, rfl, rfl, rfl, rfl⟩ rfl rfl rfl rfl rfl (by kernel_rfl) Tryz.func3 (by kernel_rfl)
    (of_decide_eq_true (by kernel_rfl)) (by unfold Func.isWrapper; first | (rw [if_pos (by decide +kernel)]; kernel_rfl) | (rw [if_neg (by decide +kernel)]; exact ⟨rfl, rfl⟩))
    (fun os started H enc _ _ => lifted_EventBack os started H enc)

theorem card_EventBackUpto : Rows.EventBackUptoCardSaid :=
  Claim7.holds_tied_plain_at .later [] [.data, .data, .data, .data, .sentinel, .sentinel, .pinned] true (true, "f5aa81fd82ae71ec0e9ba9d336b39b9663cecfe54d069302feb47f07c1313515") true
    holds_EventBackUpto (fun _ h => by cases h) (by kernel_rfl) (fun _ h => by cases h) eventBackUpto_row_tie rfl ⟨rfl, rfl⟩ (by kernel_rfl) rfl
    (fun f fn hf hfn => by
      obtain rfl : f = 3 := Option.some.inj ((show Tryz.prog.funcNamed "shiftbell/shiftbellkeep.EventBack" = some 3 by kernel_rfl).symm.trans hf) |>.symm
      obtain rfl : fn = Tryz.f3 := (Option.some.inj (Tryz.func3.symm.trans hfn)).symm
      exact ⟨by kernel_rfl, fun j t ht => by
        have hm : t ∈ Tryz.f3.params.toList := by simpa using Array.mem_of_getElem? ht
        have hall : (Tryz.f3.params.toList.all fun u => !Tryz.prog.wantsStandIn u) = true := by kernel_rfl
        exact (show Tryz.prog.wantsStandIn t = false by simpa using List.all_eq_true.1 hall t hm)⟩)
    (by kernel_rfl)

end Go.Proofs.YtenppnomdejmlaaGreatDoor
