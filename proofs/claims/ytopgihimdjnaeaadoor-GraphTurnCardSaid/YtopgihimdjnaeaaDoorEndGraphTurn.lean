/- The law GraphTurn: for every input the call returns true, and turns nothing that was there; the statement's frame, by program. Conditions: none but the row's own. -/
import Derived.Test.YtopgihimdjnaeaaDoorGraphT
import Derived.Test.YtopgihimdjnaeaaDoorSizeK
import Derived.Test.YtopgihimdjnaeaaDoorCards
import Derived.Test.YtopgihimdjnaeaaDoorTie
set_option linter.unusedVariables false
set_option linter.unusedSimpArgs false
namespace Go.Proofs.YtopgihimdjnaeaaDoor
open Go.Sx Go.RowKit Go.ChangeShapes Go.WideShapes Go.ChangeAt

theorem own_GraphTurn : ownKnob Tryd.prog.godebug = none := by kernel_rfl
theorem laidOut_GraphTurn : laidOutB Tryd.prog = true := by kernel_rfl
theorem law_GraphTurn (W : World) (hg : GL W) (args : Array Value) (hs : (∀ (p : Option Addr) (l c : Nat), args.toList[1]? = some (.slice p l c) → l * 16 ≤ 140737488351232)) (h : GoodAll Tryd.prog W Tryd.f3.params.toList args.toList) : FnP Tryd.prog 3 args W fun v W' => v = .bool true ∧ Ext W W' :=
  open_shiftbellkeep_GraphTurn W (fun args => (∀ (p : Option Addr) (l c : Nat), args.toList[1]? = some (.slice p l c) → l * 16 ≤ 140737488351232) → FnP Tryd.prog 3 args W fun v W' => v = .bool true ∧ Ext W W') (fun n hn p ll lc hl i hi k hk hs => core_GraphTurn W hg n hn p ll lc hl (hs p ll lc rfl) i hi k hk) args h hs

def list_GraphTurn : List (String × DataW Unit) := [("math/bits.deBruijn64tab", Rows.laid_math_bits_deBruijn64tab)]
theorem door_GraphTurn (os : Os) (args : Array Value) : laidMetH Tryd.prog list_GraphTurn ((World.doorLaid Tryd.prog 400 os).forCall (fun _ _ => 0) ⟨#[], args, []⟩).memory :=
  laidMetH_of_parts3 (fuel := 8) (laidMet_of_run' 8 (by kernel_rfl) (by kernel_rfl)) (by kernel_rfl) (by kernel_rfl)
set_option maxRecDepth 100000 in
theorem lifted_GraphTurn (os : Os) (started : os.Started) (H : Type) (enc : TypeId × Value → H) :
    ReturnsInHanded {} Tryd.checked os 3 .any (fun w args => (Rows.graphTurnSpec.pre enc Tryd.prog Tryd.f3 [] false w args ∧ laidMetH Tryd.prog list_GraphTurn w) ∧ sizedMet enc Tryd.prog Tryd.f3 (OpenSpec.ofChange Rows.graphTurnSpec) false w args)
      (Rows.graphTurnSpec.post enc Tryd.prog Tryd.f3 false true false false) := by
  refine returnsInHanded_of_change_and (C := Tryd.checked) (X := fun w _ => laidMetH Tryd.prog list_GraphTurn w) (fun _ _ _ hh h => h.of_heap hh) own_GraphTurn started (by kernel_rfl) Tryd.func3
    (ChangeSpec.witness_shaped (enc := enc) (C := Tryd.checked) (os := os) (X := fun w _ => laidMetH Tryd.prog list_GraphTurn w) false (World.doorLaid Tryd.prog 400 os) #[(.int .i64 0), (.slice none 0 0), (.int .i64 0), (.int .i64 0)] 8 rfl (World.shaped_of_RefB (by kernel_rfl) (by kernel_rfl)) (by kernel_rfl) (by kernel_rfl) (by kernel_rfl) (door_GraphTurn os _)) ?_
  intro W base args ds gs before hval hW _ hsz hL _
  have hs : (∀ (p : Option Addr) (l c : Nat), args.toList[1]? = some (.slice p l c) → l * 16 ≤ 140737488351232) := by
    intro p l c hv
    obtain ⟨pp, qq, hA, _⟩ := id hW
    have := trodAll_wt hA hsz 1 (t := 22) (e := 25) (by kernel_rfl) hv (by kernel_rfl)
    rw [show Tryd.checked.prog.bytesOf 25 = 16 by kernel_rfl] at this
    exact this
  exact law_at (P := Tryd.prog) (f := Tryd.f3) (s := Rows.graphTurnSpec) (tb := 4) laidOut_GraphTurn (by kernel_rfl) (by kernel_rfl) (by kernel_rfl) rfl
    (fun ds hd => by
      rw [Tryd.params3] at hd
      match ds, hd with
      | [_, _, _, _], _ => rfl) W base args (law_GraphTurn W (laid_ok hL) args hs) ds gs before hval hW

theorem holds_GraphTurn : Rows.GraphTurnSaid :=
  OpenClaim.holds_of_wide 3 Tryd.f3 rfl rfl rfl rfl rfl rfl rfl ⟨rfl, rfl, rfl, rfl, rfl⟩ rfl rfl rfl rfl rfl (by kernel_rfl) Tryd.func3 (by kernel_rfl)
    (of_decide_eq_true (by kernel_rfl)) (by unfold Func.isWrapper; first | (rw [if_pos (by decide +kernel)]; kernel_rfl) | (rw [if_neg (by decide +kernel)]; exact ⟨rfl, rfl⟩))
    (fun os started H enc _ => lifted_GraphTurn os started H enc)

theorem card_GraphTurn : Rows.GraphTurnCardSaid :=
  Claim7.holds_tied_plain_at .later [] [.data] true (true, "96e09ca1c946d5c0785a1e55b5f2dadad9d240093485e6ed6dac75fde2c3fc30") false
    holds_GraphTurn (fun _ h => by cases h) (by kernel_rfl) (fun _ h => by cases h) graphTurn_row_tie rfl ⟨rfl, rfl⟩ (by kernel_rfl) rfl
    (fun f fn hf hfn => by
      obtain rfl : f = 3 := Option.some.inj ((show Tryd.prog.funcNamed "shiftbell/shiftbellkeep.GraphTurn" = some 3 by kernel_rfl).symm.trans hf) |>.symm
      obtain rfl : fn = Tryd.f3 := (Option.some.inj (Tryd.func3.symm.trans hfn)).symm
      exact ⟨by kernel_rfl, fun j t ht => by
        have hm : t ∈ Tryd.f3.params.toList := by simpa using Array.mem_of_getElem? ht
        have hall : (Tryd.f3.params.toList.all fun u => !Tryd.prog.wantsStandIn u) = true := by kernel_rfl
        exact (show Tryd.prog.wantsStandIn t = false by simpa using List.all_eq_true.1 hall t hm)⟩)
    (by kernel_rfl)

end Go.Proofs.YtopgihimdjnaeaaDoor
