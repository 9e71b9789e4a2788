/- The law FarmStays: for every input the call returns true, and turns nothing that was there; the statement's frame, by program. Conditions: none but the row's own. -/
import Derived.Test.YtblafknmfblgfaaFaR
import Derived.Test.YtblafknmfblgfaaSizeU
set_option linter.unusedVariables false
set_option linter.unusedSimpArgs false
namespace Go.Proofs.Ytblafknmfblgfaa
open Go.Sx Go.RowKit Go.ChangeShapes Go.WideShapes Go.ChangeAt

theorem own_FarmStays : ownKnob Try.prog.godebug = none := by kernel_rfl
theorem laidOut_FarmStays : laidOutB Try.prog = true := by kernel_rfl
theorem law_FarmStays (W : World) (args : Array Value) (hs : (∀ j ∈ [1, 2], ∀ (p : Option Addr) (l c : Nat), args.toList[j]? = some (.slice p l c) → l * 176 ≤ 140737488351232)) (h : GoodAll Try.prog W Try.f8.params.toList args.toList) : FnP Try.prog 8 args W fun v W' => v = .bool true ∧ Ext W W' :=
  open_shiftbellkeep_FarmStays W (fun args => (∀ j ∈ [1, 2], ∀ (p : Option Addr) (l c : Nat), args.toList[j]? = some (.slice p l c) → l * 176 ≤ 140737488351232) → FnP Try.prog 8 args W fun v W' => v = .bool true ∧ Ext W W') (fun x_0 x_0l x_0c h0 x_1 h1 x_2 h2 x_3 h3 x_4 h4 l ll lc h5 m ml mc h6 hs => core_FarmStays W x_0 x_0l x_0c h0 x_1 h1 x_2 h2 x_3 h3 x_4 h4 l ll lc h5 m ml mc h6 (hs 1 (by simp) l ll lc rfl) (hs 2 (by simp) m ml mc rfl)) args h hs

set_option maxRecDepth 100000 in
theorem lifted_FarmStays (os : Os) (started : os.Started) (H : Type) (enc : TypeId × Value → H) :
    ReturnsInHanded {} Try.checked os 8 .any (Rows.farmStaysSpec.pre6 enc Try.prog Try.f8 Rows.farmStaysRow.domain false) (Rows.farmStaysSpec.post enc Try.prog Try.f8 false true false false) := by
  refine handed_sized (C := Try.checked) own_FarmStays started (by kernel_rfl) Try.func8
    (ChangeSpec.witness6 (enc := enc) (C := Try.checked) false ⟨#[], #[(.agg #[(.slice none 0 0), (.int .i64 0), (.int .i64 0), (.int .i64 0), (.int .i64 0)]), (.slice none 0 0), (.slice none 0 0)], []⟩ 8 (by kernel_rfl) (by kernel_rfl) (by kernel_rfl) (by kernel_rfl)) ?_
  intro W base args ds gs before hval hW hsz
  have hs : (∀ j ∈ [1, 2], ∀ (p : Option Addr) (l c : Nat), args.toList[j]? = some (.slice p l c) → l * 176 ≤ 140737488351232) := by
    intro j hj p l c hv
    obtain ⟨pp, qq, hA, _⟩ := id hW
    simp only [List.mem_cons, List.not_mem_nil, or_false] at hj
    rcases hj with rfl | rfl
    · have := trodAll_wt hA hsz 1 (t := T_sl_Event) (e := T_Event) (by kernel_rfl) hv (by kernel_rfl)
      rw [show Try.checked.prog.bytesOf T_Event = 176 by kernel_rfl] at this
      exact this
    · have := trodAll_wt hA hsz 2 (t := T_sl_Event) (e := T_Event) (by kernel_rfl) hv (by kernel_rfl)
      rw [show Try.checked.prog.bytesOf T_Event = 176 by kernel_rfl] at this
      exact this
  exact law_at (P := Try.prog) (f := Try.f8) (s := Rows.farmStaysSpec) (tb := 4) laidOut_FarmStays (by kernel_rfl) (by kernel_rfl) (by kernel_rfl) rfl
    (fun ds hd => by
      rw [Try.params8] at hd
      match ds, hd with
      | [_, _, _], _ => rfl) W base args (law_FarmStays W args hs) ds gs before hval hW

theorem holds_FarmStays : Rows.FarmStaysSaid :=
  OpenClaim.holds_of_wide 8 Try.f8 rfl rfl rfl rfl rfl rfl rfl ⟨rfl, rfl, rfl, rfl, rfl⟩ rfl rfl rfl rfl rfl (by kernel_rfl) Try.func8 (by kernel_rfl)
    (of_decide_eq_true (by kernel_rfl)) (by unfold Func.isWrapper; first | (rw [if_pos (by decide +kernel)]; kernel_rfl) | (rw [if_neg (by decide +kernel)]; exact ⟨rfl, rfl⟩))
    (fun os started H enc _ => lifted_FarmStays os started H enc)

end Go.Proofs.Ytblafknmfblgfaa
