/- The law TmplValues: for every input the call returns true, and turns nothing that was there; the statement's frame, by program. Condition: what came in is of bulk at most 1048576. -/
import Derived.Test.YtjeboeahhhhbdaaTmF
set_option linter.unusedVariables false
set_option linter.unusedSimpArgs false
namespace Go.Proofs.Ytjeboeahhhhbdaa
open Go.Sx Go.RowKit Go.ChangeShapes Go.WideShapes Go.ChangeAt

theorem own_TmplValues : ownKnob Try.prog.godebug = none := by kernel_rfl
theorem laidOut_TmplValues : laidOutB Try.prog = true := by kernel_rfl
theorem law_TmplValues (W : World) (hsp : W.ShapedOpen Try.prog) (args : Array Value) (hb : (∀ (j : Nat) (s : ByteArray), j < 2 → args.toList[j]? = some (.string s) → s.size ≤ 1048576)) (h : GoodAll Try.prog W Try.f4.params.toList args.toList) : FnP Try.prog 4 args W fun v W' => v = .bool true ∧ Ext W W' :=
  open_shiftbellkeep_TmplValues W (fun args => (∀ (j : Nat) (s : ByteArray), j < 2 → args.toList[j]? = some (.string s) → s.size ≤ 1048576) → FnP Try.prog 4 args W fun v W' => v = .bool true ∧ Ext W W') (fun a ha b hb' hb => core_TmplValues W (max_len hsp) a (hb 0 a (by omega) rfl) b (hb 1 b (by omega) rfl)) args h hb
set_option maxRecDepth 100000 in
theorem lifted_TmplValues (os : Os) (started : os.Started) (H : Type) (enc : TypeId × Value → H) :
    ReturnsInHanded {} Try.checked os 4 .any (fun w args => (Rows.OpenSpec.upto Rows.tmplValuesSpec).pre enc Try.prog Try.f4 [] false w args ∧ sizedMet enc Try.prog Try.f4 (Rows.OpenSpec.upto Rows.tmplValuesSpec) false w args) (Rows.tmplValuesSpec.post enc Try.prog Try.f4 false true false false) := by
  have key : ReturnsInHanded {} Try.checked os 4 .any (fun w args => ((Rows.OpenSpec.upto Rows.tmplValuesSpec).pre enc Try.prog Try.f4 [] false w args ∧ (fun (_ : World) (_ : Array Value) => True) w args) ∧ sizedMet enc Try.prog Try.f4 (Rows.OpenSpec.upto Rows.tmplValuesSpec) false w args) (Rows.tmplValuesSpec.post enc Try.prog Try.f4 false true false false) := by
    refine handed_upto (C := Try.checked) (X := fun (_ : World) (_ : Array Value) => True) (fun _ _ _ _ h => h) own_TmplValues started (by kernel_rfl) Try.func4
      (witness_upto (s := Rows.tmplValuesSpec) (conds := []) (apart := false) (fn := Try.f4) (f := 4) (enc := enc) (C := Try.checked) (os := os) (X := fun (_ : World) (_ : Array Value) => True) false (World.holding Try.prog os ⟨#[], #[(.string (⟨#[]⟩ : ByteArray)), (.string (⟨#[]⟩ : ByteArray))], []⟩) #[(.string (⟨#[]⟩ : ByteArray)), (.string (⟨#[]⟩ : ByteArray))] 8 rfl (World.shaped_of_B (by kernel_rfl) (by kernel_rfl)) (by kernel_rfl) (by kernel_rfl) (by kernel_rfl) trivial) ?_
    intro W base args ds gs before hval hW hbulk _ hsp
    have hb : (∀ (j : Nat) (s : ByteArray), j < 2 → args.toList[j]? = some (.string s) → s.size ≤ 1048576) := by
      obtain ⟨pp, qq, hA, _⟩ := id hW
      intro j s hj hs
      have hj2 : j = 0 ∨ j = 1 := by omega
      rcases hj2 with rfl | rfl
      · have := bulk_str (gs := gs) hA 0 (t := T_string) (by kernel_rfl) hs (by kernel_rfl); omega
      · have := bulk_str (gs := gs) hA 1 (t := T_string) (by kernel_rfl) hs (by kernel_rfl); omega
    exact law_at (P := Try.prog) (f := Try.f4) (s := Rows.tmplValuesSpec) (tb := 4) laidOut_TmplValues (by kernel_rfl) (by kernel_rfl) (by kernel_rfl) rfl
      (fun ds hd => by
        rw [Try.params4] at hd
        match ds, hd with
        | [_, _], _ => rfl) W base args (law_TmplValues W hsp args hb) ds gs before hval hW
  have e : (fun (w : World) (args : Array Value) => ((Rows.OpenSpec.upto Rows.tmplValuesSpec).pre enc Try.prog Try.f4 [] false w args ∧ (fun (_ : World) (_ : Array Value) => True) w args) ∧ sizedMet enc Try.prog Try.f4 (Rows.OpenSpec.upto Rows.tmplValuesSpec) false w args) = fun w args => (Rows.OpenSpec.upto Rows.tmplValuesSpec).pre enc Try.prog Try.f4 [] false w args ∧ sizedMet enc Try.prog Try.f4 (Rows.OpenSpec.upto Rows.tmplValuesSpec) false w args := by
    funext w args; simp
  rw [e] at key
  exact key

theorem holds_TmplValuesUpto : Rows.TmplValuesUptoSaid :=
  OpenClaim.holds_of_cond 4 Try.f4 rfl rfl rfl rfl rfl rfl rfl ⟨rfl, rfl, rfl, rfl, rfl⟩ rfl rfl rfl rfl rfl (by kernel_rfl) Try.func4 (by kernel_rfl)
    (of_decide_eq_true (by kernel_rfl)) (by unfold Func.isWrapper; first | (rw [if_pos (by decide +kernel)]; kernel_rfl) | (rw [if_neg (by decide +kernel)]; exact ⟨rfl, rfl⟩))
    (fun os started H enc _ _ => lifted_TmplValues os started H enc)

end Go.Proofs.Ytjeboeahhhhbdaa
