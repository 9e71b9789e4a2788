/- The law BookOrder: for every input the call returns true, and turns nothing that was there; the statement's frame, by program. Conditions: none but the row's own. -/
import Derived.Test.YtlgcnfmifkbefaaBkH
import Derived.Test.YtlgcnfmifkbefaaSizeU
set_option linter.unusedVariables false
set_option linter.unusedSimpArgs false
namespace Go.Proofs.Ytlgcnfmifkbefaa
open Go.Sx Go.RowKit Go.ChangeShapes Go.WideShapes Go.ChangeAt

theorem own_BookOrder : ownKnob Try.prog.godebug = none := by kernel_rfl
theorem laidOut_BookOrder : laidOutB Try.prog = true := by kernel_rfl
theorem law_BookOrder (W : World) (args : Array Value) (hs : (∀ (p : Option Addr) (l c : Nat), args.toList[1]? = some (.slice p l c) → l * 24 ≤ 140737488351232)) (h : GoodAll Try.prog W Try.f7.params.toList args.toList) : FnP Try.prog 7 args W fun v W' => v = .bool true ∧ Ext W W' :=
  open_shiftbellkeep_BookOrder W (fun args => (∀ (p : Option Addr) (l c : Nat), args.toList[1]? = some (.slice p l c) → l * 24 ≤ 140737488351232) → FnP Try.prog 7 args W fun v W' => v = .bool true ∧ Ext W W') (fun size h1 p ll lc hl a h2 b h3 n h4 long h5 hs => core_BookOrder W size h1 p ll lc hl (hs p ll lc rfl) a h2 b h3 n h4 long h5) args h hs

set_option maxRecDepth 100000 in
theorem lifted_BookOrder (os : Os) (started : os.Started) (H : Type) (enc : TypeId × Value → H) :
    ReturnsInHanded {} Try.checked os 7 .any (Rows.bookOrderSpec.pre6 enc Try.prog Try.f7 Rows.bookOrderRow.domain false) (Rows.bookOrderSpec.post enc Try.prog Try.f7 false true false false) := by
  refine handed_sized (C := Try.checked) own_BookOrder started (by kernel_rfl) Try.func7
    (ChangeSpec.witness6 (enc := enc) (C := Try.checked) false ⟨#[], #[(.int .i64 0), (.slice none 0 0), (.int .i64 0), (.int .i64 0), (.int .i64 0), (.int .i64 0)], []⟩ 8 (by kernel_rfl) (by kernel_rfl) (by kernel_rfl) (by kernel_rfl)) ?_
  intro W base args ds gs before hval hW hsz
  have hs : (∀ (p : Option Addr) (l c : Nat), args.toList[1]? = some (.slice p l c) → l * 24 ≤ 140737488351232) := by
    intro p l c hv
    obtain ⟨pp, qq, hA, _⟩ := id hW
    have := trodAll_wt hA hsz 1 (t := 22) (e := 28) (by kernel_rfl) hv (by kernel_rfl)
    rw [show Try.checked.prog.bytesOf 28 = 24 by kernel_rfl] at this
    exact this
  exact law_at (P := Try.prog) (f := Try.f7) (s := Rows.bookOrderSpec) (tb := 4) laidOut_BookOrder (by kernel_rfl) (by kernel_rfl) (by kernel_rfl) rfl
    (fun ds hd => by
      rw [Try.params7] at hd
      match ds, hd with
      | [_, _, _, _, _, _], _ => rfl) W base args (law_BookOrder W args hs) ds gs before hval hW

theorem holds_BookOrder : Rows.BookOrderSaid :=
  OpenClaim.holds_of_wide 7 Try.f7 rfl rfl rfl rfl rfl rfl rfl ⟨rfl, rfl, rfl, rfl, rfl⟩ rfl rfl rfl rfl rfl (by kernel_rfl) Try.func7 (by kernel_rfl)
    (of_decide_eq_true (by kernel_rfl)) (by unfold Func.isWrapper; first | (rw [if_pos (by decide +kernel)]; kernel_rfl) | (rw [if_neg (by decide +kernel)]; exact ⟨rfl, rfl⟩))
    (fun os started H enc _ => lifted_BookOrder os started H enc)

end Go.Proofs.Ytlgcnfmifkbefaa
