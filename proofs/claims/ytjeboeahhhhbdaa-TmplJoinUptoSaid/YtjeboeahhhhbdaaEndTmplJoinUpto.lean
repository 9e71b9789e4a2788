/- The law TmplJoin: for every input the call returns true, and turns nothing that was there; the statement's frame, by program. Condition: what came in is of bulk at most 1048576. -/
import Derived.Test.YtjeboeahhhhbdaaTmE
set_option linter.unusedVariables false
set_option linter.unusedSimpArgs false
namespace Go.Proofs.Ytjeboeahhhhbdaa
open Go.Sx Go.RowKit Go.ChangeShapes Go.WideShapes Go.ChangeAt

theorem own_TmplJoin : ownKnob Try.prog.godebug = none := by kernel_rfl
theorem laidOut_TmplJoin : laidOutB Try.prog = true := by kernel_rfl
theorem law_TmplJoin (W : World) (hsp : W.ShapedOpen Try.prog) (args : Array Value) (hb : (∀ (q : Option Addr) (m d : Nat) (L : List Lb), args.toList[2]? = some (.slice q m d) → L.length = m → Lbs W q L → ∀ x ∈ L, x.val.size ≤ 1048576)) (h : GoodAll Try.prog W Try.f5.params.toList args.toList) : FnP Try.prog 5 args W fun v W' => v = .bool true ∧ Ext W W' :=
  open_shiftbellkeep_TmplJoin W (fun args => (∀ (q : Option Addr) (m d : Nat) (L : List Lb), args.toList[2]? = some (.slice q m d) → L.length = m → Lbs W q L → ∀ x ∈ L, x.val.size ≤ 1048576) → FnP Try.prog 5 args W fun v W' => v = .bool true ∧ Ext W W') (fun s hs t ht q m d hL hb => core_TmplJoin W s hs t ht q m d hL fun L hm hR => hb q m d L rfl hm hR) args h hb
set_option maxRecDepth 100000 in
theorem lifted_TmplJoin (os : Os) (started : os.Started) (H : Type) (enc : TypeId × Value → H) :
    ReturnsInHanded {} Try.checked os 5 .any (fun w args => (Rows.OpenSpec.upto Rows.tmplJoinSpec).pre enc Try.prog Try.f5 [] false w args ∧ sizedMet enc Try.prog Try.f5 (Rows.OpenSpec.upto Rows.tmplJoinSpec) false w args) (Rows.tmplJoinSpec.post enc Try.prog Try.f5 false true false false) := by
  have key : ReturnsInHanded {} Try.checked os 5 .any (fun w args => ((Rows.OpenSpec.upto Rows.tmplJoinSpec).pre enc Try.prog Try.f5 [] false w args ∧ (fun (_ : World) (_ : Array Value) => True) w args) ∧ sizedMet enc Try.prog Try.f5 (Rows.OpenSpec.upto Rows.tmplJoinSpec) false w args) (Rows.tmplJoinSpec.post enc Try.prog Try.f5 false true false false) := by
    refine handed_upto (C := Try.checked) (X := fun (_ : World) (_ : Array Value) => True) (fun _ _ _ _ h => h) own_TmplJoin started (by kernel_rfl) Try.func5
      (witness_upto (s := Rows.tmplJoinSpec) (conds := []) (apart := false) (fn := Try.f5) (f := 5) (enc := enc) (C := Try.checked) (os := os) (X := fun (_ : World) (_ : Array Value) => True) false (World.holding Try.prog os ⟨#[], #[(.string (⟨#[]⟩ : ByteArray)), (.string (⟨#[]⟩ : ByteArray)), (.slice none 0 0)], []⟩) #[(.string (⟨#[]⟩ : ByteArray)), (.string (⟨#[]⟩ : ByteArray)), (.slice none 0 0)] 8 rfl (World.shaped_of_B (by kernel_rfl) (by kernel_rfl)) (by kernel_rfl) (by kernel_rfl) (by kernel_rfl) trivial) ?_
    intro W base args ds gs before hval hW hbulk _ hsp
    have hb : (∀ (q : Option Addr) (m d : Nat) (L : List Lb), args.toList[2]? = some (.slice q m d) → L.length = m → Lbs W q L → ∀ x ∈ L, x.val.size ≤ 1048576) := by
      obtain ⟨pp, qq, hA, _⟩ := id hW
      intro q m d L hs hm hL x hx
      subst hm
      obtain ⟨e, qs, n, h1, h2⟩ := bulk_at (gs := gs) hA 2 (t := T_sl_Label) (by kernel_rfl) hs
      have := lbs_bulk (q := q) (c := d) h1 hL x hx
      omega
    exact law_at (P := Try.prog) (f := Try.f5) (s := Rows.tmplJoinSpec) (tb := 4) laidOut_TmplJoin (by kernel_rfl) (by kernel_rfl) (by kernel_rfl) rfl
      (fun ds hd => by
        rw [Try.params5] at hd
        match ds, hd with
        | [_, _, _], _ => rfl) W base args (law_TmplJoin W hsp args hb) ds gs before hval hW
  have e : (fun (w : World) (args : Array Value) => ((Rows.OpenSpec.upto Rows.tmplJoinSpec).pre enc Try.prog Try.f5 [] false w args ∧ (fun (_ : World) (_ : Array Value) => True) w args) ∧ sizedMet enc Try.prog Try.f5 (Rows.OpenSpec.upto Rows.tmplJoinSpec) false w args) = fun w args => (Rows.OpenSpec.upto Rows.tmplJoinSpec).pre enc Try.prog Try.f5 [] false w args ∧ sizedMet enc Try.prog Try.f5 (Rows.OpenSpec.upto Rows.tmplJoinSpec) false w args := by
    funext w args; simp
  rw [e] at key
  exact key

theorem holds_TmplJoinUpto : Rows.TmplJoinUptoSaid :=
  OpenClaim.holds_of_cond 5 Try.f5 rfl rfl rfl rfl rfl rfl rfl ⟨rfl, rfl, rfl, rfl, rfl⟩ rfl rfl rfl rfl rfl (by kernel_rfl) Try.func5 (by kernel_rfl)
    (of_decide_eq_true (by kernel_rfl)) (by unfold Func.isWrapper; first | (rw [if_pos (by decide +kernel)]; kernel_rfl) | (rw [if_neg (by decide +kernel)]; exact ⟨rfl, rfl⟩))
    (fun os started H enc _ _ => lifted_TmplJoin os started H enc)

end Go.Proofs.Ytjeboeahhhhbdaa
