/- The law SideSame: for every input, on every schedule, the call returns true without a data race, and each argument reads as it did; conditions: none but the row's own. -/
import Derived.Test.YtblgmhmjafgdgaaSdG
import Derived.Conc.LeavingOf
import Derived.ProofKit
set_option linter.unusedVariables false
set_option linter.unusedSimpArgs false
set_option linter.unusedSectionVars false
namespace Go.Po
open Go Go.Conc Go.Tw Go.Proofs Go.Sx
theorem runNT_app {P : Program} : ∀ {N : Nat} (k : Nat) {m m' : Machine} {t t' : Trace}, runNT P N m t = (.next m', t') → runNT P (N + k) m t = runNT P k m' t'
  | 0, k, m, m', t, t', h => by simp only [runNT, Prod.mk.injEq, Stepped.next.injEq] at h; rw [Nat.zero_add, h.1, h.2]
  | N + 1, k, m, m', t, t', h => by
    rw [Nat.succ_add]
    simp only [runNT] at h ⊢
    split at h
    · rename_i m1 ops hs
      exact runNT_app k h
    · rename_i e ops hne hs
      simp only [Prod.mk.injEq] at h
      exact absurd h.1 (hne _)
theorem runN_app {P : Program} {N : Nat} (k : Nat) {m m' : Machine} {t t' : Trace} (h : runNT P N m t = (.next m', t')) : runN P (N + k) m = runN P k m' := by
  rw [← runNT_fst P (N + k) m t, runNT_app k h, runNT_fst]
/-- What the call leaves. -/
def Left (W : World) (v : Value) (w : World) : Prop := v = .bool true ∧ Kept W.heap.size W w
theorem ends_of {ShB : Nat → Prop} {W w : World} {g : Goroutine} {m : Machine} {t : Trace} (hB : Bes Try.prog ShB g w m t) (hk : Kept W.heap.size W w) (hl : AtLast g) :
    ∃ N last o w' t', runNT Try.prog (N + 1) m t = (.ended o w', t') ∧ runN Try.prog N m = .next last ∧ step Try.prog last = .ended o w' ∧ Conc.Good Try.prog (Left W) last o w' t' := by
  obtain ⟨gs, sl, q, d, rfl, h0, hL, hP, _⟩ := hB
  refine beside_ends (D := fun _ _ _ => False) (B := w.heap.size) (n := 0) (fun w w' es h => h.elim) h0 hL hP ?_
  rintro w1 ⟨d1, rfl⟩
  exact ⟨hl.1, .bool true, #[], hl.2 _, fun e he => by simp at he, rfl, (hk.at d).at d1⟩
theorem bes_first (g : Goroutine) (W : World) : Bes Try.prog (fun _ => False) g W (solo g W) #[] :=
  ⟨#[g], none, fun _ => 0, W.drawn, rfl, rfl, leavers_one _ _, (letI := fset (fun _ => True); Past.shun (fun l h => h.elim) (past_nil.mono (Nat.zero_le _))), by simp⟩
theorem side_runs (W : World) (args : Array Value) (hg : Sx.GoodAll Try.prog W Try.f3.params.toList args.toList) :
    ∃ M last o w' t', runNT Try.prog (M + 1) (solo (G (Frame.enter Try.prog 3 args .normal) []) W) #[] = (.ended o w', t') ∧ runN Try.prog M (solo (G (Frame.enter Try.prog 3 args .normal) []) W) = .next last ∧
      step Try.prog last = .ended o w' ∧ Conc.Good Try.prog (Left W) last o w' t' := by
  refine opened W (fun args => ∃ M last o w' t', runNT Try.prog (M + 1) (solo (G (Frame.enter Try.prog 3 args .normal) []) W) #[] = (.ended o w', t') ∧ runN Try.prog M (solo (G (Frame.enter Try.prog 3 args .normal) []) W) = .next last ∧
      step Try.prog last = .ended o w' ∧ Conc.Good Try.prog (Left W) last o w' t') ?_ args hg
  intro l ll lc hl m ml mc hm s _ a _ b _
  obtain ⟨X, hX⟩ := nets_of hl
  obtain ⟨Y, hY⟩ := rows_of hm
  obtain ⟨N, m1, t1, h1, g, w, ShB, hB, hk, hlast⟩ := sideSame (cap := lc) (cm := mc) (s := s) (na := a) (nb := b) hX hY (bes_first _ W)
  obtain ⟨M, last, o, w', t', h2, h3, h4, h5⟩ := ends_of hB hk hlast
  exact ⟨N + M, last, o, w', t', (runNT_app (M + 1) h1).trans h2, (runN_app M h1).trans h3, h4, h5⟩
end Go.Po
namespace Go.Proofs.Ytblgmhmjafgdgaa
open Go.ChangeShapes Go.WideShapes Go.ChangeAt Go.RowKit Go.Conc Go.Sx
theorem own_SideSame : ownKnob Try.prog.godebug = none := by kernel_rfl
theorem laidOut_SideSame : laidOutB Try.prog = true := by kernel_rfl
theorem rec_SideSame : (Try.f3.params.toList.all fun t => Try.prog.readableRec t && decide (t < Try.prog.types.size)) = true := by kernel_rfl
theorem res_SideSame : Try.f3.resultTypes = #[4] := by kernel_rfl
theorem bool_SideSame : Try.prog.underlying 4 = some .bool := by kernel_rfl
theorem len_SideSame : Try.f3.params.toList.length = 5 := by kernel_rfl
set_option maxRecDepth 100000 in
theorem lifted_SideSame (os : Os) (started : os.Started) (H : Type) (enc : TypeId × Value → H) :
    ReturnsInLeavingWide {} Try.checked os 3 .any (Rows.sideSameSpec.pre6 enc Try.prog Try.f3 Rows.sideSameRow.domain false) (Rows.sideSameSpec.post enc Try.prog Try.f3 false true false false) := by
  refine returnsInLeavingWide_of_change_sized (C := Try.checked) own_SideSame started Try.func3
    (ChangeSpec.witness6 (enc := enc) (C := Try.checked) false ⟨#[], #[.slice none 0 0, .slice none 0 0, .int .i64 0, .int .i64 0, .int .i64 0], []⟩ 8 (by kernel_rfl) (by kernel_rfl) (by kernel_rfl) (by kernel_rfl)) ?_
  intro W base args ds gs before hval hW _ _ _
  have hW' := hW
  obtain ⟨p, q, hA, hV, _, _, _⟩ := hW
  obtain ⟨hg, hlen⟩ := goodAll_of (fun j t v ht hv => hval j t v (by simpa using ht) (by simpa using hv)) hA
  obtain ⟨M, last, o, w', t', h1, h2, h3, h4⟩ := Po.side_runs W args hg
  refine ⟨M, last, o, w', t', h1, h2, h3, h4.mono fun v hL => ?_⟩
  obtain ⟨rfl, hk⟩ : Po.Left W v w' := hL
  have hE : Ext W { w' with tape := W.tape } := ⟨hk.os, rfl, hk.out, hk.size, hk.old⟩
  have hg0 : gs = [] := List.length_eq_zero_iff.1 (trodVars_length hV)
  subst hg0
  have hp : Rows.sideSameSpec.post enc Try.prog Try.f3 false true false false W args (.bool true) { w' with tape := W.tape } := by
    refine law_post laidOut_SideSame rec_SideSame res_SideSame bool_SideSame (fun q h _ => ?_) ?_ hW' hE
    · exact h
    · rw [len_SideSame] at hlen
      match ds, hlen with
      | [_, _, _, _, _], _ => rfl
  obtain ⟨ds', gs', bf, pr, pa, pv, k1, k2, k3, k4, k5, _⟩ := hp
  exact ⟨ds', gs', bf, pr, pa, pv, k1, k2.of_heap (by rfl), k3.of_heap (by rfl), k4.of_heap (by rfl), k5, fun h => by cases h⟩
theorem holds_SideSame : Rows.SideSameSaid :=
  OpenClaim.holds_of_wide_leaving 3 Try.f3 rfl rfl rfl rfl rfl rfl rfl ⟨rfl, rfl, rfl, rfl, rfl⟩ rfl rfl rfl rfl rfl (by kernel_rfl) Try.func3 (by kernel_rfl)
    (of_decide_eq_true (by kernel_rfl)) (by unfold Func.isWrapper; first | (rw [if_pos (by decide +kernel)]; kernel_rfl) | (rw [if_neg (by decide +kernel)]; exact ⟨rfl, rfl⟩))
    (fun os started H enc _ => lifted_SideSame os started H enc)
#print axioms holds_SideSame
end Go.Proofs.Ytblgmhmjafgdgaa
