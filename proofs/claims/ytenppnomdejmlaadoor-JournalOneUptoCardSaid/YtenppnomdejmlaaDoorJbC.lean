/- Jobs are read as they were told. -/
import Derived.Test.YtenppnomdejmlaaDoorJbB
set_option linter.unusedVariables false
set_option linter.unusedSimpArgs false
namespace Go.Proofs.YtenppnomdejmlaaDoor
open Go.Sx Go.RowKit

theorem EqualI_k (l : List Int) (p q : Option Addr) (c d : Nat) (w : World) (hp : Ints .i64 w p l) (hq : Ints .i64 w q l) (h63 : l.length ≤ 9223372036854775807) : FnP Tryd.prog F_slices_Equal_int_int #[.slice p l.length c, .slice q l.length d] w fun v w' => Ext w w' ∧ v = .bool true := by
  refine ok_slices_Equal_int_int p l.length c q l.length d w _ ⟨fun h => absurd rfl h, fun _ => ?_⟩
  refine ⟨fun k w' => w' = w ∧ 0 ≤ k ∧ k ≤ l.length, fun k _ => (l.length - k).toNat, ⟨rfl, by omega, by omega⟩, ?_⟩
  rintro k w' ⟨rfl, hk0, hk1⟩
  refine ⟨fun hlt => ?_, fun hge w3 h3 => ⟨h3, rfl⟩⟩
  have g1 := Ints.idx hp hk0 hlt
  have g2 := Ints.idx hq hk0 hlt
  exact ⟨fun h => cell_p g1 (pIdx_none.2 h), hk0, hlt, _, g1, fun h => cell_p g2 (pIdx_none.2 h), hk0, hlt, _, g2, fun h => absurd rfl h, fun _ => ⟨i64 (by omega), ⟨rfl, by omega, by omega⟩, by simp only []; omega⟩⟩
theorem sameJ_k (j : Jb) (pa : Option Addr) (ca : Nat) (pf : Option Addr) (cf : Nat) (qa : Option Addr) (da : Nat) (qf : Option Addr) (df : Nat) (w : World) (h1 : IsJ w j pa ca pf) (h2 : IsJ w j qa da qf) (hW : WfJ j) :
    FnP Tryd.prog F_shiftbellkeep_sameJob #[jv j pa ca pf cf, jv j qa da qf df] w fun v w' => Ext w w' ∧ v = .bool true := by
  refine ok_shiftbellkeep_sameJob j.user j.prio j.nd.c j.nd.m j.nd.g j.ask.k j.ask.key j.ask.val j.ask.n pa j.ask.xs.length ca pf j.aft.length cf j.user j.prio j.nd.c j.nd.m j.nd.g j.ask.k j.ask.key j.ask.val j.ask.n qa j.ask.xs.length da qf j.aft.length df w _ fun b0 _ b1 _ => ⟨fun _ w2 e2 => ?_, fun h => by rcases h with h | h <;> exact absurd rfl h⟩
  refine eqN_k (a := j.nd) (b := j.nd) ⟨Ext.refl _, _, rfl, fun _ w5 e5 => ?_, fun h => by simp at h⟩
  refine (sameA_k j.ask pa ca qa da w5 (h1.1.ext e5) (h2.1.ext e5) hW.ask).mono fun v w6 ⟨e6, hv⟩ => ⟨e6, true, hv, fun _ w8 e8 => ?_, fun h => by cases h⟩
  exact (EqualI_k j.aft pf qf cf df w8 (h1.2.ext e8) (h2.2.ext e8) hW.len).mono fun v w9 ⟨e9, hv⟩ => ⟨e9, true, hv, fun w11 e11 => ⟨e11, rfl⟩⟩

def oneJ : Jb := ⟨⟨#[97]⟩, 0, zeroN, .mk 1 ⟨#[120]⟩ emS 0 [], []⟩
theorem itoa0 : Lib.itoa 0 = [48] := by
  unfold Lib.itoa
  rw [if_neg (by decide), Lib.decDigits]
  rfl
theorem text0 : textL zeroN = [45] := by unfold textL; rw [if_pos (by rfl)]
theorem oneJ_txt : jtx oneJ = [97, 32, 48, 32, 45, 32, 45, 32, 63, 120] := by
  unfold jtx jps oneJ
  simp only
  rw [itoa0, text0, txt1]
  rfl
theorem oneJ_ask : errC oneJ.ask = 0 := by
  have h1 : cntA oneJ.ask = 1 := by show cntA (.mk _ _ _ _ []) = 1; rw [cntA, cntL]
  have h2 : errA oneJ.ask = 0 := by
    show errA (.mk 1 ⟨#[120]⟩ emS 0 []) = 0
    rw [errA, errL]
    have : err1 1 ⟨#[120]⟩ emS 0 0 = 0 := by
      have hl : lbB ⟨#[120]⟩ = true := by decide
      unfold err1 inner
      simp [hl]
    simp [this]
  unfold errC; rw [h1, h2]; rfl
theorem oneJ_ok : okJ oneJ := ⟨by decide, ⟨by decide, by decide⟩, ⟨by decide, by decide, by decide⟩, oneJ_ask, by decide, trivial⟩
theorem oneJ_wf : WfJ oneJ := ⟨by decide, i64 (by decide), oneJ_ok.nd.rng, by
  show WfA (.mk 1 ⟨#[120]⟩ emS 0 [])
  unfold WfA
  exact ⟨i64 (by omega), by decide, by decide, i64 (by omega), by simp, by unfold WfL; trivial⟩, by decide, fun x hx => by cases hx⟩
theorem oneJ_at (w : World) : IsJ w oneJ none 0 none := ⟨isT_leaf, Cells.nil⟩
theorem jobs_k (w : World) (g : GB w) : FnP Tryd.prog F_shiftbellkeep_jobs #[] w fun v w' => Ext w w' ∧ v = .bool true := by
  refine ok_shiftbellkeep_jobs w _ fun w0 h0 => ?_
  refine FnP.mono (K := fun v w' => Ext w0 w' ∧ v = jv oneJ none 0 none 0) (ok_shiftbellkeep_one w0 _ fun b0 _ w1 h1 => ⟨h1, rfl⟩) fun v w1 ⟨e1, hv⟩ => ⟨e1, oneJ.user, oneJ.prio, oneJ.nd.c, oneJ.nd.m, oneJ.nd.g, oneJ.ask.k, oneJ.ask.key, oneJ.ask.val, oneJ.ask.n, none, oneJ.ask.xs.length, 0, none, oneJ.aft.length, 0, hv, fun w17 h17 => ?_⟩
  refine (jText_k oneJ none 0 none 0 w17 (oneJ_at _) oneJ_wf (by decide) (g.ext ((h0.trans e1).trans h17))).mono fun v w18 ⟨e18, t, e, hv, heq, _, htt⟩ => ⟨e18, t, e, hv, fun w21 h21 => ⟨(h0.trans e1).trans h21, ?_⟩⟩
  have h0 := heq.2 oneJ_ok
  rw [h0, htt h0, oneJ_txt]
  rfl

theorem jtx_len (j : Jb) : (txt j.ask).length ≤ (jtx j).length := by
  unfold jtx jps
  rw [Lib.join_cons]
  simp [Lib.joinTail]
  omega
theorem law_jback (W : World) (hg : GB W) (j : Jb) (pa : Option Addr) (ca : Nat) (pf : Option Addr) (cf : Nat) (hJ : IsJ W j pa ca pf) (hW : WfJ j) (hn : nod j.ask ≤ 1048576) (s : ByteArray) (hs : s.size ≤ 9223372036854775807) :
    FnP Tryd.prog F_shiftbellkeep_JobBack #[jv j pa ca pf cf, .string s] W fun v W' => v = .bool true ∧ Ext W W' := by
  refine ok_shiftbellkeep_JobBack j.user j.prio j.nd.c j.nd.m j.nd.g j.ask.k j.ask.key j.ask.val j.ask.n pa j.ask.xs.length ca pf j.aft.length cf s W _ fun b0 hb0 w1 h1 => (jobs_k w1 (hg.ext h1)).mono fun v w2 ⟨e2, hv⟩ => ⟨e2, true, hv, fun h => (by cases h), fun _ w4 h4 => ?_⟩
  refine (jText_k j pa ca pf cf w4 (hJ.ext h4) hW hn (hg.ext h4)).mono fun v w5 ⟨e5, tx, e, hv, heq, hem, htt⟩ => ?_
  have hdis : (decide (e = 0) || decide (tx = (⟨#[]⟩ : ByteArray))) = true := by
    by_cases he : e = 0
    · simp [he]
    · rw [hem he]; simp [emS]
  have half : ∀ wb, Ext W wb → FnP Tryd.prog F_job_Read #[.string s] wb fun v31 w31 => Ext wb w31 ∧ ∃ (y : Jb) (pa : Option Addr) (ca : Nat) (pf : Option Addr) (cf : Nat) (e2 : Int), v31 = .tuple #[jv y pa ca pf cf, .int .i64 e2] ∧
      (e2 ≠ 0 → ∀ w49, Ext w31 w49 → FnP Tryd.prog F_shiftbellkeep_sameJob #[jv y pa ca pf cf, jv zeroJ none 0 none 0] w49 fun v50 w50 => Ext w49 w50 ∧ ∃ t51 : Bool, v50 = .bool t51 ∧ ∀ w52, Ext w31 w52 → (Value.bool (t51 && ((decide (e = 0)) || (decide (tx = (⟨#[]⟩ : ByteArray))))) = .bool true ∧ Ext W w52)) ∧
      (e2 = 0 → ∀ w49, Ext w31 w49 → FnP Tryd.prog F_job_Text #[jv y pa ca pf cf] w49 fun v50 w50 => Ext w49 w50 ∧ ∃ t51 : ByteArray, ∃ t52 : Int, v50 = (.tuple #[(.string t51), (.int .i64 t52)]) ∧
        (((t52 = 0) ∧ (t51 = s)) → ∀ w53, Ext w31 w53 → FnP Tryd.prog F_job_Check #[jv y pa ca pf cf] w53 fun v54 w54 => Ext w53 w54 ∧ ∃ t55 : Int, v54 = (.int .i64 t55) ∧ ∀ w56, Ext w31 w56 → (Value.bool (decide (t55 = 0)) = .bool true ∧ Ext W w56)) ∧
        (((t52 ≠ 0) ∨ (t51 ≠ s)) → ∀ w53, Ext w31 w53 → (Value.bool false = .bool true ∧ Ext W w53))) := by
    intro wb hwb
    refine (jRead_k s hs wb (hg.ext hwb)).mono fun v w31 ⟨e31, y, pa, ca, pf, cf, e2, hv, hWy, hTy, hor, _⟩ => ⟨e31, y, pa, ca, pf, cf, e2, hv, fun hne w49 h49 => ?_, fun he2 w49 h49 => ?_⟩
    · rcases hor with ⟨_, rfl, rfl, rfl, rfl, rfl⟩ | ⟨h, _⟩
      · exact (sameJ_k zeroJ none 0 none 0 none 0 none 0 w49 (zeroJ_at _) (zeroJ_at _) zeroJ_wf).mono fun v w50 ⟨e50, hv⟩ => ⟨e50, true, hv, fun w52 h52 => ⟨by rw [hdis]; rfl, (hwb.trans e31).trans h52⟩⟩
      · exact absurd h hne
    · rcases hor with ⟨h, _⟩ | ⟨_, hok, hn, hs2, _⟩
      · exact absurd he2 h
      have at_ : ∀ w', Ext w31 w' → IsJ w' y pa ca pf := fun w' hx => hTy (fun _ => False) (fun _ h => h.elim) w' (fr_ext hx)
      refine (jText_k y pa ca pf cf w49 (at_ w49 h49) hWy (by omega) (hg.ext ((hwb.trans e31).trans h49))).mono fun v w50 ⟨e50, t51, t52, hv, heq, _, htt⟩ => ⟨e50, t51, t52, hv, fun hgd w53 h53 => ?_, fun hbad w53 h53 => ?_⟩
      · exact (jCheck_k y pa ca pf cf w53 (at_ w53 h53) hWy).mono fun v w54 ⟨e54, e3, hv, h3⟩ => ⟨e54, e3, hv, fun w56 h56 => ⟨by rw [h3.2 hok]; rfl, (hwb.trans e31).trans h56⟩⟩
      · have h0 := heq.2 hok
        exact absurd ((htt h0).trans hs2.symm) (hbad.resolve_left fun h => h h0)
  refine ⟨e5, tx, e, hv, fun hgd w8 x8 => ?_, fun _ w8 x8 => ?_⟩
  · have h8 := extB_ext x8
    have hok := heq.1 hgd.1
    have htx := htt hgd.1
    refine (jRead_k tx (by omega) w8 (hg.ext h8)).mono fun v w9 ⟨e9, y, qa, da, qf, df, e1, hv, hWy, hTy, _, hcomp⟩ => ⟨e9, y.user, y.prio, y.nd.c, y.nd.m, y.nd.g, y.ask.k, y.ask.key, y.ask.val, y.ask.n, qa, y.ask.xs.length, da, qf, y.aft.length, df, e1, hv, fun b26 hb26 => ⟨fun hsm => ?_, fun hbig w27 x27 => ?_⟩⟩
    · have hlen := jtx_len j
      have hts : tx.size = (jtx j).length := by rw [htx, ofL_size]
      obtain ⟨he1, hyj⟩ := hcomp j ⟨hok, hn, htx, by omega⟩ (by omega)
      refine ⟨fun h => absurd he1 h, fun _ w27 h27 => ?_⟩
      have hx9 := h8.trans e9
      have at_ : IsJ w27 y qa da qf := hTy (fun _ => False) (fun _ h => h.elim) w27 (fr_ext h27)
      rw [hyj] at at_
      rw [hyj]
      refine (sameJ_k j qa da qf df pa ca pf cf w27 at_ (hJ.ext (hx9.trans h27)) hW).mono fun v w28 ⟨e28, hv⟩ => ⟨e28, true, hv, fun h => (by cases h), fun _ w30 x30 => ?_⟩
      exact (half w30 (hx9.trans (extB_ext x30))).mono fun v w31 ⟨e31, z, a1, a2, a3, a4, e2, hv, q1, q2⟩ => ⟨e31, z.user, z.prio, z.nd.c, z.nd.m, z.nd.g, z.ask.k, z.ask.key, z.ask.val, z.ask.n, a1, z.ask.xs.length, a2, a3, z.aft.length, a4, e2, hv, fun b48 _ => ⟨q1, q2⟩⟩
    · exact (half w27 ((h8.trans e9).trans (extB_ext x27))).mono fun v w31 ⟨e31, z, a1, a2, a3, a4, e2, hv, q1, q2⟩ => ⟨e31, z.user, z.prio, z.nd.c, z.nd.m, z.nd.g, z.ask.k, z.ask.key, z.ask.val, z.ask.n, a1, z.ask.xs.length, a2, a3, z.aft.length, a4, e2, hv, fun b48 _ => ⟨q1, q2⟩⟩
  · exact (half w8 (extB_ext x8)).mono fun v w31 ⟨e31, z, a1, a2, a3, a4, e2, hv, q1, q2⟩ => ⟨e31, z.user, z.prio, z.nd.c, z.nd.m, z.nd.g, z.ask.k, z.ask.key, z.ask.val, z.ask.n, a1, z.ask.xs.length, a2, a3, z.aft.length, a4, e2, hv, fun b48 _ => ⟨q1, q2⟩⟩
end Go.Proofs.YtenppnomdejmlaaDoor
