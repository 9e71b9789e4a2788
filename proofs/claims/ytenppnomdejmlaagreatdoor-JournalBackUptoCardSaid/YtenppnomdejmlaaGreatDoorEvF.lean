/- The law EventBack. -/
import Derived.Test.YtenppnomdejmlaaGreatDoorEvE
set_option linter.unusedVariables false
set_option linter.unusedSimpArgs false
namespace Go.Proofs.YtenppnomdejmlaaGreatDoor
open Go.Sx Go.RowKit Go.ChangeShapes Go.WideShapes Go.ChangeAt

theorem sameE_k (x : Ev) (pa : Option Addr) (ca : Nat) (pf : Option Addr) (cf : Nat) (qa : Option Addr) (da : Nat) (qf : Option Addr) (df : Nat) (w : World) (h1 : IsJ w x.job pa ca pf) (h2 : IsJ w x.job qa da qf) (hW : WfJ x.job) :
    FnP Tryz.prog F_shiftbellkeep_sameEvent #[evv x pa ca pf cf, evv x qa da qf df] w fun v w' => Ext w w' ∧ v = .bool true := by
  refine ok_shiftbellkeep_sameEvent x.kind x.job.user x.job.prio x.job.nd.c x.job.nd.m x.job.nd.g x.job.ask.k x.job.ask.key x.job.ask.val x.job.ask.n pa x.job.ask.xs.length ca pf x.job.aft.length cf x.n x.id x.ok x.kind x.job.user x.job.prio x.job.nd.c x.job.nd.m x.job.nd.g x.job.ask.k x.job.ask.key x.job.ask.val x.job.ask.n qa x.job.ask.xs.length da qf x.job.aft.length df x.n x.id x.ok w _ fun b0 _ b1 _ => ⟨fun _ w2 e2 => ?_, fun h => ?_⟩
  · exact (sameJ_k x.job pa ca pf cf qa da qf df w2 (h1.ext e2) (h2.ext e2) hW).mono fun v w3 ⟨e3, hv⟩ => ⟨e3, true, hv, fun w5 e5 => ⟨e5, rfl⟩⟩
  · exfalso
    rcases h with ((h | h) | h) | h
    · exact h rfl
    · exact h rfl
    · exact h rfl
    · cases hb : x.ok <;> rw [hb] at h <;> simp at h
theorem events_k (w : World) : FnP Tryz.prog F_shiftbellkeep_events #[] w fun v w' => Ext w w' ∧ v = .bool true := by
  refine ok_shiftbellkeep_events w _ fun w0 h0 => (Encode3 w0).mono fun v w1 ⟨e1, p, n, c, hv, hok⟩ => ⟨e1, p, n, c, 0, hv, fun w6 h6 => ⟨(h0.trans e1).trans h6, ?_⟩⟩
  obtain ⟨rfl, _⟩ := hok rfl
  rfl
theorem enc_txt {x : Ev} (h : x.kind = 1) : (txt x.job.ask).length ≤ (enc x).length := by
  have := jtx_len x.job
  unfold enc
  rw [if_pos h, List.length_cons]; omega
theorem zeroE_at (w : World) : IsJ w zeroE.job none 0 none := zeroJ_at w

theorem law_eback (W : World) (hg : GB W) (x : Ev) (pa : Option Addr) (ca : Nat) (pf : Option Addr) (cf : Nat) (hJ : IsJ W x.job pa ca pf) (hW : WfJ x.job) (hn : nod x.job.ask ≤ 1048576) (b : Option Addr) (bc : Nat) (bs : Bs) (hi : Ints .u8 W b (bI bs)) (hbc : bs.length ≤ bc) (hbm : bc ≤ 9223372036854775807) :
    FnP Tryz.prog F_shiftbellkeep_EventBack #[evv x pa ca pf cf, .slice b bs.length bc] W fun v W' => v = .bool true ∧ Ext W W' := by
  refine ok_shiftbellkeep_EventBack x.kind x.job.user x.job.prio x.job.nd.c x.job.nd.m x.job.nd.g x.job.ask.k x.job.ask.key x.job.ask.val x.job.ask.n pa x.job.ask.xs.length ca pf x.job.aft.length cf x.n x.id x.ok b bs.length bc W _ fun b0 hb0 w1 h1 => (events_k w1).mono fun v w2 ⟨e2, hv⟩ => ⟨e2, true, hv, fun h => (by cases h), fun _ w4 x4 => ?_⟩
  have h4 := extB_ext x4
  refine (eEncode_k x pa ca pf cf w4 (hJ.ext h4) hW hn (hg.ext h4)).mono fun v w5 ⟨e5, p, n, c, e, hv, heq, hz, hok⟩ => ?_
  have hdis : (decide (e = 0) || decide ((n : Int) = 0)) = true := by
    by_cases he : e = 0
    · simp [he]
    · rw [(hz he).2.1]; simp
  have half : ∀ wb, Ext W wb → FnP Tryz.prog F_event_Decode #[.slice b bs.length bc] wb fun v37 w37 => Ext wb w37 ∧ ∃ (y : Ev) (pa : Option Addr) (ca : Nat) (pf : Option Addr) (cf : Nat) (e2 : Int), v37 = .tuple #[evv y pa ca pf cf, .int .i64 e2] ∧
      (e2 ≠ 0 → ∀ w59, Ext w37 w59 → FnP Tryz.prog F_shiftbellkeep_sameEvent #[evv y pa ca pf cf, evv zeroE none 0 none 0] w59 fun v60 w60 => Ext w59 w60 ∧ ∃ t61 : Bool, v60 = .bool t61 ∧ ∀ w62, Ext w37 w62 → (Value.bool (t61 && ((decide (e = 0)) || (decide ((n : Int) = 0)))) = .bool true ∧ Ext W w62)) ∧
      (e2 = 0 → ∀ w59, Ext w37 w59 → FnP Tryz.prog F_event_Encode #[evv y pa ca pf cf] w59 fun v60 w60 => Ext w59 w60 ∧ ∃ t61 : Option Addr, ∃ tl62 : Nat, ∃ tc63 : Nat, ∃ t64 : Int, v60 = (.tuple #[(.slice t61 tl62 tc63), (.int .i64 t64)]) ∧
        (((t64 = 0) → ∀ w65, Ext w60 w65 → FnP Tryz.prog F_bytes_Equal #[(.slice t61 tl62 tc63), (.slice b bs.length bc)] w65 fun v66 w66 => Ext w65 w66 ∧ ∃ t67 : Bool, v66 = (.bool t67) ∧
          (((t67 = true) → ∀ w68, Ext w60 w68 → FnP Tryz.prog F_event_Check #[evv y pa ca pf cf] w68 fun v69 w69 => Ext w68 w69 ∧ ∃ t70 : Int, v69 = (.int .i64 t70) ∧ ∀ w71, Ext w60 w71 → (Value.bool (decide (t70 = 0)) = .bool true ∧ Ext W w71))) ∧
          ((t67 = false) → ∀ w68, Ext w60 w68 → (Value.bool false = .bool true ∧ Ext W w68)))) ∧
        ((t64 ≠ 0) → ∀ w65, Ext w60 w65 → (Value.bool false = .bool true ∧ Ext W w65))) := by
    intro wb hwb
    refine (Decode_k b bc bs wb (hi.ext hwb) hbc hbm (hg.ext hwb)).mono fun v w37 ⟨e37, y, qa, da, qf, df, e2, hv, hWy, hTy, hor, _⟩ => ⟨e37, y, qa, da, qf, df, e2, hv, fun hne w59 h59 => ?_, fun he2 w59 h59 => ?_⟩
    · rcases hor with ⟨_, rfl, rfl, rfl, rfl, rfl⟩ | ⟨h, _⟩
      · exact (sameE_k zeroE none 0 none 0 none 0 none 0 w59 (zeroE_at _) (zeroE_at _) zeroJ_wf).mono fun v w60 ⟨e60, hv⟩ => ⟨e60, true, hv, fun w62 h62 => ⟨by rw [hdis]; rfl, (hwb.trans e37).trans h62⟩⟩
      · exact absurd h hne
    · rcases hor with ⟨h, _⟩ | ⟨_, hok2, hn2, hen, _⟩
      · exact absurd he2 h
      have at_ : ∀ w', Ext w37 w' → IsJ w' y.job qa da qf := fun w' hx => hTy (fun _ => False) (fun _ h => h.elim) w' (fr_ext hx)
      have hw59 := (hwb.trans e37).trans h59
      refine (eEncode_k y qa da qf df w59 (at_ w59 h59) hWy (by omega) (hg.ext hw59)).mono fun v w60 ⟨e60, p2, n2, c2, e3, hv, heq2, _, hok3⟩ => ⟨e60, p2, n2, c2, e3, hv, fun hz2 w65 h65 => ?_, fun hne w65 h65 => absurd (heq2.2 hok2) hne⟩
      obtain ⟨rfl, oE⟩ := hok3 hz2
      refine (Equal_k w65 rfl rfl (oE.cells.ext h65) (((hi.ext hw59).ext e60).ext h65)).mono fun v w66 ⟨e66, hv⟩ => ⟨e66, _, hv, fun _ w68 h68 => ?_, fun hf w68 h68 => absurd hen (of_decide_eq_false hf)⟩
      exact (eCheck_k y qa da qf df w68 (at_ w68 ((h59.trans e60).trans h68)) hWy).mono fun v w69 ⟨e69, e4, hv, h4'⟩ => ⟨e69, e4, hv, fun w71 h71 => ⟨by rw [h4'.2 hok2]; rfl, (hw59.trans e60).trans h71⟩⟩
  refine ⟨e5, p, n, c, e, hv, fun hgd w10 x10 => ?_, fun _ w10 x10 => ?_⟩
  · have h10 := extB_ext x10
    have ho := heq.1 hgd.1
    obtain ⟨rfl, oE⟩ := hok hgd.1
    have hw10 := (h4.trans e5).trans h10
    have hle := oE.le
    refine (Decode_k p c (enc x) w10 (oE.cells.ext h10) hle.1 hle.2 (hg.ext hw10)).mono fun v w11 ⟨e11, y, qa, da, qf, df, e1, hv, hWy, hTy, _, hcomp⟩ => ⟨e11, y.kind, y.job.user, y.job.prio, y.job.nd.c, y.job.nd.m, y.job.nd.g, y.job.ask.k, y.job.ask.key, y.job.ask.val, y.job.ask.n, qa, y.job.ask.xs.length, da, qf, y.job.aft.length, df, y.n, y.id, y.ok, e1, hv, fun b32 hb32 => ?_⟩
    obtain ⟨he1, hyx⟩ := hcomp x ⟨ho, hn, rfl, fun hk => by have := enc_txt hk; omega⟩ (by omega)
    refine ⟨fun h => absurd he1 h, fun _ w33 h33 => ?_⟩
    have hx11 := hw10.trans e11
    have at_ : IsJ w33 y.job qa da qf := hTy (fun _ => False) (fun _ h => h.elim) w33 (fr_ext h33)
    rw [hyx] at at_
    rw [hyx]
    refine (sameE_k x pa ca pf cf qa da qf df w33 (hJ.ext (hx11.trans h33)) at_ hW).mono fun v w34 ⟨e34, hv⟩ => ⟨e34, true, hv, fun h => (by cases h), fun _ w36 x36 => ?_⟩
    exact (half w36 (hx11.trans (extB_ext x36))).mono fun v w37 ⟨e37, z, a1, a2, a3, a4, e2, hv, q1, q2⟩ => ⟨e37, z.kind, z.job.user, z.job.prio, z.job.nd.c, z.job.nd.m, z.job.nd.g, z.job.ask.k, z.job.ask.key, z.job.ask.val, z.job.ask.n, a1, z.job.ask.xs.length, a2, a3, z.job.aft.length, a4, z.n, z.id, z.ok, e2, hv, fun b58 _ => ⟨q1, fun he w59 x59 => q2 he w59 (extB_ext x59)⟩⟩
  · exact (half w10 ((h4.trans e5).trans (extB_ext x10))).mono fun v w37 ⟨e37, z, a1, a2, a3, a4, e2, hv, q1, q2⟩ => ⟨e37, z.kind, z.job.user, z.job.prio, z.job.nd.c, z.job.nd.m, z.job.nd.g, z.job.ask.k, z.job.ask.key, z.job.ask.val, z.job.ask.n, a1, z.job.ask.xs.length, a2, a3, z.job.aft.length, a4, z.n, z.id, z.ok, e2, hv, fun b58 _ => ⟨q1, fun he w59 x59 => q2 he w59 (extB_ext x59)⟩⟩

theorem ev_bulk {H : Type} {enc : TypeId × Value → H} {w : World} {n : Nat} {x : Ev} {pa : Option Addr} {ca : Nat} {pf : Option Addr} {cf : Nat} {d : DataW H} {ps : List MemPlace} (hT : IsT w x.job.ask pa ca)
    (h : DataW.trod enc Tryz.prog w 0 (fun _ => true) true n T_Event (evcs x pa ca pf cf) = some (d, ps)) : nod x.job.ask ≤ Rows.uptoBulk d := by
  obtain ⟨m, d', ps', h1, h2⟩ := field_bulk (by kernel_rfl) h (i := 1) (F := T_Job) (o := 1) (by kernel_rfl)
  rw [show Tryz.prog.cellsOf T_Job = 11 by kernel_rfl] at h1
  exact Nat.le_trans (job_bulk (cf := cf) hT h1) h2

theorem eback_args (W : World) (hg : GB W) {k : Int} (hk : InR .i64 k) {j_0 : ByteArray} (h0 : j_0.size ≤ 9223372036854775807) {j_1 : Int} (h1 : InR .i64 j_1) {j_2 : Int} (h2 : InR .i64 j_2) {j_3 : Int} (h3 : InR .i64 j_3) {j_4 : Int} (h4 : InR .i64 j_4) {j_5 : Int} (h5 : InR .i64 j_5) {j_6 : ByteArray} (h6 : j_6.size ≤ 9223372036854775807) {j_7 : ByteArray} (h7 : j_7.size ≤ 9223372036854775807) {j_8 : Int} (h8 : InR .i64 j_8)
    {p : Option Addr} {l c : Nat} (hA : SlcArg Tryz.prog W T_Ask p l c) {q : Option Addr} {m d : Nat} (hF : SlcArg Tryz.prog W T_int q m d) (n id : Int) (okb : Bool) {b : Option Addr} {bl bc : Nat} (hB : SlcArg Tryz.prog W T_uint8 b bl bc)
    (hb : ∀ (x : Ev), evcs x p c q d = [.int .i64 k, .string j_0, .int .i64 j_1, .int .i64 j_2, .int .i64 j_3, .int .i64 j_4, .int .i64 j_5, .string j_6, .string j_7, .int .i64 j_8, .slice p l c, .slice q m d, .int .i64 n, .int .i64 id, .bool okb] → IsT W x.job.ask p c → nod x.job.ask ≤ 1048576) :
    FnP Tryz.prog F_shiftbellkeep_EventBack #[(.agg #[(.int .i64 k), (.string j_0), (.int .i64 j_1), (.int .i64 j_2), (.int .i64 j_3), (.int .i64 j_4), (.int .i64 j_5), (.string j_6), (.string j_7), (.int .i64 j_8), (.slice p l c), (.slice q m d), (.int .i64 n), (.int .i64 id), (.bool okb)]), (.slice b bl bc)] W fun v W' => v = .bool true ∧ Ext W W' := by
  obtain ⟨j, hJ, hW, e⟩ := job_arg h0 h1 h2 h3 h4 h5 h6 h7 h8 hA hF
  obtain ⟨bs, rfl, hi⟩ := bytes_arg hB
  have e1 : evcs ⟨k, j, n, id, okb⟩ p c q d = .int .i64 k :: (jcs j p c q d ++ [.int .i64 n, .int .i64 id, .bool okb]) := rfl
  rw [e] at e1
  have := law_eback W hg ⟨k, j, n, id, okb⟩ p c q d hJ hW (hb ⟨k, j, n, id, okb⟩ e1 hJ.1) b bc bs hi hB.le hB.max
  have e2 : evv ⟨k, j, n, id, okb⟩ p c q d = .agg #[(.int .i64 k), (.string j_0), (.int .i64 j_1), (.int .i64 j_2), (.int .i64 j_3), (.int .i64 j_4), (.int .i64 j_5), (.string j_6), (.string j_7), (.int .i64 j_8), (.slice p l c), (.slice q m d), (.int .i64 n), (.int .i64 id), (.bool okb)] := by
    show Value.agg (evcs ⟨k, j, n, id, okb⟩ p c q d).toArray = _
    rw [e1]; rfl
  rw [← e2]
  exact this
end Go.Proofs.YtenppnomdejmlaaGreatDoor
