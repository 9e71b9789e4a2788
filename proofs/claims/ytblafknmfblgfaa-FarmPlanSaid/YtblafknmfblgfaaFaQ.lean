/- Rows of states that are the same; FarmOne. -/
import Derived.Test.YtblafknmfblgfaaFaN
set_option linter.unusedVariables false
set_option linter.unusedSimpArgs false
namespace Go.Proofs.Ytblafknmfblgfaa
open Go.Sx Go.RowKit

theorem lbB_size {s : ByteArray} (h : lbB s = true) : s.size ≤ 20 := by
  unfold lbB at h
  simp only [Bool.and_eq_true, decide_eq_true_eq] at h
  exact h.1.1.1.2
theorem ht_ok {L : List Ht} (h : okHs L) : ∀ x ∈ L, HtOk x := fun x hx => by
  obtain ⟨a, b, c, _⟩ := h.2.1 x hx
  have := lbB_size a
  exact ⟨by omega, by omega, fun l hl => by
    have h1 := lbB_size (c.1 l hl).1
    have h2 := lbB_size (c.1 l hl).2
    omega⟩
theorem Recs.one' {α : Type} {s : Nat} {enc : α → List Value} {w : World} {p : Option Addr} {xs : List α} (h : Recs s enc w p xs) {k : Int} (h0 : 0 ≤ k) {x : α} (hx : xs[k.toNat]? = some x) {c : Nat} (hc : xs.length ≤ c) : Recs s enc w (pCut p c k s) [x] := fun i y hy j u hu => by
  have hk := (List.getElem?_eq_some_iff.1 hx).1
  cases i with
  | succ i => simp at hy
  | zero =>
    simp at hy; subst hy
    have := h k.toNat x hx j u hu
    rw [cell_pCut _ _ _ _ _ _ (by omega)]
    simpa using this
theorem sameS1_k (r1 r2 : StR) (w : World) (he : r1.s = r2.s) (hW : WfJ r1.s.job) (h1 : IsJ w r1.s.job r1.pa r1.ca r1.pf) (h2 : IsJ w r2.s.job r2.pa r2.ca r2.pf) : FnP Try.prog F_shiftbellkeep_sameStates_1 #[sv r1, sv r2] w fun v w' => Ext w w' ∧ v = .bool true := by
  obtain ⟨s, pa, ca, pf, cf⟩ := r1
  obtain ⟨s2, qa, da, qf, df⟩ := r2
  simp only at he
  subst he
  refine ok_shiftbellkeep_sameStates_1 s.job.user s.job.prio s.job.nd.c s.job.nd.m s.job.nd.g s.job.ask.k s.job.ask.key s.job.ask.val s.job.ask.n pa s.job.ask.xs.length ca pf s.job.aft.length cf s.what s.host s.since s.again s.tries s.job.user s.job.prio s.job.nd.c s.job.nd.m s.job.nd.g s.job.ask.k s.job.ask.key s.job.ask.val s.job.ask.n qa s.job.ask.xs.length da qf s.job.aft.length df s.what s.host s.since s.again s.tries w _ fun b0 _ b1 _ w2 h2' => (sameJ_k s.job pa ca pf cf qa da qf df w2 (h1.ext h2') (h2.ext h2') hW).mono fun v w3 ⟨e3, hv⟩ => ⟨e3, true, hv, fun w5 h5 => ⟨h5, by simp⟩⟩
theorem EqualS_k (p : Option Addr) (c : Nat) (q : Option Addr) (d : Nat) (R1 R2 : List StR) (h63 : (R1.length : Int) ≤ 1000) (he : R1.map (·.s) = R2.map (·.s)) (w : World) (hp : Recs 16 encS w p R1) (hq : Recs 16 encS w q R2)
    (h1 : ∀ r ∈ R1, WfJ r.s.job ∧ IsJ w r.s.job r.pa r.ca r.pf) (h2 : ∀ r ∈ R2, IsJ w r.s.job r.pa r.ca r.pf) : FnP Try.prog F_shiftbellkeep_sameStates #[.slice p R1.length c, .slice q R2.length d] w fun v w' => Ext w w' ∧ v = .bool true := by
  have hl : R1.length = R2.length := by have := congrArg List.length he; simpa using this
  refine ok_shiftbellkeep_sameStates p R1.length c q R2.length d w _ fun w0 h0 => ?_
  refine FnP.mono (K := fun v w' => Ext w0 w' ∧ v = .bool true) ?_ fun v w1 ⟨e1, hv⟩ => ⟨e1, _, hv, fun w3 h3 => ⟨h3, rfl⟩⟩
  refine ok_slices_EqualFunc_api_State_api_State_api_State_api_State p R1.length c q R2.length d _ w0 _ ⟨fun h => absurd (by omega) h, fun _ => ⟨fun k w' => w' = w0 ∧ 0 ≤ k ∧ k ≤ R1.length, fun k _ => (R1.length - k).toNat, ⟨rfl, by omega, by omega⟩, ?_⟩⟩
  rintro k w2 ⟨rfl, hk0, hk1⟩
  refine ⟨fun hlt => ?_, fun hge w3 h3 => ⟨h3, rfl⟩⟩
  obtain ⟨r1, hr1⟩ : ∃ r, R1[k.toNat]? = some r := ⟨_, List.getElem?_eq_getElem (by omega)⟩
  obtain ⟨r2, hr2⟩ : ∃ r, R2[k.toNat]? = some r := ⟨_, List.getElem?_eq_getElem (by omega)⟩
  have g : ∀ (m : Nat) u, (encS r1)[m]? = some u → Go.Sx.cell w2 (pIdx p k 16) m = some u := fun m u hu => (hp.ext h0).at hk0 hr1 hu
  have g' : ∀ (m : Nat) u, (encS r2)[m]? = some u → Go.Sx.cell w2 (pIdx q k 16) m = some u := fun m u hu => (hq.ext h0).at hk0 hr2 hu
  have g0 := g 0 _ rfl
  have g0' := g' 0 _ rfl
  have hs : r1.s = r2.s := by
    have h3 := congrArg (fun l => l[k.toNat]?) he
    simp only [List.getElem?_map, hr1, hr2] at h3
    exact Option.some.inj h3
  obtain ⟨hW, hJ1⟩ := h1 r1 (List.mem_of_getElem? hr1)
  have hJ2 := h2 r2 (List.mem_of_getElem? hr2)
  refine ⟨fun h => cell_p g0 (pIdx_none.2 h), hk0, hlt, cell_p g0, _, g 0 _ rfl, _, g 1 _ rfl, _, g 2 _ rfl, _, g 3 _ rfl, _, g 4 _ rfl, _, g 5 _ rfl, _, g 6 _ rfl, _, g 7 _ rfl, _, g 8 _ rfl, _, _, _, g 9 _ rfl, _, _, _, g 10 _ rfl, _, g 11 _ rfl, _, g 12 _ rfl, _, g 13 _ rfl, _, g 14 _ rfl, _, g 15 _ rfl, fun b23 _ => ?_⟩
  refine ⟨fun h => cell_p g0' (pIdx_none.2 h), hk0, by omega, cell_p g0', _, g' 0 _ rfl, _, g' 1 _ rfl, _, g' 2 _ rfl, _, g' 3 _ rfl, _, g' 4 _ rfl, _, g' 5 _ rfl, _, g' 6 _ rfl, _, g' 7 _ rfl, _, g' 8 _ rfl, _, _, _, g' 9 _ rfl, _, _, _, g' 10 _ rfl, _, g' 11 _ rfl, _, g' 12 _ rfl, _, g' 13 _ rfl, _, g' 14 _ rfl, _, g' 15 _ rfl, fun b44 _ w45 h45 => ?_⟩
  exact ⟨F_shiftbellkeep_sameStates_1, #[], rfl, (sameS1_k r1 r2 w45 hs hW ((hJ1.ext h0).ext h45) ((hJ2.ext h0).ext h45)).mono fun v w46 ⟨e46, hv⟩ => ⟨e46, true, hv, fun h => (by cases h), fun _ => ⟨i64 (by omega), ⟨rfl, by omega, by omega⟩, by simp only []; omega⟩⟩⟩
theorem row_wf {O : Nat → Prop} {B fb : Nat} {w : World} {P : Pl} {F : Fm} (x : FXO O B w fb P F) {R : List StR} (h : R.map (·.s) = F.jobs) : ∀ r ∈ R, okJ r.s.job ∧ WfJ r.s.job := fun r hr => by
  have : r.s ∈ R.map (·.s) := List.mem_map_of_mem hr
  rw [h] at this
  exact x.jO.2 r.s this

theorem sameFarm_k {O1 O2 : Nat → Prop} {B1 B2 fb gb : Nat} {w : World} {P1 P2 : Pl} {F : Fm} (x : FXO O1 B1 w fb P1 F) (y : FXO O2 B2 w gb P2 F) (hh : okHs F.hosts) : FnP Try.prog F_shiftbellkeep_sameFarm #[.pointer (ptr fb), .pointer (ptr gb)] w fun v w' => Ext w w' ∧ v = .bool true := by
  have hl0 := x.jO.1
  have hl30 := hh.1
  refine ok_shiftbellkeep_sameFarm (ptr fb) (ptr gb) w _ fun w0 h0 => (now_k (x.ext h0)).mono fun v w1 ⟨e1, hv⟩ => ⟨e1, _, hv, fun w3 h3 => (now_k (y.ext h3)).mono fun v w4 ⟨e4, hv⟩ => ⟨e4, _, hv, fun _ w6 h6 => ?_, fun h => absurd rfl h⟩⟩
  refine (Jobs_k (x.ext h6)).mono fun v w7 ⟨e7, p1, c1, R1, hv, hR1, J1⟩ => ⟨e7, p1, _, c1, hv, fun w11 h11 => ?_⟩
  have hw11 := (h6.trans e7).trans h11
  refine (Jobs_k (y.ext hw11)).mono fun v w12 ⟨e12, p2, c2, R2, hv, hR2, J2⟩ => ⟨e12, p2, _, c2, hv, fun w16 h16 => ?_⟩
  have J1' := ((J1.ext h11).ext e12).ext h16
  have J2' := J2.ext h16
  have hw12 := hw11.trans e12
  have hR1l := row_len hR1
  refine (EqualS_k p1 c1 p2 c2 R1 R2 (by omega) (hR1.trans hR2.symm) w16 (J1'.own.recs fun _ _ => rfl) (J2'.own.recs fun _ _ => rfl) (fun r hr => ⟨(row_wf x hR1 r hr).2, (J1'.far r hr).at⟩) (fun r hr => (J2'.far r hr).at)).mono fun v w17 ⟨e17, hv⟩ => ⟨e17, true, hv, fun _ w19 h19 => ?_, fun h => (by cases h)⟩
  have hw19 := hw12.trans h19
  refine (Hosts_k (x.ext hw19) hh).mono fun v w20 ⟨e20, q1, d1, hv, _, S1⟩ => ⟨e20, q1, _, d1, hv, fun w24 h24 => ?_⟩
  have hw24 := (hw19.trans e20).trans h24
  refine (Hosts_k (y.ext hw24) hh).mono fun v w25 ⟨e25, q2, d2, hv, _, S2⟩ => ⟨e25, q2, _, d2, hv, fun w29 h29 => ?_⟩
  have hw25 := hw24.trans e25
  exact (sameH_k q1 d1 q2 d2 F.hosts (by omega) (ht_ok hh) w29 (((S1.ext h24).ext e25).ext h29).at (S2.ext h29).at).mono fun v w30 ⟨e30, hv⟩ => ⟨e30, true, hv, fun w32 h32 => ⟨hw25.trans h32, rfl⟩⟩

theorem one_law (W : World) (p : Option Addr) (hln c : Nat) (hl : SlcArg Try.prog W T_Host p hln c) (x1 x2 x3 x4 : Int) (q : Option Addr) (el d : Nat) (hq : SlcArg Try.prog W T_Event q el d) (y : Ev) (pa : Option Addr) (ca : Nat) (pf : Option Addr) (cf : Nat) (hJ : IsJ W y.job pa ca pf) (hWf : WfJ y.job) :
    FnP Try.prog F_shiftbellkeep_FarmOne #[(.agg #[(.slice p hln c), (.int .i64 x1), (.int .i64 x2), (.int .i64 x3), (.int .i64 x4)]), (.slice q el d), evv y pa ca pf cf] W fun v W' => v = .bool true ∧ Ext W W' := by
  obtain ⟨okn, Pl, hPl, hone, hplay⟩ := played_args hl x1 x2 x3 x4 hq
  refine ok_shiftbellkeep_FarmOne p hln c x1 x2 x3 x4 q el d y.kind y.job.user y.job.prio y.job.nd.c y.job.nd.m y.job.nd.g y.job.ask.k y.job.ask.key y.job.ask.val y.job.ask.n pa y.job.ask.xs.length ca pf y.job.aft.length cf y.n y.id y.ok W _ fun b0 hb0 b1 hb1 w2 h2 => (farms_k w2).mono fun v w3 ⟨e3, hv⟩ => ⟨e3, true, hv, fun h => (by cases h), fun _ w5 x5' => ?_⟩
  have h5 := extB_ext x5'
  have lt0 := x5'.lt b0 (by simp)
  have lt1 := x5'.lt b1 (by simp)
  refine (hplay w5 h5).mono fun v w6 ⟨e6, f, hv, hnone, hsome⟩ => ⟨e6, f, hv, fun w8 x8' => ?_⟩
  have h8 := extB_ext x8'
  have hW8 := (h5.trans e6).trans h8
  refine (hplay w8 hW8).mono fun v w9 ⟨e9, f', hv, hnone', hsome'⟩ => ⟨e9, f', hv, fun _ w11 h11 => ⟨rfl, (hW8.trans e9).trans h11⟩, fun hgood w11 x11' => ?_⟩
  have hok : okn := by
    by_cases h : okn
    · exact h
    · exact absurd (hnone.2 h) hgood.1.1
  obtain ⟨B, fb, P, F, rfl, hB, hB', x6, hF⟩ := hsome hok
  obtain ⟨C, gb, P2, F2, rfl, hC, hC', y9, hF2⟩ := hsome' hok
  obtain rfl := hone F F2 hF hF2
  obtain ⟨_, _, I⟩ := hPl F hF
  have h11 := extB_ext x11'
  have x11 := (((x6.ext h8).ext e9).ext h11)
  have y11 := y9.ext h11
  have hW11 := (hW8.trans e9).trans h11
  have hft : ∀ b, ft fb P.jp b → w5.heap.size ≤ b ∧ b < w6.heap.size := fun b hb => ⟨Nat.le_trans hB (x6.foot hb).1, (x6.foot hb).2⟩
  have hs68 := h8.size
  refine (Do_k x11 I.i0.pre I.i0.hs y pa ca pf cf (hJ.ext hW11) hWf (Nat.le_trans hB' ((h8.trans e9).trans h11).size)).mono fun v w12 ⟨e, P', F', hv, hiff, hd, x12, f12, _⟩ => ⟨f12.kept fun b hb => ?_, e, hv, fun _ w14 h14 => ⟨rfl, ?_⟩, fun hne w14 h14 => ?_⟩
  · refine ⟨x11'.lt b hb, fun hf => ?_⟩
    have := (hft b hf).1
    simp at hb
    rcases hb with rfl | rfl <;> omega
  · exact (f12.ext hW11 fun b hb => by have := (hft b hb).1; have := h5.size; omega).trans h14
  · have hF' : F' = F := by
      rcases hd with ⟨_, h⟩ | ⟨h, _⟩
      · exact h
      · exact absurd (hiff.2 h) hne
    subst hF'
    have y12 := y11.fr f12 fun b hb => by
      show b < C
      have := (hft b hb).2
      omega
    have hW12 : Ext W w12 := f12.ext hW11 fun b hb => by have := (hft b hb).1; have := h5.size; omega
    exact (sameFarm_k (x12.ext h14) (y12.ext h14) I.i0.hs).mono fun v w15 ⟨e15, hv⟩ => ⟨e15, true, hv, fun w17 h17 => ⟨rfl, hW12.trans h17⟩⟩
theorem core_FarmOne (W : World) : ∀ x_0 : Option Addr, ∀ x_0l : Nat, ∀ x_0c : Nat, SlcArg Try.prog W T_Host x_0 x_0l x_0c → ∀ x_1 : Int, InR .i64 x_1 → ∀ x_2 : Int, InR .i64 x_2 → ∀ x_3 : Int, InR .i64 x_3 → ∀ x_4 : Int, InR .i64 x_4 → ∀ l : Option Addr, ∀ ll : Nat, ∀ lc : Nat, SlcArg Try.prog W T_Event l ll lc → ∀ y_0 : Int, InR .i64 y_0 → ∀ y_1 : ByteArray, y_1.size ≤ 9223372036854775807 → ∀ y_2 : Int, InR .i64 y_2 → ∀ y_3 : Int, InR .i64 y_3 → ∀ y_4 : Int, InR .i64 y_4 → ∀ y_5 : Int, InR .i64 y_5 → ∀ y_6 : Int, InR .i64 y_6 → ∀ y_7 : ByteArray, y_7.size ≤ 9223372036854775807 → ∀ y_8 : ByteArray, y_8.size ≤ 9223372036854775807 → ∀ y_9 : Int, InR .i64 y_9 → ∀ y_10 : Option Addr, ∀ y_10l : Nat, ∀ y_10c : Nat, SlcArg Try.prog W T_Ask y_10 y_10l y_10c → ∀ y_11 : Option Addr, ∀ y_11l : Nat, ∀ y_11c : Nat, SlcArg Try.prog W T_int y_11 y_11l y_11c → ∀ y_12 : Int, InR .i64 y_12 → ∀ y_13 : Int, InR .i64 y_13 → ∀ y_14 : Bool,
    FnP Try.prog F_shiftbellkeep_FarmOne #[(.agg #[(.slice x_0 x_0l x_0c), (.int .i64 x_1), (.int .i64 x_2), (.int .i64 x_3), (.int .i64 x_4)]), (.slice l ll lc), (.agg #[(.int .i64 y_0), (.string y_1), (.int .i64 y_2), (.int .i64 y_3), (.int .i64 y_4), (.int .i64 y_5), (.int .i64 y_6), (.string y_7), (.string y_8), (.int .i64 y_9), (.slice y_10 y_10l y_10c), (.slice y_11 y_11l y_11c), (.int .i64 y_12), (.int .i64 y_13), (.bool y_14)])] W fun v W' => v = .bool true ∧ Ext W W' := by
  intro p hln c hl x1 _ x2 _ x3 _ x4 _ q el d hq y0 hy0 y1 hy1 y2 hy2 y3 hy3 y4 hy4 y5 hy5 y6 hy6 y7 hy7 y8 hy8 y9 hy9 pa al ca hA pf fl cf hFl y12 _ y13 _ y14
  obtain ⟨j, hJ, hW, hjc⟩ := job_arg hy1 hy2 hy3 hy4 hy5 hy6 hy7 hy8 hy9 hA hFl
  simp only [jcs, List.cons.injEq, Value.string.injEq, Value.int.injEq, Value.slice.injEq, true_and, and_true] at hjc
  obtain ⟨rfl, rfl, rfl, rfl, rfl, rfl, rfl, rfl, rfl, rfl, rfl⟩ := hjc
  exact one_law W p hln c hl x1 x2 x3 x4 q el d hq ⟨y0, j, y12, y13, y14⟩ pa ca pf cf hJ hW
end Go.Proofs.Ytblafknmfblgfaa
