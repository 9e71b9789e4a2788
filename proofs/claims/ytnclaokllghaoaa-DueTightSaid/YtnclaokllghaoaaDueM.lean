/- The laws DueBusy and DueBest. -/
import Derived.Test.YtnclaokllghaoaaDueL
set_option linter.unusedVariables false
set_option linter.unusedSimpArgs false
namespace Go.Proofs.Ytnclaokllghaoaa
open Go.Sx Go.RowKit

theorem tasks_open {W : World} {p : Option Addr} {n c : Nat} (h : SlcArg Try.prog W T_Task p n c) : ∃ l : List T, l.length = n ∧ Small l ∧ Tasks W p l := by
  obtain ⟨l, h1, h2, h3⟩ := h.recs3 (α := T) (t1 := T_int) (t2 := T_int) (t3 := T_int) (k1 := .i64) (k2 := .i64) (k3 := .i64) (by kernel_rfl) (by kernel_rfl) (by kernel_rfl) (by kernel_rfl) (by kernel_rfl) (fun a b c => ⟨a, b, c⟩) enc (fun _ _ _ => rfl)
  refine ⟨l, h1, ⟨?_, fun t ht => ?_⟩, h3⟩
  · have := h.le; have := h.max; omega
  · obtain ⟨a, b, d, rfl, ha, hb, hd⟩ := h2 t ht
    exact ⟨ha, hb, hd⟩

theorem dues_k (w : World) : FnP Try.prog F_shiftbellkeep_dues #[] w fun v w' => Ext w w' ∧ v = .bool true := by
  refine ok_shiftbellkeep_dues w _ ?_
  intro w0 h0
  refine run_lit elem_sl_Task [.agg #[.int .i64 0, .int .i64 2, .int .i64 2]] rfl rfl (by intro v hv; simp at hv; subst hv; rfl) (by omega) (by omega) fun w1 o1 e1 => ⟨e1, _, _, _, rfl, fun w5 h5 => ?_⟩
  have o5 := (o1 0 (Nat.zero_le _)).ext h5
  have hT : Tasks w5 (some ⟨w0.heap.size, 0, none⟩) [⟨0, 2, 2⟩] := Own.recs (xs := [(⟨0, 2, 2⟩ : T)]) (enc := enc) o5 (by intro x hx; simp at hx; subst hx; rfl)
  have hs : Small [(⟨0, 2, 2⟩ : T)] := ⟨by simp, by intro t ht; simp at ht; subst ht; exact ⟨i64 (by simp), i64 (by simp), i64 (by simp)⟩⟩
  have hok : okL [(⟨0, 2, 2⟩ : T)] := ⟨by simp, by intro t ht; simp at ht; subst ht; simp [okT]⟩
  refine (Fits_k _ 1 _ hs w5 hT).mono fun v w6 ⟨e6, b, hv, _, hb⟩ => ⟨e6, b, _, hv, fun w9 h9 => ⟨(h0.trans e1).trans h9, ?_⟩⟩
  have hF : Feas [(⟨0, 2, 2⟩ : T)] := by
    intro a b ha hab hb
    simp only [demand, List.length_singleton, sumN, tk, List.getD_cons_zero, Int.zero_add]
    split
    · rename_i h; simp only [decide_eq_true_eq] at h; omega
    · omega
  rw [(hb hok).2 hF, errC_ok.2 hok]; rfl

theorem core_DueBest (W : World) : ∀ l : Option Addr, ∀ ll : Nat, ∀ lc : Nat, SlcArg Try.prog W 29 l ll lc → ∀ row : Option Addr, ∀ rowl : Nat, ∀ rowc : Nat, SlcArg Try.prog W 3 row rowl rowc →
    FnP Try.prog F_shiftbellkeep_DueBest #[(.slice l ll lc), (.slice row rowl rowc)] W fun v W' => v = .bool true ∧ Ext W W' := by
  intro p ll lc hl q ql qc hq
  obtain ⟨l, rfl, hs, hT⟩ := tasks_open hl
  obtain ⟨X, rfl, _, hX⟩ := hq.ints (k := .i64) (by kernel_rfl) (by kernel_rfl)
  refine ok_shiftbellkeep_DueBest _ _ _ _ _ _ W _ ?_
  intro w0 h0
  refine (dues_k w0).mono fun v w1 ⟨e1, hv⟩ => ⟨e1, true, hv, fun h => by simp at h, fun _ w3 h3 => ?_⟩
  refine (Valid_k p lc l hs q qc X w3 (hT.ext h3) (hX.ext h3)).mono fun v w4 ⟨e4, b1, hv, n1, o1⟩ => ⟨e4, b1, _, hv, fun w7 h7 => ?_⟩
  refine (Fits_k p lc l hs w7 (hT.ext h7)).mono fun v w8 ⟨e8, b2, hv, n2, o2⟩ => ⟨e8, b2, _, hv, fun w11 h11 => ?_⟩
  refine (Run_k p lc l hs w11 (hT.ext h11)).mono fun v w12 ⟨e12, r, rl, rc, f, fl, fc, hv, hf20, n3, o3⟩ => ⟨e12, _, _, _, _, _, _, _, hv, fun hne => ?_, fun he => ?_⟩
  · have hno : ¬ okL l := fun h => hne (errC_ok.2 h)
    obtain ⟨rfl, rfl⟩ := n3 hno
    refine ⟨fun _ => i64 (by simp), fun w20 h20 => ⟨?_, (h11.trans e12).trans h20⟩⟩
    rw [n1 hno, n2 hno]; simp
  · have hok := errC_ok.1 he
    obtain ⟨rfl, R, hR, oR, hst, hF⟩ := o3 hok
    have hx12 : Ext W w12 := h11.trans e12
    intro w20 h20
    have hRI : Ints .i64 w20 r R := (oR.ext h20).cells
    have hvk := Valid_k p lc l hs r rc R w20 (hT.ext (hx12.trans h20)) hRI
    rw [hR] at hvk
    refine hvk.mono fun v w21 ⟨e21, b3, hv, n4, o4⟩ => ⟨e21, b3, _, hv, ?_⟩
    rw [he]
    refine good_lit [0, 0, 0] rfl rfl (by omega) (by omega) fun w25 h25 w32 h32 => ⟨b_true ?_, (hx12.trans h25).trans h32⟩
    have k1 := o1 hok
    have k2 := o2 hok
    have k4 := (o4 hok).trans (edf_valid_iff hok hst hR)
    have k5 : b1 = true → Feas l := fun h => valid_feas hok (k1.1 h)
    have hz : ((fl : Int) = 0) ↔ Feas l := by rw [← hF]; omega
    by_cases hfe : Feas l
    · rw [k2.2 hfe, k4.2 hfe]
      simp [hz.2 hfe]
    · have g2 : b2 = false := by cases b2; rfl; exact absurd (k2.1 rfl) hfe
      have g4 : b3 = false := by cases b3; rfl; exact absurd (k4.1 rfl) hfe
      have g1 : b1 = false := by cases b1; rfl; exact absurd (k5 rfl) hfe
      have gz : ¬ ((fl : Int) = 0) := fun h => hfe (hz.1 h)
      rw [g1, g2, g4]
      simp; omega

theorem core_DueBusy (W : World) : ∀ l : Option Addr, ∀ ll : Nat, ∀ lc : Nat, SlcArg Try.prog W 29 l ll lc → ∀ now : Int, InR .i64 now → ∀ i : Int, InR .i64 i →
    FnP Try.prog F_shiftbellkeep_DueBusy #[(.slice l ll lc), (.int .i64 now), (.int .i64 i)] W fun v W' => v = .bool true ∧ Ext W W' := by
  intro p ll lc hl now hnow i hi
  obtain ⟨l, rfl, hs, hT⟩ := tasks_open hl
  refine ok_shiftbellkeep_DueBusy _ _ _ _ _ W _ ?_
  intro w0 h0
  refine (dues_k w0).mono fun v w1 ⟨e1, hv⟩ => ⟨e1, true, hv, fun h => by simp at h, fun _ w3 h3 => ?_⟩
  refine (Run_k p lc l hs w3 (hT.ext h3)).mono fun v w4 ⟨e4, r, rl, rc, f, fl, fc, hv, hf20, n3, o3⟩ => ⟨e4, _, _, _, _, _, _, _, hv, fun hb => ?_, fun hb => ?_⟩
  · by_cases hok : okL l
    · have := (o3 hok).1
      have := errC_ok.2 hok
      omega
    · obtain ⟨rfl, rfl⟩ := n3 hok
      have hne : errC l ≠ 0 := fun h => hok (errC_ok.1 h)
      exact ⟨fun _ => i64 (by simp), fun w12 h12 => ⟨by simp [hne], (h3.trans e4).trans h12⟩⟩
  · have hok := errC_ok.1 hb.1
    obtain ⟨rfl, R, hR, oR, hst, hF⟩ := o3 hok
    have hx : Ext W w4 := h3.trans e4
    have hT4 := hT.ext hx
    have hlen := hok.1
    refine ⟨fun h => (tasks_at hT4 h.1.2 h.2).1, fun h => h.1.2, fun h => h.2, fun h => (tasks_at hT4 h.1.2 h.2).2.1, fun _ w12 h12 => ⟨rfl, hx.trans h12⟩, fun h => ?_⟩
    obtain ⟨f1, f2, f3⟩ := tasks_fld hT4 h.1.2 h.2
    obtain ⟨t1, t2, _⟩ := tasks_at hT4 h.1.2 h.2
    refine ⟨_, f1, fun _ w13 h13 => ⟨rfl, hx.trans h13⟩, fun hat => ⟨by omega, h.1.1.1, by have := oR.le; omega, ?_⟩⟩
    have hR4 := oR.cells
    rw [pCut_zero]
    refine ⟨fun d k w' => w' = w4 ∧ 0 ≤ k ∧ k ≤ now ∧ d = cnt i (R.take k.toNat), fun _ k _ => (now - k).toNat, ⟨rfl, by omega, by omega, by simp [cnt]⟩, ?_⟩
    rintro d k _ ⟨rfl, hk0, hk1, rfl⟩
    have hc0 := cnt_nonneg i (R.take k.toNat)
    have hc1 : cnt i (R.take k.toNat) ≤ 200 := by
      have := cnt_le_length i (R.take k.toNat)
      rw [List.length_take] at this; omega
    have hnn : ((now - 0).toNat : Int) = now := by omega
    rw [hnn]
    refine ⟨fun hlt => ?_, fun hge => ?_⟩
    · have hk' : (k + 1).toNat = k.toNat + 1 := by omega
      have hc := cnt_take_succ i R (n := k.toNat) (by omega)
      refine ⟨oR.ne1 (by omega) (by omega), hk0, hlt, _, oR.int_at hk0 (by omega), fun he => ⟨i64 (by omega), i64 (by omega), ⟨rfl, by omega, by omega, by rw [hk', hc, if_pos he]⟩, by simp only []; omega⟩, fun he => ⟨i64 (by omega), ⟨rfl, by omega, by omega, by rw [hk', hc, if_neg he]; omega⟩, by simp only []; omega⟩⟩
    · obtain rfl : k = now := by omega
      have hget := oR.int_at hk0 (by omega : k < R.length)
      have hstep := hst k.toNat (by omega)
      have hkk : ((k.toNat : Nat) : Int) = k := by omega
      have hii : ((i.toNat : Nat) : Int) = i := by omega
      rw [hkk] at hstep
      refine ⟨oR.ne1 (by omega) (by omega), hk0, h.1.1.2, _, hget, t1, h.1.2, h.2, t2, _, f3, ?_⟩
      revert hstep
      generalize R.getD k.toNat 0 = x
      intro hstep
      refine ⟨fun _ hx => (tasks_at hT4 hx.1 hx.2).1, fun _ hx => hx.1, fun _ hx => hx.2, fun _ hx => (tasks_at hT4 hx.1 hx.2).2.1, fun _ w19 h19 => ⟨rfl, hx.trans h19⟩, fun hd => ?_⟩
      have hready : Ready l (R.take k.toNat) k i.toNat := ⟨hat, by unfold left; rw [hii]; omega⟩
      rcases hstep with ⟨_, hno⟩ | ⟨j, hj, rfl, hrj, hm⟩
      · exact absurd hready (hno _ (by omega))
      · refine ⟨fun hxr => ⟨_, (tasks_fld hT4 hxr.1 hxr.2).2.1, t1, h.1.2, h.2, t2, _, f2, fun w21 h21 => ⟨b_true ?_, hx.trans h21⟩⟩, fun hxr => by omega⟩
        have := hm i.toNat (by omega) hready
        simpa using this
end Go.Proofs.Ytnclaokllghaoaa
