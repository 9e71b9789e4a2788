/- The law AskNorm. -/
import Derived.Test.YtdhhggfplacenaaDoorAnA
set_option linter.unusedVariables false
set_option linter.unusedSimpArgs false
namespace Go.Proofs.YtdhhggfplacenaaDoor
open Go.Sx Go.RowKit

theorem sameA_k : ∀ (t : AT) (p : Option Addr) (c : Nat) (q : Option Addr) (d : Nat) (w : World), IsT w t p c → IsT w t q d → WfA t →
    FnP Tryd.prog F_shiftbellkeep_sameAsk #[av t p c, av t q d] w fun v w' => Ext w w' ∧ v = .bool true := by
  intro t
  induction t using AT.ind with
  | h k key val n xs ih =>
    intro p c q d w hp hq hW
    have h63 : xs.length ≤ 9223372036854775807 := hW.len
    refine ok_shiftbellkeep_sameAsk k key val n p xs.length c k key val n q xs.length d w _ fun b0 _ b1 _ => ⟨fun _ w2 h2 => ?_, fun h => ?_⟩
    · refine FnP.mono (K := fun v w' => Ext w2 w' ∧ v = .bool true) ?_ fun v w3 ⟨e3, hv⟩ => ⟨e3, _, hv, fun w5 h5 => ⟨h5, rfl⟩⟩
      refine ok_slices_EqualFunc_api_Ask_api_Ask_api_Ask_api_Ask p xs.length c q xs.length d _ w2 _ ⟨fun h => absurd rfl h, fun _ => ?_⟩
      refine ⟨fun k w' => w' = w2 ∧ 0 ≤ k ∧ k ≤ xs.length, fun k _ => (xs.length - k).toNat, ⟨rfl, by omega, by omega⟩, ?_⟩
      rintro j w2' ⟨rfl, hj0, hj1⟩
      refine ⟨fun hlt => ?_, fun _ w3 h3 => ⟨h3, rfl⟩⟩
      have hp2 := hp.ext h2 _ _ _
      have hq2 := hq.ext h2 _ _ _
      obtain ⟨x, p', c', hx, hmem, hIx, a1, a2, g0, g1, g2, g3, g4⟩ := hp2.at hj0 (by exact hlt)
      obtain ⟨y, q', d', hy, _, hIy, b1, b2, f0, f1, f2, f3, f4⟩ := hq2.at hj0 (by exact hlt)
      obtain rfl : x = y := Option.some.inj (hx.symm.trans hy)
      refine ⟨a1, hj0, hlt, a2, _, g0, _, g1, _, g2, _, g3, _, _, _, g4, fun b10 _ => ⟨b1, hj0, hlt, b2, _, f0, _, f1, _, f2, _, f3, _, _, _, f4, fun b18 _ w19 h19 => ?_⟩⟩
      exact ⟨F_shiftbellkeep_sameAsk, #[], rfl, (ih x hmem p' c' q' d' w19 (hIx.ext h19 _ _ _) (hIy.ext h19 _ _ _) (hW.sub x hmem)).mono fun v w20 ⟨e20, hv⟩ => ⟨e20, _, hv, fun h => by (cases h), fun _ => ⟨i64 (by omega), ⟨rfl, by omega, by omega⟩, by simp only []; omega⟩⟩⟩
    · rcases h with ((h | h) | h) | h <;> exact absurd rfl h

theorem plain_k : ∀ (t : AT) (p : Option Addr) (c : Nat) (w : World), IsT w t p c → WfA t → plB t = true →
    FnP Tryd.prog F_shiftbellkeep_plain #[av t p c] w fun v w' => Ext w w' ∧ v = .bool true := by
  intro t
  induction t using AT.ind with
  | h k key val n xs ih =>
    intro p c w hp hW hpl
    have h63 : xs.length ≤ 9223372036854775807 := hW.len
    rw [plB, plL_all, Bool.and_eq_true, List.all_eq_true] at hpl
    obtain ⟨hk, hall⟩ := hpl
    have all : ∀ w2, Ext w w2 → FnP Tryd.prog F_slices_ContainsFunc_api_Ask_api_Ask #[.slice p xs.length c, .func (.func F_shiftbellkeep_plain_1) #[] #[]] w2 fun v w' => Ext w2 w' ∧ v = .bool false := fun w2 h2 => by
      refine ok_slices_ContainsFunc_api_Ask_api_Ask p xs.length c _ w2 _ fun w3 h3 => ?_
      refine FnP.mono (K := fun v w' => Ext w3 w' ∧ v = .int .i64 (-1)) ?_ fun v w4 ⟨e4, hv⟩ => ⟨e4, _, hv, fun w5 h5 => ⟨h5, rfl⟩⟩
      refine ok_slices_IndexFunc_api_Ask_api_Ask p xs.length c _ w3 _ ⟨fun k w' => w' = w3 ∧ 0 ≤ k ∧ k ≤ xs.length, fun k _ => (xs.length - k).toNat, ⟨rfl, by omega, by omega⟩, ?_⟩
      rintro j w3' ⟨rfl, hj0, hj1⟩
      refine ⟨fun hlt => ?_, fun _ w3 h3 => ⟨h3, rfl⟩⟩
      have hp2 := hp.ext (h2.trans h3) _ _ _
      obtain ⟨x, p', c', hx, hmem, hIx, a1, a2, g0, g1, g2, g3, g4⟩ := hp2.at hj0 (by exact hlt)
      refine ⟨a1, hj0, hlt, a2, _, g0, _, g1, _, g2, _, g3, _, _, _, g4, fun w10 h10 => ⟨F_shiftbellkeep_plain_1, #[], rfl, ?_⟩⟩
      refine FnP.mono (K := fun v w' => Ext w10 w' ∧ v = .bool false) (ok_shiftbellkeep_plain_1 x.k x.key x.val x.n p' x.xs.length c' w10 _ fun b0 _ w1 h1 => (ih x hmem p' c' w1 (hIx.ext (h10.trans h1) _ _ _) (hW.sub x hmem) (hall x hmem)).mono fun v w2 ⟨e2, hv⟩ => ⟨e2, _, hv, fun w4 h4 => ⟨h4, rfl⟩⟩ : FnP Tryd.prog F_shiftbellkeep_plain_1 #[av x p' c'] w10 _) fun v w11 ⟨e11, hv⟩ => ⟨e11, _, hv, fun h => by (cases h), fun _ => ⟨i64 (by omega), ⟨rfl, by omega, by omega⟩, by simp only []; omega⟩⟩
    refine ok_shiftbellkeep_plain k key val n p xs.length c w _ fun b0 _ => ?_
    by_cases h4 : k = 4
    · have hk : xs.length = 1 ∧ (xs.getD 0 zeroA).xs.length = 0 := by simpa [h4] using hk
      obtain ⟨x, p', c', hx, hmem, hIx, a1, a2, g0, g1, g2, g3, g4⟩ := hp.at (k := 0) (by omega) (by show (0 : Int) < xs.length; omega)
      have hx : xs[0]? = some x := hx
      have hx0 : x.xs.length = 0 := by
        have := hk.2
        rw [List.getD_eq_getElem?_getD, hx] at this
        exact this
      refine ⟨fun _ _ => a1, fun _ _ => by omega, fun _ _ => by omega, fun _ _ => a2, fun h => absurd h4 h, fun _ => ⟨fun _ => ⟨_, _, _, by rw [cell_pAdd]; exact g4, fun _ w4 h4' => (all w4 h4').mono fun v w5 ⟨e5, hv⟩ => ⟨e5, _, hv, fun w7 h7 => ⟨h7, rfl⟩⟩, fun h => by omega⟩, fun h => by omega⟩⟩
    · exact ⟨fun h => absurd h h4, fun h => absurd h h4, fun h => absurd h h4, fun h => absurd h h4, fun _ w1 h1 => (all w1 h1).mono fun v w2 ⟨e2, hv⟩ => ⟨e2, _, hv, fun w4 h4 => ⟨h4, rfl⟩⟩, fun h => absurd h h4⟩

theorem core_AskNorm (W : World) (hg : GL W) : ∀ x_0 : Int, InR .i64 x_0 → ∀ x_1 : ByteArray, x_1.size ≤ 9223372036854775807 → ∀ x_2 : ByteArray, x_2.size ≤ 9223372036854775807 → ∀ x_3 : Int, InR .i64 x_3 → ∀ x_4 : Option Addr, ∀ x_4l : Nat, ∀ x_4c : Nat, SlcArg Tryd.prog W T_Ask x_4 x_4l x_4c → ∀ h_v_0 : ByteArray, h_v_0.size ≤ 9223372036854775807 → ∀ h_v_1 : Option Addr, ∀ h_v_1l : Nat, ∀ h_v_1c : Nat, SlcArg Tryd.prog W T_Label h_v_1 h_v_1l h_v_1c → ∀ h_v_2 : Int, InR .i64 h_v_2 → ∀ h_v_3 : Int, InR .i64 h_v_3 → ∀ h_v_4 : Int, InR .i64 h_v_4 → ∀ h_v_5 : Int, InR .i64 h_v_5 → ∀ h_v_6 : Int, InR .i64 h_v_6 → ∀ h_v_7 : Int, InR .i64 h_v_7 →
    FnP Tryd.prog F_shiftbellkeep_AskNorm #[(.agg #[(.int .i64 x_0), (.string x_1), (.string x_2), (.int .i64 x_3), (.slice x_4 x_4l x_4c)]), (.agg #[(.string h_v_0), (.slice h_v_1 h_v_1l h_v_1c), (.int .i64 h_v_2), (.int .i64 h_v_3), (.int .i64 h_v_4), (.int .i64 h_v_5), (.int .i64 h_v_6), (.int .i64 h_v_7)])] W fun v W' => v = .bool true ∧ Ext W W' := by
  intro x0 hx0 x1 hx1 x2 hx2 x3 hx3 px lx cx hX n0 hn0 q l d hL h2 _ h3 _ h4 _ h5 _ h6 _ h7 _
  obtain ⟨t, rfl, rfl, rfl, rfl, rfl, hT, hW⟩ := ask_arg hX hx0 hx1 hx2 hx3
  obtain ⟨L, rfl, hlen, hLb⟩ := labels_arg hL
  obtain ⟨H, rfl, rfl, rfl, rfl, rfl, rfl, rfl, rfl⟩ : ∃ H : Ht, n0 = H.name ∧ L = H.labels ∧ h2 = H.has.c ∧ h3 = H.has.m ∧ h4 = H.has.g ∧ h5 = H.used.c ∧ h6 = H.used.m ∧ h7 = H.used.g := ⟨⟨n0, L, ⟨h2, h3, h4⟩, ⟨h5, h6, h7⟩⟩, rfl, rfl, rfl, rfl, rfl, rfl, rfl, rfl⟩
  have hold : ∀ (t : AT) (p : Option Addr) (c : Nat) (w : World), Ext W w → IsT w t p c → WfA t → FnP Tryd.prog F_ask_Holds #[av t p c, hv H q d] w fun v w' => Ext w w' ∧ v = .tuple #[.bool (if errC t = 0 then valA (atH H) t else false), .int .i64 (errC t)] := fun t p c w hw hT hWt => Holds_k t p c H q d hlen w hT hWt (hLb.ext hw)
  have hz : ∀ w, IsT w zeroA none 0 := fun w => by unfold IsT; exact ⟨by simp, by unfold IsL; trivial⟩
  have hzW : WfA zeroA := opA_wf (by omega) (by simp) (by intro x hx; simp at hx)
  refine ok_shiftbellkeep_AskNorm t.k t.key t.val t.n px t.xs.length cx H.name q H.labels.length d H.has.c H.has.m H.has.g H.used.c H.used.m H.used.g W _ fun b0 hb0 b1 hb1 w2 h2 => ?_
  refine (asks_k w2).mono fun v w3 ⟨e3, hv⟩ => ⟨e3, true, hv, fun h => by (cases h), fun _ w5 x5 => ?_⟩
  have h5 := extB_ext x5
  refine (Norm_k t px cx w5 (hT.ext h5 _ _ _) hW).mono fun v w6 ⟨e6, y, p', c', e, hv, hIy, hr, hiff⟩ => ⟨e6, _, _, _, _, _, _, _, _, hv, fun b15 hb15 => ⟨fun hne w16 h16 => ?_, fun he w16 x16 => ?_⟩⟩
  · obtain rfl : y = zeroA := by
      rcases hr with ⟨_, h⟩ | ⟨h, _⟩
      · exact h
      · exact absurd h hne
    exact (sameA_k zeroA p' c' none 0 w16 (hIy.ext h16 _ _ _) (hz _) hzW).mono fun v w17 ⟨e17, hv⟩ => ⟨e17, _, hv, fun w19 h19 => ⟨rfl, (h5.trans e6).trans h19⟩⟩
  obtain ⟨hC, rfl⟩ : errC t = 0 ∧ y = nrm t false := by
    rcases hr with ⟨h, _⟩ | ⟨_, h⟩
    · exact absurd he h
    · exact h
  have heA : errA t = 0 := by
    have he := hC
    unfold errC at he
    split at he
    · omega
    · exact he
  obtain ⟨n1, n2, n3, n4, n5⟩ := nrm_ok (atH H) t heA hW false
  have hC' : errC (nrm t false) = 0 := by
    have := (hiff.1 he).2
    unfold errC
    rw [if_neg (by omega)]; exact n1
  have h16 := (h5.trans e6).trans (extB_ext x16)
  have hI16 := hIy.ext (extB_ext x16) _ _ _
  refine (Norm_k (nrm t false) p' c' w16 hI16 n2).mono fun v w17 ⟨e17, m, p2, c2, f, hv, hIm, hr2, hiff2⟩ => ⟨e17, _, _, _, _, _, _, _, _, hv, fun b26 hb26 w27 h27 => ?_⟩
  obtain rfl : f = 0 := hiff2.2 ⟨hC', by rw [n4]; exact (hiff.1 he).2⟩
  obtain rfl : m = nrm t false := by
    rcases hr2 with ⟨h, _⟩ | ⟨_, _, h⟩
    · exact absurd rfl h
    · rw [h, n4]
  have x17 := h16.trans e17
  refine (hold t px cx w27 (x17.trans h27) (hT.ext (x17.trans h27) _ _ _) hW).mono fun v w28 ⟨e28, hv⟩ => ⟨e28, _, _, hv, fun w31 h31 => ?_⟩
  have hI17 := hI16.ext e17 _ _ _
  refine (hold (nrm t false) p' c' w31 (x17.trans h31) (hI17.ext h31 _ _ _) n2).mono fun v w32 ⟨e32, hv⟩ => ⟨e32, _, _, hv, fun w35 x35 => ?_⟩
  rw [if_pos hC, if_pos hC', hC, hC', n3]
  have h35 := extB_ext x35
  refine good_lit (n := 3) [0, 0, 0] rfl rfl (by omega) (by omega) (fun w36 e36 => ⟨fun _ w43 h43 => ?_, fun h => by simp at h⟩) w35 (Ext.refl _)
  have x36 := h35.trans e36
  refine (plain_k (nrm t false) p' c' w43 (hI17.ext (x36.trans h43) _ _ _) n2 n5).mono fun v w44 ⟨e44, hv⟩ => ⟨e44, _, hv, fun _ w46 h46 => ?_, fun h => by (cases h)⟩
  refine (sameA_k (nrm t false) p' c' p2 c2 w46 (hI17.ext (x36.trans h46) _ _ _) (hIm.ext (x36.trans h46) _ _ _) n2).mono fun v w47 ⟨e47, hv⟩ => ⟨e47, _, hv, fun w49 h49 => ⟨b_true ?_, (x17.trans x36).trans h49⟩⟩
  cases valA (atH H) t <;> rfl
end Go.Proofs.YtdhhggfplacenaaDoor
