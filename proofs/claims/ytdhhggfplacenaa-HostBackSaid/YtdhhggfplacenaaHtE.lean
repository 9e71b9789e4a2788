/- The law HostBack. -/
import Derived.Test.YtdhhggfplacenaaHtD
import Derived.Test.YtdhhggfplacenaaEqF
set_option linter.unusedVariables false
set_option linter.unusedSimpArgs false
namespace Go.Proofs.Ytdhhggfplacenaa
open Go.Sx Go.RowKit

theorem eqLb_k (p : Option Addr) (c : Nat) (q : Option Addr) (d : Nat) (l : List Lb) (h63 : l.length ≤ 9223372036854775807) (w : World) (hp : Lbs w p l) (hq : Lbs w q l) :
    FnP Try.prog F_slices_Equal_api_Label_api_Label #[.slice p l.length c, .slice q l.length d] w fun v w' => Ext w w' ∧ v = .bool true := by
  refine ok_slices_Equal_api_Label_api_Label p l.length c q l.length d w _ ⟨fun h => absurd rfl h, fun _ => ?_⟩
  refine ⟨fun k w' => w' = w ∧ 0 ≤ k ∧ k ≤ l.length, fun k _ => (l.length - k).toNat, ⟨rfl, by omega, by omega⟩, ?_⟩
  rintro k w2 ⟨rfl, hk0, hk1⟩
  refine ⟨fun hlt => ?_, fun _ w3 h3 => ⟨h3, rfl⟩⟩
  have a0 := hp.idx default hk0 hlt (j := 0) rfl
  have a1 := hp.idx default hk0 hlt (j := 1) rfl
  have b0 := hq.idx default hk0 hlt (j := 0) rfl
  have b1 := hq.idx default hk0 hlt (j := 1) rfl
  refine ⟨fun h => cell_p a0 (pIdx_none.2 h), hk0, hlt, cell_p a0, _, a0, _, a1, fun h => cell_p b0 (pIdx_none.2 h), hk0, hlt, cell_p b0, _, b0, _, b1, fun w7 h7 => ?_⟩
  refine run_eqF (op := .neq) (n := 2) (by kernel_rfl) (by kernel_rfl) (by kernel_rfl) (by kernel_rfl) [.string (l.getD k.toNat default).key, .string (l.getD k.toNat default).val] [.string (l.getD k.toNat default).key, .string (l.getD k.toNat default).val] rfl rfl
    [some .string, some .string] (by kernel_rfl) (fun i o ho u v hu hv => ?_) (.inr rfl) fun b hb => ⟨Ext.refl _, b, rfl, fun ht => ?_, fun _ => ⟨i64 (by omega), ⟨rfl, by omega, by omega⟩, by simp only []; omega⟩⟩
  · match i with
    | 0 => simp at ho hu hv; subst ho hu hv; exact ⟨⟨_, rfl⟩, _, rfl⟩
    | 1 => simp at ho hu hv; subst ho hu hv; exact ⟨⟨_, rfl⟩, _, rfl⟩
    | i + 2 => simp at ho
  · have := hb.1 ht
    simp at this

theorem sameH_k (p : Option Addr) (c : Nat) (q : Option Addr) (d : Nat) (L : List Ht) (h63 : (L.length : Int) ≤ 9223372036854775807) (hO : ∀ h ∈ L, HtOk h) (w : World) (hp : HsAt w p L) (hq : HsAt w q L) :
    FnP Try.prog F_shiftbellkeep_sameHosts #[.slice p L.length c, .slice q L.length d] w fun v w' => Ext w w' ∧ v = .bool true := by
  refine ok_shiftbellkeep_sameHosts p L.length c q L.length d w _ fun w0 h0 => ?_
  refine FnP.mono (K := fun v w' => Ext w0 w' ∧ v = .bool true) ?_ fun v w1 ⟨e1, hv⟩ => ⟨e1, _, hv, fun w3 h3 => ⟨h3, rfl⟩⟩
  refine ok_slices_EqualFunc_api_Host_api_Host_api_Host_api_Host p L.length c q L.length d _ w0 _ ⟨fun h => absurd rfl h, fun _ => ?_⟩
  refine ⟨fun k w' => w' = w0 ∧ 0 ≤ k ∧ k ≤ L.length, fun k _ => (L.length - k).toNat, ⟨rfl, by omega, by omega⟩, ?_⟩
  rintro k w2 ⟨rfl, hk0, hk1⟩
  refine ⟨fun hlt => ?_, fun _ w3 h3 => ⟨h3, rfl⟩⟩
  obtain ⟨q1, d1, a1, a2, g, l1⟩ := (hp.ext h0).at hk0 hlt
  obtain ⟨q2, d2, b1, b2, g', l2⟩ := (hq.ext h0).at hk0 hlt
  have hm := hO _ (getD_mem L default (i := k.toNat) (by omega))
  generalize hHd : L.getD k.toNat default = H at g g' l1 l2 hm
  refine ⟨a1, hk0, hlt, a2, _, g 0 _ rfl, _, _, _, g 1 _ rfl, _, g 2 _ rfl, _, g 3 _ rfl, _, g 4 _ rfl, _, g 5 _ rfl, _, g 6 _ rfl, _, g 7 _ rfl, fun b13 _ => ?_⟩
  refine ⟨b1, hk0, hlt, b2, _, g' 0 _ rfl, _, _, _, g' 1 _ rfl, _, g' 2 _ rfl, _, g' 3 _ rfl, _, g' 4 _ rfl, _, g' 5 _ rfl, _, g' 6 _ rfl, _, g' 7 _ rfl, fun b24 _ w25 h25 => ?_⟩
  refine ⟨F_shiftbellkeep_sameHosts_1, #[], rfl, ?_⟩
  refine FnP.mono (K := fun v w' => Ext w25 w' ∧ v = .bool true) (ok_shiftbellkeep_sameHosts_1 H.name q1 H.labels.length d1 H.has.c H.has.m H.has.g H.used.c H.used.m H.used.g H.name q2 H.labels.length d2 H.has.c H.has.m H.has.g H.used.c H.used.m H.used.g w25 _ fun x0 _ x1 _ => ⟨fun _ w2' h2' => ?_, fun h => absurd rfl h⟩ : FnP Try.prog F_shiftbellkeep_sameHosts_1 #[hv H q1 d1, hv H q2 d2] w25 _) fun v w26 ⟨e26, hv⟩ => ⟨e26, _, hv, fun h => by (cases h), fun _ => ⟨i64 (by omega), ⟨rfl, by omega, by omega⟩, by simp only []; omega⟩⟩
  refine eqN_k (a := H.has) (b := H.has) ⟨Ext.refl _, _, rfl, fun _ w5 h5 => ?_, fun h => by simp at h⟩
  refine eqN_k (a := H.used) (b := H.used) ⟨Ext.refl _, _, rfl, fun _ w8 h8 => ?_, fun h => by simp at h⟩
  exact (eqLb_k q1 d1 q2 d2 H.labels hm.2.1 w8 (l1.ext (h25.trans h8)) (l2.ext (h25.trans h8))).mono fun v w9 ⟨e9, hv⟩ => ⟨e9, _, hv, fun w11 h11 => ⟨h11, rfl⟩⟩

theorem HsAt.one {w : World} {p : Option Addr} {L : List Ht} (h : HsAt w p L) {k : Int} (h0 : 0 ≤ k) (hk : k < L.length) {c : Nat} (hc : L.length ≤ c) : HsAt w (pCut p c k 8) [L.getD k.toNat default] := fun i x hx => by
  cases i with
  | succ i => simp at hx
  | zero =>
    simp at hx; subst hx
    obtain ⟨q, d, _, _, g, hl⟩ := h.at h0 hk
    refine ⟨q, d, fun j u hu => ?_, ?_⟩
    · have := g j u (by simpa [List.getD_eq_getElem?_getD] using hu)
      rw [cell_pCut _ _ _ _ _ _ (by omega)]
      rw [cell_pIdx] at this
      simpa using this
    · simpa [List.getD_eq_getElem?_getD] using hl

theorem getD_set_self {α : Type} (L : List α) (d x : α) {i : Nat} (h : i < L.length) : (L.set i x).getD i d = x := by
  rw [List.getD_eq_getElem?_getD, List.getElem?_set_self h]; rfl
theorem getD_set_ne {α : Type} (L : List α) (d x : α) {i k : Nat} (h : i ≠ k) : (L.set i x).getD k d = L.getD k d := by
  rw [List.getD_eq_getElem?_getD, List.getElem?_set_ne h, List.getD_eq_getElem?_getD]
theorem set_getD_self {α : Type} (L : List α) (d : α) {i : Nat} (h : i < L.length) : L.set i (L.getD i d) = L := by
  rw [show L.getD i d = L[i] by simp [List.getD_eq_getElem?_getD, h], List.set_getElem_self]

theorem core_HostBack (W : World) : ∀ l : Option Addr, ∀ ll : Nat, ∀ lc : Nat, SlcArg Try.prog W T_Host l ll lc → ∀ i : Int, InR .i64 i → ∀ a_0 : Int, InR .i64 a_0 → ∀ a_1 : Int, InR .i64 a_1 → ∀ a_2 : Int, InR .i64 a_2 →
    FnP Try.prog F_shiftbellkeep_HostBack #[(.slice l ll lc), (.int .i64 i), (.agg #[(.int .i64 a_0), (.int .i64 a_1), (.int .i64 a_2)])] W fun v W' => v = .bool true ∧ Ext W W' := by
  intro p ll c hl i hi a0 _ a1 _ a2 _
  have hlc := hl.le
  have hmx := hl.max
  obtain ⟨L, rfl, h63, hO, hL⟩ := hosts_arg hl
  obtain ⟨a, rfl, rfl, rfl⟩ : ∃ a : Nd, a0 = a.c ∧ a1 = a.m ∧ a2 = a.g := ⟨⟨a0, a1, a2⟩, rfl, rfl, rfl⟩
  refine ok_shiftbellkeep_HostBack p L.length c i a.c a.m a.g W _ fun b0 hb0 w1 h1 => ?_
  refine (hosts_k w1).mono fun v w2 ⟨e2, hv⟩ => ⟨e2, true, hv, fun h => by (cases h), fun _ w4 x4 => ?_⟩
  have h4 := extB_ext x4
  refine (Take_k p c L h63 hO i a w4 (hL.ext h4)).mono fun v w5 ⟨e5, p1, n1, c1, e, hv, ht⟩ => ⟨e5, p1, n1, c1, e, hv, fun hne w10 h10 => ⟨?_, (h4.trans e5).trans h10⟩, fun he w10 x10 => ?_⟩
  · rcases ht with ⟨_, rfl, _⟩ | ⟨h, _⟩
    · simp
    · exact absurd h hne
  obtain ⟨hok, hi0, hi1, rfl, hc1, ha, hfit, hM⟩ : okHs L ∧ 0 ≤ i ∧ i < L.length ∧ n1 = L.length ∧ n1 ≤ c1 ∧ okN a ∧ fitN a (subN (L.getD i.toNat default).has (L.getD i.toNat default).used) ∧ HsAt w5 p1 (L.set i.toNat (usedH (L.getD i.toNat default) (addN (L.getD i.toNat default).used a))) := by
    rcases ht with ⟨h, _⟩ | ⟨_, h⟩
    · exact absurd he h
    · exact h
  clear ht
  have hm := getD_mem L default (i := i.toNat) (by omega)
  have hself := set_getD_self L default (i := i.toNat) (by omega)
  generalize hHd : L.getD i.toNat default = H at hm hfit hM hself
  obtain ⟨H1, hH1⟩ : ∃ H1, H1 = usedH H (addN H.used a) := ⟨_, rfl⟩
  rw [← hH1] at hM
  have hoH := hok.2.1 H hm
  obtain ⟨ho1, ho2, ho3, ho4, ho5, ho6⟩ := id hoH
  have okH1' : okH1 H1 := by
    obtain ⟨u1, u2, u3⟩ := id ho4
    obtain ⟨u4, u5, u6⟩ := id ho5
    obtain ⟨u7, u8, u9⟩ := id ho6
    obtain ⟨u10, u11, u12⟩ := id ha
    obtain ⟨u13, u14, u15⟩ := id hfit
    simp only [subN] at u13 u14 u15
    rw [hH1]
    refine ⟨ho1, ho2, ho3, ho4, ⟨?_, ?_, ?_⟩, ⟨?_, ?_, ?_⟩⟩ <;> simp only [usedH, addN] <;> omega
  obtain ⟨M, hMd⟩ : ∃ M, M = L.set i.toNat H1 := ⟨_, rfl⟩
  rw [← hMd] at hM
  have hMl : M.length = L.length := by rw [hMd]; simp
  have hMi : M.getD i.toNat default = H1 := by rw [hMd]; exact getD_set_self L default H1 (by omega)
  have hMne : ∀ k : Int, 0 ≤ k → k ≠ i → M.getD k.toNat default = L.getD k.toNat default := fun k h0 hk => by rw [hMd]; exact getD_set_ne L default H1 (by omega)
  have hMO : ∀ h ∈ M, HtOk h := fun h hh => by
    rw [hMd] at hh
    rcases List.mem_or_eq_of_mem_set hh with hh | rfl
    · exact hO h hh
    · rw [hH1]; exact hO H hm
  have hokM : okHs M := by
    refine ⟨by rw [hMl]; exact hok.1, fun h hh => ?_, ?_⟩
    · rw [hMd] at hh
      rcases List.mem_or_eq_of_mem_set hh with hh | rfl
      · exact hok.2.1 h hh
      · exact okH1'
    · have : M.map (·.name) = L.map (·.name) := by
        rw [hMd, List.map_set]
        have : H1.name = (L.map (·.name)).getD i.toNat default := by
          rw [hH1, List.getD_eq_getElem?_getD, List.getElem?_map, getElem?_getD L default (by omega), hHd]; rfl
        rw [this, set_getD_self _ _ (by simp; omega)]
      rw [this]; exact hok.2.2
  have h10 := (h4.trans e5).trans (extB_ext x10)
  have h5' := extB_ext x10
  have hM63 : (M.length : Int) ≤ 9223372036854775807 := by omega
  have G := Give_k p1 c1 M hM63 hMO i a w10 (hM.ext h5')
  rw [hMl] at G
  refine G.mono fun v w11 ⟨e11, p2, n2, c2, f, hv, hg⟩ => ⟨e11, p2, n2, c2, f, hv, fun hne => ?_, fun h0 w16 h16 => ?_⟩
  · exfalso
    rcases hg with ⟨_, _, hno⟩ | ⟨h, _⟩
    · refine hno hokM hi0 (by omega) ⟨ha, ?_⟩
      rw [hMi, hH1]
      obtain ⟨⟨u1, _⟩, ⟨u2, _⟩, ⟨u3, _⟩⟩ := ho5
      refine ⟨?_, ?_, ?_⟩ <;> simp only [usedH, addN] <;> omega
    · exact absurd h hne
  obtain ⟨rfl, hL2⟩ : n2 = L.length ∧ HsAt w11 p2 L := by
    rcases hg with ⟨h, _⟩ | ⟨_, _, _, _, hn, _, hAt⟩
    · exact absurd h0 h
    · refine ⟨by omega, ?_⟩
      have : M.set i.toNat (usedH (M.getD i.toNat default) (subN (M.getD i.toNat default).used a)) = L := by
        rw [hMi, hMd, List.set_set]
        have : usedH H1 (subN H1.used a) = H := by
          rw [hH1]
          show (⟨H.name, H.labels, H.has, subN (addN H.used a) a⟩ : Ht) = H
          have : subN (addN H.used a) a = H.used := by
            show (⟨_, _, _⟩ : Nd) = H.used
            cases hu : H.used
            simp only [addN]
            congr 1 <;> omega
          rw [this]
        rw [this, hself]
      rwa [this] at hAt
  have h11 := h10.trans e11
  refine (sameH_k p2 c2 p c L h63 hO w16 (hL2.ext h16) (hL.ext (h11.trans h16))).mono fun v w17 ⟨e17, hv⟩ => ⟨e17, _, hv, fun h => by (cases h), fun _ w19 h19 => ?_⟩
  have hM11 := hM.ext (h5'.trans e11)
  have hL11 := hL.ext h11
  have C := hcheck_k p1 c1 M hM63 hMO w19 (hM11.ext h19)
  rw [hMl] at C
  refine C.mono fun v w20 ⟨e20, e', hv, he', _, _⟩ => ⟨e20, e', hv, fun hne => absurd (he'.2 hokM) hne, fun _ => ?_⟩
  refine ⟨fun k w' => w' = w11 ∧ 0 ≤ k ∧ k ≤ L.length, fun k _ => (L.length - k).toNat, ⟨rfl, by omega, by omega⟩, ?_⟩
  rintro k w24 ⟨rfl, hk0, hk1⟩
  refine ⟨fun hlt => ?_, fun hge => ?_⟩
  · have hlt : k < L.length := by omega
    refine ⟨fun _ => i64 (by omega), fun _ => hk0, fun _ => by omega, fun _ => by omega, fun _ => i64 (by omega), fun _ => hk0, fun _ => by omega, fun _ => by omega, fun hne w25 h25 => ?_, fun _ => ⟨i64 (by omega), ⟨rfl, by omega, by omega⟩, by simp only []; omega⟩⟩
    have g1 := (hL11.one hk0 hlt (c := c) (by omega)).ext h25
    have g2 := (hM11.one hk0 (by omega) (c := c1) (by omega)).ext h25
    rw [hMne k hk0 hne] at g2
    rw [show (k + 1 - k).toNat = 1 by omega]
    exact (sameH_k _ _ _ _ [L.getD k.toNat default] (by simp) (by intro h hh; simp at hh; subst hh; exact hO _ (by have := getD_mem L default (i := k.toNat) (by omega); simpa [List.getD_eq_getElem?_getD] using this)) w25 g1 g2).mono fun v w26 ⟨e26, hv⟩ => ⟨e26, _, hv, fun h => by (cases h), fun _ => ⟨i64 (by omega), ⟨rfl, by omega, by omega⟩, by simp only []; omega⟩⟩
  · obtain ⟨q1, d1, a1, a2, g, l1⟩ := hL11.at hi0 hi1
    obtain ⟨q2, d2, b1, b2, g', l2⟩ := hM11.at hi0 (by omega)
    rw [hHd] at g l1
    rw [hMi] at g' l2
    have hsub1 : subN H1.has H1.used = subN (subN H.has H.used) a := by
      rw [hH1]
      show (⟨_, _, _⟩ : Nd) = ⟨_, _, _⟩
      simp only [usedH, addN, subN]
      congr 1 <;> omega
    refine ⟨a1, hi0, hi1, a2, _, g 0 _ rfl, _, _, _, g 1 _ rfl, _, g 2 _ rfl, _, g 3 _ rfl, _, g 4 _ rfl, _, g 5 _ rfl, _, g 6 _ rfl, _, g 7 _ rfl, fun w35 h35 => ?_⟩
    refine (Free_k H (hO H hm) q1 d1 w35 (l1.ext h35)).mono fun v w36 ⟨e36, s, f', hv, hs⟩ => ⟨e36, _, _, _, _, hv, fun b41 hb41 => ?_⟩
    obtain ⟨rfl, rfl⟩ := hs hoH
    refine ⟨b1, hi0, by omega, b2, _, g' 0 _ rfl, _, _, _, g' 1 _ rfl, _, g' 2 _ rfl, _, g' 3 _ rfl, _, g' 4 _ rfl, _, g' 5 _ rfl, _, g' 6 _ rfl, _, g' 7 _ rfl, fun w52 h52 => ?_⟩
    have hH1O : HtOk H1 := by rw [hH1]; exact hO H hm
    refine (Free_k H1 hH1O q2 d2 w52 (l2.ext h52)).mono fun v w53 ⟨e53, s, f', hv, hs⟩ => ⟨e53, _, _, _, _, hv, fun b58 hb58 w59 h59 => ?_⟩
    obtain ⟨rfl, rfl⟩ := hs okH1'
    refine (nAdd_k (subN H1.has H1.used) a w59).mono fun v w60 ⟨e60, s, f', hv, hs⟩ => ⟨e60, _, _, _, _, hv, fun b65 hb65 w66 x66 => ?_⟩
    have hadd : addN (subN H1.has H1.used) a = subN H.has H.used := by
      rw [hsub1]
      show (⟨_, _, _⟩ : Nd) = ⟨_, _, _⟩
      simp only [subN]
      congr 1 <;> omega
    obtain ⟨rfl, rfl⟩ : f' = 0 ∧ s = subN H.has H.used := by
      rcases hs with ⟨_, _, _, h1, h2⟩ | ⟨hno, _⟩ | ⟨_, _, hno, _⟩
      · exact ⟨h1, h2.trans hadd⟩
      · exact absurd ⟨left_ok okH1', ha⟩ hno
      · rw [hadd] at hno; exact absurd (left_ok hoH) hno
    have h66 := h11.trans (extB_ext x66)
    refine good_lit (n := 3) [0, 0, 0] rfl rfl (by omega) (by omega) (fun w67 e67 => ⟨fun _ w74 h74 => ?_, fun h => by simp at h⟩) w66 (Ext.refl _)
    exact eqN_k (a := subN H.has H.used) (b := subN H.has H.used) ⟨Ext.refl _, _, rfl, fun w77 h77 => ⟨by simp, (h66.trans e67).trans h77⟩⟩
end Go.Proofs.Ytdhhggfplacenaa
