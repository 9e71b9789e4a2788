/- The law HostBack. -/
import Derived.Test.YtblafknmfblgfaaHtD
import Derived.Test.YtblafknmfblgfaaEqF
set_option linter.unusedVariables false
set_option linter.unusedSimpArgs false
namespace Go.Proofs.Ytblafknmfblgfaa
open Go.Sx Go.RowKit

theorem eqLb_k (p : Option Addr) (c : Nat) (q : Option Addr) (d : Nat) (l : List Lb) (h63 : l.length ≤ 9223372036854775807) (w : World) (hp : Lbs w p l) (hq : Lbs w q l) :
    FnP Try.prog F_slices_Equal_api_Label_api_Label #[.slice p l.length c, .slice q l.length d] w fun v w' => Ext w w' ∧ v = .bool true := by
  refine ok_slices_Equal_api_Label_api_Label p l.length c q l.length d w _ ⟨fun h => absurd rfl h, fun _ => ?_⟩
  refine ⟨fun k w' => w' = w ∧ 0 ≤ k ∧ k ≤ l.length, fun k _ => (l.length - k).toNat, ⟨rfl, by omega, by omega⟩, ?_⟩
  rintro k w2 ⟨rfl, hk0, hk1⟩
  refine ⟨fun hlt => ?_, fun _ w3 h3 => ⟨h3, rfl⟩⟩
  have a0 := hp.idx default hk0 hlt (j := 0) rfl
  have a1 := hp.idx default hk0 hlt (j := 1) rfl
  have b0 := hq.idx default hk0 hlt (j := 0) rfl
  have b1 := hq.idx default hk0 hlt (j := 1) rfl
  refine ⟨fun h => cell_p a0 (pIdx_none.2 h), hk0, hlt, cell_p a0, _, a0, _, a1, fun h => cell_p b0 (pIdx_none.2 h), hk0, hlt, cell_p b0, _, b0, _, b1, fun w7 h7 => ?_⟩
  refine run_eqF (op := .neq) (n := 2) (by kernel_rfl) (by kernel_rfl) (by kernel_rfl) (by kernel_rfl) [.string (l.getD k.toNat default).key, .string (l.getD k.toNat default).val] [.string (l.getD k.toNat default).key, .string (l.getD k.toNat default).val] rfl rfl
    [some .string, some .string] (by kernel_rfl) (fun i o ho u v hu hv => ?_) (.inr rfl) fun b hb => ⟨Ext.refl _, b, rfl, fun ht => ?_, fun _ => ⟨i64 (by omega), ⟨rfl, by omega, by omega⟩, by simp only []; omega⟩⟩
  · match i with
    | 0 => simp at ho hu hv; subst ho hu hv; exact ⟨⟨_, rfl⟩, _, rfl⟩
    | 1 => simp at ho hu hv; subst ho hu hv; exact ⟨⟨_, rfl⟩, _, rfl⟩
    | i + 2 => simp at ho
  · have := hb.1 ht
    simp at this

theorem sameH_k (p : Option Addr) (c : Nat) (q : Option Addr) (d : Nat) (L : List Ht) (h63 : (L.length : Int) ≤ 9223372036854775807) (hO : ∀ h ∈ L, HtOk h) (w : World) (hp : HsAt w p L) (hq : HsAt w q L) :
    FnP Try.prog F_shiftbellkeep_sameHosts #[.slice p L.length c, .slice q L.length d] w fun v w' => Ext w w' ∧ v = .bool true := by
  refine ok_shiftbellkeep_sameHosts p L.length c q L.length d w _ fun w0 h0 => ?_
  refine FnP.mono (K := fun v w' => Ext w0 w' ∧ v = .bool true) ?_ fun v w1 ⟨e1, hv⟩ => ⟨e1, _, hv, fun w3 h3 => ⟨h3, rfl⟩⟩
  refine ok_slices_EqualFunc_api_Host_api_Host_api_Host_api_Host p L.length c q L.length d _ w0 _ ⟨fun h => absurd rfl h, fun _ => ?_⟩
  refine ⟨fun k w' => w' = w0 ∧ 0 ≤ k ∧ k ≤ L.length, fun k _ => (L.length - k).toNat, ⟨rfl, by omega, by omega⟩, ?_⟩
  rintro k w2 ⟨rfl, hk0, hk1⟩
  refine ⟨fun hlt => ?_, fun _ w3 h3 => ⟨h3, rfl⟩⟩
  obtain ⟨q1, d1, a1, a2, g, l1⟩ := (hp.ext h0).at hk0 hlt
  obtain ⟨q2, d2, b1, b2, g', l2⟩ := (hq.ext h0).at hk0 hlt
  have hm := hO _ (getD_mem L default (i := k.toNat) (by omega))
  generalize hHd : L.getD k.toNat default = H at g g' l1 l2 hm
  refine ⟨a1, hk0, hlt, a2, _, g 0 _ rfl, _, _, _, g 1 _ rfl, _, g 2 _ rfl, _, g 3 _ rfl, _, g 4 _ rfl, _, g 5 _ rfl, _, g 6 _ rfl, _, g 7 _ rfl, fun b13 _ => ?_⟩
  refine ⟨b1, hk0, hlt, b2, _, g' 0 _ rfl, _, _, _, g' 1 _ rfl, _, g' 2 _ rfl, _, g' 3 _ rfl, _, g' 4 _ rfl, _, g' 5 _ rfl, _, g' 6 _ rfl, _, g' 7 _ rfl, fun b24 _ w25 h25 => ?_⟩
  refine ⟨F_shiftbellkeep_sameHosts_1, #[], rfl, ?_⟩
  refine FnP.mono (K := fun v w' => Ext w25 w' ∧ v = .bool true) (ok_shiftbellkeep_sameHosts_1 H.name q1 H.labels.length d1 H.has.c H.has.m H.has.g H.used.c H.used.m H.used.g H.name q2 H.labels.length d2 H.has.c H.has.m H.has.g H.used.c H.used.m H.used.g w25 _ fun x0 _ x1 _ => ⟨fun _ w2' h2' => ?_, fun h => absurd rfl h⟩ : FnP Try.prog F_shiftbellkeep_sameHosts_1 #[hv H q1 d1, hv H q2 d2] w25 _) fun v w26 ⟨e26, hv⟩ => ⟨e26, _, hv, fun h => by (cases h), fun _ => ⟨i64 (by omega), ⟨rfl, by omega, by omega⟩, by simp only []; omega⟩⟩
  refine eqN_k (a := H.has) (b := H.has) ⟨Ext.refl _, _, rfl, fun _ w5 h5 => ?_, fun h => by simp at h⟩
  refine eqN_k (a := H.used) (b := H.used) ⟨Ext.refl _, _, rfl, fun _ w8 h8 => ?_, fun h => by simp at h⟩
  exact (eqLb_k q1 d1 q2 d2 H.labels hm.2.1 w8 (l1.ext (h25.trans h8)) (l2.ext (h25.trans h8))).mono fun v w9 ⟨e9, hv⟩ => ⟨e9, _, hv, fun w11 h11 => ⟨h11, rfl⟩⟩

theorem HsAt.one {w : World} {p : Option Addr} {L : List Ht} (h : HsAt w p L) {k : Int} (h0 : 0 ≤ k) (hk : k < L.length) {c : Nat} (hc : L.length ≤ c) : HsAt w (pCut p c k 8) [L.getD k.toNat default] := fun i x hx => by
  cases i with
  | succ i => simp at hx
  | zero =>
    simp at hx; subst hx
    obtain ⟨q, d, _, _, g, hl⟩ := h.at h0 hk
    refine ⟨q, d, fun j u hu => ?_, ?_⟩
    · have := g j u (by simpa [List.getD_eq_getElem?_getD] using hu)
      rw [cell_pCut _ _ _ _ _ _ (by omega)]
      rw [cell_pIdx] at this
      simpa using this
    · simpa [List.getD_eq_getElem?_getD] using hl

theorem getD_set_self {α : Type} (L : List α) (d x : α) {i : Nat} (h : i < L.length) : (L.set i x).getD i d = x := by
  rw [List.getD_eq_getElem?_getD, List.getElem?_set_self h]; rfl
theorem getD_set_ne {α : Type} (L : List α) (d x : α) {i k : Nat} (h : i ≠ k) : (L.set i x).getD k d = L.getD k d := by
  rw [List.getD_eq_getElem?_getD, List.getElem?_set_ne h, List.getD_eq_getElem?_getD]
theorem set_getD_self {α : Type} (L : List α) (d : α) {i : Nat} (h : i < L.length) : L.set i (L.getD i d) = L := by
  rw [show L.getD i d = L[i] by simp [List.getD_eq_getElem?_getD, h], List.set_getElem_self]

end Go.Proofs.Ytblafknmfblgfaa
