/- Scripts with gaps: Plain; the laws of names, and of scripts one behind the other. -/
import Derived.Test.YtjeboeahhhhbdaaTmC
import Derived.Test.YtjeboeahhhhbdaaSxC
set_option linter.unusedVariables false
set_option linter.unusedSimpArgs false
namespace Go.Proofs.Ytjeboeahhhhbdaa
open Go.Sx Go.RowKit

theorem vOf_nil : vOf [] = fun _ => [] := by funext n; rfl
theorem lbs_nil {w : World} : Lbs w none [] := fun i x hx => by simp at hx
theorem Plain_k (s : ByteArray) (hs : s.size ≤ 2000) (L : List Sg) (hL : Segs s.data.toList L true) (h0 : gaps L = []) (w : World) :
    FnP Try.prog F_tmpl_Plain #[.string s] w fun v w' => Ext w w' ∧ v = .tuple #[.string (ofL (flat (fun _ => []) L)), .bool true] := by
  have hfl := hL.short
  rw [← size_list] at hfl
  refine ok_tmpl_Plain s w _ fun w0 h0' => (Names_k s (by omega) w0).mono fun v w1 ⟨e1, p, n, c, e, hv, hr⟩ => ⟨e1, p, n, c, e, hv, fun hbad => ?_, fun _ w6 h6 => ?_⟩
  · exfalso
    rcases hr with ⟨_, _, h⟩ | ⟨he, _, M, hM, hn, _⟩
    · exact h hs L hL
    · obtain ⟨rfl, _⟩ := hM.uniq hL
      have : names M = [] := by unfold names; rw [h0]; rfl
      rw [this] at hn
      simp at hn
      omega
  · refine (Fill_k s (by omega) none 0 [] (by simp) (by simp) (by simp) w6 lbs_nil).mono fun v w7 ⟨e7, t, e, hv, h1, h2, h3⟩ => ⟨e7, t, e, hv, fun w10 h10 => ⟨(h0'.trans e1).trans h10, ?_⟩⟩
    have he := ((h3 L hs hL (by simp) ⟨by simp, by simp [keys]⟩).1 (by rw [h0]; simp)).1 (by rw [vOf_nil]; omega)
    obtain ⟨_, _, _, M, hM, _, _, ht⟩ := h2 he
    obtain ⟨rfl, _⟩ := hM.uniq hL
    rw [ht, he, vOf_nil]; rfl
theorem scripts_k (w : World) : FnP Try.prog F_shiftbellkeep_scripts #[] w fun v w' => Ext w w' ∧ v = .bool true := by
  have hL : Segs (⟨#[97, 36, 36]⟩ : ByteArray).data.toList [.txt [97], .txt [36], .txt []] true := Segs.dol (a := [97]) (r := []) (by decide) (.stop (by decide))
  refine ok_shiftbellkeep_scripts w _ fun w0 h0 => (Plain_k _ (by decide) _ hL rfl w0).mono fun v w1 ⟨e1, hv⟩ => ⟨e1, _, _, hv, fun w4 h4 => ⟨h4, ?_⟩⟩
  have : ofL (flat (fun _ => []) [.txt [97], .txt [36], .txt []]) = (⟨#[97, 36]⟩ : ByteArray) := rfl
  rw [this]; simp

theorem lb_size' {s : ByteArray} (h : lbB s = true) : s.size ≤ 20 := by
  unfold lbB at h
  simp only [Bool.and_eq_true, decide_eq_true_eq] at h
  exact h.1.1.1.2
def bare (y : By) : Lb := ⟨ofL y, ⟨#[]⟩⟩
theorem keys_bare (l : List By) : keys (l.map bare) = l.map ofL := by unfold keys; rw [List.map_map]; rfl
theorem kOk_bare {s : By} {L : List Sg} {b : Bool} (h : Segs s L b) : kOk ((names L).map bare) := by
  refine ⟨fun x hx => ?_, ?_⟩
  · obtain ⟨y, hy, rfl⟩ := List.mem_map.1 hx
    exact h.label y (names_mem.1 hy)
  · rw [keys_bare, List.nodup_iff_pairwise_ne, List.pairwise_map]
    exact (names_nodup L).imp fun hab he => hab (ofL_inj he)
theorem vOf_bare (l : List By) : vOf (l.map bare) = fun _ => [] := by
  funext n
  unfold vOf
  split
  · rename_i x hx
    obtain ⟨y, _, rfl⟩ := List.mem_map.1 (findL_mem hx).1
    rfl
  · rfl
theorem encLb_len (x : Lb) : (encLb x).length = 2 := rfl

theorem core_TmplNames (W : World) : ∀ s : ByteArray, s.size ≤ 9223372036854775807 → FnP Try.prog F_shiftbellkeep_TmplNames #[.string s] W fun v W' => v = .bool true ∧ Ext W W' := by
  intro s hs
  refine ok_shiftbellkeep_TmplNames s W _ fun w0 h0 => (scripts_k w0).mono fun v w1 ⟨e1, hv⟩ => ⟨e1, _, hv, fun h => by (cases h), fun _ w3 h3 => ?_⟩
  refine (Names_k s hs w3).mono fun v w4 ⟨e4, p, n, c, e, hv, hr⟩ => ⟨e4, p, n, c, e, hv, fun hbad w9 h9 => ⟨?_, (h3.trans e4).trans h9⟩, fun ⟨he, hn8⟩ => ?_⟩
  · rcases hr with ⟨h1, h2, _⟩ | ⟨h1, _⟩
    · subst h2; simp
    · simp [h1]
  rcases hr with ⟨h1, _⟩ | ⟨_, hs2, L, hL, hn, oN⟩
  · exact absurd he h1
  have x4 := h3.trans e4
  refine ⟨fun q m d k w' => Ext w4 w' ∧ 0 ≤ k ∧ k ≤ n ∧ m = k.toNat ∧ Own w4.heap.size w' T_Label 2 q m d ((((names L).take k.toNat).map bare).flatMap encLb), fun _ _ _ k _ => (n - k).toNat, ⟨Ext.refl _, by omega, by omega, rfl, Own.nil⟩, ?_⟩
  rintro q m d k w12 ⟨x12, hk0, hk1, rfl, o12⟩
  refine ⟨fun hlt => ?_, fun hge w13 h13 => ?_⟩
  · obtain ⟨y, hy⟩ : ∃ y, (names L)[k.toNat]? = some y := ⟨_, List.getElem?_eq_getElem (by omega)⟩
    have hc : cell w12 (pIdx p k 1) 0 = some (.string (ofL y)) := by
      rw [cell_pIdx]; exact (oN.ext x12).cells _ _ (by simp [hy])
    refine ⟨fun hq => cell_p hc (pIdx_none.2 hq), hk0, hlt, _, hc, ?_⟩
    refine push elem_sl_Label (by omega) o12 x12.size rfl (by intro u hu; simp [Value.cells] at hu; rcases hu with rfl | rfl <;> rfl) (by omega) (by omega) (by omega) fun p' c' w' o' g' np => ⟨i64 (by omega), ⟨g'.ext x12 o12, by omega, by omega, by omega, ?_⟩, by simp only []; omega⟩
    rw [show (k + 1).toNat = k.toNat + 1 by omega, List.take_add_one, hy]
    simpa [bare, Value.cells] using o'
  · obtain rfl : k = n := by omega
    rw [Int.toNat_natCast] at o12 ⊢
    have hdle := o12.le
    rw [hn, List.take_length] at o12
    have hlen : ((names L).map bare).length = n := by rw [List.length_map]; exact hn.symm
    have hR : Lbs w12 q ((names L).map bare) := by
      rw [← hn] at o12
      exact o12.recs fun x _ => rfl
    have hfl := hL.short
    rw [← size_list] at hfl
    have F := fun (r : Option Addr) (b : Nat) (l : List Lb) (hl : l.length ≤ 8) (hb : ∀ x ∈ l, ∃ y, x = bare y) (hk : kOk l) (w : World) (h : Lbs w r l) =>
      Fill_k s hs r b l (by omega) (fun x hx => by have := lb_size' (hk.1 x hx); omega) (fun x hx => by obtain ⟨y, rfl⟩ := hb x hx; exact Nat.zero_le _) w h
    rw [show (Value.slice q n d) = .slice q ((names L).map bare).length d by rw [hlen]]
    refine (F q d _ (by omega) (fun x hx => by obtain ⟨y, _, rfl⟩ := List.mem_map.1 hx; exact ⟨y, rfl⟩) (kOk_bare hL) w13 (hR.ext h13)).mono fun v w14 ⟨e14, t, e, hv, h1, h2, h3⟩ => ⟨e14, t, e, hv, fun hbad => ?_, fun ⟨he0, _⟩ => ⟨fun _ w17 h17 => ⟨rfl, (x4.trans x12).trans h17⟩, fun hne => ⟨by omega, by omega, by omega, fun w17 h17 => ?_⟩⟩⟩
    · exfalso
      have hz := ((h3 L hs2 hL (by omega) (kOk_bare hL)).1 (fun y hy => by rw [keys_bare]; exact List.mem_map.2 ⟨y, names_mem.2 hy, rfl⟩)).1 (by rw [vOf_bare]; omega)
      obtain ⟨_, _, _, M, hM, _, _, ht⟩ := h2 hz
      obtain ⟨rfl, _⟩ := hM.uniq hL
      rw [vOf_bare] at ht
      have : t.size ≤ s.size := by rw [ht, ofL_size]; omega
      omega
    · cases hnl : names L with
      | nil => rw [hnl] at hn; simp at hn; omega
      | cons y0 rest =>
        have hk := kOk_bare hL
        rw [hnl] at hk hR hn
        simp only [List.length_cons] at hn
        have hkr : kOk (rest.map bare) := ⟨fun x hx => hk.1 x (by simp only [List.map_cons, List.mem_cons]; exact .inr hx), by
          have := hk.2
          simp only [List.map_cons, keys, List.nodup_cons] at this
          exact this.2⟩
        have hRr : Lbs w12 (pCut q d 1 2) (rest.map bare) := by
          have hq : q ≠ none := hR.ne (x := bare y0) (by simp) (by simp)
          intro i x hx j u hu
          have := hR (i + 1) x (by simpa using hx) j u hu
          have hi := (List.getElem?_eq_some_iff.1 hx).1
          rw [List.length_map] at hi
          rw [cell_pCut _ _ _ _ _ _ (show d ≠ (1 : Int).toNat by have : (1 : Int).toNat = 1 := rfl; omega), show (1 : Int).toNat = 1 from rfl]
          rw [show 1 * 2 + (i * 2 + j) = (i + 1) * 2 + j by omega]
          exact this
        have hll : ((n : Int) - 1).toNat = (rest.map bare).length := by rw [List.length_map]; omega
        rw [hll]
        refine (F (pCut q d 1 2) (d - (1 : Int).toNat) _ (by rw [List.length_map]; omega) (fun x hx => by obtain ⟨y, _, rfl⟩ := List.mem_map.1 hx; exact ⟨y, rfl⟩) hkr w17 (hRr.ext h17)).mono fun v w18 ⟨e18, t', e', hv, k1, k2, k3⟩ => ⟨e18, t', e', hv, fun w21 h21 => ⟨?_, (x4.trans x12).trans h21⟩⟩
        have h5 := (k3 L hs2 hL (by rw [List.length_map]; omega) hkr).2 ⟨y0, names_mem.1 (by rw [hnl]; simp), by
          rw [keys_bare]
          have := hk.2
          rw [keys_bare] at this
          simp only [List.map_cons, List.nodup_cons] at this
          exact this.1⟩
        subst h5
        rw [k1 (by omega)]
        simp
end Go.Proofs.Ytjeboeahhhhbdaa
