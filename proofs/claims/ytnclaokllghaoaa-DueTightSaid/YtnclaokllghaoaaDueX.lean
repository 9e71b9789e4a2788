/- The law DueLess: who has less to do, longer for it, or is gone. -/
import Derived.Test.YtnclaokllghaoaaDueM
import Derived.Test.YtnclaokllghaoaaTxtB
set_option linter.unusedVariables false
set_option linter.unusedSimpArgs false
namespace Go.Proofs.Ytnclaokllghaoaa
open Go.Sx Go.RowKit

theorem enc3 (x : T) : (enc x).length = 3 := rfl
theorem encOne (x : T) : ∀ u ∈ enc x, u.oneCell' = true := fun u hu => by simp [enc] at hu; rcases hu with rfl | rfl | rfl <;> rfl

theorem CloneT_k (q : Option Addr) (c : Nat) (D : List T) (h60 : D.length ≤ 100000) (w : World) (hD : Tasks w q D) :
    FnP Try.prog F_slices_Clone_api_Task_api_Task #[.slice q D.length c] w fun v w' => Ext w w' ∧ ∃ p' c', v = .slice p' D.length c' ∧ Own w.heap.size w' T_Task 3 p' D.length c' (D.flatMap enc) := by
  refine ok_slices_Clone_api_Task_api_Task q D.length c w _ ⟨fun hn w0 h0 => ?_, fun hn => ?_⟩
  · cases D with
    | nil => exact ⟨h0, none, 0, rfl, Own.nil⟩
    | cons x r => exact absurd hn (tasks_at hD (k := 0) (by omega) (by simp)).1
  · exact clone_txt (Q := fun v w' => Ext w w' ∧ ∃ p' c', v = .slice p' D.length c' ∧ Own w.heap.size w' T_Task 3 p' D.length c' (D.flatMap enc)) elem_sl_Task (by omega) (recs_cells enc3 hD) (recs_len enc3 D) (recs_one encOne D) (by omega) (by omega) hn fun p' c' w' hx o => ⟨hx, p', c', rfl, o⟩

theorem DeleteT_k (B : Nat) (q : Option Addr) (c : Nat) (D : List T) (i : Nat) (hi : i < D.length) (w : World) (o : Own B w T_Task 3 q D.length c (D.flatMap enc)) :
    FnP Try.prog F_slices_Delete_api_Task_api_Task #[.slice q D.length c, .int .i64 i, .int .i64 ((i : Int) + 1)] w fun v w' => Grew w w' q q ∧ v = .slice q (D.eraseIdx i).length c ∧ Own B w' T_Task 3 q (D.eraseIdx i).length c ((D.eraseIdx i).flatMap enc) := by
  have hle := o.le
  have hlen : (D.eraseIdx i).length = i + (D.length - (i + 1)) := by rw [List.length_eraseIdx, if_pos hi]; omega
  have hE : D.eraseIdx i = D.take i ++ D.drop (i + 1) := List.eraseIdx_eq_take_drop_succ ..
  refine ok_slices_Delete_api_Task_api_Task q D.length c i (i + 1) w _ ⟨by omega, by omega, by omega, by omega, fun h => by omega, fun _ => ?_⟩
  refine delete_txt (i := (i : Int)) (j := (i : Int) + 1) (Q := fun v w' => Grew w w' q q ∧ v = .slice q (D.eraseIdx i).length c ∧ Own B w' T_Task 3 q (D.eraseIdx i).length c ((D.eraseIdx i).flatMap enc)) elem_sl_Task (by omega) (by intro u hu; simp [Value.cells] at hu; subst hu; rfl) o (recs_one encOne D) (by omega) (by omega) (by omega) fun w' g o' => ?_
  rw [show ((i : Int) + 1).toNat = i + 1 by omega, Int.toNat_natCast] at o' ⊢
  rw [recs_take enc3, recs_drop enc3, ← List.flatMap_append, ← hE] at o'
  exact ⟨g, by rw [hlen], by rw [hlen]; exact o'⟩

theorem sumN_list (g : T → Int) (l : List T) : sumN l.length (fun i => g (tk l i)) = sumL (l.map g) := by
  have key : ∀ m, m ≤ l.length → sumN m (fun i => g (tk l i)) = sumL ((l.map g).take m) := by
    intro m
    induction m with
    | zero => intro _; simp [sumN, sumL]
    | succ m ih =>
      intro hm
      have hl : m < (l.map g).length := by simp; omega
      rw [sumL_take_succ _ hl]
      simp only [sumN]
      rw [ih (by omega)]
      congr 1
      rw [List.getD_eq_getElem?_getD, List.getElem?_map]
      unfold tk
      rw [List.getD_eq_getElem?_getD, List.getElem?_eq_getElem (by omega)]; rfl
  have := key l.length (Nat.le_refl _)
  rw [this, List.take_of_length_le (by simp)]

def dem (a b : Int) (t : T) : Int := if decide (a ≤ t.a ∧ t.d ≤ b) = true then t.n else 0
theorem demand_eq (l : List T) (a b : Int) : demand l a b = sumL (l.map (dem a b)) := sumN_list (dem a b) l

theorem sumL_split (g : T → Int) (l : List T) (i : Nat) (hi : i < l.length) (x : T) : sumL ((l.set i x).map g) = sumL ((l.take i).map g) + g x + sumL ((l.drop (i + 1)).map g) ∧
    sumL (l.map g) = sumL ((l.take i).map g) + g (tk l i) + sumL ((l.drop (i + 1)).map g) ∧ sumL ((l.eraseIdx i).map g) = sumL ((l.take i).map g) + sumL ((l.drop (i + 1)).map g) := by
  have ht : tk l i = l[i] := by unfold tk; rw [List.getD_eq_getElem?_getD, List.getElem?_eq_getElem hi]; rfl
  have h1 : l = l.take i ++ tk l i :: l.drop (i + 1) := by rw [ht, List.getElem_cons_drop, List.take_append_drop]
  refine ⟨?_, ?_, ?_⟩
  · rw [List.set_eq_take_append_cons_drop, if_pos hi]
    simp only [List.map_append, List.map_cons, sumL_append, sumL]; omega
  · conv => lhs; rw [h1]
    simp only [List.map_append, List.map_cons, sumL_append, sumL]; omega
  · rw [List.eraseIdx_eq_take_drop_succ]
    simp only [List.map_append, sumL_append]

theorem feas_set {l : List T} (hok : okL l) {i : Nat} (hi : i < l.length) {x : T} (h1 : x.a ≤ (tk l i).a) (h2 : (tk l i).d ≤ x.d) (h3 : x.n ≤ (tk l i).n) (h : Feas l) : Feas (l.set i x) := by
  intro a b ha hab hb
  have h := h a b ha hab hb
  rw [demand_eq] at h ⊢
  have ht := okT_at hok hi
  unfold okT at ht
  obtain ⟨e1, e2, _⟩ := sumL_split (dem a b) l i hi x
  have : dem a b x ≤ dem a b (tk l i) := by
    unfold dem
    simp only [decide_eq_true_eq]
    split <;> split <;> omega
  omega
theorem feas_erase {l : List T} (hok : okL l) {i : Nat} (hi : i < l.length) (h : Feas l) : Feas (l.eraseIdx i) := by
  intro a b ha hab hb
  have h := h a b ha hab hb
  rw [demand_eq] at h ⊢
  have ht := okT_at hok hi
  unfold okT at ht
  obtain ⟨_, e1, e2⟩ := sumL_split (dem a b) l i hi default
  have : 0 ≤ dem a b (tk l i) := by
    unfold dem
    split <;> omega
  omega

theorem core_DueLess (W : World) : ∀ l : Option Addr, ∀ ll : Nat, ∀ lc : Nat, SlcArg Try.prog W 29 l ll lc → ∀ at_v : Int, InR .i64 at_v → ∀ x_0 : Int, InR .i64 x_0 → ∀ x_1 : Int, InR .i64 x_1 → ∀ x_2 : Int, InR .i64 x_2 →
    FnP Try.prog F_shiftbellkeep_DueLess #[(.slice l ll lc), (.int .i64 at_v), (.agg #[(.int .i64 x_0), (.int .i64 x_1), (.int .i64 x_2)])] W fun v W' => v = .bool true ∧ Ext W W' := by
  intro p ll lc hl at_v hat x0 hx0 x1 hx1 x2 hx2
  obtain ⟨l, rfl, hs, hT⟩ := tasks_open hl
  refine ok_shiftbellkeep_DueLess _ _ _ _ _ _ _ W _ ?_
  intro b0 hb0 w1 h1
  refine (dues_k w1).mono fun v w2 ⟨e2, hv⟩ => ⟨e2, true, hv, fun h => by simp at h, fun _ w4 h4 => ?_⟩
  refine (Fits_k p lc l hs w4 (hT.ext h4)).mono fun v w5 ⟨e5, b1, hv, n1, o1⟩ => ⟨e5, b1, _, hv, fun hbad w8 h8 => ⟨b_true ?_, h8⟩, fun hgd => ?_⟩
  · by_cases he : errC l = 0
    · simp [he]
    · simp [n1 (fun h => he (errC_ok.2 h))]
  obtain ⟨⟨⟨hok, rfl⟩, ha0⟩, ha1⟩ := hgd
  have hok := errC_ok.1 hok
  have hF := (o1 hok).1 rfl
  have hlen := hok.1
  obtain ⟨a, rfl⟩ : ∃ a : Nat, at_v = a := ⟨at_v.toNat, by omega⟩
  obtain ⟨g1, g2, g3, g4, g5⟩ := tasks_at hT ha0 ha1
  refine ⟨g1, ha0, ha1, g2, _, g3, _, g4, _, g5, fun b11 hb11 => ⟨fun _ w12 h12 => ⟨rfl, h12⟩, fun hle w12 x12 => ?_⟩⟩
  simp only [Int.toNat_natCast] at hle g3 g4 g5
  have h12 := extB_ext x12
  have hb0' : b0 < w12.heap.size := x12.lt b0 (by simp)
  have hb11' : b11 < w12.heap.size := x12.lt b11 (by simp)
  refine (CloneT_k p lc l (by omega) w12 (hT.ext h12)).mono fun v w13 ⟨e13, p', c', hv, o13⟩ => ⟨e13, p', _, c', hv, o13.ne1 (by omega) (by omega), ha0, by omega, ?_⟩
  have hlt13 := fun x hx => (o13.lt x hx).1
  refine store_own (off := a * 3) (vs := enc ⟨x0, x1, x2⟩) o13 (by rw [pIdx_map]; simp) (by rw [recs_len enc3]; simp [enc]; omega) (by simp [enc]) (by intro v hv; exact encOne _ v hv) (fun b hb x hx => by
    have := hlt13 x hx
    simp at hb; rcases hb with rfl | rfl <;> omega) fun w17 o17 g17 w18 h18 => ?_
  rw [recs_set enc3 _ _ _ (by omega)] at o17
  have hx17 : Ext W w17 := g17.ext (h12.trans e13) (o13.weak h12.size)
  have hl2 : (l.set a ⟨x0, x1, x2⟩).length = l.length := by simp
  have hs2 : Small (l.set a ⟨x0, x1, x2⟩) := ⟨by rw [hl2]; exact hs.1, fun t ht => by
    rcases List.mem_or_eq_of_mem_set ht with h | rfl
    · exact hs.2 t h
    · exact ⟨hx0, hx1, hx2⟩⟩
  have hfit := Fits_k p' c' (l.set a ⟨x0, x1, x2⟩) hs2 w18 (Own.recs (o17.ext h18) (by intro x hx; rfl))
  rw [hl2] at hfit
  refine hfit.mono fun v w19 ⟨e19, b2, hv, n2, o2⟩ => ⟨e19, b2, _, hv, fun w22 x22 => ?_⟩
  have h22 := extB_ext x22
  have hx22 := hx17.trans h22
  have hbs : ∀ b ∈ [b0, b11], b < w22.heap.size := fun b hb => x22.lt b hb
  refine (CloneT_k p lc l (by omega) w22 (hT.ext hx22)).mono fun v w23 ⟨e23, q', d', hv, o23⟩ => ⟨e23, q', _, d', hv, i64 (by omega), fun w27 x27 => ?_⟩
  have h27 := extB_ext x27
  have o27 := o23.ext h27
  refine (DeleteT_k _ q' d' l a (by omega) w27 o27).mono fun v w28 ⟨g28, hv, o28⟩ => ⟨fun b hb => ?_, q', _, d', hv, fun w32 h32 => ?_⟩
  · refine g28.by_.block b (x27.lt b hb) fun he => ?_
    have hbb := hbs b hb
    cases hq : q' with
    | none => rw [hq] at he; cases he
    | some y =>
      rw [hq] at he
      have := (o27.lt y hq).1
      simp [blk] at he; omega
  have hx28 : Ext W w28 := g28.ext ((hx22.trans e23).trans h27) (o27.weak hx22.size)
  have herase := List.length_eraseIdx_le l a
  have hok3 : okL (l.eraseIdx a) := ⟨by omega, fun t ht => hok.2 t (List.mem_of_mem_eraseIdx ht)⟩
  refine (Fits_k q' d' (l.eraseIdx a) ⟨by omega, fun t ht => hs.2 t (List.mem_of_mem_eraseIdx ht)⟩ w32 (Own.recs (o28.ext h32) (by intro x hx; rfl))).mono fun v w33 ⟨e33, b3, hv, n3, o3⟩ => ⟨e33, b3, _, hv, fun w36 h36 => ⟨b_true ?_, hx28.trans h36⟩⟩
  rw [(o3 hok3).2 (feas_erase hok (by omega) hF), errC_ok.2 hok3]
  by_cases he : errC (l.set a ⟨x0, x1, x2⟩) = 0
  · rw [(o2 (errC_ok.1 he)).2 (feas_set hok (by omega) hle.1.1 hle.1.2 hle.2 hF)]; simp
  · simp [he]
end Go.Proofs.Ytnclaokllghaoaa
