/- The laws QueueSorted and QueueAgain. -/
import Derived.Test.YtkjekinnemgkkaaQuE
set_option linter.unusedVariables false
set_option linter.unusedSimpArgs false
namespace Go.Proofs.Ytkjekinnemgkkaa
open Go.Sx Go.RowKit

theorem recI_at {w : World} {p : Option Addr} {L : List (Int × Int)} (h : Recs 2 encI w p L) {k : Int} (h0 : 0 ≤ k) (hk : k < L.length) :
    p ≠ none ∧ (pIdx p k 2) ≠ none ∧ cell w (pIdx p k 2) 0 = some (.int .i64 (L.getD k.toNat (0, 0)).1) ∧ cell w (pIdx p k 2) 1 = some (.int .i64 (L.getD k.toNat (0, 0)).2) := by
  have hx : L[k.toNat]? = some (L.getD k.toNat (0, 0)) := by rw [List.getD_eq_getElem?_getD, List.getElem?_eq_getElem (by omega)]; rfl
  have hne := h.ne (x := L.getD k.toNat (0, 0)) (getD_mem _ _ (by omega)) (by simp [encI])
  exact ⟨hne, fun hc => hne (pIdx_none.1 hc), h.at h0 hx (j := 0) rfl, h.at h0 hx (j := 1) rfl⟩

theorem index_k (p : Option Addr) (c : Nat) (L : List (Int × Int)) (h63 : L.length ≤ 1000000) (a b : Int) (w : World) (h : Recs 2 encI w p L) :
    FnP Try.prog F_slices_Index_api_Item_api_Item #[.slice p L.length c, .agg #[.int .i64 a, .int .i64 b]] w fun v w' => Ext w w' ∧ ∃ r : Int, v = .int .i64 r ∧ r < L.length ∧ (0 ≤ r → L.getD r.toNat (0, 0) = (a, b)) ∧ (r < 0 → (a, b) ∉ L) := by
  refine ok_slices_Index_api_Item_api_Item p L.length c a b w _ fun b0 _ => ⟨fun k w' => w' = w ∧ 0 ≤ k ∧ k ≤ L.length ∧ ∀ j : Nat, (j : Int) < k → L.getD j (0, 0) ≠ (a, b), fun k _ => (L.length - k).toNat, ⟨rfl, by omega, by omega, fun j hj => by omega⟩, ?_⟩
  rintro k w ⟨rfl, hk0, hk1, hno⟩
  refine ⟨fun hlt => ?_, fun hge w4 h4 => ⟨h4, _, rfl, by omega, fun h => by omega, fun _ hm => ?_⟩⟩
  · obtain ⟨g1, g2, g3, g4⟩ := recI_at h hk0 hlt
    refine ⟨g1, hk0, hlt, g2, _, g3, _, g4, fun w6 h6 => run_eqs (n := 2) (k := .i64) (by kernel_rfl) (by kernel_rfl) (by kernel_rfl) (by kernel_rfl) [a, b] [_, _] rfl rfl ⟨Ext.refl _, _, rfl, fun hyes w9 h9 => ⟨h9, _, rfl, by omega, fun _ => ?_, fun h => by omega⟩, fun hn => ⟨i64 (by omega), ⟨rfl, by omega, by omega, fun j hj => ?_⟩, by simp only []; omega⟩⟩⟩
    · simp only [decide_eq_true_eq, List.cons.injEq, and_true] at hyes
      rw [hyes.1, hyes.2]
    · simp only [decide_eq_false_iff_not, List.cons.injEq, and_true] at hn
      by_cases hjk : (j : Int) < k
      · exact hno j hjk
      · obtain rfl : j = k.toNat := by omega
        exact fun he => hn (by rw [he]; exact ⟨rfl, rfl⟩)
  · obtain ⟨i, hi⟩ := List.mem_iff_getElem?.1 hm
    have hlt := (List.getElem?_eq_some_iff.1 hi).1
    exact hno i (by omega) (by rw [List.getD_eq_getElem?_getD, hi]; rfl)

theorem equal_k (p q : Option Addr) (c d : Nat) (L G : List (Int × Int)) (h63 : L.length ≤ 1000000) (w : World) (h : Recs 2 encI w p L) (hg : Recs 2 encI w q G) :
    FnP Try.prog F_slices_Equal_api_Item_api_Item #[.slice p L.length c, .slice q G.length d] w fun v w' => Ext w w' ∧ v = .bool (decide (L = G)) := by
  refine ok_slices_Equal_api_Item_api_Item p L.length c q G.length d w _ ⟨fun hne w0 h0 => ⟨h0, ?_⟩, fun he => ⟨fun k w' => w' = w ∧ 0 ≤ k ∧ k ≤ L.length ∧ ∀ j : Nat, (j : Int) < k → L.getD j (0, 0) = G.getD j (0, 0), fun k _ => (L.length - k).toNat, ⟨rfl, by omega, by omega, fun j hj => by omega⟩, ?_⟩⟩
  · rw [decide_eq_false]; rintro rfl; exact hne rfl
  rintro k w ⟨rfl, hk0, hk1, hno⟩
  refine ⟨fun hlt => ?_, fun hge w3 h3 => ⟨h3, ?_⟩⟩
  · obtain ⟨g1, g2, g3, g4⟩ := recI_at h hk0 hlt
    obtain ⟨f1, f2, f3, f4⟩ := recI_at hg hk0 (by omega)
    refine ⟨g1, hk0, hlt, g2, _, g3, _, g4, f1, hk0, by omega, f2, _, f3, _, f4, fun w7 h7 => run_nes (n := 2) (k := .i64) (by kernel_rfl) (by kernel_rfl) (by kernel_rfl) (by kernel_rfl) [_, _] [_, _] rfl rfl ⟨Ext.refl _, _, rfl, fun hyes w10 h10 => ⟨h10, ?_⟩, fun hn => ⟨i64 (by omega), ⟨rfl, by omega, by omega, fun j hj => ?_⟩, by simp only []; omega⟩⟩⟩
    · simp only [Bool.not_eq_true', decide_eq_false_iff_not, List.cons.injEq, and_true] at hyes
      rw [decide_eq_false]
      rintro rfl
      exact hyes ⟨rfl, rfl⟩
    · simp only [Bool.not_eq_false', decide_eq_true_eq, List.cons.injEq, and_true] at hn
      by_cases hjk : (j : Int) < k
      · exact hno j hjk
      · obtain rfl : j = k.toNat := by omega
        exact Prod.ext hn.1 hn.2
  · rw [decide_eq_true]
    apply List.ext_getElem (by omega)
    intro i h1 h2
    have := hno i (by omega)
    simpa [List.getD_eq_getElem?_getD, h1, h2] using this

theorem items_open {W : World} {l : Option Addr} {ll lc : Nat} (h : SlcArg Try.prog W T_Item l ll lc) : ∃ L : List (Int × Int), L.length = ll ∧ Recs 2 encI W l L := by
  obtain ⟨L, h1, _, h3⟩ := h.recs2 (t1 := T_int) (t2 := T_int) (k1 := .i64) (k2 := .i64) (by kernel_rfl) (by kernel_rfl) (by kernel_rfl) (by kernel_rfl) (fun a b => (a, b)) encI (fun a b => rfl)
  exact ⟨L, h1, h3⟩
theorem recs_items {B : Nat} {w : World} {p : Option Addr} {n d : Nat} {L : List Th} (h : Own B w T_Item 2 p n d (L.flatMap it)) : Recs 2 encI w p (L.map item) := by
  have : (L.map item).flatMap encI = L.flatMap it := by
    rw [List.flatMap_map]; rfl
  rw [← this] at h
  exact Own.recs h (by simp [encI])

/-- A list of items that falls falls when it is numbered. -/
theorem num_falls {L : List Th} (h : Falls L) : Falls (num (L.map item)) := by
  unfold num Falls
  rw [List.pairwise_map]
  refine List.Pairwise.imp_of_mem (R := fun i j => i < j) ?_ List.pairwise_lt_range
  intro i j hi hj hij
  rw [List.mem_range, List.length_map] at hi hj
  have := List.pairwise_iff_getElem.1 h i j hi hj hij
  unfold ahead nth at *
  simp only [List.getD_eq_getElem?_getD, List.getElem?_map, List.getElem?_eq_getElem hi, List.getElem?_eq_getElem hj, Option.map_some, Option.getD_some, item]
  omega

theorem core_QueueAgain (W : World) : ∀ l : Option Addr, ∀ ll : Nat, ∀ lc : Nat, SlcArg Try.prog W T_Item l ll lc → FnP Try.prog F_shiftbellkeep_QueueAgain #[.slice l ll lc] W fun v W' => v = .bool true ∧ Ext W W' := by
  intro l ll lc hl
  obtain ⟨L0, rfl, h⟩ := items_open hl
  refine ok_shiftbellkeep_QueueAgain _ _ _ W _ fun w0 h0 => queues_k.mono fun v w1 ⟨e1, hv⟩ => ⟨e1, true, hv, fun h => (by simp at h), fun _ w3 h3 => ?_⟩
  refine (sort_k l lc L0 (h.ext h3)).mono fun v w4 ⟨e4, out, d, L, e, hv, hne, he0⟩ => ⟨e4, out, L.length, d, e, hv, fun hn w9 h9 => ?_, fun he w9 h9 => ?_⟩
  · obtain ⟨rfl, _⟩ := hne hn
    exact ⟨rfl, (h3.trans e4).trans h9⟩
  · obtain ⟨hlen, hnd, oL, hp, hf⟩ := he0 he
    have hr := recs_items (oL.ext h9)
    have hl2 : (L.map item).length = L.length := by simp
    have hLl : L.length = L0.length := by rw [hp.length_eq]; simp [num]
    have hs := sort_k out d (L.map item) hr
    rw [hl2] at hs
    refine hs.mono fun v w10 ⟨e10, out2, d2, L2, e2, hv2, hne2, he2⟩ => ⟨e10, out2, L2.length, d2, e2, hv2, fun hz w15 h15 => ?_, fun hz => ?_⟩
    · obtain ⟨_, _, oL2, hp2, hf2⟩ := he2 hz
      have hr2 := recs_items (oL2.ext h15)
      have hl3 : (L2.map item).length = L2.length := by simp
      have hq := equal_k out out2 d d2 (L.map item) (L2.map item) (by omega) w15 (((hr.ext e10).ext h15)) hr2
      rw [hl2, hl3] at hq
      refine hq.mono fun v w16 ⟨e16, hv⟩ => ⟨e16, _, hv, fun w18 h18 => ⟨b_true ?_, ((((h3.trans e4).trans h9).trans e10).trans h18)⟩⟩
      have : L2 = num (L.map item) := falls_unique hp2 hf2 (num_falls hf) ((hp2.map _).nodup_iff.2 (num_born _))
      rw [decide_eq_true_iff, this, num_item]
    · exact absurd ⟨by omega, by
        have : ((L.map item).map (·.2)).Perm (L0.map (·.2)) := by
          have := (hp.map item).map (·.2)
          rwa [num_item] at this
        exact this.nodup_iff.2 hnd⟩ (hne2 hz).2

theorem core_QueueSorted (W : World) : ∀ l : Option Addr, ∀ ll : Nat, ∀ lc : Nat, SlcArg Try.prog W T_Item l ll lc → FnP Try.prog F_shiftbellkeep_QueueSorted #[.slice l ll lc] W fun v W' => v = .bool true ∧ Ext W W' := by
  intro l ll lc hl
  obtain ⟨L0, rfl, h⟩ := items_open hl
  refine ok_shiftbellkeep_QueueSorted _ _ _ W _ fun w0 h0 => queues_k.mono fun v w1 ⟨e1, hv⟩ => ⟨e1, true, hv, fun h => (by simp at h), fun _ w3 h3 => ?_⟩
  refine (sort_k l lc L0 (h.ext h3)).mono fun v w4 ⟨e4, out, d, L, e, hv, hne, he0⟩ => ⟨e4, out, L.length, d, e, hv, fun hn w9 h9 => ?_, fun he => ?_⟩
  · obtain ⟨rfl, _⟩ := hne hn
    exact ⟨rfl, (h3.trans e4).trans h9⟩
  obtain ⟨hlen, hnd, oL, hp, hf⟩ := he0 he
  have hLl : L.length = L0.length := by rw [hp.length_eq]; simp [num]
  have hr := recs_items oL
  have hl2 : (L.map item).length = L.length := by simp
  have h4 := h.ext (h3.trans e4)
  refine ⟨fun hc => by omega, fun _ => ⟨fun k w' => w' = w4 ∧ 0 ≤ k, fun k _ => (L.length - k).toNat, ⟨rfl, by omega⟩, ?_⟩⟩
  rintro k w4' ⟨rfl, hk0⟩
  refine ⟨fun hlt => ?_, fun hge w12 h12 => ⟨rfl, (h3.trans e4).trans h12⟩⟩
  -- the thing at a place, and where it stands in the list that came
  have key : ∀ i : Nat, i < L.length → ∃ j, j < L0.length ∧ L[i]? = some (nth L0 j) ∧ (L.map item).getD i (0, 0) = L0.getD j (0, 0) := fun i hi => by
    obtain ⟨j, hj, he⟩ := mem_num (hp.mem_iff.1 (List.getElem_mem hi))
    refine ⟨j, hj, by rw [List.getElem?_eq_getElem hi, he], ?_⟩
    rw [List.getD_eq_getElem?_getD, List.getElem?_map, List.getElem?_eq_getElem hi, he]
    rfl
  have uniq : ∀ (r : Int) (j : Nat), j < L0.length → r < L0.length → (0 ≤ r → L0.getD r.toNat (0, 0) = ((L0.getD j (0, 0)).1, (L0.getD j (0, 0)).2)) → (r < 0 → ((L0.getD j (0, 0)).1, (L0.getD j (0, 0)).2) ∉ L0) → r = j := fun r j hj hr h1 h2 => by
    by_cases hneg : r < 0
    · exact absurd (getD_mem L0 (0, 0) hj) (h2 hneg)
    · have he := h1 (by omega)
      rcases Nat.lt_trichotomy r.toNat j with h | h | h
      · exact absurd (by rw [he]) (nodup_ne hnd h hj)
      · omega
      · exact absurd (by rw [he]) (nodup_ne hnd h (by omega))
  obtain ⟨g1, g2, g3, g4⟩ := recI_at hr hk0 (by omega)
  obtain ⟨j, hj, hLj, hej⟩ := key k.toNat (by omega)
  rw [hej] at g3 g4
  refine ⟨g1, hk0, hlt, g2, _, g3, _, g4, fun b14 _ w15 h15 => ?_⟩
  refine (index_k l lc L0 (by omega) _ _ w15 (h4.ext h15)).mono fun v w16 ⟨e16, r, hv, hr1, hr2, hr3⟩ => ⟨e16, r, hv, ?_⟩
  obtain rfl := uniq r j hj hr1 hr2 hr3
  refine ⟨fun _ hk => i64 (by omega), fun _ _ => g1, fun _ hk => by omega, fun _ hk => by omega, fun _ _ hc => g1 (pIdx_none.1 hc), fun hneg => by omega, fun _ => ⟨fun hkp => ?_, fun hk => ⟨i64 (by omega), ⟨rfl, by omega⟩, by simp only []; omega⟩⟩⟩
  obtain ⟨f1, f2, f3, f4⟩ := recI_at hr (k := k - 1) (by omega) (by omega)
  obtain ⟨i, hi, hLi, hei⟩ := key (k - 1).toNat (by omega)
  rw [hei] at f3 f4
  have hfall : ¬ ahead (nth L0 j) (nth L0 i) := by
    have := List.pairwise_iff_getElem.1 hf (k - 1).toNat k.toNat (by omega) (by omega) (by omega)
    rw [List.getElem?_eq_getElem (by omega)] at hLi hLj
    rw [Option.some.inj hLi, Option.some.inj hLj] at this
    exact this
  have hijne : i ≠ j := fun he => by
    subst he
    have hb := (hp.map (·.born)).nodup_iff.2 (num_born L0)
    unfold List.Nodup at hb
    rw [List.pairwise_map] at hb
    have := List.pairwise_iff_getElem.1 hb (k - 1).toNat k.toNat (by omega) (by omega) (by omega)
    rw [List.getElem?_eq_getElem (by omega)] at hLi hLj
    rw [Option.some.inj hLi, Option.some.inj hLj] at this
    exact this rfl
  have hpr : (L0.getD j (0, 0)).1 ≤ (L0.getD i (0, 0)).1 ∧ ((L0.getD i (0, 0)).1 = (L0.getD j (0, 0)).1 → i < j) := by
    unfold ahead nth at hfall
    simp only at hfall
    omega
  refine ⟨_, (by rw [pAdd_zero]; exact f3), fun _ => i64 (by omega), fun _ => f1, fun _ => by omega, fun _ => by omega, fun _ => f2, fun hc => by omega, fun _ => ⟨_, (by rw [pAdd_zero]; exact f3), fun _ => i64 (by omega), fun _ => f1, fun _ => by omega, fun _ => by omega, fun heq => ⟨f2, _, f3, _, f4, fun w22 h22 => ?_⟩, fun _ => ⟨i64 (by omega), ⟨rfl, by omega⟩, by simp only []; omega⟩⟩⟩
  refine (index_k l lc L0 (by omega) _ _ w22 (h4.ext h22)).mono fun v w23 ⟨e23, r, hv, s1, s2, s3⟩ => ⟨e23, r, hv, fun hle => ?_, fun _ => ⟨i64 (by omega), ⟨rfl, by omega⟩, by simp only []; omega⟩⟩
  obtain rfl := uniq r i hi s1 s2 s3
  have := hpr.2 heq
  omega
end Go.Proofs.Ytkjekinnemgkkaa
