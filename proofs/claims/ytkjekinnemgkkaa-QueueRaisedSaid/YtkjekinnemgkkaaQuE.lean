/- What is sorted: a list that falls, in one way alone. -/
import Derived.Test.YtkjekinnemgkkaaQuD
set_option linter.unusedVariables false
set_option linter.unusedSimpArgs false
namespace Go.Proofs.Ytkjekinnemgkkaa
open Go.Sx Go.RowKit

theorem falls_unique : ∀ {L G : List Th}, L.Perm G → Falls L → Falls G → (L.map (·.born)).Nodup → L = G
  | [], G, hp, _, _, _ => by rw [List.nil_perm] at hp; exact hp.symm
  | t :: L, [], hp, _, _, _ => by simp at hp
  | t :: L, u :: G, hp, h1, h2, hn => by
    unfold Falls at h1 h2
    rw [List.pairwise_cons] at h1 h2
    simp only [List.map_cons, List.nodup_cons] at hn
    have htu : t = u := by
      rcases List.mem_cons.1 (hp.mem_iff.1 (List.mem_cons_self ..)) with h | h
      · exact h
      · rcases List.mem_cons.1 (hp.mem_iff.2 (List.mem_cons_self ..)) with k | k
        · exact k.symm
        · have a1 := h1.1 u k
          have a2 := h2.1 t h
          exact absurd (List.mem_map_of_mem (f := (·.born)) k) (by
            have : u.born = t.born := by unfold ahead at a1 a2; omega
            rw [this]; exact hn.1)
    subst htu
    rw [falls_unique (List.Perm.cons_inv hp) h1.2 h2.2 hn.2]

theorem nodup_ne {L : List (Int × Int)} (h : (L.map (·.2)).Nodup) {i j : Nat} (hij : i < j) (hj : j < L.length) : (L.getD i (0, 0)).2 ≠ (L.getD j (0, 0)).2 := by
  unfold List.Nodup at h
  rw [List.pairwise_map] at h
  have := List.pairwise_iff_getElem.1 h i j (by omega) hj hij
  rw [List.getD_eq_getElem?_getD, List.getD_eq_getElem?_getD, List.getElem?_eq_getElem hj, List.getElem?_eq_getElem (by omega)]
  exact this

def encI (x : Int × Int) : List Value := [.int .i64 x.1, .int .i64 x.2]
/-- The i-th item as a thing, in the order in which they came. -/
def nth (L : List (Int × Int)) (i : Nat) : Th := ⟨0, (L.getD i (0, 0)).1, (L.getD i (0, 0)).2, (i : Int) + 1⟩
def num (L : List (Int × Int)) : List Th := (List.range L.length).map (nth L)
def item (t : Th) : Int × Int := (t.prio, t.id)
theorem it_item (t : Th) : it t = encI (item t) := rfl
theorem num_born (L : List (Int × Int)) : ((num L).map (·.born)).Nodup := by
  unfold num
  rw [List.map_map]
  have : ((fun x : Th => x.born) ∘ nth L) = fun i : Nat => (i : Int) + 1 := rfl
  rw [this]
  unfold List.Nodup
  rw [List.pairwise_map]
  exact List.nodup_range.imp fun h he => h (by omega)
theorem mem_num {L : List (Int × Int)} {t : Th} (h : t ∈ num L) : ∃ i, i < L.length ∧ t = nth L i := by
  obtain ⟨i, hi, rfl⟩ := List.mem_map.1 h
  exact ⟨i, List.mem_range.1 hi, rfl⟩
theorem num_item (L : List (Int × Int)) : (num L).map item = L := by
  unfold num
  rw [List.map_map]
  apply List.ext_getElem (by simp)
  intro i h1 h2
  simp [nth, item, h2]

section
variable {w : World}

theorem sort_k (lp : Option Addr) (lc : Nat) (L0 : List (Int × Int)) (h : Recs 2 encI w lp L0) :
    FnP Try.prog F_queue_Sort #[.slice lp L0.length lc] w fun v w' => Ext w w' ∧ ∃ (out : Option Addr) (d : Nat) (L : List Th) (e : Int), v = .tuple #[.slice out L.length d, .int .i64 e] ∧ (e ≠ 0 → L = [] ∧ ¬ (L0.length ≤ 200 ∧ (L0.map (·.2)).Nodup)) ∧
      (e = 0 → L0.length ≤ 200 ∧ (L0.map (·.2)).Nodup ∧ Own w.heap.size w' T_Item 2 out L.length d (L.flatMap it) ∧ L.Perm (num L0) ∧ Falls L) := by
  refine ok_queue_Sort lp L0.length lc w _ ⟨fun hl w0 h0 => ⟨h0, none, 0, [], 2, rfl, fun _ => ⟨rfl, fun h => by omega⟩, fun h => by cases h⟩, fun hl w0 h0 => ?_⟩
  refine new_k.mono fun v w1 ⟨e1, qb, mb, hv, hqb, hq⟩ => ⟨e1, ptr qb, hv, ?_⟩
  have x1 := h0.trans e1
  refine ⟨fun k w' => 0 ≤ k ∧ k ≤ L0.length ∧ Ext w w' ∧ (((L0.take k.toNat).map (·.2)).Nodup) ∧ ∃ p c H m, QQ w.heap.size w' qb mb k p c H m ∧ Rel H m ∧ (H.map nb).Perm ((List.range k.toNat).map (nth L0)), fun k _ => (L0.length - k).toNat, ⟨by omega, by omega, x1, by simp, none, 0, [], [], hq _ h0.size, ⟨fun t ht => by simp at ht, fun id v hv => by simp [mget] at hv⟩, by simp⟩, ?_⟩
  rintro k w5 ⟨hk0, hk1, x5, hnd, p, c, H, m, q, hr, hp⟩
  have hHl : H.length = k.toNat := by have := hp.length_eq; simpa using this
  refine ⟨fun hlt => ?_, fun hge w6 h6 => ?_⟩
  · have hr5 := h.ext x5
    have hkn : k.toNat < L0.length := by omega
    have hks : (k + 1).toNat = k.toNat + 1 := by omega
    have hne200 : H.length ≠ 200 := by omega
    have hkin : InR .i64 (k + 1) := i64 (by omega)
    have hstep : 0 ≤ k + 1 ∧ k + 1 ≤ L0.length ∧ (L0.length - (k + 1)).toNat < (L0.length - k).toNat := by omega
    have hborn : (k : Int) + 1 = (k.toNat : Int) + 1 := by omega
    have hx : L0[k.toNat]? = some (L0.getD k.toNat (0, 0)) := by rw [List.getD_eq_getElem?_getD, List.getElem?_eq_getElem (by omega)]; rfl
    have hne := hr5.ne (x := L0.getD k.toNat (0, 0)) (getD_mem _ _ (by omega)) (by simp [encI])
    refine ⟨hne, hk0, hlt, fun hc => hne (pIdx_none.1 hc), _, hr5.at hk0 hx (j := 0) rfl, _, hr5.at hk0 hx (j := 1) rfl, fun b8 hb8 w9 x9 => ?_⟩
    have h9 := extB_ext x9
    have hids : ∀ t, t ∈ H ↔ ∃ i, i < k.toNat ∧ nb t = nth L0 i ∧ t ∈ H := fun t => ⟨fun ht => by
      obtain ⟨i, hi, he⟩ := List.mem_map.1 (hp.mem_iff.1 (List.mem_map_of_mem (f := nb) ht))
      exact ⟨i, List.mem_range.1 hi, he.symm, ht⟩, fun ⟨_, _, _, ht⟩ => ht⟩
    have htake : L0.take (k.toNat + 1) = L0.take k.toNat ++ [L0.getD k.toNat (0, 0)] := by
      rw [List.take_succ_eq_append_getElem (by omega)]
      simp [List.getD_eq_getElem?_getD, show k.toNat < L0.length by omega]
    refine (put_k (q.ext h9) hr (by omega) (by omega) (Nat.le_trans x5.size h9.size) _ _).mono fun v w10 ⟨e, hv, he, h00⟩ => ⟨?_, e, hv, fun hne => ?_, fun he0 => ?_⟩
    · intro b hb
      obtain rfl : b = b8 := by simpa using hb
      by_cases he0 : e = 0
      · obtain ⟨_, _, bb, p', c', Y, _, _, f, _⟩ := h00 he0
        exact f.block b (x9.lt b (by simp)) fun hf => by have := (q.foot hf).2; omega
      · exact (he he0).1.block b (x9.lt b (by simp))
    · obtain ⟨e10, h67⟩ := he hne
      refine fun w12 h12 => ⟨((x5.trans h9).trans e10).trans h12, none, 0, [], e, rfl, fun _ => ⟨rfl, fun hh => ?_⟩, fun h => absurd h hne⟩
      rcases h67 with ⟨⟨t, ht, hid⟩, _⟩ | ⟨h200, _⟩
      · obtain ⟨i, hi, hni, _⟩ := (hids t).1 ht
        have hid' : (L0.getD i (0, 0)).2 = (L0.getD k.toNat (0, 0)).2 := by
          have := congrArg Th.id hni
          exact this.symm.trans hid
        exact nodup_ne hh.2 hi hkn hid'
      · exact hne200 h200
    · obtain ⟨hnew, _, bb, p', c', Y, qY, hpY, f, _⟩ := h00 he0
      refine ⟨hkin, ⟨hstep.1, hstep.2.1, ?_, ?_, p', c', Y, _, qY, rel_put hr hnew hpY, ?_⟩, hstep.2.2⟩
      · exact Fr.ext f (x5.trans h9) fun b hb => (q.foot hb).1
      · rw [hks, htake, List.map_append, List.nodup_append]
        refine ⟨hnd, by simp, fun a ha b hb hab => ?_⟩
        obtain rfl : b = (L0.getD k.toNat (0, 0)).2 := by simpa using hb
        subst hab
        obtain ⟨y, hy, hye⟩ := List.mem_map.1 ha
        obtain ⟨i, hi, hiy⟩ := List.mem_iff_getElem.1 hy
        have hik : i < k.toNat := by rw [List.length_take] at hi; omega
        have hmem : nth L0 i ∈ H.map nb := hp.mem_iff.2 (List.mem_map.2 ⟨i, List.mem_range.2 hik, rfl⟩)
        obtain ⟨t, ht, hte⟩ := List.mem_map.1 hmem
        refine hnew t ht ?_
        have h1 : t.id = (L0.getD i (0, 0)).2 := congrArg Th.id hte
        rw [h1]
        have h2 : L0.getD i (0, 0) = y := by rw [← hiy, List.getElem_take, List.getD_eq_getElem?_getD, List.getElem?_eq_getElem (Nat.lt_trans hik hkn)]; rfl
        rw [h2]; exact hye
      · rw [hks, List.range_succ, List.map_append]
        refine (hpY.map nb).trans ?_
        rw [List.map_cons]
        refine List.Perm.trans ?_ (List.perm_append_comm (l₁ := [nth L0 k.toNat]))
        have : nb ⟨bb, (L0.getD k.toNat (0, 0)).1, (L0.getD k.toNat (0, 0)).2, k + 1⟩ = nth L0 k.toNat := by
          unfold nb nth
          simp only [Th.mk.injEq, true_and]
          exact hborn
        rw [this]
        exact List.Perm.cons _ hp
  · refine (list_k (q.ext h6) (by omega)).mono fun v w7 ⟨e7, out, d, L, hv, oL, hpL, hf⟩ => ⟨e7, out, L.length, d, hv, fun w11 h11 => ⟨((x5.trans h6).trans e7).trans h11, out, d, L, 0, rfl, fun h => absurd rfl h, fun _ => ?_⟩⟩
    have hkl : k.toNat = L0.length := by omega
    rw [hkl, List.take_length] at hnd
    rw [hkl] at hp
    refine ⟨by omega, hnd, Own.weaken (Nat.le_trans x5.size h6.size) (oL.ext h11), hpL.trans hp, hf⟩

theorem queues_k : FnP Try.prog F_shiftbellkeep_queues #[] w fun v w' => Ext w w' ∧ v = .bool true := by
  refine ok_shiftbellkeep_queues w _ fun w0 h0 => run_lit (P := Try.prog) elem_sl_Item [.agg #[.int .i64 1, .int .i64 1], .agg #[.int .i64 2, .int .i64 2]] rfl rfl (by intro u hu; simp at hu; rcases hu with rfl | rfl <;> rfl) (by simp) (by simp) fun w1 o1 e1 => ⟨e1, _, _, _, rfl, fun w5 h5 => ?_⟩
  have o5 := (o1 w0.heap.size (Nat.le_refl _)).ext h5
  have hr : Recs 2 encI w5 (some ⟨w0.heap.size, 0, none⟩) [(1, 1), (2, 2)] := Own.recs (xs := [(1, 1), (2, 2)]) (enc := encI) o5 (by simp [encI])
  refine (sort_k _ 2 [(1, 1), (2, 2)] hr).mono fun v w6 ⟨e6, out, d, L, e, hv, hne, h0e⟩ => ⟨e6, out, L.length, d, e, hv, ?_⟩
  have he : e = 0 := Classical.byContradiction fun h => (hne h).2 (by decide)
  obtain ⟨_, _, oL, hp, hf⟩ := h0e he
  have hL : L = [⟨0, 2, 2, 2⟩, ⟨0, 1, 1, 1⟩] := by
    refine falls_unique (hp.trans ?_) hf ?_ ((hp.map _).nodup_iff.2 (num_born _))
    · exact List.Perm.swap _ _ _
    · unfold Falls ahead; simp
  subst hL
  have nn : out ≠ none := oL.ne (by simp [it])
  have hx : Ext w w6 := ((h0.trans e1).trans h5).trans e6
  refine ⟨fun _ => nn, fun _ => by omega, fun _ => by simp, fun _ hc => nn (pIdx_none.1 hc), fun _ => ⟨2, ?_, fun w12 h12 => ⟨hx.trans h12, rfl⟩⟩, fun h => ?_⟩
  · rw [cell_pAdd, cell_pIdx]; exact oL.cellAt rfl
  · rcases h with h | h
    · exact absurd he h
    · simp at h
end
end Go.Proofs.Ytkjekinnemgkkaa
