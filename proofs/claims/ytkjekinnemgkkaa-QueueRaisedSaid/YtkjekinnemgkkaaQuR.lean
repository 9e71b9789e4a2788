/- The law QueueRaised. -/
import Derived.Test.YtkjekinnemgkkaaQuF
import Derived.Test.YtkjekinnemgkkaaQuL
import Derived.Test.YtkjekinnemgkkaaTxtB
set_option linter.unusedVariables false
set_option linter.unusedSimpArgs false
namespace Go.Proofs.Ytkjekinnemgkkaa
open Go.Sx Go.RowKit

/-- The closure: has an item this id? -/
def ofF (cb : Nat) : Value := .func (.func F_shiftbellkeep_QueueRaised_1) #[] #[.pointer (ptr cb)]
theorem of_k {cb : Nat} {id : Int} {w : World} (h : cell w (ptr cb) 0 = some (.int .i64 id)) (x : Int × Int) : FnVP Try.prog (ofF cb) [.agg #[.int .i64 x.1, .int .i64 x.2]] w fun v w' => Ext w w' ∧ v = .bool (decide (x.2 = id)) :=
  ⟨_, _, rfl, ok_shiftbellkeep_QueueRaised_1 x.1 x.2 (ptr cb) w _ fun b0 _ => ⟨id, h, fun w2 h2 => ⟨h2, rfl⟩⟩⟩

section
variable {w : World} {cb : Nat} {id : Int}

/-- The place of the first one with this id; all of them, if there is none. -/
def fnd (id : Int) : List (Int × Int) → Nat
  | [] => 0
  | x :: r => if x.2 = id then 0 else fnd id r + 1
theorem fnd_le (id : Int) : ∀ L : List (Int × Int), fnd id L ≤ L.length
  | [] => Nat.le_refl _
  | x :: r => by unfold fnd; have := fnd_le id r; split <;> simp <;> omega
theorem fnd_lt {id : Int} : ∀ {L : List (Int × Int)} {j : Nat}, j < fnd id L → (L.getD j (0, 0)).2 ≠ id
  | [], j, h => by simp [fnd] at h
  | x :: r, j, h => by
    unfold fnd at h
    split at h
    · omega
    · rename_i hx
      cases j with
      | zero => exact hx
      | succ j => exact fnd_lt (L := r) (by omega)
theorem fnd_at {id : Int} : ∀ {L : List (Int × Int)}, fnd id L < L.length → (L.getD (fnd id L) (0, 0)).2 = id
  | [], h => by simp at h
  | x :: r, h => by
    unfold fnd at h ⊢
    split
    · rename_i hx; exact hx
    · rename_i hx
      rw [if_neg hx] at h
      exact fnd_at (L := r) (by simpa using h)
theorem fnd_is {id : Int} {L : List (Int × Int)} {k : Nat} (h1 : ∀ j, j < k → (L.getD j (0, 0)).2 ≠ id) (h2 : (L.getD k (0, 0)).2 = id) (hk : k < L.length) : fnd id L = k := by
  rcases Nat.lt_trichotomy (fnd id L) k with h | h | h
  · exact absurd (fnd_at (by omega)) (h1 _ h)
  · exact h
  · exact absurd h2 (fnd_lt h)

theorem indexF_k (p : Option Addr) (c : Nat) (L : List (Int × Int)) (h63 : L.length ≤ 1000000) (h : Recs 2 encI w p L) (hc : cell w (ptr cb) 0 = some (.int .i64 id)) :
    FnP Try.prog F_slices_IndexFunc_api_Item_api_Item #[.slice p L.length c, ofF cb] w fun v w' => Ext w w' ∧ v = .int .i64 (if fnd id L < L.length then (fnd id L : Int) else -1) := by
  refine ok_slices_IndexFunc_api_Item_api_Item p L.length c (ofF cb) w _ ⟨fun k w' => w' = w ∧ 0 ≤ k ∧ k ≤ L.length ∧ ∀ j : Nat, (j : Int) < k → (L.getD j (0, 0)).2 ≠ id, fun k _ => (L.length - k).toNat, ⟨rfl, by omega, by omega, fun j hj => by omega⟩, ?_⟩
  rintro k w' ⟨rfl, hk0, hk1, hno⟩
  refine ⟨fun hlt => ?_, fun hge w3 h3 => ⟨h3, ?_⟩⟩
  · obtain ⟨g1, g2, g3, g4⟩ := recI_at h hk0 hlt
    refine ⟨g1, hk0, hlt, g2, _, g3, _, g4, fun w5 h5 => ?_⟩
    obtain ⟨F, cap, hF, hf⟩ := of_k (ext_cell h5 hc) (L.getD k.toNat (0, 0))
    refine ⟨F, cap, hF, hf.mono fun v w6 ⟨e6, hv⟩ => ⟨e6, _, hv, fun hy w8 h8 => ⟨h8, ?_⟩, fun hn => ⟨i64 (by omega), ⟨rfl, by omega, by omega, fun j hj => ?_⟩, by simp only []; omega⟩⟩⟩
    · simp only [decide_eq_true_eq] at hy
      have := fnd_is (k := k.toNat) (fun j hj => hno j (by omega)) hy (by omega)
      rw [this, if_pos (by omega)]
      congr 1; omega
    · simp only [decide_eq_false_iff_not] at hn
      by_cases hjk : (j : Int) < k
      · exact hno j hjk
      · obtain rfl : j = k.toNat := by omega
        exact hn
  · rw [if_neg]
    intro hl
    exact hno _ (by omega) (fnd_at hl)

theorem take_filter_succ {L : List (Int × Int)} {k : Nat} (hk : k < L.length) (f : Int × Int → Bool) : (L.take (k + 1)).filter f = (L.take k).filter f ++ if f (L.getD k (0, 0)) then [L.getD k (0, 0)] else [] := by
  have : L.getD k (0, 0) = L[k] := by rw [List.getD_eq_getElem?_getD, List.getElem?_eq_getElem hk]; rfl
  rw [List.take_succ_eq_append_getElem hk, List.filter_append, this]
  congr 1
  by_cases h : f L[k] = true
  · simp [h]
  · simp [h]

theorem deleteF_k {B : Nat} (p : Option Addr) (c : Nat) (L : List (Int × Int)) (h63 : L.length ≤ 1000000) (o : Own B w T_Item 2 p L.length c (L.flatMap encI)) (hB : B ≤ w.heap.size) (hc : cell w (ptr cb) 0 = some (.int .i64 id)) (hcb : ∀ a, p = some a → a.block ≠ cb) :
    FnP Try.prog F_slices_DeleteFunc_api_Item_api_Item #[.slice p L.length c, ofF cb] w fun v w' => v = .slice p (L.filter fun x => !decide (x.2 = id)).length c ∧ Own B w' T_Item 2 p (L.filter fun x => !decide (x.2 = id)).length c ((L.filter fun x => !decide (x.2 = id)).flatMap encI) ∧ Fr (fun b => ∃ a, p = some a ∧ a.block = b) w w' := by
  have he : ∀ x, (encI x).length = 2 := fun x => rfl
  have h1 : ∀ x, ∀ u ∈ encI x, u.oneCell' = true := fun x u hu => by simp [encI] at hu; rcases hu with rfl | rfl <;> rfl
  refine ok_slices_DeleteFunc_api_Item_api_Item p L.length c (ofF cb) w _ fun w0 h0 => ?_
  refine (indexF_k p c L h63 (Own.recs (o.ext h0) fun x _ => he x) (ext_cell h0 hc)).mono fun v w1 ⟨e1, hv⟩ => ⟨e1, _, hv, fun hm w3 h3 => ?_, fun hm => ?_⟩
  · have hno : L.filter (fun x => !decide (x.2 = id)) = L := by
      rw [List.filter_eq_self]
      intro x hx
      obtain ⟨j, hj, rfl⟩ := List.mem_iff_getElem.1 hx
      have hl : ¬ fnd id L < L.length := fun hl => by rw [if_pos hl] at hm; omega
      have := fnd_lt (id := id) (L := L) (j := j) (by omega)
      rw [List.getD_eq_getElem?_getD, List.getElem?_eq_getElem hj] at this
      simpa using this
    rw [hno]
    exact ⟨rfl, o.ext h3, fr_ext h3⟩
  · have hl : fnd id L < L.length := by
      by_cases h : fnd id L < L.length
      · exact h
      · rw [if_neg h] at hm; omega
    rw [if_pos hl] at hm ⊢
    have hp := o.ne1 (by omega) (by omega)
    have f0 : (L.take (fnd id L)).filter (fun x => !decide (x.2 = id)) = L.take (fnd id L) := by
      rw [List.filter_eq_self]
      intro x hx
      obtain ⟨j, hj, rfl⟩ := List.mem_iff_getElem.1 hx
      rw [List.length_take] at hj
      have := fnd_lt (id := id) (L := L) (j := j) (by omega)
      rw [List.getD_eq_getElem?_getD, List.getElem?_eq_getElem (by omega)] at this
      rw [List.getElem_take]
      simpa using this
    refine ⟨i64 (by omega), fun i j w' => 0 ≤ i ∧ i < j ∧ j ≤ L.length ∧ Fr (fun b => ∃ a, p = some a ∧ a.block = b) w w' ∧ ∃ X : List (Int × Int), X.length = L.length ∧ Own B w' T_Item 2 p L.length c (X.flatMap encI) ∧ X.take i.toNat = (L.take j.toNat).filter (fun x => !decide (x.2 = id)) ∧ X.drop j.toNat = L.drop j.toNat, fun _ j _ => (L.length - j).toNat, ⟨by omega, by omega, by omega, Fr.refl _ _, L, rfl, o, ?_, rfl⟩, ?_⟩
    · rw [show ((fnd id L : Int) + 1).toNat = fnd id L + 1 by omega, Int.toNat_natCast, take_filter_succ hl, f0, fnd_at hl]
      simp
    rintro i j w6 ⟨hi0, hij, hj, f6, X, hX, o6, ht, hd⟩
    refine ⟨fun hlt => ?_, fun hge => ?_⟩
    · have hjn : j.toNat < L.length := by omega
      have r6 := Own.recs (enc := encI) o6 (fun x _ => he x)
      obtain ⟨g1, g2, g3, g4⟩ := recI_at r6 (k := j) (by omega) (by omega)
      have hxl : X.getD j.toNat (0, 0) = L.getD j.toNat (0, 0) := by
        have := congrArg (fun l => l[0]?) hd
        simp only [List.getElem?_drop, Nat.add_zero] at this
        rw [List.getD_eq_getElem?_getD, List.getD_eq_getElem?_getD, this]
      rw [hxl] at g3 g4
      have hd' : X.drop (j.toNat + 1) = L.drop (j.toNat + 1) := by
        have := congrArg (fun l => l.drop 1) hd
        simpa [List.drop_drop, Nat.add_comm] using this
      refine ⟨g1, by omega, hlt, g2, _, g3, _, g4, fun b9 hb9 w10 h10 => ?_⟩
      have hc6 : cell w6 (ptr cb) 0 = some (.int .i64 id) := cell_fr hc f6 fun a ha => by
        cases ha
        rintro ⟨a, ha, he⟩
        exact hcb a ha he
      obtain ⟨F, cap, hF, hf⟩ := of_k (ext_cell h10 hc6) (L.getD j.toNat (0, 0))
      refine ⟨F, cap, hF, hf.mono fun v w11 ⟨e11, hv⟩ => ⟨e11, _, hv, fun hn => ?_, fun hy => ?_⟩⟩
      · simp only [decide_eq_false_iff_not] at hn
        refine ⟨hp, hi0, by omega, ?_⟩
        refine store_own (off := i.toNat * 2) o6 pIdx_map (by rw [recs_len he]; simp; omega) (by simp) (by simp [Value.oneCell']) (fun b hb x hx => by
          obtain rfl : b = b9 := by simpa using hb
          have := (o6.lt x hx).2; omega) fun w13 o13 g13 => ⟨i64 (by omega), i64 (by omega), ⟨by omega, by omega, by omega, f6.tr (fr_grew g13 fun a ha => ⟨a, ha, rfl⟩), X.set i.toNat (L.getD j.toNat (0, 0)), by simp [hX], ?_, ?_, ?_⟩, by simp only []; omega⟩
        · rw [← recs_set he X i.toNat _ (by omega)]; exact o13
        · rw [show (i + 1).toNat = i.toNat + 1 by omega, show (j + 1).toNat = j.toNat + 1 by omega, take_filter_succ hjn, ← ht]
          rw [if_pos (by simpa using hn)]
          rw [List.take_succ_eq_append_getElem (by simp; omega)]
          congr 1
          · rw [List.take_set_of_le (Nat.le_refl _)]
          · simp
        · rw [show (j + 1).toNat = j.toNat + 1 by omega, List.drop_set_of_lt (by omega), hd']
      · simp only [decide_eq_true_eq] at hy
        refine ⟨i64 (by omega), ⟨hi0, by omega, by omega, f6, X, hX, o6, ?_, ?_⟩, by simp only []; omega⟩
        · rw [show (j + 1).toNat = j.toNat + 1 by omega, take_filter_succ hjn, ht, hy]
          simp
        · rw [show (j + 1).toNat = j.toNat + 1 by omega, hd']
    · have hjl : j.toNat = L.length := by omega
      rw [hjl, List.take_length] at ht
      have hlen : (L.filter fun x => !decide (x.2 = id)).length = i.toNat := by rw [← ht, List.length_take]; omega
      have hle := o6.le
      refine ⟨hi0, by omega, by omega, fun w7 h7 => ?_⟩
      have o7 := (o6.pre (m := i.toNat) (by omega)).ext h7
      rw [recs_take he, ht] at o7
      obtain ⟨n, rfl⟩ : ∃ n : Nat, i = n := ⟨i.toNat, by omega⟩
      rw [Int.toNat_natCast] at o7 hlen
      refine run_clear elem_sl_Item (by omega) (by intro u hu; simp [Value.cells] at hu; rcases hu with rfl | rfl <;> rfl) (n := n) (m := ((L.length : Int) - n).toNat) o7 (by omega) rfl fun w8 o8 g8 => ⟨rfl, by omega, by omega, by omega, fun w9 h9 => ⟨?_, ?_, ?_⟩⟩
      · rw [pCut_zero, hlen, show ((n : Int) - 0).toNat = n by omega]; simp
      · rw [hlen]; exact o8.ext h9
      · exact ((f6.tr (fr_ext h7)).tr (fr_grew g8 fun a ha => ⟨a, ha, rfl⟩)).tr (fr_ext h9)
end

/-- The place of a thing of this id, and its list without it. -/
theorem filt_one {L : List Th} {id : Int} (hn : (L.map (·.id)).Nodup) {i : Nat} (hi : i < L.length) (hid : L[i].id = id) : L.filter (fun t => !decide (t.id = id)) = L.take i ++ L.drop (i + 1) := by
  unfold List.Nodup at hn
  rw [List.pairwise_map] at hn
  have hp := List.pairwise_iff_getElem.1 hn
  have hd : L = L.take i ++ L[i] :: L.drop (i + 1) := by rw [← List.drop_eq_getElem_cons hi, List.take_append_drop]
  have e1 : (L.take i).filter (fun t => !decide (t.id = id)) = L.take i := by
    rw [List.filter_eq_self]
    intro x hx
    obtain ⟨j, hj, rfl⟩ := List.mem_iff_getElem.1 hx
    rw [List.length_take] at hj
    rw [List.getElem_take]
    have := hp j i (by omega) hi (by omega)
    simp only [Bool.not_eq_true', decide_eq_false_iff_not]
    rw [← hid]; exact this
  have e2 : (L.drop (i + 1)).filter (fun t => !decide (t.id = id)) = L.drop (i + 1) := by
    rw [List.filter_eq_self]
    intro x hx
    obtain ⟨j, hj, rfl⟩ := List.mem_iff_getElem.1 hx
    rw [List.length_drop] at hj
    rw [List.getElem_drop]
    have := hp i (i + 1 + j) hi (by omega) (by omega)
    simp only [Bool.not_eq_true', decide_eq_false_iff_not]
    rw [← hid]; exact Ne.symm this
  conv => lhs; rw [hd]
  rw [List.filter_append, List.filter_cons, e1, e2, if_neg (by simp [hid])]

theorem perm_nodup_id {L H : List Th} (hp : L.Perm (H.map nb)) (hi : Ids H) : (L.map (·.id)).Nodup := by
  refine (hp.map (·.id)).nodup_iff.2 ?_
  rw [List.map_map]; exact hi
theorem perm_nodup_born {L H : List Th} (hp : L.Perm (H.map nb)) (hi : (H.map (·.born)).Nodup) : (L.map (·.born)).Nodup := by
  refine (hp.map (·.born)).nodup_iff.2 ?_
  rw [List.map_map]; exact hi
theorem find_at {L : List Th} {id : Int} (hn : (L.map (·.id)).Nodup) {t : Th} (ht : t ∈ L) (hid : t.id = id) : fnd id (L.map item) < L.length ∧ ∀ (h : fnd id (L.map item) < L.length), L[fnd id (L.map item)] = t := by
  obtain ⟨i, hi, hit⟩ := List.mem_iff_getElem.1 ht
  unfold List.Nodup at hn
  rw [List.pairwise_map] at hn
  have hp := List.pairwise_iff_getElem.1 hn
  have gd : ∀ j (hj : j < L.length), (L.map item).getD j (0, 0) = item L[j] := fun j hj => by rw [List.getD_eq_getElem?_getD, List.getElem?_map, List.getElem?_eq_getElem hj]; rfl
  have hf : fnd id (L.map item) = i := by
    refine fnd_is (fun j hj => ?_) ?_ (by simpa using hi)
    · rw [gd j (by omega)]
      have := hp j i (by omega) hi hj
      rw [hit, hid] at this
      exact this
    · rw [gd i hi, hit]; exact hid
  refine ⟨by omega, fun h => ?_⟩
  simp only [hf]; exact hit

theorem raised {H L M : List Th} {j : Nat} {id prio : Int} (hj : j < H.length) (hi : Ids H) (hb : (H.map (·.born)).Nodup) (hid : (at_ H j).id = id) (hpr : (at_ H j).prio ≤ prio) (hL : L.Perm (H.map nb)) (fL : Falls L) (hM : M.Perm ((H.set j { at_ H j with prio := prio }).map nb)) (fM : Falls M) :
    fnd id (L.map item) < L.length ∧ fnd id (M.map item) < M.length ∧ fnd id (M.map item) ≤ fnd id (L.map item) ∧ ((M.map item).getD (fnd id (M.map item)) (0, 0)).1 = prio ∧ (L.map item).filter (fun x => !decide (x.2 = id)) = (M.map item).filter (fun x => !decide (x.2 = id)) := by
  let t' : Th := { at_ H j with prio := prio }
  have hHj : H[j] = at_ H j := by unfold at_; rw [List.getD_eq_getElem?_getD, List.getElem?_eq_getElem hj]; rfl
  have sameMap : ∀ (g : Th → Int), g t' = g (at_ H j) → (H.set j t').map g = H.map g := fun g hg => by
    rw [List.map_set, hg]
    apply List.ext_getElem?
    intro i
    rw [List.getElem?_set]
    split
    · rename_i h; subst h
      simp only [List.length_map, hj, if_true, List.getElem?_map, List.getElem?_eq_getElem hj, Option.map_some, hHj]
    · rfl
  have hi' : Ids (H.set j t') := by unfold Ids; rw [sameMap (·.id) rfl]; exact hi
  have hb' : ((H.set j t').map (·.born)).Nodup := by rw [sameMap (·.born) rfl]; exact hb
  have nL := perm_nodup_id hL hi
  have nM := perm_nodup_id hM hi'
  have bL := perm_nodup_born hL hb
  have bM := perm_nodup_born hM hb'
  have tL : nb (at_ H j) ∈ L := hL.mem_iff.2 (List.mem_map_of_mem (at_mem H hj))
  have hset : t' ∈ H.set j t' := by
    refine List.mem_iff_getElem?.2 ⟨j, ?_⟩
    rw [List.getElem?_set]; simp [hj]
  have tM : nb t' ∈ M := hM.mem_iff.2 (List.mem_map_of_mem hset)
  obtain ⟨l1, l2⟩ := find_at nL tL hid
  obtain ⟨m1, m2⟩ := find_at nM tM (show (nb t').id = id from hid)
  have l2 := l2 l1
  have m2 := m2 m1
  have hlen : M.length = L.length := by have a := hL.length_eq; have b := hM.length_eq; simp at a b; omega
  have eH : (H.set j t').filter (fun t => !decide (t.id = id)) = H.filter (fun t => !decide (t.id = id)) := by
    rw [filt_one hi hj (by rw [hHj]; exact hid), filt_one hi' (i := j) (by simpa using hj) (by simp; exact hid)]
    rw [List.take_set_of_le (Nat.le_refl _), List.drop_set_of_lt (by omega)]
  have pf : ∀ (G : List Th), (G.map nb).filter (fun t => !decide (t.id = id)) = (G.filter (fun t => !decide (t.id = id))).map nb := fun G => by rw [List.filter_map]; rfl
  have eF : L.filter (fun t => !decide (t.id = id)) = M.filter (fun t => !decide (t.id = id)) := by
    refine falls_unique ?_ (List.Pairwise.filter _ fL) (List.Pairwise.filter _ fM) ?_
    · have p1 := hL.filter (fun t => !decide (t.id = id))
      have p2 := hM.filter (fun t => !decide (t.id = id))
      rw [pf] at p1 p2
      rw [eH] at p2
      exact p1.trans p2.symm
    · exact List.Nodup.sublist (List.Sublist.map _ List.filter_sublist) bL
  refine ⟨l1, m1, ?_, ?_, ?_⟩
  · refine Nat.le_of_not_lt fun hlt => ?_
    have e1 := filt_one (id := id) nL l1 (by rw [l2]; exact hid)
    have e2 := filt_one (id := id) nM m1 (by rw [m2]; exact hid)
    rw [e1, e2] at eF
    generalize fnd id (L.map item) = i at *
    generalize fnd id (M.map item) = k at *
    have hx : L[i + 1]? = M[i]? := by
      have : (L.take i ++ L.drop (i + 1))[i]? = (M.take k ++ M.drop (k + 1))[i]? := by rw [eF]
      rw [List.getElem?_append_right (by simp; omega), List.getElem?_append_left (by simp; omega)] at this
      rw [List.getElem?_drop, List.getElem?_take, if_pos hlt] at this
      rw [← this]
      congr 1
      simp; omega
    have hi1 : i + 1 < L.length := by omega
    rw [List.getElem?_eq_getElem hi1, List.getElem?_eq_getElem (by omega)] at hx
    have hx := Option.some.inj hx
    have a1 := List.pairwise_iff_getElem.1 fL i (i + 1) l1 hi1 (by omega)
    have a2 := List.pairwise_iff_getElem.1 fM i k (by omega) m1 hlt
    unfold List.Nodup at bL
    rw [List.pairwise_map] at bL
    have a3 := List.pairwise_iff_getElem.1 bL i (i + 1) l1 hi1 (by omega)
    rw [l2] at a1 a3
    rw [m2, ← hx] at a2
    simp only [ahead, nb, t'] at a1 a2 a3
    omega
  · rw [List.getD_eq_getElem?_getD, List.getElem?_map, List.getElem?_eq_getElem m1, m2]; rfl
  · have pi : ∀ (G : List Th), (G.map item).filter (fun x => !decide (x.2 = id)) = (G.filter (fun t => !decide (t.id = id))).map item := fun G => by rw [List.filter_map]; rfl
    rw [pi, pi, eF]

theorem core_QueueRaised (W : World) : ∀ l : Option Addr, ∀ ll : Nat, ∀ lc : Nat, SlcArg Try.prog W T_Item l ll lc → ∀ id : Int, InR .i64 id → ∀ prio : Int, InR .i64 prio → FnP Try.prog F_shiftbellkeep_QueueRaised #[.slice l ll lc, .int .i64 id, .int .i64 prio] W fun v W' => v = .bool true ∧ Ext W W' := by
  intro l ll lc hl id _ prio _
  have hcap := hl.le
  obtain ⟨L0, rfl, h⟩ := items_open hl
  refine ok_shiftbellkeep_QueueRaised _ _ _ _ _ W _ fun w0 h0 => new_own (by simp [Value.oneCell']) fun w1 o1 e1 w2 h2 => ?_
  have c1 : cell w1 (ptr w0.heap.size) 0 = some (.int .i64 id) := (o1 0 (Nat.zero_le _)).cellAt (i := 0) rfl
  refine queues_k.mono fun v w3 ⟨e3, hv⟩ => ⟨e3, true, hv, fun h => (by simp at h), fun _ w5 h5 => ?_⟩
  have x5 : Ext W w5 := (h0.trans e1).trans h5
  have c5 := ext_cell h5 c1
  have lt5 : w0.heap.size < w5.heap.size := by have := (((o1 0 (Nat.zero_le _)).ext h5).lt _ rfl).2; exact this
  refine new_k.mono fun v w6 ⟨e6, qb, mb, hv, hqb, hq⟩ => ⟨e6, ptr qb, hv, by omega, by omega, by omega, ?_⟩
  have hn : ((min (L0.length : Int) 100) - 0).toNat = min L0.length 100 := by omega
  rw [pCut_zero, hn]
  refine ⟨fun k w' => 0 ≤ k ∧ k ≤ (min L0.length 100 : Nat) ∧ Ext w5 w' ∧ ∃ born p c H m, QQ w5.heap.size w' qb mb born p c H m ∧ Rel H m ∧ Ids H ∧ (H.map (·.born)).Nodup ∧ (∀ t ∈ H, t.born ≤ born) ∧ 0 ≤ born ∧ born ≤ k ∧ H.length ≤ k, fun k _ => (200 - k).toNat, ⟨by omega, by omega, e6, 0, none, 0, [], [], hq _ (Nat.le_refl _), ⟨fun t ht => by simp at ht, fun id v hv => by simp [mget] at hv⟩, by simp [Ids], by simp, by simp, by omega, by omega, by simp⟩, ?_⟩
  rintro k w10 ⟨hk0, hk1, x10, born, p, c, H, m, q, hr, hi, hb, hbl, hb0, hbk, hHl⟩
  refine ⟨fun hlt => ?_, fun hge w11 h11 => ?_⟩
  · have hx : L0[k.toNat]? = some (L0.getD k.toNat (0, 0)) := by rw [List.getD_eq_getElem?_getD, List.getElem?_eq_getElem (by omega)]; rfl
    obtain ⟨g1, g2, g3, g4⟩ := recI_at (h.ext (x5.trans x10)) hk0 (by omega)
    refine ⟨g1, hk0, hlt, g2, _, g3, _, g4, fun b13 hb13 w14 x14 => ?_⟩
    have h14 := extB_ext x14
    have hH2 : H.length ≤ 200 := by omega
    have hHk : H.length ≤ k + 1 ∧ H.length + 1 ≤ k + 1 := by omega
    have hst : InR .i64 (k + 1) ∧ 0 ≤ k + 1 ∧ k + 1 ≤ ((min L0.length 100 : Nat) : Int) ∧ (200 - (k + 1)).toNat < (200 - k).toNat ∧ born ≤ k + 1 ∧ born + 1 ≤ k + 1 ∧ 0 ≤ born + 1 := ⟨i64 (by omega), by omega, by omega, by omega, by omega, by omega, by omega⟩
    have hbr : -1 ≤ born ∧ born ≤ 1000000000 := by omega
    refine (put_k (q.ext h14) hr hH2 hbr (Nat.le_trans x10.size h14.size) _ _).mono fun v w15 ⟨e, hv, he, h00⟩ => ?_
    by_cases he0 : e = 0
    · obtain ⟨hnew, _, bb, p', c', Y, qY, hp, f, _⟩ := h00 he0
      refine ⟨fun b hb => ?_, e, hv, hst.1, ⟨hst.2.1, hst.2.2.1, ?_, born + 1, p', c', Y, _, qY, rel_put hr hnew hp, ?_, ?_, fun t ht => ?_, hst.2.2.2.2.2.2, hst.2.2.2.2.2.1, ?_⟩, hst.2.2.2.1⟩
      · obtain rfl : b = b13 := by simpa using hb
        exact f.block b (x14.lt b (by simp)) fun hf => by have := (q.foot hf).2; omega
      · exact Fr.ext f (x10.trans h14) fun b hb => (q.foot hb).1
      · unfold Ids
        refine (hp.map _).nodup_iff.2 ?_
        rw [List.map_cons, List.nodup_cons]
        refine ⟨fun hm => ?_, hi⟩
        obtain ⟨t, ht, he⟩ := List.mem_map.1 hm
        exact hnew t ht he
      · refine (hp.map _).nodup_iff.2 ?_
        rw [List.map_cons, List.nodup_cons]
        refine ⟨fun hm => ?_, hb⟩
        obtain ⟨t, ht, he⟩ := List.mem_map.1 hm
        have := hbl t ht
        simp only at he; omega
      · rcases List.mem_cons.1 (hp.mem_iff.1 ht) with rfl | h
        · exact Int.le_refl _
        · have := hbl t h; omega
      · have := hp.length_eq
        rw [this, List.length_cons]
        exact hHk.2
    · obtain ⟨e15, _⟩ := he he0
      refine ⟨fun b hb => ?_, e, hv, hst.1, ⟨hst.2.1, hst.2.2.1, (x10.trans h14).trans e15, born, p, c, H, m, (q.ext h14).ext e15, hr, hi, hb, hbl, hb0, hst.2.2.2.2.1, hHk.1⟩, hst.2.2.2.1⟩
      obtain rfl : b = b13 := by simpa using hb
      exact e15.block b (x14.lt b (by simp))
  · have q11 := q.ext h11
    refine (list_k q11 (by omega)).mono fun v w12 ⟨e12, o1, d1, L, hv, oL, hpL, fL⟩ => ⟨e12, o1, L.length, d1, hv, id, ext_cell ((x10.trans h11).trans e12) c5, fun w17 h17 => ?_⟩
    have hLl : L.length = H.length := by have := hpL.length_eq; simpa using this
    have q17 := (q11.ext e12).ext h17
    have x17 := ((x10.trans h11).trans e12).trans h17
    have hlen100 : L.length ≤ 100 := by omega
    have lm : (L.map item).length = L.length := by simp
    have nfo : ∀ x, o1 = some x → ¬ FootQ mb qb p H x.block := fun x hx hc => by
      have h1 := (oL.lt x hx).1
      have h2 := (q11.foot hc).2
      omega
    refine (raise_k q17 hr hi (by omega) id prio).mono fun v w18 ⟨e, hv, he, h00⟩ => ⟨e, hv, fun he0 w20 h20 => ?_, fun he0 w20 h20 => ?_⟩
    · have e18 := he he0
      refine (list_k ((q17.ext e18).ext h20) (by omega)).mono fun v w21 ⟨e21, o2, d2, M, hv, oM, hpM, fM⟩ => ⟨e21, o2, M.length, d2, hv, fun w25 h25 => ?_⟩
      have r1 := recs_items ((((oL.ext h17).ext e18).ext h20).ext e21 |>.ext h25)
      have r2 := recs_items (oM.ext h25)
      have hq := equal_k o1 o2 d1 d2 (L.map item) (M.map item) (by omega) w25 r1 r2
      rw [lm, List.length_map] at hq
      refine hq.mono fun v w26 ⟨e26, hv⟩ => ⟨e26, _, hv, fun w28 h28 => ⟨b_true ?_, (((((x5.trans x17).trans e18).trans h20).trans e21).trans h28)⟩⟩
      rw [decide_eq_true_iff, falls_unique (hpL.trans hpM.symm) fL fM (perm_nodup_born hpL hb)]
    · obtain ⟨j, Y, hj, hid, hpr, hp, qY, _, _, f, _⟩ := h00 he0
      have x18 : Ext w5 w18 := Fr.ext f x17 fun b hb => (q17.foot hb).1
      have hYl : Y.length = H.length := by have := hp.length_eq; simpa using this
      refine (list_k (qY.ext h20) (by omega)).mono fun v w21 ⟨e21, o2, d2, M, hv, oM, hpM, fM⟩ => ⟨e21, o2, M.length, d2, hv, fun w25 h25 => ?_⟩
      have hMl : M.length = H.length := by have := hpM.length_eq; simp at this; omega
      have mm : (M.map item).length = M.length := by simp
      have x21 : Ext w5 w21 := (x18.trans h20).trans e21
      have oL21 := (((oL.ext h17).fr f nfo).ext h20).ext e21
      have hpM' : M.Perm ((H.set j { at_ H j with prio := prio }).map nb) := hpM.trans (hp.map nb)
      obtain ⟨l1, m1, hle, hpv, hfil⟩ := raised hj hi hb hid hpr hpL fL hpM' fM
      have c21 := ext_cell x21 c5
      have i1 := indexF_k (cb := w0.heap.size) (id := id) o1 d1 (L.map item) (by omega) (recs_items (oL21.ext h25)) (ext_cell h25 c21)
      rw [lm, if_pos l1] at i1
      refine i1.mono fun v w26 ⟨e26, hv⟩ => ⟨e26, _, hv, fun w28 h28 => ?_⟩
      have i2 := indexF_k (cb := w0.heap.size) (id := id) o2 d2 (M.map item) (by omega) (recs_items (oM.ext h28)) (ext_cell h28 c21)
      rw [mm, if_pos m1] at i2
      have r21 := recs_items oM
      obtain ⟨g1, g2, g3, g4⟩ := recI_at r21 (k := (fnd id (M.map item) : Int)) (by omega) (by omega)
      rw [Int.toNat_natCast, hpv] at g3
      refine i2.mono fun v w29 ⟨e29, hv⟩ => ⟨e29, _, hv, fun _ => g1, fun _ => by omega, fun _ => by omega, fun _ => g2, fun hc => by omega, fun _ => ⟨prio, (by rw [pAdd_zero]; exact g3), fun hc => absurd rfl hc, fun _ w32 h32 => ?_⟩⟩
      have toI : ∀ (G : List Th), G.flatMap it = (G.map item).flatMap encI := fun G => by rw [List.flatMap_map]; rfl
      have o32 := oL21.ext h32
      rw [toI, ← lm] at o32
      have s12 : w5.heap.size ≤ w11.heap.size := (x10.trans h11).size
      have cbo1 : ∀ a, o1 = some a → a.block ≠ w0.heap.size := fun a ha he => by have := (oL.lt a ha).1; omega
      have cbo2 : ∀ a, o2 = some a → a.block ≠ w0.heap.size := fun a ha he => by have := (oM.lt a ha).1; have := (x18.trans h20).size; omega
      have d1k := deleteF_k (cb := w0.heap.size) (id := id) o1 d1 (L.map item) (by omega) o32 (Nat.le_trans (Nat.le_trans (Nat.le_trans (Nat.le_trans e12.size h17.size) f.size) (Nat.le_trans h20.size e21.size)) h32.size) (ext_cell h32 c21) cbo1
      rw [lm] at d1k
      refine d1k.mono fun v w33 ⟨hv, o33, f33⟩ => ⟨_, _, _, hv, fun w37 h37 => ?_⟩
      have x33 : Ext w5 w33 := Fr.ext f33 (x21.trans h32) fun b ⟨a, ha, hb⟩ => by have := (oL.lt a ha).1; omega
      have o37 := ((oM.ext h32).fr f33 (fun a ha ⟨a', ha', he⟩ => by
        have h1 := (oM.lt a ha).1
        have h2 := (oL21.lt a' ha').2
        have := e21.size
        have h3 := ((((oL.ext h17).fr f nfo).ext h20).lt a' ha').2
        omega)).ext h37
      rw [toI, ← mm] at o37
      have d2k := deleteF_k (cb := w0.heap.size) (id := id) o2 d2 (M.map item) (by omega) o37 (Nat.le_trans (Nat.le_trans (Nat.le_trans e21.size h32.size) f33.size) h37.size) (ext_cell (x33.trans h37) c5) cbo2
      rw [mm] at d2k
      refine d2k.mono fun v w38 ⟨hv, o38, f38⟩ => ⟨_, _, _, hv, fun w42 h42 => ?_⟩
      have x38 : Ext w5 w38 := Fr.ext f38 (x33.trans h37) fun b ⟨a, ha, hb⟩ => by have := (oM.lt a ha).1; have := (x18.trans h20).size; omega
      have o33' := ((o33.ext h37).fr f38 (fun a ha ⟨a', ha', he⟩ => by
        have h1 := (oM.lt a' ha').1
        have h3 := ((((oL.ext h17).fr f nfo).ext h20).lt a ha).2
        omega)).ext h42
      have hz : ∀ x, (encI x).length = 2 := fun x => rfl
      have hq := equal_k o1 o2 d1 d2 _ _ (Nat.le_trans (List.length_filter_le _ _) (by omega)) w42 (Own.recs o33' fun x _ => hz x) (Own.recs (o38.ext h42) fun x _ => hz x)
      refine hq.mono fun v w43 ⟨e43, hv⟩ => ⟨e43, _, hv, fun w45 h45 => ⟨b_true ?_, (x5.trans x38).trans h45⟩⟩
      rw [decide_eq_true_iff]; exact hfil
end Go.Proofs.Ytkjekinnemgkkaa
