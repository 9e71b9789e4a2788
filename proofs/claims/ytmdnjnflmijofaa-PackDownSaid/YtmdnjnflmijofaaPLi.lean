/- First fit: what stands in the boxes; the law PackFits. -/
import Derived.Test.YtmdnjnflmijofaaPLh
set_option linter.unusedVariables false
set_option linter.unusedSimpArgs false
namespace Go.Proofs.Ytmdnjnflmijofaa
open Go.Sx Go.RowKit

/-- What of the first i things goes into box b. -/
def partOf (L I : List Int) (i : Nat) (b : Int) : Int := sumN i fun j => if I.getD j 0 = b then dg L j else 0
theorem partOf_mono {L I : List Int} (b : Int) {i j : Nat} (h : i ≤ j) (h0 : ∀ k, k < j → 0 ≤ dg L k) : partOf L I i b ≤ partOf L I j b := by
  induction j with
  | zero => obtain rfl : i = 0 := by omega
            exact Int.le_refl _
  | succ j ih =>
    by_cases hij : i = j + 1
    · subst hij; exact Int.le_refl _
    · have h1 := ih (by omega) fun k hk => h0 k (by omega)
      have h2 := h0 j (by omega)
      have e : partOf L I (j + 1) b = partOf L I j b + if I.getD j 0 = b then dg L j else 0 := rfl
      rw [e]
      by_cases hb : I.getD j 0 = b
      · rw [if_pos hb]; omega
      · rw [if_neg hb]; omega
theorem partOf_zero {L I : List Int} {b : Int} {i : Nat} (h : ∀ j, j < i → I.getD j 0 ≠ b) : partOf L I i b = 0 := by
  induction i with
  | zero => rfl
  | succ i ih =>
    have e : partOf L I (i + 1) b = partOf L I i b + if I.getD i 0 = b then dg L i else 0 := rfl
    rw [e, ih fun j hj => h j (by omega), if_neg (h i (by omega))]; rfl

theorem len_of_same {X Y : List Int} (hX : X.Nodup) (hY : Y.Nodup) (h : ∀ a, a ∈ X ↔ a ∈ Y) : X.length = Y.length := by
  induction X generalizing Y with
  | nil =>
    cases Y with
    | nil => rfl
    | cons b Y => exact absurd ((h b).2 (by simp)) (by simp)
  | cons a X ih =>
    have ha : a ∈ Y := (h a).1 (by simp)
    rw [List.nodup_cons] at hX
    have := ih hX.2 (hY.erase a) fun b => by
      rw [hY.mem_erase_iff, ← h b]
      simp only [List.mem_cons]
      constructor
      · intro hb; exact ⟨fun he => hX.1 (he ▸ hb), .inr hb⟩
      · rintro ⟨h1, h2 | h2⟩
        · exact absurd h2 h1
        · exact h2
    rw [List.length_cons, this, List.length_erase_of_mem ha]
    have : 0 < Y.length := List.length_pos_of_mem ha
    omega

theorem Boxes2_k (s : Int) (q : Option Addr) (c : Nat) (L : List Int) (hok : okP s L) (p : Option Addr) (d : Nat) (I : List Int) (hI : I.length = L.length) (N : Nat) (hr : ∀ x ∈ I, 0 ≤ x ∧ x < N) (hin : ∀ b : Nat, b < N → ∃ j, j < I.length ∧ I.getD j 0 = b) (hp : ∀ b : Nat, b < N → partOf L I L.length b ≤ s) (w : World) (hL : Ints .i64 w q L) (hIm : Ints .i64 w p I) :
    FnP Try.prog F_pack_Boxes #[.slice q L.length c, .int .i64 s, .slice p I.length d] w fun v w' => Ext w w' ∧ v = .tuple #[.int .i64 N, .int .i64 0] := by
  have hok' := hok
  obtain ⟨hl100, hs, hLb⟩ := hok'
  have hd0 : ∀ k, k < L.length → 1 ≤ dg L k ∧ dg L k ≤ s := fun k hk => hLb _ (getD_mem L 0 hk)
  refine ok_pack_Boxes q L.length c s p I.length d w _ fun w0 h0 => ?_
  refine (pcheck_k s q c L (by omega) w0 (hL.ext h0)).mono fun v w1 ⟨e1, t, hv, ht⟩ => ⟨e1, t, hv, fun hne => absurd (ht.2 hok) hne, fun h => ⟨fun hne => by omega, fun hlen w3 h3 => ?_⟩⟩
  refine run_makeMap (α := Int) (enc := Value.int .i64) fun w4 m4 e4 => ⟨e4, _, rfl, ?_⟩
  refine ⟨fun k w' => Ext w w' ∧ 0 ≤ k ∧ k ≤ I.length ∧ ∃ (m : List (Int × Value)), MapIs (Value.int .i64) w' w3.heap.size m ∧ ∀ b : Int, ((∃ j : Nat, (j : Int) < k ∧ I.getD j 0 = b) → mget m b = some (.int .i64 (partOf L I k.toNat b))) ∧ ((∀ j : Nat, (j : Int) < k → I.getD j 0 ≠ b) → mget m b = none), fun k _ => (I.length - k).toNat, ⟨h3.trans e4, by omega, by omega, [], m4, fun b => ⟨fun ⟨j, hj, _⟩ => by omega, fun _ => rfl⟩⟩, ?_⟩
  rintro k w8 ⟨hx8, hk0, hk1, m, hm, hget⟩
  refine ⟨fun hlt => ?_, fun hge w9 h9 => ?_⟩
  · have g1 := Ints.idx (hIm.ext hx8) hk0 hlt
    have g2 := Ints.idx (hL.ext hx8) hk0 (by omega)
    have hx := hLb _ (getD_mem L 0 (i := k.toNat) (by omega))
    have hb := hr _ (getD_mem I 0 (i := k.toNat) (by omega))
    generalize hbe : I.getD k.toNat 0 = b at *
    have hv0 : (mget m b).getD (.int .i64 0) = .int .i64 (partOf L I k.toNat b) := by
      by_cases hseen : ∃ j : Nat, (j : Int) < k ∧ I.getD j 0 = b
      · rw [(hget b).1 hseen]; rfl
      · have hno : ∀ j : Nat, (j : Int) < k → I.getD j 0 ≠ b := fun j hj he => hseen ⟨j, hj, he⟩
        rw [(hget b).2 hno, partOf_zero fun j hj => hno j (by omega)]; rfl
    have hnext : partOf L I (k.toNat + 1) b = partOf L I k.toNat b + L.getD k.toNat 0 := by
      have e : partOf L I (k.toNat + 1) b = partOf L I k.toNat b + if I.getD k.toNat 0 = b then dg L k.toNat else 0 := rfl
      rw [e, if_pos hbe]
    have hpos : 0 ≤ partOf L I k.toNat b := by
      have := partOf_mono (L := L) (I := I) b (Nat.zero_le k.toNat) fun j hj => by have := hd0 j (by omega); omega
      exact this
    have hle : partOf L I (k.toNat + 1) b ≤ s := by
      have h1 := partOf_mono (L := L) (I := I) b (show k.toNat + 1 ≤ L.length by omega) fun j hj => by have := hd0 j (by omega); omega
      have h2 := hp b.toNat (by omega)
      rw [Int.toNat_of_nonneg hb.1] at h2
      omega
    rw [hnext] at hle
    refine ⟨fun hq => cell_p g1 (pIdx_none.2 hq), hk0, hlt, b, g1, fun hq => cell_p g2 (pIdx_none.2 hq), hk0, by omega, _, g2, fun w11 h11 => ?_⟩
    refine run_look key_int map_ty elem_sl_int64 (hm.ext h11) ⟨Ext.refl _, _, hv0, i64 (by omega), fun w14 h14 => ?_⟩
    refine run_mapUpdate key_int map_ty (hm.ext h14) fun w15 m15 g15 => ⟨fun hneg => by omega, fun _ w16 h16 => ?_⟩
    have hx15 : Ext w w15 := g15.below (hx8.trans h14) (hx8.trans h14).size (fun a ha => by obtain rfl := Option.some.inj ha; exact h3.size)
    refine run_look key_int map_ty elem_sl_int64 (m15.ext h16) ⟨Ext.refl _, _, by rw [mget_mset, if_pos rfl]; rfl, fun hbig => by omega, fun _ => ⟨i64 (by omega), ⟨hx15, by omega, by omega, _, m15, fun b' => ?_⟩, by simp only []; omega⟩⟩
    rw [mget_mset, show (k + 1).toNat = k.toNat + 1 by omega]
    by_cases hbb : b = b'
    · subst hbb
      rw [if_pos rfl, hnext]
      exact ⟨fun _ => rfl, fun hno => absurd hbe (hno k.toNat (by omega))⟩
    · rw [if_neg hbb]
      have e : partOf L I (k.toNat + 1) b' = partOf L I k.toNat b' := by
        have e : partOf L I (k.toNat + 1) b' = partOf L I k.toNat b' + if I.getD k.toNat 0 = b' then dg L k.toNat else 0 := rfl
        rw [e, hbe, if_neg hbb]; omega
      rw [e]
      refine ⟨fun ⟨j, hj, hje⟩ => (hget b').1 ⟨j, ?_, hje⟩, fun hno => (hget b').2 fun j hj => hno j (by omega)⟩
      by_cases hjk : (j : Int) = k
      · obtain rfl : j = k.toNat := by omega
        exact absurd (hbe.symm.trans hje) hbb
      · omega
  · obtain rfl : k = I.length := by omega
    refine run_len_m map_ty (hm.ext h9) ⟨Ext.refl _, _, rfl, fun w12 h12 => ⟨hx8.trans h12, ?_⟩⟩
    have hlen : (mkeys m).length = N := by
      rw [len_of_same hm.nodup (nums_nodup N) fun a => ?_, nums_len]
      constructor
      · intro ha
        by_cases hseen : ∃ j : Nat, (j : Int) < I.length ∧ I.getD j 0 = a
        · obtain ⟨j, hj, rfl⟩ := hseen
          have := hr _ (getD_mem I 0 (i := j) (by omega))
          simp only [nums, List.mem_map, List.mem_range]
          exact ⟨(I.getD j 0).toNat, by omega, Int.toNat_of_nonneg this.1⟩
        · exact absurd ha (mget_none.1 ((hget a).2 fun j hj he => hseen ⟨j, hj, he⟩))
      · intro ha
        have := nums_mem ha
        obtain ⟨j, hj, he⟩ := hin a.toNat (by omega)
        rw [Int.toNat_of_nonneg this.1] at he
        refine Classical.byContradiction fun hno => ?_
        have h1 := mget_none.2 hno
        rw [(hget a).1 ⟨j, by omega, he⟩] at h1
        cases h1
    have : m.length = N := by rw [← hlen]; simp [mkeys]
    rw [this]

theorem FF.mem {s : Int} {L row F on : List Int} (h : FF s L row F on) : ∀ x ∈ row, ∃ a : Nat, x = a ∧ a < L.length := by
  induction h with
  | nil => intro x hx; cases hx
  | cons _ hi _ ih =>
    intro x hx
    rcases List.mem_append.1 hx with h | h
    · exact ih x h
    · exact ⟨_, by simpa using h, hi⟩
theorem FF.range {s : Int} {L row F on : List Int} (h : FF s L row F on) : ∀ x ∈ on, 0 ≤ x ∧ (x < F.length ∨ x = 0) := by
  induction h with
  | nil => intro x hx; have := List.eq_of_mem_replicate hx; omega
  | @cons row F on i F' on' hr hi hs ih =>
    obtain ⟨k, _, h, rfl⟩ := hs.ex
    have hFF : F.length ≤ F'.length ∧ k < F'.length := by
      rcases h with ⟨h1, _, rfl⟩ | ⟨h1, rfl⟩ <;> simp <;> omega
    intro x hx
    rcases mem_set_cases hx with h | rfl
    · have := ih x h; omega
    · omega
theorem FF.loads {s : Int} {L row F on : List Int} (h : FF s L row F on) (hn : row.Nodup) : (∀ x ∈ row, on.getD x.toNat 0 < F.length) ∧ ∀ k, k < F.length → F.getD k 0 = sumL (row.map fun i => if on.getD i.toNat 0 = k then dg L i.toNat else 0) := by
  induction h with
  | nil => exact ⟨(fun x hx => by cases hx), fun k hk => by simp at hk⟩
  | @cons row F on i F' on' hr hi hs ih =>
    obtain ⟨j, hj, h, rfl⟩ := hs.ex
    have hl := hr.len
    rw [List.nodup_append] at hn
    have hni : (i : Int) ∉ row := fun hm => hn.2.2 _ hm _ (by simp) rfl
    obtain ⟨i1, i2⟩ := ih hn.1
    have hset : ∀ x ∈ row, (on.set i (j : Int)).getD x.toNat 0 = on.getD x.toNat 0 := fun x hx => by
      obtain ⟨a, rfl, ha⟩ := hr.mem x hx
      have hai : a ≠ i := fun h => hni (h ▸ hx)
      rw [Int.toNat_natCast, getD_set _ _ _ _ _ (by omega), if_neg hai]
    have hi' : (on.set i (j : Int)).getD i 0 = j := by
      rw [getD_set _ _ _ _ _ (by omega), if_pos rfl]
    have hmap : ∀ k : Nat, sumL ((row ++ [(i : Int)]).map fun x => if (on.set i (j : Int)).getD x.toNat 0 = k then dg L x.toNat else 0) = sumL (row.map fun x => if on.getD x.toNat 0 = k then dg L x.toNat else 0) + if (j : Int) = k then dg L i else 0 := fun k => by
      rw [List.map_append, sumL_append, sumL_map_congr (g := fun x => if on.getD x.toNat 0 = k then dg L x.toNat else 0) fun x hx => by rw [hset x hx]]
      simp only [List.map_cons, List.map_nil, sumL, hi', Int.toNat_natCast, Int.add_zero]
    have hFF : F.length ≤ F'.length ∧ j < F'.length := by
      rcases h with ⟨h1, _, rfl⟩ | ⟨h1, rfl⟩ <;> simp <;> omega
    refine ⟨fun x hx => ?_, fun k hk => ?_⟩
    · rcases List.mem_append.1 hx with h | h
      · rw [hset x h]; have := i1 x h; omega
      · obtain rfl : x = i := by simpa using h
        rw [Int.toNat_natCast, hi']; omega
    · rw [hmap]
      rcases h with ⟨hjl, _, rfl⟩ | ⟨rfl, rfl⟩
      · rw [List.length_set] at hk
        rw [getD_set _ _ _ _ _ hjl, ← i2 k hk]
        by_cases hkj : k = j
        · subst hkj; rw [if_pos rfl, if_pos rfl]
        · rw [if_neg hkj, if_neg (by omega)]; omega
      · by_cases hkF : k < F.length
        · rw [← i2 k hkF, if_neg (by omega)]
          simp [List.getD_eq_getElem?_getD, List.getElem?_append_left hkF]
        · simp only [List.length_append, List.length_cons, List.length_nil] at hk
          obtain rfl : k = F.length := by omega
          rw [if_pos rfl, sumL_map_congr (g := fun _ => 0) fun x hx => by have := i1 x hx; rw [if_neg (by omega)]]
          have hz : ∀ r : List Int, sumL (r.map fun _ => (0 : Int)) = 0 := fun r => by
            induction r with
            | nil => rfl
            | cons a r ih => simp only [List.map_cons, sumL, ih]; rfl
          rw [hz]
          simp [List.getD_eq_getElem?_getD]

/-- First fit's boxes pass the check. -/
theorem FF.boxes {s : Int} {L row F on : List Int} (hL : ∀ x ∈ L, 1 ≤ x ∧ x ≤ s) (hp : row.Perm (nums L.length)) (h : FF s L row F on) :
    (∀ x ∈ on, 0 ≤ x ∧ x < F.length) ∧ (∀ b : Nat, b < F.length → partOf L on L.length b = F.getD b 0) ∧ ∀ b : Nat, b < F.length → ∃ j, j < on.length ∧ on.getD j 0 = b := by
  obtain ⟨i1, i2⟩ := h.loads (hp.symm.nodup_iff.1 (nums_nodup _))
  have hF := h.ok hL
  have hl := h.len
  have hpart : ∀ b : Nat, b < F.length → partOf L on L.length b = F.getD b 0 := fun b hb => by
    rw [i2 b hb, sumL_perm (hp.map _), sumL_nums]; rfl
  refine ⟨fun x hx => ?_, hpart, fun b hb => ?_⟩
  · obtain ⟨j, hj, rfl⟩ := List.getElem_of_mem hx
    have hm : (j : Int) ∈ row := hp.mem_iff.2 (by simp only [nums, List.mem_map, List.mem_range]; exact ⟨j, by omega, rfl⟩)
    have h1 := i1 _ hm
    rw [Int.toNat_natCast, List.getD_eq_getElem?_getD, List.getElem?_eq_getElem hj] at h1
    exact ⟨(h.range _ hx).1, h1⟩
  · refine Classical.byContradiction fun hno => ?_
    have hz := partOf_zero (L := L) (I := on) (b := b) (i := L.length) fun j hj he => hno ⟨j, by omega, he⟩
    rw [hpart b hb] at hz
    have := hF.1 _ (getD_mem F 0 hb)
    omega

theorem core_PackFits (W : World) : ∀ l : Option Addr, ∀ ll : Nat, ∀ lc : Nat, SlcArg Try.prog W T_int64 l ll lc → ∀ size : Int, InR .i64 size →
    FnP Try.prog F_shiftbellkeep_PackFits #[.slice l ll lc, .int .i64 size] W fun v W' => v = .bool true ∧ Ext W W' := by
  intro q ll lc hl s hsr
  obtain ⟨L, rfl, _, hL⟩ := hl.ints (k := .i64) (by kernel_rfl) (by kernel_rfl)
  have h64 : (L.length : Int) ≤ 9223372036854775807 := by have := hl.le; have := hl.max; omega
  refine ok_shiftbellkeep_PackFits q L.length lc s W _ fun w0 h0 => ?_
  refine (packs_k w0).mono fun v w1 ⟨e1, hv⟩ => ⟨e1, true, hv, fun h => by simp at h, fun _ w3 h3 => ?_⟩
  refine (First_k s q lc L h64 w3 (hL.ext h3)).mono fun v w4 ⟨e4, p, n, oc, t, hv, hb1, hg1⟩ => ⟨e4, p, n, oc, t, _, hv, fun w10 h10 => ?_⟩
  have hx4 := h3.trans e4
  have hx10 := hx4.trans h10
  refine (Down_k s q lc L h64 w10 (hL.ext hx10)).mono fun v w11 ⟨e11, p2, n2, oc2, t2, hv, hb2, hg2⟩ => ⟨e11, p2, n2, oc2, t2, _, hv, ?_, ?_⟩
  all_goals have hx11 := hx10.trans e11
  · intro hne
    have hok : ¬ okP s L := fun h => hne (errP_ok.2 h)
    obtain ⟨rfl, rfl⟩ := hb1 hok
    obtain ⟨rfl, rfl⟩ := hb2 hok
    exact ⟨fun _ => i64 (by omega), fun w17 h17 => ⟨b_true (by simp), hx11.trans h17⟩⟩
  · intro he w17 h17
    have hok := errP_ok.1 he
    obtain ⟨rfl, F, on, rfl, oN, hP⟩ := hg1 hok
    obtain ⟨rfl, row, F2, on2, rfl, hp, _, oN2, hP2⟩ := hg2 hok
    have hok' := hok
    obtain ⟨hl100, hs, hLb⟩ := hok'
    obtain ⟨a1, a2, a3⟩ := hP.boxes hLb (.refl _)
    obtain ⟨c1, c2, c3⟩ := hP2.boxes hLb hp
    have o1 := hP.ok hLb
    have o2 := hP2.ok hLb
    have l1 := hP.len
    have l2 := hP2.len
    have hx17 := hx11.trans h17
    have hb := Boxes2_k s q lc L hok p oc on l1.2 F.length a1 a3 (fun b hb => by rw [a2 b hb]; exact (o1.1 _ (getD_mem F 0 hb)).2) w17 (hL.ext hx17) (oN.ext ((h10.trans e11).trans h17)).cells
    rw [l1.2] at hb
    refine hb.mono fun v w18 ⟨e18, hv⟩ => ⟨e18, _, _, hv, fun w21 h21 => ?_⟩
    have hx21 := hx11.trans h21
    have hb' := Boxes2_k s q lc L hok p2 oc2 on2 l2.2 F2.length c1 c3 (fun b hb => by rw [c2 b hb]; exact (o2.1 _ (getD_mem F2 0 hb)).2) w21 (hL.ext hx21) (oN2.ext h21).cells
    rw [l2.2] at hb'
    refine hb'.mono fun v w22 ⟨e22, hv⟩ => ⟨e22, _, _, hv, fun w25 h25 => ?_⟩
    rw [he]
    refine run_lit elem_sl_Errno [.int .i64 0, .int .i64 0, .int .i64 0] rfl rfl (by intro v hv; simp at hv; subst hv; rfl) (by omega) (by omega) fun w26 o26 e26 => ⟨e26, _, _, _, rfl, fun w30 h30 => ?_⟩
    have oG := (o26 0 (Nat.zero_le _)).ext h30
    refine (good_k (some ⟨w25.heap.size, 0, none⟩) 3 3 [0, 0, 0] rfl (by omega) w30 oG.cells).mono fun v w31 ⟨e31, hv⟩ => ⟨e31, _, hv, fun w33 h33 => ⟨b_true ?_, ((hx11.trans h25).trans e26).trans h33⟩⟩
    have r1 := l1.1
    have r2 := l2.1
    rw [nums_len] at r1
    rw [hp.length_eq, nums_len] at r2
    simp; omega
end Go.Proofs.Ytmdnjnflmijofaa
