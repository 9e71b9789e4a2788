/- Parts by weights: ShareEven, ShareParts. -/
import Derived.Test.YthndjkpnllanpaaShD
set_option linter.unusedVariables false
set_option linter.unusedSimpArgs false
namespace Go.Proofs.Ythndjkpnllanpaa
open Go.Sx Go.RowKit

theorem sumL_set : ∀ (Z : List Int) (i : Nat) (v : Int), i < Z.length → sumL (Z.set i v) = sumL Z - Z.getD i 0 + v
  | a :: Z, 0, v, _ => by simp [sumL]; omega
  | a :: Z, i + 1, v, h => by
    have := sumL_set Z i v (by simpa using h)
    simp only [List.set_cons_succ, sumL, List.getD_cons_succ]
    omega
theorem sumL_bump : ∀ (B Z : List Int), (∀ b ∈ B, 0 ≤ b ∧ b < Z.length) → sumL (bump Z B) = sumL Z + B.length
  | [], Z, _ => by simp [bump]
  | b :: B, Z, h => by
    have hb := h b (List.mem_cons_self ..)
    rw [bump, sumL_bump B _ (fun y hy => by rw [List.length_set]; exact h y (List.mem_cons_of_mem _ hy)), sumL_set _ _ _ (by omega)]
    simp only [List.length_cons]; omega
theorem bump_at : ∀ (B Z : List Int), (∀ b ∈ B, 0 ≤ b ∧ b < Z.length) → ∀ i : Nat, (bump Z B).getD i 0 = Z.getD i 0 + cnt i B
  | [], Z, _, i => by simp [bump, cnt]
  | b :: B, Z, h, i => by
    have hb := h b (List.mem_cons_self ..)
    rw [bump, bump_at B _ (fun y hy => by rw [List.length_set]; exact h y (List.mem_cons_of_mem _ hy)), getD_set _ _ _ _ _ (by omega)]
    simp only [cnt]
    by_cases hi : i = b.toNat
    · subst hi
      rw [if_pos rfl, if_pos (by omega)]; omega
    · rw [if_neg hi, if_neg (by omega)]; omega
theorem cnt_nodup (x : Int) : ∀ {l : List Int}, l.Nodup → cnt x l ≤ 1
  | [], _ => by simp [cnt]
  | a :: l, h => by
    have h' := List.nodup_cons.1 h
    simp only [cnt]
    by_cases ha : a = x
    · rw [if_pos ha, cnt_zero fun y hy hyx => h'.1 (by rw [ha, ← hyx]; exact hy)]; omega
    · rw [if_neg ha]; have := cnt_nodup x h'.2; omega
theorem nodup_upto (n : Nat) : (upto n).Nodup := by
  unfold upto List.Nodup
  rw [List.pairwise_map]
  exact List.nodup_range.imp fun h h2 => h (by omega)
theorem sumL_perm {a b : List Int} (h : a.Perm b) : sumL a = sumL b := by
  induction h with
  | nil => rfl
  | cons x _ ih => simp only [sumL]; rw [ih]
  | swap x y l => simp only [sumL]; omega
  | trans _ _ h1 h2 => rw [h1, h2]
theorem map_upto (rs : List Int) : (upto rs.length).map (fun i => rs.getD i.toNat 0) = rs := by
  apply List.ext_getElem
  · simp [upto]
  · intro i h1 h2
    simp [upto, List.getD_eq_getElem?_getD, h2]

/-- What each part is. -/
theorem Parts.each {all : Int} {l Z : List Int} (h : Parts all l Z) : Z.length = l.length ∧ sumL Z = all ∧ ∀ i : Nat, i < l.length →
    (Z.getD i 0 = all * l.getD i 0 / sumL l ∨ Z.getD i 0 = all * l.getD i 0 / sumL l + 1 ∧ 0 < all * l.getD i 0 % sumL l) := by
  obtain ⟨Y, hp, hf, hZ, h0, h1⟩ := h.row
  have hS := h.pos
  have hY : ∀ y ∈ Y, 0 ≤ y ∧ y < l.length := fun y hy => mem_upto (hp.mem_iff.1 hy)
  have hYl : Y.length = l.length := by rw [hp.length_eq, upto_len]
  have hql : (quos all (sumL l) l).length = l.length := by simp [quos]
  have hrl : (rems all (sumL l) l).length = l.length := by simp [rems]
  revert hf hZ h0 h1
  generalize hL : all - sumL (quos all (sumL l) l) = L
  intro hf hZ h0 h1
  have hB : ∀ b ∈ Y.take L.toNat, 0 ≤ b ∧ b < (quos all (sumL l) l).length := fun b hb => by rw [hql]; exact hY b (List.mem_of_mem_take hb)
  have hBl : ((Y.take L.toNat).length : Int) = L := by rw [List.length_take]; omega
  refine ⟨by rw [hZ, bump_len, hql], by rw [hZ, sumL_bump _ _ hB, hBl]; omega, fun i hi => ?_⟩
  have hq : (quos all (sumL l) l).getD i 0 = all * l.getD i 0 / sumL l := by simp [quos, List.getD_eq_getElem?_getD, hi]
  have hr : (rems all (sumL l) l).getD i 0 = all * l.getD i 0 % sumL l := by simp [rems, List.getD_eq_getElem?_getD, hi]
  have he : Z.getD i 0 = all * l.getD i 0 / sumL l + cnt i (Y.take L.toNat) := by rw [hZ, bump_at _ _ hB, hq]
  have hnd : (Y.take L.toNat).Nodup := (hp.nodup_iff.2 (nodup_upto _)).sublist (List.take_sublist ..)
  have hc1 := cnt_nodup (i : Int) hnd
  have hc0 := cnt_nonneg (i : Int) (Y.take L.toNat)
  rcases Int.lt_or_le 0 (cnt i (Y.take L.toNat)) with hc | hc
  · refine .inr ⟨by omega, ?_⟩
    have hmem := cnt_pos_iff.1 hc
    rw [← hr]
    apply Int.not_le.1
    intro hneg
    -- the remainders of all that stand behind are none
    have hrb : ∀ x ∈ rems all (sumL l) l, 0 ≤ x ∧ x ≤ sumL l - 1 := fun x hx => by
      simp only [rems, List.mem_map] at hx
      obtain ⟨y, _, rfl⟩ := hx
      have := Int.emod_nonneg (all * y) (by omega : sumL l ≠ 0)
      have := Int.emod_lt_of_pos (all * y) hS
      omega
    have hsum := split_sum all (sumL l) hS l
    have hsr : sumL (rems all (sumL l) l) = L * sumL l := by rw [← hL, Int.sub_mul]; omega
    have hperm : sumL (Y.map fun i => (rems all (sumL l) l).getD i.toNat 0) = sumL (rems all (sumL l) l) := by
      rw [sumL_perm (hp.map _)]
      conv => lhs; rw [← hrl]
      rw [map_upto]
    have hsp : sumL (Y.map fun i => (rems all (sumL l) l).getD i.toNat 0) = sumL ((Y.take L.toNat).map fun i => (rems all (sumL l) l).getD i.toNat 0) + sumL ((Y.drop L.toNat).map fun i => (rems all (sumL l) l).getD i.toNat 0) := by
      rw [← sumL_append, ← List.map_append, List.take_append_drop]
    have key : ∀ y ∈ Y, 0 ≤ (rems all (sumL l) l).getD y.toNat 0 ∧ (rems all (sumL l) l).getD y.toNat 0 ≤ sumL l - 1 := fun y hy => hrb _ (getD_mem _ 0 (by have := hY y hy; omega))
    have ht := sumL_bounds (c := sumL l - 1) (l := (Y.take L.toNat).map fun i => (rems all (sumL l) l).getD i.toNat 0) (fun x hx => by
      simp only [List.mem_map] at hx
      obtain ⟨y, hy, rfl⟩ := hx
      exact key y (List.mem_of_mem_take hy))
    rw [List.length_map, hBl] at ht
    obtain ⟨u, hu⟩ := List.mem_iff_getElem?.1 hmem
    have hul : u < (Y.take L.toNat).length := (List.getElem?_eq_some_iff.1 hu).1
    have hnu : nth Y u = i := by
      have : (Y.take L.toNat)[u]? = Y[u]? := List.getElem?_take_of_lt (by rw [List.length_take] at hul; omega)
      rw [this] at hu
      simp [nth, List.getD_eq_getElem?_getD, hu]
    have hd := sumL_bounds (c := 0) (l := (Y.drop L.toNat).map fun i => (rems all (sumL l) l).getD i.toNat 0) (fun x hx => by
      simp only [List.mem_map] at hx
      obtain ⟨y, hy, rfl⟩ := hx
      refine ⟨(key y (List.mem_of_mem_drop hy)).1, ?_⟩
      obtain ⟨v, hv⟩ := List.mem_iff_getElem?.1 hy
      rw [List.getElem?_drop] at hv
      have hvl := (List.getElem?_eq_some_iff.1 hv).1
      have := hf u (L.toNat + v : Nat) (by omega) (by omega) (by omega)
      simp only [hnu] at this
      have hnv : nth Y ((L.toNat + v : Nat) : Int) = y := by
        show Y.getD ((L.toNat + v : Nat) : Int).toNat 0 = y
        rw [Int.toNat_natCast, List.getD_eq_getElem?_getD, hv]; rfl
      rw [hnv] at this
      simp only [Int.toNat_natCast] at this
      omega)
    rw [Int.mul_sub] at ht
    have : 0 < L := by omega
    omega
  · exact .inl (by omega)

theorem quo_mono {all S x y : Int} (h0 : 0 ≤ all) (hS : 0 < S) (h : x ≤ y) : all * x / S ≤ all * y / S := Int.ediv_le_ediv hS (Int.mul_le_mul_of_nonneg_left h h0)

theorem core_ShareEven (W : World) : ∀ all : Int, InR .i64 all → ∀ l : Option Addr, ∀ ll : Nat, ∀ lc : Nat, SlcArg Try.prog W T_int64 l ll lc → ∀ i : Int, InR .i64 i → ∀ k : Int, InR .i64 k →
    FnP Try.prog F_shiftbellkeep_ShareEven #[.int .i64 all, .slice l ll lc, .int .i64 i, .int .i64 k] W fun v W' => v = .bool true ∧ Ext W W' := by
  intro all ha p ll lc hl i hi k hk
  obtain ⟨l, rfl, _, hI⟩ := hl.ints (k := .i64) (by kernel_rfl) (by kernel_rfl)
  have h63 : (l.length : Int) ≤ 9223372036854775807 := by have := hl.le; have := hl.max; omega
  refine ok_shiftbellkeep_ShareEven _ _ _ _ _ _ W _ ?_
  intro w0 h0
  refine (shares_k w0).mono fun v w1 ⟨e1, hv⟩ => ⟨e1, true, hv, fun h => by simp at h, fun _ w3 h3 => ?_⟩
  refine (Whole_k all p lc l h63 w3 (hI.ext h3)).mono fun v w4 ⟨e4, q, m, d, e, hv, hc⟩ => ⟨e4, q, m, d, e, hv, fun hb w9 h9 => ?_, fun hg => ?_⟩
  · rcases hc with ⟨h1, h2⟩ | ⟨h1, h2, _⟩
    · exact ⟨b_true (by simp [h1, h2]), (h3.trans e4).trans h9⟩
    · omega
  · rcases hc with ⟨h1, h2⟩ | ⟨h1, rfl, Z, hZ, o⟩
    · exact absurd hg.1 h1
    have hx : Ext W w4 := h3.trans e4
    obtain ⟨z1, z2, z3⟩ := hZ.each
    have hl4 : Ints .i64 w4 p l := hI.ext hx
    refine ⟨fun hr => ?_, fun hr => by omega, fun hr => by omega, fun hr w9 h9 => ⟨rfl, hx.trans h9⟩, fun hr => ?_⟩
    · exact fun hp => cell_p (hl4.idx (i := i) (by omega) (by omega)) (pIdx_none.2 hp)
    have ci := hl4.idx (i := i) (by omega) (by omega)
    have ck := hl4.idx (i := k) (by omega) (by omega)
    have oi := o.int_at (i := i) (by omega) (by omega)
    have ok := o.int_at (i := k) (by omega) (by omega)
    have ei := z3 i.toNat (by omega)
    have ek := z3 k.toNat (by omega)
    have hxi := hZ.ok.2.2.2 _ (getD_mem l 0 (i := i.toNat) (by omega))
    have hnn : ∀ x ∈ l, 0 ≤ x := fun x hx => (hZ.ok.2.2.2 x hx).1
    have hsi := mem_le_sum hnn _ (getD_mem l 0 (i := i.toNat) (by omega))
    have qi := quo_bounds ⟨hZ.ok.1, hZ.ok.2.1⟩ hZ.pos ⟨hxi.1, hsi⟩
    have hqn : q ≠ none := o.ne1 (by omega) (by omega)
    have hall := hZ.ok.2.1
    refine ⟨_, ci, fun hp => cell_p ci (pIdx_none.2 hp), by omega, by omega, _, ck, fun _ w11 h11 => ⟨rfl, hx.trans h11⟩, fun hle => ⟨hqn, by omega, by omega, _, oi, i64 (by omega), hqn, by omega, by omega, _, ok, fun w13 h13 => ⟨b_true (decide_eq_true ?_), hx.trans h13⟩⟩⟩
    have := quo_mono (S := sumL l) hZ.ok.1 hZ.pos hle
    omega

theorem sum_k (p : Option Addr) (c : Nat) (l : List Int) (m : Int) (hm : 0 ≤ m ∧ m ≤ 1099511627776) (hl : l.length ≤ 100) (hx : ∀ x ∈ l, 0 ≤ x ∧ x ≤ m) (w : World) (h : Ints .i64 w p l) : FnP Try.prog F_shiftbellkeep_sum #[.slice p l.length c] w fun v w' => Ext w w' ∧ v = .int .i64 (sumL l) := by
  refine ok_shiftbellkeep_sum p l.length c w _ ?_
  refine ⟨fun s k w' => w' = w ∧ 0 ≤ k ∧ k ≤ l.length ∧ s = sumL (l.take k.toNat), fun _ k _ => (l.length - k).toNat, ⟨rfl, by omega, by omega, by simp [sumL]⟩, ?_⟩
  rintro s k _ ⟨rfl, hk0, hk1, rfl⟩
  refine ⟨fun hlt => ?_, fun hge w4 h4 => ⟨h4, ?_⟩⟩
  · have hb := sumL_take_bounds (n := k.toNat + 1) (fun x hx' => ⟨(hx x hx').1, Int.le_trans (hx x hx').2 hm.2⟩) (by omega)
    have hs := sumL_take_succ l (n := k.toNat) (by omega)
    exact ⟨fun hp => cell_p (h.idx hk0 hlt) (pIdx_none.2 hp), hk0, hlt, _, h.idx hk0 hlt, i64 (by omega), i64 (by omega), ⟨rfl, by omega, by omega, by rw [show (k + 1).toNat = k.toNat + 1 by omega, hs]⟩, by simp only []; omega⟩
  · rw [List.take_of_length_le (by omega)]

theorem core_ShareParts (W : World) : ∀ all : Int, InR .i64 all → ∀ l : Option Addr, ∀ ll : Nat, ∀ lc : Nat, SlcArg Try.prog W T_int64 l ll lc →
    FnP Try.prog F_shiftbellkeep_ShareParts #[.int .i64 all, .slice l ll lc] W fun v W' => v = .bool true ∧ Ext W W' := by
  intro all ha p ll lc hl
  obtain ⟨l, rfl, _, hI⟩ := hl.ints (k := .i64) (by kernel_rfl) (by kernel_rfl)
  have h63 : (l.length : Int) ≤ 9223372036854775807 := by have := hl.le; have := hl.max; omega
  refine ok_shiftbellkeep_ShareParts _ _ _ _ W _ ?_
  intro w0 h0
  refine (shares_k w0).mono fun v w1 ⟨e1, hv⟩ => ⟨e1, true, hv, fun h => by simp at h, fun _ w3 h3 => ?_⟩
  refine (Whole_k all p lc l h63 w3 (hI.ext h3)).mono fun v w4 ⟨e4, q, m, d, e, hv, hc⟩ => ⟨e4, q, m, d, e, hv, fun hb w9 h9 => ?_, fun hg => ?_⟩
  · rcases hc with ⟨h1, h2⟩ | ⟨h1, h2, _⟩
    · exact ⟨b_true (by simp [h2]), (h3.trans e4).trans h9⟩
    · omega
  rcases hc with ⟨h1, h2⟩ | ⟨h1, rfl, Z, hZ, o⟩
  · exact absurd hg h1
  have hx : Ext W w4 := h3.trans e4
  obtain ⟨z1, z2, z3⟩ := hZ.each
  have hl4 : Ints .i64 w4 p l := hI.ext hx
  have hall : 0 ≤ all ∧ all ≤ 1099511627776 := ⟨hZ.ok.1, hZ.ok.2.1⟩
  have hlen := hZ.ok.2.2.1
  have hS := hZ.pos
  have hS2 := hZ.le
  have hnn : ∀ x ∈ l, 0 ≤ x := fun x hx => (hZ.ok.2.2.2 x hx).1
  have hzb : ∀ i : Nat, i < l.length → 0 ≤ all * l.getD i 0 / sumL l ∧ all * l.getD i 0 / sumL l ≤ all := fun i hi => quo_bounds hall hS ⟨hnn _ (getD_mem l 0 hi), mem_le_sum hnn _ (getD_mem l 0 hi)⟩
  have hZb : ∀ x ∈ Z, 0 ≤ x ∧ x ≤ all := by
    have hnz : ∀ x ∈ Z, 0 ≤ x := fun x hx => by
      obtain ⟨i, hi⟩ := List.mem_iff_getElem?.1 hx
      have hlt := (List.getElem?_eq_some_iff.1 hi).1
      have e1 : Z.getD i 0 = x := by simp [List.getD_eq_getElem?_getD, hi]
      have := z3 i (by omega)
      have := hzb i (by omega)
      omega
    exact fun x hx => ⟨hnz x hx, by rw [← z2]; exact mem_le_sum hnz x hx⟩
  refine ⟨fun hne w9 h9 => by omega, fun _ w9 h9 => ?_⟩
  have oZ : Ints .i64 w4 q Z := o.cells
  have hsz := sum_k q d Z all hall (by omega) hZb w9 (oZ.ext h9)
  rw [z1] at hsz
  refine hsz.mono fun v w10 ⟨e10, hv⟩ => ⟨e10, _, hv, fun hne => absurd z2 hne, fun _ w12 h12 => ?_⟩
  refine (sum_k p lc l 1099511627776 (by omega) hlen hZ.ok.2.2.2 w12 (hl4.ext h12)).mono fun v w13 ⟨e13, hv⟩ => ⟨e13, _, hv, ?_⟩
  refine ⟨fun k w' => 0 ≤ k ∧ k ≤ l.length ∧ w' = w4, fun k _ => (l.length - k).toNat, ⟨by omega, by omega, rfl⟩, ?_⟩
  rintro k w17 ⟨hk0, hk1, rfl⟩
  refine ⟨fun hlt => ?_, fun hge w18 h18 => ⟨rfl, hx.trans h18⟩⟩
  have ck := hl4.idx (i := k) hk0 hlt
  have ok := o.int_at (i := k) hk0 (by omega)
  have ek := z3 k.toNat (by omega)
  have bk := hzb k.toNat (by omega)
  have hzk := hZb _ (getD_mem Z 0 (i := k.toNat) (by omega))
  have hlk := hnn _ (getD_mem l 0 (i := k.toNat) (by omega))
  have hls := mem_le_sum hnn _ (getD_mem l 0 (i := k.toNat) (by omega))
  revert ck ok ek bk hzk hlk hls
  generalize Z.getD k.toNat 0 = z
  generalize l.getD k.toNat 0 = x
  intro ck ok ek bk hzk hlk hls
  have hqn : q ≠ none := o.ne1 (by omega) (by omega)
  have hpn : p ≠ none := fun hp => cell_p ck (pIdx_none.2 hp)
  refine ⟨hqn, hk0, hlt, _, ok, fun _ => hpn, fun _ => hk0, fun _ => hlt, fun hneg => by omega, fun _ => ⟨_, ck, fun hz => ?_, fun _ => ⟨fun hbig => ⟨i64 (by omega), ⟨by omega, by omega, rfl⟩, by simp only []; omega⟩, fun hsm => ?_⟩⟩⟩
  · exfalso
    obtain ⟨rfl, hz2⟩ := hz
    simp at ek
    omega
  · have hd := Int.mul_ediv_add_emod (all * x) (sumL l)
    have m0 := Int.emod_nonneg (all * x) (by omega : sumL l ≠ 0)
    have m1 := Int.emod_lt_of_pos (all * x) hS
    have b1 : 0 ≤ z * sumL l ∧ z * sumL l ≤ 1073741824 * 1000000000 := ⟨Int.mul_nonneg hzk.1 (by omega), Int.mul_le_mul (by omega) hS2 (by omega) (by omega)⟩
    have b2 : 0 ≤ all * x ∧ all * x ≤ 1073741824 * 1000000000 := ⟨Int.mul_nonneg hall.1 hlk, Int.mul_le_mul (by omega) (by omega) hlk (by omega)⟩
    have hdd : -(sumL l) < z * sumL l - all * x ∧ z * sumL l - all * x < sumL l := by
      rcases ek with rfl | ⟨rfl, hr⟩
      · rw [Int.mul_comm (all * x / sumL l)]; omega
      · rw [Int.add_mul, Int.mul_comm (all * x / sumL l)]; omega
    refine ⟨i64 (by omega), hpn, hk0, hlt, _, ck, i64 (by omega), i64 (by omega), i64 (by omega), fun hbad => by omega, fun _ => ⟨i64 (by omega), ⟨by omega, by omega, rfl⟩, by simp only []; omega⟩⟩
end Go.Proofs.Ythndjkpnllanpaa
