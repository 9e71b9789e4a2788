/- The laws NeedOrder, NeedSums and NeedBack. -/
import Derived.Test.YtdhhggfplacenaaDoorNdA
set_option linter.unusedVariables false
set_option linter.unusedSimpArgs false
namespace Go.Proofs.YtdhhggfplacenaaDoor
open Go.Sx Go.RowKit

def GL (w : World) : Prop := True
theorem laid_ok {l : List (String × DataW Unit)} {W : World} (h : laidMetH Tryd.prog l W) : GL W := trivial

def sumNd : List Nd → Nd
  | [] => zeroN
  | x :: l => addN x (sumNd l)
def accN (L : List Nd) (k : Nat) : Nd := (L.take k).foldl addN zeroN
theorem accN_succ {L : List Nd} {k : Nat} (h : k < L.length) : accN L (k + 1) = addN (accN L k) (L.getD k default) := by
  unfold accN
  rw [List.take_add_one, List.foldl_append, getElem?_getD L default h]; rfl
theorem foldl_ge {L : List Nd} : ∀ {s : Nd}, (∀ x ∈ L, okN x) → fitN s (L.foldl addN s) := by
  induction L with
  | nil => intro s _; exact ⟨Int.le_refl _, Int.le_refl _, Int.le_refl _⟩
  | cons x L ih =>
    intro s h
    obtain ⟨h1, h2, h3⟩ := ih (s := addN s x) fun y hy => h y (List.mem_cons_of_mem _ hy)
    obtain ⟨g1, g2, g3⟩ := h x (List.mem_cons_self ..)
    simp only [addN] at h1 h2 h3
    simp only [List.foldl_cons]
    exact ⟨by simp only [addN]; omega, by simp only [addN]; omega, by simp only [addN]; omega⟩

theorem nSum_k (p : Option Addr) (c : Nat) (L : List Nd) (h63 : L.length ≤ 1000) (w : World) (h : NdsAt w p L) : FnP Tryd.prog F_need_Sum #[.slice p L.length c] w fun v w' => Ext w w' ∧ ∃ s e, v = .tuple #[nv s, .int .i64 e] ∧
    ((∀ x ∈ L, okN x) → okN (L.foldl addN zeroN) → e = 0 ∧ s = L.foldl addN zeroN) := by
  refine ok_need_Sum p L.length c w _ fun b0 hb0 w1 h1 => ?_
  refine (nchecks_k p c L (by omega) w1 (h.ext h1)).mono fun v w2 ⟨e2, hv⟩ => ⟨e2, _, hv, fun hne w4 h4 => ⟨h4, zeroN, _, rfl, fun ho => absurd (errNs_ok.2 ho) hne⟩, fun he b4 hb4 => ?_⟩
  have hall := errNs_ok.1 he
  have base : okN zeroN := ⟨by simp [zeroN], by simp [zeroN], by simp [zeroN]⟩
  refine ⟨fun k c1 c2 c3 w' => w' = w ∧ 0 ≤ k ∧ k ≤ L.length ∧ (⟨c1, c2, c3⟩ : Nd) = accN L k.toNat ∧ okN ⟨c1, c2, c3⟩, fun k _ _ _ _ => (L.length - k).toNat, ⟨rfl, by omega, by omega, rfl, base⟩, ?_⟩
  rintro k c1 c2 c3 w ⟨rfl, hk0, hk1, hacc, hok⟩
  refine ⟨fun hlt => ?_, fun hge w11 x11 => ⟨but_ext x11 (Ext.refl _) (by intro d hd; simp at hd; omega), ⟨c1, c2, c3⟩, _, rfl, fun _ _ => ⟨rfl, ?_⟩⟩⟩
  · have g0 := h.idx default hk0 hlt (j := 0) rfl
    have g1 := h.idx default hk0 hlt (j := 1) rfl
    have g2 := h.idx default hk0 hlt (j := 2) rfl
    have hfree : Free [b4] (pIdx p k 3) := fun b hb a ha => by
      simp at hb; subst hb
      obtain ⟨a', ha', hlt', _⟩ := cell_some g0
      rw [ha] at ha'; obtain rfl := Option.some.inj ha'
      omega
    have hxk := hall _ (getD_mem L default (i := k.toNat) (by omega))
    refine ⟨fun hq => cell_p g0 (pIdx_none.2 hq), hk0, hlt, cell_p g0, _, ⟨g0, hfree⟩, _, ⟨g1, hfree⟩, _, ⟨g2, hfree⟩, fun b14 _ w15 x15 => ?_⟩
    refine (nAdd_k ⟨c1, c2, c3⟩ (L.getD k.toNat default) w15).mono fun v w16 ⟨e16, s, e, hv, hc⟩ => ⟨e16, s.c, s.m, s.g, e, hv, fun hne w21 x21 => ⟨but_ext x21 (Ext.refl _) (by intro d hd; simp at hd; omega), zeroN, _, rfl, fun ho hsum => ?_⟩, fun he => ⟨i64 (by omega), ⟨rfl, by omega, by omega, ?_, ?_⟩, by simp only []; omega⟩⟩
    · exfalso
      have hle : fitN (addN ⟨c1, c2, c3⟩ (L.getD k.toNat default)) (L.foldl addN zeroN) := by
        have h1 : L = L.take (k.toNat + 1) ++ L.drop (k.toNat + 1) := (List.take_append_drop _ _).symm
        rw [h1, List.foldl_append]
        have h2 : (L.take (k.toNat + 1)).foldl addN zeroN = addN ⟨c1, c2, c3⟩ (L.getD k.toNat default) := by
          rw [hacc]; exact accN_succ (by omega)
        rw [h2]
        rw [← h1]
        exact foldl_ge fun x hx => ho x (List.mem_of_mem_drop hx)
      obtain ⟨l1, l2, l3⟩ := hle
      obtain ⟨s1, s2, s3⟩ := hsum
      obtain ⟨o1, o2, o3⟩ := hok
      obtain ⟨q1, q2, q3⟩ := hxk
      rcases hc with ⟨_, _, _, rfl, _⟩ | ⟨hn, _⟩ | ⟨_, _, hn, _⟩
      · exact hne rfl
      · exact hn ⟨⟨o1, o2, o3⟩, ⟨q1, q2, q3⟩⟩
      · refine hn ⟨?_, ?_, ?_⟩ <;> simp only [addN] at * <;> omega
    · rcases hc with ⟨_, _, hs, _, rfl⟩ | ⟨_, rfl, _⟩ | ⟨_, _, _, rfl, _⟩
      · rw [show (k + 1).toNat = k.toNat + 1 by omega, accN_succ (by omega), ← hacc]
      · omega
      · omega
    · rcases hc with ⟨_, _, hs, _, rfl⟩ | ⟨_, rfl, _⟩ | ⟨_, _, _, rfl, _⟩
      · exact hs
      · omega
      · omega
  · show (⟨c1, c2, c3⟩ : Nd) = _
    rw [hacc]; unfold accN; rw [List.take_of_length_le (by omega)]

/-- How often: the one fits so often, and no more. -/
structure TimesOk (a b : Nd) (n : Int) : Prop where
  n0 : 0 ≤ n
  le : ∀ i, i < 3 → n * ndAt a i ≤ ndAt b i
  most : ∃ i, i < 3 ∧ 0 < ndAt a i ∧ ndAt b i < (n + 1) * ndAt a i

theorem nTimes_k (a b : Nd) (w : World) : FnP Tryd.prog F_need_Times #[nv a, nv b] w fun v w' => Ext w w' ∧ ∃ n e, v = .tuple #[.int .i64 n, .int .i64 e] ∧ (okN a → okN b → (a = zeroN ∧ e = 1) ∨ (a ≠ zeroN ∧ e = 0 ∧ TimesOk a b n)) := by
  refine ok_need_Times a.c a.m a.g b.c b.m b.g w _ fun w0 h0 => ?_
  refine new_nd fun p1 w1 e1 c1 n1 => fun w2 h2 => ?_
  refine new_nd (x := b) fun p3 w3 e3 c3 n3 => ?_
  have ca := (c1.ext h2).ext e3
  have x3 := ((h0.trans e1).trans h2).trans e3
  refine ⟨n1, _, ca 0 _ rfl, _, ca 1 _ rfl, _, ca 2 _ rfl, n3, _, c3 0 _ rfl, _, c3 1 _ rfl, _, c3 2 _ rfl, fun w10 h10 => ?_⟩
  refine nchecks2 a b (ns := []) (w := w3) (fun w11 e11 => ?_) w10 (by exact ⟨⟨h10.os, h10.tape, h10.output, h10.size, fun k hk _ => h10.block k hk⟩, fun b hb => by cases hb⟩)
  have ca' := ca.ext e11
  have cb' := c3.ext e11
  have x11 := x3.trans e11
  by_cases hok : okN a ∧ okN b
  · rw [if_pos hok]
    have oka := okN_at.1 hok.1
    have okb := okN_at.1 hok.2
    refine ⟨fun h => absurd rfl h, fun _ => ⟨n1, _, ca' 0 _ rfl, _, ca' 1 _ rfl, _, ca' 2 _ rfl, fun w21 h21 => ?_⟩⟩
    refine eqN_k (b := zeroN) ⟨Ext.refl _, _, rfl, fun hz w24 h24 => ⟨x11.trans h24, _, _, rfl, fun _ _ => .inl ⟨by simpa using hz, rfl⟩⟩, fun hz w24 h24 => ?_⟩
    have hnz : a ≠ zeroN := by simpa using hz
    refine (parts_k p3 n3 w24).mono fun v w25 ⟨e25, qb, hv, hqb⟩ => ⟨e25, qb, 3, 3, hv, fun w29 h29 => ?_⟩
    refine (parts_k p1 n1 w29).mono fun v w30 ⟨e30, qa, hv, hqa⟩ => ⟨e30, qa, 3, 3, hv, ?_⟩
    have x30 := ((h24.trans e25).trans h29).trans e30
    have cA := ca'.ext x30
    have cB := cb'.ext x30
    have hqb' := hqb.ext (h29.trans e30)
    refine ⟨fun n k w' => w' = w30 ∧ 0 ≤ k ∧ k ≤ 3 ∧ 0 ≤ n ∧ n ≤ 1099511627776 ∧ (∀ i : Nat, (i : Int) < k → n * ndAt a i ≤ ndAt b i) ∧ ((∃ i : Nat, (i : Int) < k ∧ 0 < ndAt a i ∧ ndAt b i < (n + 1) * ndAt a i) ∨ (n = 1099511627776 ∧ ∀ i : Nat, (i : Int) < k → ndAt a i = 0)), fun _ k _ => (3 - k).toNat, ⟨rfl, by omega, by omega, by omega, by omega, fun i hi => by omega, .inr ⟨rfl, fun i hi => by omega⟩⟩, ?_⟩
    rintro n k w30 ⟨rfl, hk0, hk1, hn0, hn1, hle, hmost⟩
    refine ⟨fun hlt => ?_, fun hge w38 h38 => ⟨(x11.trans x30).trans h38, _, _, rfl, fun _ _ => .inr ⟨hnz, rfl, hn0, fun i hi => hle i (by omega), ?_⟩⟩⟩
    · obtain ⟨s, d1, d2⟩ := hqa k hk0 hlt
      obtain ⟨s', f1, f2⟩ := hqb' k hk0 hlt
      have ci := nd_at cA (i := k.toNat) (by omega)
      have cj := nd_at cB (i := k.toNat) (by omega)
      have hne : pAdd p1 k.toNat ≠ none := fun h => n1 (pAdd_none.1 h)
      have hne3 : pAdd p3 k.toNat ≠ none := fun h => n3 (pAdd_none.1 h)
      have hA := oka k.toNat (by omega)
      have hB := okb k.toNat (by omega)
      refine ⟨fun hq => cell_p d1 (pIdx_none.2 hq), hk0, hlt, cell_p d1, s, d1, _, d2, fun b40 _ => ⟨hne, _, ci, fun hpos => ?_, fun hz => ⟨i64 (by omega), ⟨rfl, by omega, by omega, hn0, hn1, fun i hi => ?_, ?_⟩, by simp only []; omega⟩⟩⟩
      · have hd0 : 0 ≤ (ndAt b k.toNat) / (ndAt a k.toNat) := Int.ediv_nonneg hB.1 hA.1
        have hd1 : (ndAt b k.toNat) / (ndAt a k.toNat) ≤ ndAt b k.toNat := Int.ediv_le_self _ hB.1
        have hd2 := Int.ediv_mul_le (ndAt b k.toNat) (b := ndAt a k.toNat) (by omega)
        have hd3 := Int.lt_ediv_add_one_mul_self (ndAt b k.toNat) hpos
        refine ⟨fun hq => cell_p f1 (pIdx_none.2 hq), hk0, hlt, cell_p f1, _, by rw [cell_pAdd]; exact f2, hne3, _, cj, hne, _, ci, by omega, by rw [td hB.1]; exact i64 (by omega), i64 (by omega), ?_⟩
        rw [td hB.1]
        generalize ndAt b k.toNat / ndAt a k.toNat = d at hd0 hd1 hd2 hd3
        refine ⟨⟨rfl, by omega, by omega, by omega, by omega, fun i hi => ?_, ?_⟩, by simp only []; omega⟩
        · by_cases hik : (i : Int) < k
          · have h1 := hle i hik
            have h2 : min n d * ndAt a i ≤ n * ndAt a i := Int.mul_le_mul_of_nonneg_right (by omega) (oka i (by omega)).1
            omega
          · obtain rfl : i = k.toNat := by omega
            have h2 : min n d * ndAt a k.toNat ≤ d * ndAt a k.toNat := Int.mul_le_mul_of_nonneg_right (by omega) hA.1
            omega
        · rcases Int.le_total n d with hnd | hnd
          · rw [Int.min_eq_left hnd]
            rcases hmost with ⟨i, hi, h1, h2⟩ | ⟨h1, _⟩
            · exact .inl ⟨i, by omega, h1, h2⟩
            · refine .inl ⟨k.toNat, by omega, hpos, ?_⟩
              have : (d + 1) * ndAt a k.toNat ≤ (n + 1) * ndAt a k.toNat := Int.mul_le_mul_of_nonneg_right (by omega) hA.1
              omega
          · rw [Int.min_eq_right hnd]
            exact .inl ⟨k.toNat, by omega, hpos, hd3⟩
      · by_cases hik : (i : Int) < k
        · exact hle i hik
        · obtain rfl : i = k.toNat := by omega
          have : ndAt a k.toNat = 0 := by omega
          rw [this]; omega
      · rcases hmost with ⟨i, hi, h1, h2⟩ | ⟨h1, h2⟩
        · exact .inl ⟨i, by omega, h1, h2⟩
        · refine .inr ⟨h1, fun i hi => ?_⟩
          by_cases hik : (i : Int) < k
          · exact h2 i hik
          · obtain rfl : i = k.toNat := by omega
            omega
    · rcases hmost with ⟨i, hi, h1, h2⟩ | ⟨_, h2⟩
      · exact ⟨i, by omega, h1, h2⟩
      · refine absurd ?_ hnz
        have a0 := h2 0 (by omega)
        have a1 := h2 1 (by omega)
        have a2 := h2 2 (by omega)
        simp only [ndAt] at a0 a1 a2
        cases a; simp_all [zeroN]
  · rw [if_neg hok]
    exact ⟨fun _ w18 h18 => ⟨x11.trans h18, _, _, rfl, fun ha hb => absurd ⟨ha, hb⟩ hok⟩, fun h => by omega⟩

/-- Nothing at all is told as '-'. -/
theorem ntext0_k (w : World) : FnP Tryd.prog F_need_text #[nv zeroN] w fun v w' => Ext w w' ∧ v = .string ⟨#[45]⟩ := by
  refine ok_need_text 0 0 0 w _ fun w0 h0 => ?_
  refine new_nd (x := zeroN) fun p1 w1 e1 c1 n1 => fun w2 h2 => ?_
  refine (parts_k p1 n1 w2).mono fun v w3 ⟨e3, q, hv, hq⟩ => ⟨e3, q, 3, 3, hv, ?_⟩
  have c3 := (c1.ext h2).ext e3
  have x3 := ((h0.trans e1).trans h2).trans e3
  refine ⟨fun o l c k w' => w' = w3 ∧ o = none ∧ 0 ≤ k ∧ k ≤ 3, fun _ _ _ k _ => (3 - k).toNat, ⟨rfl, rfl, by omega, by omega⟩, ?_⟩
  rintro o l c k w3 ⟨rfl, rfl, hk0, hk1⟩
  refine ⟨fun hlt => ?_, fun hge => ⟨fun _ w11 h11 => ⟨x3.trans h11, rfl⟩, fun h => absurd rfl h⟩⟩
  obtain ⟨s, d1, d2⟩ := hq k hk0 hlt
  have ci := nd_at c3 (i := k.toNat) (by omega)
  have hz : ndAt zeroN k.toNat = 0 := by unfold ndAt zeroN; split <;> rfl
  rw [hz] at ci
  have hne : pAdd p1 k.toNat ≠ none := fun h => n1 (pAdd_none.1 h)
  exact ⟨fun hq => cell_p d1 (pIdx_none.2 hq), hk0, hlt, cell_p d1, s, d1, _, d2, fun b13 _ => ⟨hne, 0, ci, fun h => absurd rfl h, fun _ => ⟨i64 (by omega), ⟨rfl, rfl, by omega, by omega⟩, by simp only []; omega⟩⟩⟩

theorem needs_k (w : World) : FnP Tryd.prog F_shiftbellkeep_needs #[] w fun v w' => Ext w w' ∧ v = .bool true := by
  refine ok_shiftbellkeep_needs w _ fun w0 h0 => ?_
  have hz : okN zeroN := ⟨by simp [zeroN], by simp [zeroN], by simp [zeroN]⟩
  refine FnP.mono (K := fun v w1 => Ext w0 w1 ∧ v = .tuple #[.string ⟨#[45]⟩, .int .i64 0]) (ok_need_Text 0 0 0 w0 _ fun b0 _ w1 h1 => ?_) fun v w1 ⟨e1, hv⟩ => ⟨e1, _, _, hv, fun w4 h4 => ⟨h4, rfl⟩⟩
  refine (ncheck_k zeroN w1).mono fun v w2 ⟨e2, hv⟩ => ⟨e2, _, hv, fun hne => absurd (errN_ok.2 hz) hne, fun _ w4 h4 => ?_⟩
  exact (ntext0_k w4).mono fun v w5 ⟨e5, hv⟩ => ⟨e5, _, hv, fun w7 h7 => ⟨h7, rfl⟩⟩

theorem weakB {ns : List Nat} {w : World} {Pr : World → Prop} (h : ∀ w1, Ext w w1 → Pr w1) : ∀ w1, ExtB [] ns w w1 → Pr w1 := fun w1 x => h w1 (extB_ext x)

theorem core_NeedOrder (W : World) (hg : GL W) : ∀ a_0 : Int, InR .i64 a_0 → ∀ a_1 : Int, InR .i64 a_1 → ∀ a_2 : Int, InR .i64 a_2 → ∀ b_0 : Int, InR .i64 b_0 → ∀ b_1 : Int, InR .i64 b_1 → ∀ b_2 : Int, InR .i64 b_2 → ∀ c_0 : Int, InR .i64 c_0 → ∀ c_1 : Int, InR .i64 c_1 → ∀ c_2 : Int, InR .i64 c_2 →
    FnP Tryd.prog F_shiftbellkeep_NeedOrder #[.agg #[.int .i64 a_0, .int .i64 a_1, .int .i64 a_2], .agg #[.int .i64 b_0, .int .i64 b_1, .int .i64 b_2], .agg #[.int .i64 c_0, .int .i64 c_1, .int .i64 c_2]] W fun v W' => v = .bool true ∧ Ext W W' := by
  intro a0 _ a1 _ a2 _ b0 _ b1 _ b2 _ c0 _ c1 _ c2 _
  obtain ⟨a, rfl, rfl, rfl⟩ : ∃ a : Nd, a0 = a.c ∧ a1 = a.m ∧ a2 = a.g := ⟨⟨a0, a1, a2⟩, rfl, rfl, rfl⟩
  obtain ⟨b, rfl, rfl, rfl⟩ : ∃ a : Nd, b0 = a.c ∧ b1 = a.m ∧ b2 = a.g := ⟨⟨b0, b1, b2⟩, rfl, rfl, rfl⟩
  obtain ⟨c, rfl, rfl, rfl⟩ : ∃ a : Nd, c0 = a.c ∧ c1 = a.m ∧ c2 = a.g := ⟨⟨c0, c1, c2⟩, rfl, rfl, rfl⟩
  refine ok_shiftbellkeep_NeedOrder _ _ _ _ _ _ _ _ _ W _ fun b0 hb0 b1 hb1 b2 hb2 w3 h3 => ?_
  refine (needs_k w3).mono fun v w4 ⟨e4, hv⟩ => ⟨e4, true, hv, fun h => by simp at h, fun _ w6 h6 => ?_⟩
  refine (nFits_k a b w6).mono fun v w7 ⟨e7, x, e, hv, hx⟩ => ⟨e7, _, _, hv, fun w10 h10 => ?_⟩
  refine (nFits_k b c w10).mono fun v w11 ⟨e11, y, f, hv, hy⟩ => ⟨e11, _, _, hv, fun w14 h14 => ?_⟩
  refine (nFits_k a c w14).mono fun v w15 ⟨e15, z, g, hv, hz⟩ => ⟨e15, _, _, hv, fun w18 h18 => ?_⟩
  refine (nFits_k b a w18).mono fun v w19 ⟨e19, u, i, hv, hu⟩ => ⟨e19, _, _, hv, ?_⟩
  refine weakB (good_lit [e, f, g, i] rfl rfl (by omega) (by omega) fun w23 e23 => ?_)
  refine ⟨fun hb w30 h30 => ⟨rfl, e23.trans h30⟩, fun hall => ?_⟩
  simp only [decide_eq_true_iff, List.mem_cons, List.not_mem_nil, or_false, forall_eq_or_imp, forall_eq] at hall
  obtain ⟨rfl, rfl, rfl, rfl⟩ := hall
  rcases hx with ⟨oa, ob, _, rfl⟩ | ⟨_, h, _⟩
  rotate_left
  · omega
  rcases hy with ⟨_, oc, _, rfl⟩ | ⟨_, h, _⟩
  rotate_left
  · omega
  rcases hz with ⟨_, _, _, rfl⟩ | ⟨_, h, _⟩
  rotate_left
  · omega
  rcases hu with ⟨_, _, _, rfl⟩ | ⟨_, h, _⟩
  rotate_left
  · omega
  refine ⟨fun _ w30 h30 => ?_, fun hbad => ?_⟩
  · refine eqN_k ⟨Ext.refl _, _, rfl, fun w33 h33 => ⟨b_true ?_, e23.trans h33⟩⟩
    have : (fitN a b ∧ fitN b a) ↔ a = b := by
      constructor
      · rintro ⟨⟨h1, h2, h3⟩, h4, h5, h6⟩
        cases a; cases b; simp_all; omega
      · rintro rfl
        exact ⟨⟨Int.le_refl _, Int.le_refl _, Int.le_refl _⟩, Int.le_refl _, Int.le_refl _, Int.le_refl _⟩
    by_cases h1 : fitN a b <;> by_cases h2 : fitN b a <;> by_cases h3 : a = b <;> simp_all
  · exfalso
    simp only [decide_eq_true_iff, decide_eq_false_iff_not] at hbad
    obtain ⟨⟨⟨h1, h2, h3⟩, h4, h5, h6⟩, hn⟩ := hbad
    exact hn ⟨by omega, by omega, by omega⟩

theorem addN_comm (a b : Nd) : addN a b = addN b a := by simp only [addN]; congr 1 <;> omega

theorem core_NeedSums (W : World) (hg : GL W) : ∀ a_0 : Int, InR .i64 a_0 → ∀ a_1 : Int, InR .i64 a_1 → ∀ a_2 : Int, InR .i64 a_2 → ∀ b_0 : Int, InR .i64 b_0 → ∀ b_1 : Int, InR .i64 b_1 → ∀ b_2 : Int, InR .i64 b_2 → ∀ c_0 : Int, InR .i64 c_0 → ∀ c_1 : Int, InR .i64 c_1 → ∀ c_2 : Int, InR .i64 c_2 →
    FnP Tryd.prog F_shiftbellkeep_NeedSums #[.agg #[.int .i64 a_0, .int .i64 a_1, .int .i64 a_2], .agg #[.int .i64 b_0, .int .i64 b_1, .int .i64 b_2], .agg #[.int .i64 c_0, .int .i64 c_1, .int .i64 c_2]] W fun v W' => v = .bool true ∧ Ext W W' := by
  intro a0 _ a1 _ a2 _ b0 _ b1 _ b2 _ c0 _ c1 _ c2 _
  obtain ⟨a, rfl, rfl, rfl⟩ : ∃ a : Nd, a0 = a.c ∧ a1 = a.m ∧ a2 = a.g := ⟨⟨a0, a1, a2⟩, rfl, rfl, rfl⟩
  obtain ⟨b, rfl, rfl, rfl⟩ : ∃ a : Nd, b0 = a.c ∧ b1 = a.m ∧ b2 = a.g := ⟨⟨b0, b1, b2⟩, rfl, rfl, rfl⟩
  obtain ⟨c, rfl, rfl, rfl⟩ : ∃ a : Nd, c0 = a.c ∧ c1 = a.m ∧ c2 = a.g := ⟨⟨c0, c1, c2⟩, rfl, rfl, rfl⟩
  refine ok_shiftbellkeep_NeedSums _ _ _ _ _ _ _ _ _ W _ fun b0 hb0 b1 hb1 b2 hb2 w3 h3 => ?_
  refine (needs_k w3).mono fun v w4 ⟨e4, hv⟩ => ⟨e4, true, hv, fun h => by simp at h, fun _ w6 h6 => ?_⟩
  refine (nAdd_k a b w6).mono fun v w7 ⟨e7, ab, e, hv, hab⟩ => ⟨e7, _, _, _, _, hv, fun b12 _ w13 h13 => ?_⟩
  refine (nAdd_k b a w13).mono fun v w14 ⟨e14, ba, f, hv, hba⟩ => ⟨e14, _, _, _, _, hv, fun b19 _ => ?_⟩
  rw [addN_comm b a] at hba
  by_cases hok : okN a ∧ okN b ∧ okN (addN a b)
  · have h1 : e = 0 ∧ ab = addN a b := by
      rcases hab with ⟨_, _, _, h⟩ | ⟨h, _⟩ | ⟨_, _, h, _⟩
      · exact h
      · exact absurd ⟨hok.1, hok.2.1⟩ h
      · exact absurd hok.2.2 h
    have h2 : f = 0 ∧ ba = addN a b := by
      rcases hba with ⟨_, _, _, h⟩ | ⟨h, _⟩ | ⟨_, _, h, _⟩
      · exact h
      · exact absurd ⟨hok.2.1, hok.1⟩ h
      · exact absurd hok.2.2 h
    obtain ⟨rfl, rfl⟩ := h1
    obtain ⟨rfl, rfl⟩ := h2
    refine ⟨fun h => by simp at h, fun _ w20 h20 => ?_⟩
    refine (nAdd_k (addN a b) c w20).mono fun v w21 ⟨e21, x, g, hv, hx⟩ => ⟨e21, _, _, _, _, hv, fun b26 _ w27 h27 => ?_⟩
    refine (nAdd_k b c w27).mono fun v w28 ⟨e28, bc, h, hv, hbc⟩ => ⟨e28, _, _, _, _, hv, fun b33 _ w34 h34 => ?_⟩
    refine (nAdd_k a bc w34).mono fun v w35 ⟨e35, y, i, hv, hy⟩ => ⟨e35, _, _, _, _, hv, fun b40 _ w41 x41 => ?_⟩
    refine run_lit elem_sl_Need [nv a, nv b, nv c] rfl rfl (by intro v hv; simp at hv; rcases hv with rfl | rfl | rfl <;> rfl) (by omega) (by omega) fun w42 o42 e42 => ⟨e42, _, _, _, rfl, fun w46 h46 => ?_⟩
    have hx42 := (extB_ext x41).trans e42
    have hL : NdsAt w46 (some ⟨w41.heap.size, 0, none⟩) [a, b, c] := Own.recs (enc := encN) (xs := [a, b, c]) ((o42 0 (Nat.zero_le _)).ext h46) fun _ _ => rfl
    refine (nSum_k _ 3 [a, b, c] (by simp) w46 hL).mono fun v w47 ⟨e47, s, j, hv, hs⟩ => ⟨e47, _, _, _, _, hv, fun b52 _ w53 h53 => ?_⟩
    refine eqN_k ⟨Ext.refl _, _, rfl, fun _ => ⟨fun hne w56 h56 => ⟨rfl, hx42.trans h56⟩, fun hg0 => ?_⟩, fun hf => by simp at hf⟩
    subst hg0
    rcases hx with ⟨_, oc, ox, _, rfl⟩ | ⟨_, h, _⟩ | ⟨_, _, _, h, _⟩
    rotate_left
    · omega
    · omega
    have o1 := hok.1
    have o2 := hok.2.1
    have obc : okN (addN b c) := by
      obtain ⟨⟨a1, a2, a3⟩, ⟨b1, b2, b3⟩, _⟩ := hok
      obtain ⟨c1, c2, c3⟩ := oc
      obtain ⟨x1, x2, x3⟩ := ox
      simp only [addN] at x1 x2 x3
      refine ⟨?_, ?_, ?_⟩ <;> simp only [addN] <;> omega
    have hbc' : h = 0 ∧ bc = addN b c := by
      rcases hbc with ⟨_, _, _, h⟩ | ⟨h, _⟩ | ⟨_, _, h, _⟩
      · exact h
      · exact absurd ⟨o2, oc⟩ h
      · exact absurd obc h
    obtain ⟨rfl, rfl⟩ := hbc'
    have hassoc : addN a (addN b c) = addN (addN a b) c := by simp only [addN]; congr 1 <;> omega
    have hy' : i = 0 ∧ y = addN (addN a b) c := by
      rw [hassoc] at hy
      rcases hy with ⟨_, _, _, h⟩ | ⟨h, _⟩ | ⟨_, _, h, _⟩
      · exact h
      · exact absurd ⟨o1, obc⟩ h
      · exact absurd ox h
    obtain ⟨rfl, rfl⟩ := hy'
    have hfold : [a, b, c].foldl addN zeroN = addN (addN a b) c := by
      simp only [List.foldl_cons, List.foldl_nil]
      congr 2
      simp only [addN, zeroN]
      cases a; simp
    rw [hfold] at hs
    obtain ⟨rfl, rfl⟩ := hs (by intro x hx; simp at hx; rcases hx with rfl | rfl | rfl <;> assumption) ox
    refine ⟨fun _ w56 h56 => ?_, fun hbad => by simp at hbad⟩
    refine eqN_k ⟨Ext.refl _, _, rfl, fun _ w59 h59 => ?_, fun hf => by simp at hf⟩
    refine eqN_k ⟨Ext.refl _, _, rfl, fun w62 h62 => ⟨b_true (by simp), hx42.trans h62⟩⟩
  · have h1 : e ≠ 0 ∧ ab = zeroN := by
      rcases hab with ⟨h1, h2, h3, _⟩ | ⟨_, rfl, h⟩ | ⟨_, _, _, rfl, h⟩
      · exact absurd ⟨h1, h2, h3⟩ hok
      · exact ⟨by omega, h⟩
      · exact ⟨by omega, h⟩
    have h2 : f ≠ 0 ∧ ba = zeroN := by
      rcases hba with ⟨h1, h2, h3, _⟩ | ⟨_, rfl, h⟩ | ⟨_, _, _, rfl, h⟩
      · exact absurd ⟨h2, h1, h3⟩ hok
      · exact ⟨by omega, h⟩
      · exact ⟨by omega, h⟩
    obtain ⟨he, rfl⟩ := h1
    obtain ⟨hf, rfl⟩ := h2
    refine ⟨fun _ => ⟨fun _ w20 h20 => ?_, fun hbad => by omega⟩, fun hbad => absurd hbad.1 he⟩
    refine eqN_k (a := zeroN) (b := zeroN) ⟨Ext.refl _, _, rfl, fun _ w23 h23 => ?_, fun hf => by simp at hf⟩
    exact eqN_k (a := zeroN) (b := zeroN) ⟨Ext.refl _, _, rfl, fun w26 h26 => ⟨b_true (by simp), h26⟩⟩

theorem core_NeedBack (W : World) (hg : GL W) : ∀ a_0 : Int, InR .i64 a_0 → ∀ a_1 : Int, InR .i64 a_1 → ∀ a_2 : Int, InR .i64 a_2 → ∀ b_0 : Int, InR .i64 b_0 → ∀ b_1 : Int, InR .i64 b_1 → ∀ b_2 : Int, InR .i64 b_2 →
    FnP Tryd.prog F_shiftbellkeep_NeedBack #[.agg #[.int .i64 a_0, .int .i64 a_1, .int .i64 a_2], .agg #[.int .i64 b_0, .int .i64 b_1, .int .i64 b_2]] W fun v W' => v = .bool true ∧ Ext W W' := by
  intro a0 _ a1 _ a2 _ b0 _ b1 _ b2 _
  obtain ⟨a, rfl, rfl, rfl⟩ : ∃ a : Nd, a0 = a.c ∧ a1 = a.m ∧ a2 = a.g := ⟨⟨a0, a1, a2⟩, rfl, rfl, rfl⟩
  obtain ⟨b, rfl, rfl, rfl⟩ : ∃ a : Nd, b0 = a.c ∧ b1 = a.m ∧ b2 = a.g := ⟨⟨b0, b1, b2⟩, rfl, rfl, rfl⟩
  refine ok_shiftbellkeep_NeedBack _ _ _ _ _ _ W _ fun b0 hb0 b1 hb1 w2 h2 => ?_
  refine (needs_k w2).mono fun v w3 ⟨e3, hv⟩ => ⟨e3, true, hv, fun h => by simp at h, fun _ w5 h5 => ?_⟩
  refine (nAdd_k a b w5).mono fun v w6 ⟨e6, c, e, hv, hc⟩ => ⟨e6, _, _, _, _, hv, fun b11 hb11 => ⟨fun hne w12 h12 => ?_, fun he w12 h12 => ?_⟩⟩
  · have hz : c = zeroN := by
      rcases hc with ⟨_, _, _, h, _⟩ | ⟨_, _, h⟩ | ⟨_, _, _, _, h⟩
      · exact absurd h hne
      · exact h
      · exact h
    subst hz
    exact eqN_k (a := zeroN) (b := zeroN) ⟨Ext.refl _, _, rfl, fun w15 h15 => ⟨b_true (by simp), h15⟩⟩
  · subst he
    rcases hc with ⟨oa, ob, oc, _, rfl⟩ | ⟨_, h, _⟩ | ⟨_, _, _, h, _⟩
    rotate_left
    · omega
    · omega
    have oa' := okN_at.1 oa
    have ob' := okN_at.1 ob
    have hfit : fitN b (addN a b) := by
      obtain ⟨h1, h2, h3⟩ := oa
      exact ⟨by simp only [addN]; omega, by simp only [addN]; omega, by simp only [addN]; omega⟩
    have hback : subN (addN a b) b = a := by cases a; simp only [subN, addN]; congr 1 <;> omega
    refine (nSub_k (addN a b) b w12).mono fun v w13 ⟨e13, d, f, hv, hd⟩ => ⟨e13, _, _, _, _, hv, fun b18 _ w19 h19 => ?_⟩
    have hd' : f = 0 ∧ d = a := by
      rcases hd with ⟨_, _, _, h, h'⟩ | ⟨h, _⟩ | ⟨_, _, h, _⟩
      · exact ⟨h, h'.trans hback⟩
      · exact absurd ⟨oc, ob⟩ h
      · exact absurd hfit h
    obtain ⟨rfl, rfl⟩ := hd'
    refine (nTimes_k d b w19).mono fun v w20 ⟨e20, n, g, hv, hn⟩ => ⟨e20, _, _, hv, fun hne => ⟨fun _ w23 h23 => ?_, fun h => absurd rfl h⟩, fun hg0 b23 hb23 => ?_⟩
    · rcases hn oa ob with ⟨hz, _⟩ | ⟨_, h, _⟩
      · refine eqN_k ⟨Ext.refl _, _, rfl, fun _ w26 h26 => ?_, fun hf => by simp at hf⟩
        exact eqN_k (b := zeroN) ⟨Ext.refl _, _, rfl, fun w29 h29 => ⟨b_true (by simpa using hz), h29⟩⟩
      · exact absurd h hne
    · subst hg0
      rcases hn oa ob with ⟨_, h⟩ | ⟨hz, _, hT⟩
      · omega
      have hTn := hT.n0
      have hTle := hT.le
      obtain ⟨im, him, hpos, hmost⟩ := hT.most
      have step : ∀ k : Int, 0 ≤ k → k < n → ∀ x : Nd, (∀ i, i < 3 → ndAt x i = ndAt b i - k * ndAt d i) → okN x ∧ fitN d x ∧ ∀ i, i < 3 → ndAt (subN x d) i = ndAt b i - (k + 1) * ndAt d i := by
        intro k k0 kn x hx
        have key : ∀ i, i < 3 → 0 ≤ ndAt x i ∧ ndAt x i ≤ 1099511627776 ∧ ndAt d i ≤ ndAt x i := fun i hi => by
          have h1 := hTle i hi
          have h2 := oa' i hi
          have h3 := ob' i hi
          have h4 : (k + 1) * ndAt d i ≤ n * ndAt d i := Int.mul_le_mul_of_nonneg_right (by omega) h2.1
          have h5 : 0 ≤ k * ndAt d i := Int.mul_nonneg k0 h2.1
          rw [Int.add_mul, Int.one_mul] at h4
          rw [hx i hi]
          omega
        refine ⟨okN_at.2 fun i hi => ⟨(key i hi).1, (key i hi).2.1⟩, ⟨(key 0 (by omega)).2.2, (key 1 (by omega)).2.2, (key 2 (by omega)).2.2⟩, fun i hi => ?_⟩
        have h6 : ndAt (subN x d) i = ndAt x i - ndAt d i := by
          match i, hi with
          | 0, _ => rfl
          | 1, _ => rfl
          | 2, _ => rfl
        rw [h6, hx i hi, Int.add_mul, Int.one_mul]; omega
      refine ⟨fun h k c1 c2 c3 w' => w' = W ∧ h = 0 ∧ 0 ≤ k ∧ k ≤ min n 40 ∧ ∀ i, i < 3 → ndAt ⟨c1, c2, c3⟩ i = ndAt b i - k * ndAt d i, fun _ k _ _ _ _ => (min n 40 - k).toNat, ⟨rfl, rfl, by omega, by omega, fun i hi => ?_⟩, ?_⟩
      · rw [Int.zero_mul, Int.sub_zero]
      rintro h k c1 c2 c3 W ⟨rfl, rfl, hk0, hk1, hx⟩
      refine ⟨fun hlt => ⟨fun _ w31 x31 => ?_, fun h => absurd rfl h⟩, fun hge w31 x31 => ?_⟩
      · obtain ⟨ox, hf, hs⟩ := step k hk0 (by omega) ⟨c1, c2, c3⟩ hx
        refine (nSub_k ⟨c1, c2, c3⟩ d w31).mono fun v w32 ⟨e32, s, j, hv, hc⟩ => ⟨e32, _, _, _, _, hv, i64 (by omega), ?_⟩
        rcases hc with ⟨_, _, _, rfl, rfl⟩ | ⟨h, _⟩ | ⟨_, _, h, _⟩
        · exact ⟨⟨rfl, rfl, by omega, by omega, hs⟩, by simp only []; omega⟩
        · exact absurd ⟨ox, oa⟩ h
        · exact absurd hf h
      · refine (nSub_k ⟨c1, c2, c3⟩ d w31).mono fun v w32 ⟨e32, s, j, hv, hc⟩ => ⟨e32, _, _, _, _, hv, fun b37 _ => ⟨fun _ w38 x38 => ?_, fun h => absurd rfl h⟩⟩
        refine eqN_k ⟨Ext.refl _, _, rfl, fun w41 x41 => ⟨b_true ?_, extB1 x41 (Ext.refl _) hb23⟩⟩
        by_cases hn40 : 40 < n
        · simp [hn40]
        · obtain rfl : k = n := by omega
          have ox : okN ⟨c1, c2, c3⟩ := okN_at.2 fun i hi => by
            have h1 := hTle i hi
            have h2 := oa' i hi
            have h3 := ob' i hi
            have h5 : 0 ≤ k * ndAt d i := Int.mul_nonneg hk0 h2.1
            rw [hx i hi]; omega
          have hnf : ¬ fitN d ⟨c1, c2, c3⟩ := fun hf => by
            have h1 : ndAt d im ≤ ndAt ⟨c1, c2, c3⟩ im := by
              match im, him with
              | 0, _ => exact hf.1
              | 1, _ => exact hf.2.1
              | 2, _ => exact hf.2.2
            rw [hx im him] at h1
            rw [Int.add_mul, Int.one_mul] at hmost
            omega
          have hj : j = 10 := by
            rcases hc with ⟨_, _, h, _⟩ | ⟨h, _⟩ | ⟨_, _, _, h, _⟩
            · exact absurd h hnf
            · exact absurd ⟨ox, oa⟩ h
            · exact h
          simp [hj]
end Go.Proofs.YtdhhggfplacenaaDoor
