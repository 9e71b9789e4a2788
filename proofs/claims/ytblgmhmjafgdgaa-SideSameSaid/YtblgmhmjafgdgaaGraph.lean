/- What Check and Order of package graph answer. -/
import Derived.Test.YtblgmhmjafgdgaaGraphP
set_option linter.unusedVariables false
set_option linter.unusedSimpArgs false
namespace Go.Proofs.Ytblgmhmjafgdgaa
open Go.Sx Go.RowKit

theorem checkG_k (n : Int) (p : Option Addr) (c : Nat) (L : List E) (h63 : (L.length : Int) ≤ 9223372036854775807) (w : World) (h : Edges w p L) : FnP Try.prog F_graph_Check #[.int .i64 n, .slice p L.length c] w fun v w' => Ext w w' ∧ v = .int .i64 (errG n L) := by
  refine ok_graph_Check n p L.length c w _ ?_
  refine ⟨fun ha w0 h0 => ⟨h0, by unfold errG; rw [if_pos (by omega)]⟩, fun ha => ⟨fun hl w0 h0 => ⟨h0, by unfold errG; rw [if_neg (by omega), if_pos (by omega)]⟩, fun hl => ?_⟩⟩
  have e0 : (∀ e ∈ L, okE n e) → errG n L = 0 := fun h => by unfold errG; rw [if_neg (by omega), if_neg (by omega), if_pos h]
  have e4 : (¬ ∀ e ∈ L, okE n e) → errG n L = 4 := fun h => by unfold errG; rw [if_neg (by omega), if_neg (by omega), if_neg h]
  refine ⟨fun k w' => w' = w ∧ 0 ≤ k ∧ k ≤ L.length ∧ ∀ i : Nat, (i : Int) < k → okE n (ed L i), fun k _ => (L.length - k).toNat, ⟨rfl, by omega, by omega, fun i hi => by omega⟩, ?_⟩
  rintro k _ ⟨rfl, hk0, hk1, hok⟩
  refine ⟨fun hlt => ?_, fun hge w3 h3 => ⟨h3, ?_⟩⟩
  · obtain ⟨h1, h2, h3, h4⟩ := edges_at h hk0 hlt
    refine ⟨h1, hk0, hlt, h2, _, h3, _, h4, fun b _ => ⟨fun hb w4 h4 => ⟨h4, ?_⟩, fun hg => ⟨i64 (by omega), ⟨rfl, by omega, by omega, fun i hi => ?_⟩, by simp only []; omega⟩⟩⟩
    · rw [e4 fun hall => by have := hall _ (ed_mem (L := L) (i := k.toNat) (by omega)); unfold okE at this; omega]
    · by_cases hik : (i : Int) < k
      · exact hok i hik
      · obtain rfl : i = k.toNat := by omega
        unfold okE; omega
  · rw [e0 fun e he => ?_]
    obtain ⟨i, hi, rfl⟩ := mem_ed he
    exact hok i (by omega)

theorem Order_k (n : Int) (p : Option Addr) (c : Nat) (L : List E) (h63 : (L.length : Int) ≤ 9223372036854775807) (w : World) (h : Edges w p L) : FnP Try.prog F_graph_Order #[.int .i64 n, .slice p L.length c] w fun v w' => Ext w w' ∧ ∃ q m d e, v = .tuple #[.slice q m d, .int .i64 e] ∧
    (¬ okG n L → e = errG n L ∧ m = 0) ∧ (okG n L → (e = 0 ∧ (m : Int) = n ∧ ∃ A, Own w.heap.size w' T_int 1 q m d (A.map (.int .i64)) ∧ Topo n.toNat L A) ∨ (e = 8 ∧ m = 0 ∧ ∃ i, i < n.toNat ∧ Beh L n.toNat i i)) := by
  refine ok_graph_Order n p L.length c w _ ?_
  intro w0 h0
  refine (checkG_k n p c L h63 w0 (h.ext h0)).mono fun v w1 ⟨e1, hv⟩ => ⟨e1, _, hv, fun hne w3 h3 => ⟨h3, _, _, _, _, rfl, fun _ => ⟨rfl, rfl⟩, fun hok => absurd (errG_ok.2 hok) hne⟩, fun he w3 h3 => ?_⟩
  have hok := errG_ok.1 he
  obtain ⟨n0, n1, nl, nE⟩ := hok
  have okE' : ∀ i, i < L.length → okE n (ed L i) := fun i hi => nE _ (ed_mem hi)
  refine mk_ints elem_sl_uint64 n0 (by omega) (by omega) fun w4 o5 e4 => ⟨e4, _, _, _, rfl, ?_⟩
  have o5 := o5 w.heap.size h3.size
  have hx4 : Ext w w4 := h3.trans e4
  revert o5
  generalize (some (⟨w3.heap.size, 0, none⟩ : Addr)) = q5
  intro o5
  obtain ⟨N, rfl⟩ : ∃ N : Nat, n = N := ⟨n.toNat, by omega⟩
  simp only [Int.toNat_natCast] at o5 ⊢
  have hN : N ≤ 60 := by omega
  refine ⟨fun k w' => ∃ R : List Int, Ext w w' ∧ Own w.heap.size w' T_uint64 1 q5 N N (R.map (.int .u64)) ∧ 0 ≤ k ∧ k ≤ L.length ∧ ∀ i : Nat, i < N → U (R.getD i 0) ∧ ∀ j : Nat, tb (R.getD i 0) j = true ↔ ∃ m : Nat, (m : Int) < k ∧ m < L.length ∧ (ed L m).f = j ∧ (ed L m).t = i, fun k _ => (L.length - k).toNat,
    ⟨_, hx4, o5, by omega, by omega, fun i hi => ?_⟩, ?_⟩
  · have hz : (List.replicate N (0 : Int)).getD i 0 = 0 := by rw [List.getD_eq_getElem?_getD, List.getElem?_replicate]; split <;> rfl
    rw [hz]
    refine ⟨by rw [U_iff]; omega, fun j => ?_⟩
    rw [tb_zero]
    constructor
    · intro h; cases h
    · rintro ⟨m, hm, _⟩; omega
  rintro k w10 ⟨R, hw, o5, hk0, hk1, hR⟩
  have lenR := o5.leni
  refine ⟨fun hlt => ?_, fun hge => ?_⟩
  · obtain ⟨h1, h2, h3, h4⟩ := edges_at (h.ext hw) hk0 hlt
    have hE := okE' k.toNat (by omega)
    unfold okE at hE
    refine ⟨h1, hk0, hlt, h2, _, h3, _, h4, fun b hb => ⟨o5.ne1 (by omega) (by omega), by omega, by omega, _, o5.int_at (by omega) (by omega), by omega, o5.ne1 (by omega) (by omega), by omega, by omega, ?_⟩⟩
    refine store_int o5 (by omega) (by omega) (o5.free hb) fun w15 o5' g => ⟨i64 (by omega), ⟨_, g.ext hw o5, o5', by omega, by omega, fun i hi => ?_⟩, by simp only []; omega⟩
    rw [getD_set _ _ _ _ _ (by omega)]
    have hk' : ((k.toNat : Nat) : Int) = k := by omega
    by_cases hit : i = (ed L k.toNat).t.toNat
    · rw [if_pos hit]
      refine ⟨U_or _ _, fun j => ?_⟩
      rw [tb_or, tb_shl (by omega) (by omega), Bool.or_eq_true, ← hit, (hR i hi).2 j, decide_eq_true_iff]
      constructor
      · rintro (⟨m, a, b, c, d⟩ | hj)
        · exact ⟨m, by omega, b, c, d⟩
        · exact ⟨k.toNat, by omega, by omega, by omega, by omega⟩
      · rintro ⟨m, a, b, c, d⟩
        by_cases hm : (m : Int) < k
        · exact .inl ⟨m, hm, b, c, d⟩
        · obtain rfl : m = k.toNat := by omega
          exact .inr (by omega)
    · rw [if_neg hit]
      refine ⟨(hR i hi).1, fun j => ?_⟩
      rw [(hR i hi).2 j]
      constructor
      · rintro ⟨m, a, b, c, d⟩; exact ⟨m, by omega, b, c, d⟩
      · rintro ⟨m, a, b, c, d⟩
        by_cases hm : (m : Int) < k
        · exact ⟨m, hm, b, c, d⟩
        · obtain rfl : m = k.toNat := by omega
          omega
  · have hA : ∀ i j : Nat, i < N → (tb (R.getD i 0) j = true ↔ Adj L j i) := fun i j hi => by
      rw [(hR i hi).2 j]
      constructor
      · rintro ⟨m, _, hm, a, b⟩; exact ⟨_, ed_mem hm, a, b⟩
      · rintro ⟨e, he, a, b⟩
        obtain ⟨m, hm, rfl⟩ := mem_ed he
        exact ⟨m, by omega, hm, a, b⟩
    have hU : ∀ i : Nat, i < N → U (R.getD i 0) := fun i hi => (hR i hi).1
    clear hR
    obtain ⟨hf1, hf2⟩ := full (n := (N : Int)) (by omega) (by omega)
    simp only [Int.toNat_natCast] at hf2
    refine ⟨by omega, hf1, ?_⟩
    refine ⟨fun q m d left w' => ∃ A : List Int, Ext w w' ∧ Own w.heap.size w' T_int 1 q m d (A.map (.int .i64)) ∧ Own w.heap.size w' T_uint64 1 q5 N N (R.map (.int .u64)) ∧ Apart q5 q ∧ U left ∧ (∀ j, tb left j = true → j < N) ∧
      (∀ y ∈ A, ∃ i : Nat, y = i ∧ i < N) ∧ (∀ i : Nat, i < N → cnt i A = if tb left i then 0 else 1) ∧ (∀ (k : Nat) (e : E), e ∈ L → A[k]? = some e.t → e.f ∈ A.take k),
      fun _ _ _ left _ => (sumN N fun i => if tb left i then 1 else 0).toNat,
      ⟨[], hw, Own.nil, o5, Apart.nil, hf1, fun j hj => by rw [hf2] at hj; simpa using hj, fun y hy => by simp at hy, fun i hi => by rw [hf2]; simp [hi, cnt], fun k e _ hk => by simp at hk⟩, ?_⟩
    clear hw o5 hk0 hk1 hge
    rintro q m d left w14 ⟨A, hw, oA, o5, apq, Ul, hlN, hin, hcnt, hah⟩
    have lenR := o5.leni
    have lenA := oA.leni
    have hsum : ∀ left : Int, 0 ≤ sumN N (fun i => if tb left i then (1 : Int) else 0) := fun left => sumN_nonneg fun i _ => by split <;> omega
    have hm60 : m ≤ 60 := by
      have h1 := cnt_total hin
      have h2 : sumN N (fun i => cnt i A) ≤ sumN N (fun _ => 1) := sumN_le fun i hi => by rw [hcnt i hi]; split <;> omega
      rw [sumN_one] at h2; omega
    refine ⟨fun hne => ?_, fun hz w15 h15 => ⟨hw.trans h15, _, _, _, _, rfl, fun hno => absurd ⟨n0, n1, nl, nE⟩ hno, fun _ => .inl ⟨rfl, ?_, A, oA.ext h15, ?_⟩⟩⟩
    · refine ⟨fun i w' => w' = w14 ∧ 0 ≤ i ∧ i ≤ N ∧ ∀ j : Nat, (j : Int) < i → tb left j = true → ∃ k, tb (R.getD j 0) k = true ∧ tb left k = true, fun i _ => (N - i).toNat, ⟨rfl, by omega, by omega, fun j hj => by omega⟩, ?_⟩
      rintro i w14 ⟨rfl, hi0, hi1, hall⟩
      have stuck : i = N → ∀ w19, Ext w14 w19 → Ext w w19 ∧ ∃ q m d e, Value.tuple #[.slice none 0 0, .int .i64 8] = .tuple #[.slice q m d, .int .i64 e] ∧
          (¬ okG N L → e = errG N L ∧ m = 0) ∧ (okG N L → (e = 0 ∧ (m : Int) = N ∧ ∃ A, Own w.heap.size w19 T_int 1 q m d (A.map (.int .i64)) ∧ Topo N L A) ∨ (e = 8 ∧ m = 0 ∧ ∃ i, i < N ∧ Beh L N i i)) := by
        intro hiN w19 h19
        refine ⟨hw.trans h19, _, _, _, _, rfl, fun hno => absurd ⟨n0, n1, nl, nE⟩ hno, fun _ => .inr ⟨rfl, rfl, ?_⟩⟩
        refine knot_of (fun j => tb left j = true) (fun j hj => hlN j hj) ((ne_zero Ul).1 hne) fun j hj => ?_
        obtain ⟨k, k1, k2⟩ := hall j (by have := hlN j hj; omega) hj
        exact ⟨k, k2, (hA j k (hlN j hj)).1 k1⟩
      have take : ∀ hlt : i < N, tb left i.toNat = true → iBit .and .u64 (R.getD i.toNat 0) left = 0 → ∀ w19, Ext w14 w19 →
          Run Try.prog (.buildSlice T_sl_int 1 [(0, (.int .i64 i))]) w19 fun v20 w20 => Ext w19 w20 ∧
               ∃ t21 : Option Addr, ∃ tl22 : Nat, ∃ tc23 : Nat, v20 = (.slice t21 tl22 tc23) ∧ ∀ w24, Ext w20 w24 →
               Run Try.prog (.append #[T_sl_int, T_sl_int] T_sl_int [(.slice q m d), (.slice t21 tl22 tc23)]) w24 fun v25 w25 =>
                ∃ t26 : Option Addr, ∃ tl27 : Nat, ∃ tc28 : Nat, v25 = (.slice t26 tl27 tc28) ∧ (0 ≤ (i : Int) ∧
                ((∃ A : List Int, Ext w w25 ∧ Own w.heap.size w25 T_int 1 t26 tl27 tc28 (A.map (.int .i64)) ∧ Own w.heap.size w25 T_uint64 1 q5 N N (R.map (.int .u64)) ∧ Apart q5 t26 ∧ U (iBit .andNot .u64 left (iBit .shl .u64 1 i)) ∧ (∀ j, tb (iBit .andNot .u64 left (iBit .shl .u64 1 i)) j = true → j < N) ∧
      (∀ y ∈ A, ∃ i : Nat, y = i ∧ i < N) ∧ (∀ j : Nat, j < N → cnt j A = if tb (iBit .andNot .u64 left (iBit .shl .u64 1 i)) j then 0 else 1) ∧ (∀ (k : Nat) (e : E), e ∈ L → A[k]? = some e.t → e.f ∈ A.take k)) ∧
                  (sumN N fun j => if tb (iBit .andNot .u64 left (iBit .shl .u64 1 i)) j then 1 else 0).toNat < (sumN N fun j => if tb left j then 1 else 0).toNat)) := by
        intro hlt hbit hzero w19 h19
        have hii : ((i.toNat : Nat) : Int) = i := by omega
        have hnb : ∀ j, tb (iBit .andNot .u64 left (iBit .shl .u64 1 i)) j = (tb left j && !decide (j = i.toNat)) := fun j => by rw [tb_andNot, tb_shl (by omega) (by omega)]
        refine push_int elem_sl_int oA hw.size (by omega) (by omega) (fun q' d' w25 oA' g _ => ⟨hi0, ⟨A ++ [i], g.ext hw oA, oA', Own.grew (B' := 0) o5 apq g, apq.grew o5 g, U_andNot _ _, fun j hj => ?_, fun y hy => ?_, fun j hj => ?_, fun k e he hk => ?_⟩, ?_⟩) w19 h19
        · rw [hnb] at hj; simp at hj; exact hlN j hj.1
        · rcases List.mem_append.1 hy with hy | hy
          · exact hin y hy
          · simp at hy; exact ⟨i.toNat, by omega, by omega⟩
        · rw [cnt_append, hcnt j hj, hnb]
          simp only [cnt]
          by_cases hji : j = i.toNat
          · subst hji
            rw [hbit]; simp [hii]
          · have : ¬ (i = (j : Int)) := by omega
            simp [this, hji]
        · by_cases hkA : k < A.length
          · rw [List.getElem?_append_left hkA] at hk
            rw [List.take_append_of_le_length (by omega)]
            exact hah k e he hk
          · have hlt2 := (List.getElem?_eq_some_iff.1 hk).1
            simp at hlt2
            obtain rfl : k = A.length := by omega
            rw [List.take_left]
            simp at hk
            have hE := nE e he
            unfold okE at hE
            have hadj : tb (R.getD i.toNat 0) e.f.toNat = true := (hA i.toNat e.f.toNat (by omega)).2 ⟨e, he, by omega, by omega⟩
            have hnl : tb left e.f.toNat = false := by
              have := tb_and (R.getD i.toNat 0) left e.f.toNat
              rw [hzero, tb_zero, hadj] at this
              simpa using this.symm
            have hc : cnt ((e.f.toNat : Nat) : Int) A = 1 := by rw [hcnt e.f.toNat (by omega), hnl]; rfl
            have := cnt_pos (x := ((e.f.toNat : Nat) : Int)) (l := A) (by rw [hc]; omega)
            rwa [show ((e.f.toNat : Nat) : Int) = e.f by omega] at this
        · have hlt3 : (sumN N fun j => if tb (iBit .andNot .u64 left (iBit .shl .u64 1 i)) j then (1 : Int) else 0) < sumN N fun j => if tb left j then 1 else 0 := by
            refine sumN_lt (k := i.toNat) (by omega) (fun j _ => ?_) ?_
            · rw [hnb]; cases tb left j <;> simp; split <;> omega
            · rw [hnb, hbit]; simp
          have := hsum left
          have := hsum (iBit .andNot .u64 left (iBit .shl .u64 1 i))
          omega
      have hii : ((i.toNat : Nat) : Int) = i := by omega
      refine ⟨fun _ => hi0, fun _ _ => o5.ne1 (by omega) (by omega), fun _ _ => hi0, fun hlt _ => hlt, fun hlt => ?_, fun hge => ⟨fun hiN => stuck hiN, fun hiN => by omega⟩⟩
      rw [shr_bit Ul hi0 (by omega)]
      refine ⟨fun hb => ⟨i64 (by omega), ⟨rfl, by omega, by omega, fun j hj hjt => ?_⟩, by simp only []; omega⟩, fun hb => ⟨_, o5.int_at hi0 (by omega), fun hne' => ⟨i64 (by omega), ⟨rfl, by omega, by omega, fun j hj hjt => ?_⟩, by simp only []; omega⟩, fun hz => ⟨fun hiN => by omega, fun _ => take hlt (by cases hbb : tb left i.toNat <;> simp [hbb] at hb ⊢) hz⟩⟩⟩
      · by_cases hji : (j : Int) < i
        · exact hall j hji hjt
        · obtain rfl : j = i.toNat := by omega
          rw [hjt] at hb; simp at hb
      · by_cases hji : (j : Int) < i
        · exact hall j hji hjt
        · obtain rfl : j = i.toNat := by omega
          obtain ⟨k, hk⟩ := (ne_zero (U_and _ _)).1 hne'
          rw [tb_and] at hk
          simp at hk
          exact ⟨k, by simpa using hk.1, hk.2⟩
    · subst hz
      have h1 := cnt_total hin
      have h2 : sumN N (fun i => cnt i A) = sumN N (fun _ => 1) := sumN_congr fun i hi => by rw [hcnt i hi, tb_zero]; rfl
      rw [h2, sumN_one] at h1
      omega
    · subst hz
      exact ⟨hin, fun i hi => by rw [hcnt i hi, tb_zero]; rfl, hah⟩
end Go.Proofs.Ytblgmhmjafgdgaa
