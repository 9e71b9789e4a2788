/- Rows of bits and their closure (WARSHALL); knots. -/
import Derived.Test.YtopgihimdjnaeaaGraph
set_option linter.unusedVariables false
set_option linter.unusedSimpArgs false
namespace Go.Proofs.Ytopgihimdjnaeaa
open Go.Sx Go.RowKit

theorem Via.congr {A B : Nat → Nat → Prop} (h : ∀ i j, A i j → B i j) {K i j : Nat} (hv : Via A K i j) : Via B K i j := by
  induction hv with
  | edge h1 => exact .edge (h _ _ h1)
  | mid _ _ hk ih1 ih2 => exact .mid ih1 ih2 hk
theorem Via.self {A : Nat → Nat → Prop} {K j : Nat} : Via A (K + 1) K j ↔ Via A K K j := by
  rw [Via.succ]; exact ⟨fun h => h.elim id (·.2), .inl⟩

/-- Rows of bits. -/
structure Rows64 (N : Nat) (R : List Int) (A : Nat → Nat → Prop) : Prop where
  len : R.length = N
  u : ∀ i, i < N → U (R.getD i 0)
  bit : ∀ i, i < N → ∀ j, tb (R.getD i 0) j = true ↔ A i j

theorem rows_k (N : Nat) (p : Option Addr) (c : Nat) (L : List E) (hok : okG N L) (w : World) (h : Edges w p L) : FnP Try.prog F_graph_rows #[.int .i64 N, .slice p L.length c] w fun v w' => Ext w w' ∧ ∃ q R, v = .slice q N N ∧ q ≠ none ∧ Own w.heap.size w' T_uint64 1 q N N (R.map (.int .u64)) ∧ Rows64 N R (Adj L) := by
  obtain ⟨n0, n1, nl, nE⟩ := hok
  have okE' : ∀ i, i < L.length → okE N (ed L i) := fun i hi => nE _ (ed_mem hi)
  refine ok_graph_rows N p L.length c w _ ?_
  intro w0 h0
  refine mk_ints elem_sl_uint64 n0 (by omega) (by omega) fun w4 o5 e4 => ⟨e4, _, _, _, rfl, ?_⟩
  have o5 := o5 w.heap.size h0.size
  have hx4 : Ext w w4 := h0.trans e4
  have hq5 : (some (⟨w0.heap.size, 0, none⟩ : Addr)) ≠ none := by simp
  revert o5 hq5
  generalize (some (⟨w0.heap.size, 0, none⟩ : Addr)) = q5
  intro o5 hq5
  simp only [Int.toNat_natCast] at o5 ⊢
  refine ⟨fun k w' => ∃ R : List Int, Ext w w' ∧ Own w.heap.size w' T_uint64 1 q5 N N (R.map (.int .u64)) ∧ 0 ≤ k ∧ k ≤ L.length ∧ ∀ i : Nat, i < N → U (R.getD i 0) ∧ ∀ j : Nat, tb (R.getD i 0) j = true ↔ ∃ m : Nat, (m : Int) < k ∧ m < L.length ∧ (ed L m).f = i ∧ (ed L m).t = j, fun k _ => (L.length - k).toNat,
    ⟨_, hx4, o5, by omega, by omega, fun i hi => ?_⟩, ?_⟩
  · have hz : (List.replicate N (0 : Int)).getD i 0 = 0 := by rw [List.getD_eq_getElem?_getD, List.getElem?_replicate]; split <;> rfl
    rw [hz]
    refine ⟨by rw [U_iff]; omega, fun j => ?_⟩
    rw [tb_zero]
    constructor
    · intro h; cases h
    · rintro ⟨m, hm, _⟩; omega
  rintro k w10 ⟨R, hw, o5, hk0, hk1, hR⟩
  have lenR := o5.leni
  refine ⟨fun hlt => ?_, fun hge w8 h8 => ⟨hw.trans h8, q5, R, rfl, hq5, o5.ext h8, lenR, fun i hi => (hR i hi).1, fun i hi j => ?_⟩⟩
  · obtain ⟨h1, h2, h3, h4⟩ := edges_at (h.ext hw) hk0 hlt
    have hE := okE' k.toNat (by omega)
    unfold okE at hE
    refine ⟨h1, hk0, hlt, h2, _, h3, _, h4, fun b hb => ⟨hq5, by omega, by omega, _, o5.int_at (by omega) (by omega), by omega, hq5, by omega, by omega, ?_⟩⟩
    refine store_int o5 (by omega) (by omega) (o5.free hb) fun w15 o5' g => ⟨i64 (by omega), ⟨_, g.ext hw o5, o5', by omega, by omega, fun i hi => ?_⟩, by simp only []; omega⟩
    rw [getD_set _ _ _ _ _ (by omega)]
    have hk' : ((k.toNat : Nat) : Int) = k := by omega
    by_cases hit : i = (ed L k.toNat).f.toNat
    · rw [if_pos hit]
      refine ⟨U_or _ _, fun j => ?_⟩
      rw [tb_or, tb_shl (by omega) (by omega), Bool.or_eq_true, ← hit, (hR i hi).2 j, decide_eq_true_iff]
      constructor
      · rintro (⟨m, a, b, c, d⟩ | hj)
        · exact ⟨m, by omega, b, c, d⟩
        · exact ⟨k.toNat, by omega, by omega, by omega, by omega⟩
      · rintro ⟨m, a, b, c, d⟩
        by_cases hm : (m : Int) < k
        · exact .inl ⟨m, hm, b, c, d⟩
        · obtain rfl : m = k.toNat := by omega
          exact .inr (by omega)
    · rw [if_neg hit]
      refine ⟨(hR i hi).1, fun j => ?_⟩
      rw [(hR i hi).2 j]
      constructor
      · rintro ⟨m, a, b, c, d⟩; exact ⟨m, by omega, b, c, d⟩
      · rintro ⟨m, a, b, c, d⟩
        by_cases hm : (m : Int) < k
        · exact ⟨m, hm, b, c, d⟩
        · obtain rfl : m = k.toNat := by omega
          omega
  · rw [(hR i hi).2 j]
    constructor
    · rintro ⟨m, _, hm, a, b⟩; exact ⟨_, ed_mem hm, a, b⟩
    · rintro ⟨e, he, a, b⟩
      obtain ⟨m, hm, rfl⟩ := mem_ed he
      exact ⟨m, by omega, hm, a, b⟩

theorem closed_k (N : Nat) (hN : N ≤ 60) (p : Option Addr) (c : Nat) (X : List Int) (A : Nat → Nat → Prop) (hX : Rows64 N X A) (hp : p ≠ none) (w : World) (h : Ints .u64 w p X) : FnP Try.prog F_graph_closed #[.slice p N c] w fun v w' => Ext w w' ∧ ∃ q d R, v = .slice q N d ∧ Own w.heap.size w' T_uint64 1 q N d (R.map (.int .u64)) ∧ Rows64 N R (fun i j => Via (fun a b => a < N ∧ A a b) N i j) := by
  have lenX := hX.len
  refine ok_graph_closed p N c w _ ?_
  intro w0 h0
  refine run_app elem_sl_uint64 (by omega) (B := w.heap.size) Own.nil h0.size hp (news := X.map (.int .u64)) (by simp [lenX]) (h.ext h0) (by intro u hu; simp at hu; obtain ⟨x, _, rfl⟩ := hu; rfl) (by omega) (by omega) fun q d w1 o g hnil => ⟨_, _, _, rfl, ?_⟩
  have hx1 : Ext w w1 := g.ext h0 (Own.nil (e := T_uint64) (s := 1))
  simp only [List.nil_append, Nat.zero_add] at o ⊢
  let A' : Nat → Nat → Prop := fun a b => a < N ∧ A a b
  refine ⟨fun K w' => ∃ R : List Int, Ext w w' ∧ Own w.heap.size w' T_uint64 1 q N d (R.map (.int .u64)) ∧ 0 ≤ K ∧ K ≤ N ∧ Rows64 N R (Via A' K.toNat), fun K _ => (N - K).toNat,
    ⟨X, hx1, o, by omega, by omega, lenX, hX.u, fun i hi j => ?_⟩, ?_⟩
  · rw [hX.bit i hi j, show (0 : Int).toNat = 0 from rfl, Via.zero]
    exact ⟨fun h => ⟨hi, h⟩, fun h => h.2⟩
  rintro K w7 ⟨R, hw, o, hK0, hK1, hR⟩
  refine ⟨fun hlt => ?_, fun hge w8 h8 => ⟨hw.trans h8, q, d, R, rfl, o.ext h8, ?_⟩⟩
  · have hKK : ((K.toNat : Nat) : Int) = K := by omega
    refine ⟨fun I w' => ∃ R : List Int, Ext w w' ∧ Own w.heap.size w' T_uint64 1 q N d (R.map (.int .u64)) ∧ 0 ≤ I ∧ I ≤ N ∧ Rows64 N R (fun i j => if (i : Int) < I then Via A' (K.toNat + 1) i j else Via A' K.toNat i j), fun I _ => (N - I).toNat,
      ⟨R, hw, o, by omega, by omega, hR.len, hR.u, fun i hi j => by rw [if_neg (by omega)]; exact hR.bit i hi j⟩, ?_⟩
    clear hR o hw R
    rintro I w10 ⟨R, hw, o, hI0, hI1, hR⟩
    have lenR := hR.len
    have hq : 0 < N → q ≠ none := fun h => o.ne1 h (by omega)
    refine ⟨fun hltI => ?_, fun hge => ⟨i64 (by omega), ⟨R, hw, o, by omega, by omega, hR.len, hR.u, fun i hi j => ?_⟩, by simp only []; omega⟩⟩
    · have hU := hR.u I.toNat (by omega)
      have hII : ((I.toNat : Nat) : Int) = I := by omega
      have hrowK : ∀ j, tb (R.getD K.toNat 0) j = true ↔ Via A' K.toNat K.toNat j := fun j => by
        rw [hR.bit K.toNat (by omega) j]
        split
        · exact Via.self
        · exact Iff.rfl
      have hrowI : ∀ j, tb (R.getD I.toNat 0) j = true ↔ Via A' K.toNat I.toNat j := fun j => by
        rw [hR.bit I.toNat (by omega) j, if_neg (by omega)]
      refine ⟨hq (by omega), hI0, hltI, _, o.int_at hI0 (by omega), hK0, ?_⟩
      rw [shr_bit hU hK0 (by omega)]
      refine ⟨fun hb => ⟨hq (by omega), hI0, hltI, _, o.int_at hI0 (by omega), hq (by omega), hK0, hlt, _, o.int_at hK0 (by omega), hq (by omega), hI0, hltI, ?_⟩, fun hb => ⟨i64 (by omega), ⟨R, hw, o, by omega, by omega, hR.len, hR.u, fun i hi j => ?_⟩, by simp only []; omega⟩⟩
      · have hbit : tb (R.getD I.toNat 0) K.toNat = true := if_one hb
        refine store_int o hI0 (by omega) (by simp) fun w14 o' g => ⟨i64 (by omega), ⟨_, g.ext hw o, o', by omega, by omega, by simp [lenR], fun i hi => ?_, fun i hi j => ?_⟩, by simp only []; omega⟩
        · rw [getD_set _ _ _ _ _ (by omega)]; split
          · exact U_or _ _
          · exact hR.u i hi
        · rw [getD_set _ _ _ _ _ (by omega)]
          by_cases hiI : i = I.toNat
          · subst hiI
            rw [if_pos rfl, if_pos (by omega), tb_or, Bool.or_eq_true, hrowI, hrowK, Via.succ]
            have h1 := (hrowI K.toNat).1 hbit
            exact ⟨fun h => h.imp id fun h => ⟨h1, h⟩, fun h => h.imp id (·.2)⟩
          · rw [if_neg hiI, hR.bit i hi j]
            by_cases hlti : (i : Int) < I
            · rw [if_pos hlti, if_pos (by omega)]
            · rw [if_neg hlti, if_neg (by omega)]
      · by_cases hiI : i = I.toNat
        · subst hiI
          rw [if_pos (by omega), hrowI, Via.succ]
          have hbit : ¬ tb (R.getD I.toNat 0) K.toNat = true := if_not_one hb
          rw [hrowI] at hbit
          exact ⟨.inl, fun h => h.elim id fun h => absurd h.1 hbit⟩
        · rw [hR.bit i hi j]
          by_cases hlti : (i : Int) < I
          · rw [if_pos hlti, if_pos (by omega)]
          · rw [if_neg hlti, if_neg (by omega)]
    · rw [hR.bit i hi j, if_pos (by omega), show (K + 1).toNat = K.toNat + 1 by omega]
  · obtain rfl : K = N := by omega
    simpa using hR

/-- Closed rows of a graph: who comes behind whom. -/
theorem rows_closed {N : Nat} {L : List E} (hok : okG N L) {R : List Int} (h : Rows64 N R (fun i j => Via (fun a b => a < N ∧ Adj L a b) N i j)) : Rows64 N R (Beh L N) := by
  refine ⟨h.len, h.u, fun i hi j => (h.bit i hi j).trans ⟨Via.congr fun _ _ h => h.2, Via.congr fun a b hab => ⟨?_, hab⟩⟩⟩
  obtain ⟨e, he, h1, h2⟩ := hab
  have := hok.2.2.2 e he
  unfold okE at this; omega

theorem Knot_k (n : Int) (p : Option Addr) (c : Nat) (L : List E) (h63 : (L.length : Int) ≤ 9223372036854775807) (w : World) (h : Edges w p L) : FnP Try.prog F_graph_Knot #[.int .i64 n, .slice p L.length c] w fun v w' => Ext w w' ∧ ∃ q m d, v = .tuple #[.slice q m d, .int .i64 (errG n L)] ∧
    (¬ okG n L → m = 0) ∧ (okG n L → (m = 0 ↔ ∀ i, i < n.toNat → ¬ Beh L n.toNat i i)) := by
  refine ok_graph_Knot n p L.length c w _ ?_
  intro w0 h0
  refine (checkG_k n p c L h63 w0 (h.ext h0)).mono fun v w1 ⟨e1, hv⟩ => ⟨e1, _, hv, fun hne w3 h3 => ⟨h3, _, _, _, rfl, fun _ => rfl, fun hok => absurd (errG_ok.2 hok) hne⟩, fun he w3 h3 => ?_⟩
  have hok := errG_ok.1 he
  obtain ⟨N, rfl⟩ : ∃ N : Nat, n = N := ⟨n.toNat, by have := hok.1; omega⟩
  have hN : N ≤ 60 := by have := hok.2.1; omega
  refine (rows_k N p c L hok w3 (h.ext h3)).mono fun v w4 ⟨e4, q, R, hv, hq, o, hR⟩ => ⟨e4, q, N, N, hv, fun w8 h8 => ?_⟩
  refine (closed_k N hN q N R (Adj L) hR hq w8 (o.ext h8).cells).mono fun v w9 ⟨e9, q2, d2, C, hv, o2, hC⟩ => ⟨e9, q2, N, d2, hv, ?_⟩
  have hC := rows_closed hok hC
  have hx9 : Ext w w9 := (((h3.trans e4).trans h8).trans e9)
  have o2 := o2.weak (B' := w.heap.size) ((h3.trans e4).trans h8).size
  refine ⟨fun out m d k w' => ∃ F : List Int, Ext w w' ∧ Own w.heap.size w' T_uint64 1 q2 N d2 (C.map (.int .u64)) ∧ Own w.heap.size w' T_int 1 out m d (F.map (.int .i64)) ∧ Apart q2 out ∧ 0 ≤ k ∧ k ≤ N ∧ (m : Int) ≤ k ∧ (m = 0 ↔ ∀ i : Nat, (i : Int) < k → ¬ Beh L N i i), fun _ _ _ k _ => (N - k).toNat,
    ⟨[], hx9, o2, Own.nil, Apart.nil, by omega, by omega, by omega, ⟨fun _ i hi => by omega, fun _ => rfl⟩⟩, ?_⟩
  rintro out m d k w16 ⟨F, hw, o2, oF, ap, hk0, hk1, hmk, hm⟩
  have lenC := hC.len
  refine ⟨fun hlt => ?_, fun hge w17 h17 => ⟨hw.trans h17, _, _, _, by rw [he], fun hno => absurd hok hno, fun _ => by rw [hm]; exact ⟨fun h i hi => h i (by simp at hi; omega), fun h i hi => h i (by simp; omega)⟩⟩⟩
  have hkk : ((k.toNat : Nat) : Int) = k := by omega
  refine ⟨o2.ne1 (by omega) (by omega), hk0, hlt, _, o2.int_at hk0 (by omega), hk0, ?_⟩
  rw [shr_bit (hC.u k.toNat (by omega)) hk0 (by omega)]
  refine ⟨fun hb => ?_, fun hb => ⟨i64 (by omega), ⟨F, hw, o2, oF, ap, by omega, by omega, by omega, ?_⟩, by simp only []; omega⟩⟩
  · have hbit : tb (C.getD k.toNat 0) k.toNat = true := if_one hb
    refine push_int elem_sl_int oF hw.size (by omega) (by omega) fun q' d' w' oF' g _ => ⟨i64 (by omega), ⟨_, g.ext hw oF, Own.grew (B' := 0) o2 ap g, oF', ap.grew o2 g, by omega, by omega, by omega, ⟨fun h => by omega, fun h => absurd ((hC.bit k.toNat (by omega) k.toNat).1 hbit) (h k.toNat (by omega))⟩⟩, by simp only []; omega⟩
  · rw [hm]
    have hbit : ¬ tb (C.getD k.toNat 0) k.toNat = true := if_not_one hb
    rw [hC.bit k.toNat (by omega)] at hbit
    constructor
    · intro h i hi
      by_cases hik : (i : Int) < k
      · exact h i hik
      · obtain rfl : i = k.toNat := by omega
        exact hbit
    · intro h i hi; exact h i (by omega)
end Go.Proofs.Ytopgihimdjnaeaa
