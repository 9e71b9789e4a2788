/- Bits, listed; who lies behind whom; the law GraphTurn. -/
import Derived.Test.YtopgihimdjnaeaaDoorGraphA
import Derived.Shelf.Spec.TrailingZeros
set_option linter.unusedVariables false
set_option linter.unusedSimpArgs false
namespace Go.Proofs.YtopgihimdjnaeaaDoor
open Go.Sx Go.RowKit

def GL (w : World) : Prop := ∀ i : Nat, i < 64 → cell w (some (⟨0, 0, none⟩ : Addr)) i = some (.int .u8 ((Lib.deBruijn64tab.getD i 0 : Nat) : Int))

theorem laid_ok {W : World} (h : laidMetH Tryd.prog [("math/bits.deBruijn64tab", Rows.laid_math_bits_deBruijn64tab)] W) : GL W := by
  have key := laid_ints h (by kernel_rfl) (name := "math/bits.deBruijn64tab") (k := .u8) (xs := Lib.deBruijn64tab.map Int.ofNat) (by exact List.mem_singleton.2 rfl)
    (g := 0) (t := (Tryd.prog.globals[0]?).elim 0 (·.type)) (e := 5) (n := 64) (by kernel_rfl) (by kernel_rfl) (by kernel_rfl) (by kernel_rfl) (by kernel_rfl)
  intro i hi
  refine key i _ ?_ hi
  have hl : i < Lib.deBruijn64tab.length := hi
  simp [List.getD_eq_getElem?_getD, hl]

theorem GL.ext {w w' : World} (hg : GL w) (h : Ext w w') : GL w' := fun i hi => ext_cell h (hg i hi)

theorem tzbits {x : Nat} (h0 : x ≠ 0) (hx : x < 18446744073709551616) :
    Lib.ctz 64 x < 64 ∧ (∀ i, i < Lib.ctz 64 x → x.testBit i = false) ∧ x.testBit (Lib.ctz 64 x) = true ∧ ∀ i, (x &&& (x - 1)).testBit i = (x.testBit i && decide (i ≠ Lib.ctz 64 x)) := by
  obtain ⟨m, hm, ht⟩ := Lib.ctzFrom_spec 64 x (by omega) (by omega)
  have hc : Lib.ctz 64 x = Lib.ctzFrom 64 x := by unfold Lib.ctz; rw [if_neg h0]
  rw [hc]
  generalize Lib.ctzFrom 64 x = t at hm ht
  have hp : 0 < 2 ^ t := Nat.pow_pos (by omega)
  have b1 : ∀ j, x.testBit j = if j < t then false else (2 * m + 1).testBit (j - t) := fun j => by
    have := Nat.testBit_two_pow_mul_add (2 * m + 1) (b := 0) (i := t) hp j
    rw [Nat.add_zero, ← hm] at this
    rw [this]; simp
  have b2 : ∀ j, (x - 1).testBit j = if j < t then true else (2 * m).testBit (j - t) := fun j => by
    have := Nat.testBit_two_pow_mul_add (2 * m) (b := 2 ^ t - 1) (i := t) (by omega) j
    have he : 2 ^ t * (2 * m) + (2 ^ t - 1) = x - 1 := by
      have : 2 ^ t * (2 * m + 1) = 2 ^ t * (2 * m) + 2 ^ t := by rw [Nat.mul_add, Nat.mul_one]
      omega
    rw [he] at this
    rw [this]
    by_cases hj : j < t
    · simp [hj, Nat.testBit_two_pow_sub_one]
    · simp [hj]
  refine ⟨ht, fun i hi => by rw [b1, if_pos hi], by rw [b1, if_neg (by omega), Nat.sub_self]; simp [Nat.testBit_zero], fun i => ?_⟩
  rw [Nat.testBit_and, b1, b2]
  by_cases hi : i < t
  · simp [hi]
  · simp only [hi, if_false]
    by_cases he : i = t
    · subst he; simp [Nat.testBit_zero]
    · obtain ⟨k, hk⟩ : ∃ k, i - t = k + 1 := ⟨i - t - 1, by omega⟩
      rw [hk, Nat.testBit_succ, Nat.testBit_succ, show (2 * m + 1) / 2 = m by omega, show 2 * m / 2 = m by omega]
      simp [he]

theorem shr58 (x : Int) : iBit .shr .u64 x 58 = x / 288230376151711744 := by
  have hb : min (58 : Int).toNat IntKind.u64.bits = 58 := by decide
  simp only [iBit, hb]
  rw [Int.fdiv_eq_ediv_of_nonneg _ (by decide)]
  rfl

theorem iand_bits (x y : Int) : iBit .and .u64 x y = bits .and .u64 x y := rfl
theorem shr58_to (x : Int) (k : Int) (h : x / 288230376151711744 = k) : iBit .shr .u64 x 58 = k := (shr58 x).trans h
theorem tz_key (n a : Nat) (hn : n < 18446744073709551616) (h0 : n ≠ 0) (hlow : n &&& (18446744073709551616 - n) = a) :
    IntKind.wrap .u64 ((iBit .and .u64 (n : Int) (IntKind.wrap .u64 (0 - (n : Int)))) * 285870213051353865) / 288230376151711744 = ((a * 285870213051353865 % 18446744073709551616 / 288230376151711744 : Nat) : Int) := by
  rw [Int.zero_sub, iand_bits]
  exact tz64_key n a hn h0 hlow
theorem tz_idx (n a : Nat) (hn : n < 18446744073709551616) (h0 : n ≠ 0) (hlow : n &&& (18446744073709551616 - n) = a) :
    iBit .shr .u64 (IntKind.wrap .u64 ((iBit .and .u64 (n : Int) (IntKind.wrap .u64 (0 - (n : Int)))) * 285870213051353865)) 58 = ((a * 285870213051353865 % 18446744073709551616 / 288230376151711744 : Nat) : Int) :=
  shr58_to _ _ (tz_key n a hn h0 hlow)

theorem tz_at (n : Nat) (hn : n < 18446744073709551616) (h0 : n ≠ 0) : ∃ idx : Nat, idx < 64 ∧ iBit .shr .u64 (IntKind.wrap .u64 ((iBit .and .u64 (n : Int) (IntKind.wrap .u64 (0 - (n : Int)))) * 285870213051353865)) 58 = (idx : Int) ∧ Lib.deBruijn64tab.getD idx 0 = Lib.ctz 64 n ∧ Lib.ctz 64 n < 64 := by
  obtain ⟨hlow, hk⟩ := Lib.lowest_bit 64 n h0 hn
  obtain ⟨hi, htab⟩ := Lib.deBruijn64_at _ hk
  exact ⟨_, hi, tz_idx n _ hn h0 hlow, htab, hk⟩

theorem TZ_k (x : Int) (hx : U x) (h0 : x ≠ 0) (w : World) (hg : GL w) : FnP Tryd.prog F_math_bits_TrailingZeros64 #[.int .u64 x] w fun v w' => Ext w w' ∧ v = .int .i64 (Lib.ctz 64 x.toNat : Nat) := by
  have hu := U_iff.1 hx
  obtain ⟨idx, hi, hz, htab, ht⟩ := tz_at x.toNat (by omega) (by omega)
  rw [Int.toNat_of_nonneg hu.1] at hz
  generalize Lib.ctz 64 x.toNat = t at htab ht ⊢
  have hc := hg idx hi
  rw [htab] at hc
  have hc2 : cell w (pIdx (some (⟨0, 0, none⟩ : Addr)) (idx : Int) 1) 0 = some (.int .u8 (t : Int)) := by rw [cell_pIdx]; simpa using hc
  rw [← hz] at hc2
  have z0 : (0 : Int) ≤ iBit .shr .u64 (IntKind.wrap .u64 ((iBit .and .u64 x (IntKind.wrap .u64 (0 - x))) * 285870213051353865)) 58 := by rw [hz]; omega
  have z1 : iBit .shr .u64 (IntKind.wrap .u64 ((iBit .and .u64 x (IntKind.wrap .u64 (0 - x))) * 285870213051353865)) 58 < 64 := by rw [hz]; omega
  exact ok_math_bits_TrailingZeros64 x w _ ⟨fun h => absurd h h0, fun _ => ⟨by simp, z0, z1, (t : Int), hc2, i64 (by omega), fun w1 h1 => ⟨h1, rfl⟩⟩⟩

theorem list_k (S : Int) (hS : U S) (w : World) (hg : GL w) : FnP Tryd.prog F_graph_list #[.int .u64 S] w fun v w' => Ext w w' ∧ ∃ q m d, ∃ X : List Int, v = .slice q m d ∧ Own w.heap.size w' T_int 1 q m d (X.map (.int .i64)) ∧ (∀ x ∈ X, 0 ≤ x) ∧ ∀ i : Nat, (i : Int) ∈ X ↔ tb S i = true := by
  refine ok_graph_list S w _ ?_
  refine ⟨fun q m d s w' => ∃ X : List Int, Ext w w' ∧ Own w.heap.size w' T_int 1 q m d (X.map (.int .i64)) ∧ U s ∧ (∀ x ∈ X, 0 ≤ x) ∧ m ≤ 64 ∧ (∀ i, tb s i = true → m ≤ i) ∧ ∀ i : Nat, tb S i = true ↔ ((i : Int) ∈ X ∨ tb s i = true), fun _ _ _ s _ => s.toNat,
    ⟨[], Ext.refl _, Own.nil, hS, by simp, by omega, fun i _ => Nat.zero_le _, fun i => by simp⟩, ?_⟩
  rintro q m d s w3 ⟨X, hw, oX, hs, hpos, hm, hlow, hall⟩
  refine ⟨fun hne w4 h4 => ?_, fun he w4 h4 => ⟨hw.trans h4, q, m, d, X, rfl, oX.ext h4, hpos, fun i => ?_⟩⟩
  · have hu := U_iff.1 hs
    obtain ⟨t1, t2, t3, t4⟩ := tzbits (x := s.toNat) (by omega) (by omega)
    generalize hT : Lib.ctz 64 s.toNat = t at t1 t2 t3 t4
    have ht3 : tb s t = true := by rw [tb_nat hs]; exact t3
    have hmt := hlow t ht3
    refine (TZ_k s hs hne w4 (hg.ext (hw.trans h4))).mono fun v w5 ⟨e5, hv⟩ => ⟨e5, _, hv, ?_⟩
    rw [hT]
    have hs1 : U (s - 1) := by rw [U_iff]; omega
    have hbit : ∀ i, tb (iBit .and .u64 s (s - 1)) i = (tb s i && decide (i ≠ t)) := fun i => by
      have := t4 i
      rw [Nat.testBit_and] at this
      rw [tb_and, tb_nat hs, tb_nat hs1, show (s - 1).toNat = s.toNat - 1 by omega]
      exact this
    have hU := U_and s (s - 1)
    have hdec : (iBit .and .u64 s (s - 1)).toNat < s.toNat := by
      have he : (iBit .and .u64 s (s - 1)).toNat = s.toNat &&& (s.toNat - 1) := by
        apply Nat.eq_of_testBit_eq
        intro i
        rw [← tb_nat hU, hbit, t4, tb_nat hs]
      rw [he]
      have := Nat.and_le_right (n := s.toNat) (m := s.toNat - 1)
      omega
    refine push_int elem_sl_int oX hw.size (by omega) (by omega) fun q' d' w' o' g _ => ⟨hs1, ⟨_, g.ext hw oX, o', hU, ?_, by omega, fun i hi => ?_, fun i => ?_⟩, hdec⟩
    · intro x hx
      rcases List.mem_append.1 hx with h | h
      · exact hpos x h
      · simp at h; omega
    · rw [hbit] at hi
      simp at hi
      have := hlow i hi.1
      rcases Nat.lt_or_ge i t with hlt | hge
      · have := t2 i hlt; rw [← tb_nat hs] at this; rw [this] at hi; simp at hi
      · omega
    · rw [hall, hbit]
      simp only [List.mem_append, List.mem_singleton, Bool.and_eq_true, decide_eq_true_eq]
      constructor
      · rintro (h | h)
        · exact .inl (.inl h)
        · by_cases hit : i = t
          · exact .inl (.inr (by omega))
          · exact .inr ⟨h, hit⟩
      · rintro ((h | h) | h)
        · exact .inl h
        · obtain rfl : i = t := by omega
          exact .inr ht3
        · exact .inr h.1
  · subst he
    rw [hall, tb_zero]; simp

theorem Reach_k (n : Int) (p : Option Addr) (c : Nat) (L : List E) (h63 : (L.length : Int) ≤ 9223372036854775807) (fr : Int) (w : World) (h : Edges w p L) (hg : GL w) :
    FnP Tryd.prog F_graph_Reach #[.int .i64 n, .slice p L.length c, .int .i64 fr] w fun v w' => Ext w w' ∧ ∃ q m d e, v = .tuple #[.slice q m d, .int .i64 e] ∧ (e ≠ 0 → m = 0) ∧ (e = 0 → okG n L ∧ 0 ≤ fr ∧ fr < n ∧ ∃ X : List Int, Own w.heap.size w' T_int 1 q m d (X.map (.int .i64)) ∧ (∀ x ∈ X, 0 ≤ x) ∧ ∀ i : Nat, (i : Int) ∈ X ↔ Beh L n.toNat fr.toNat i) := by
  refine ok_graph_Reach n p L.length c fr w _ ?_
  intro w0 h0
  refine (checkG_k n p c L h63 w0 (h.ext h0)).mono fun v w1 ⟨e1, hv⟩ => ⟨e1, _, hv, fun hne w3 h3 => ⟨h3, _, _, _, _, rfl, fun _ => rfl, fun he => absurd he hne⟩, fun he => ⟨fun _ w3 h3 => ⟨h3, _, _, _, _, rfl, fun _ => rfl, fun he => by omega⟩, fun hr w3 h3 => ?_⟩⟩
  have hok := errG_ok.1 he
  obtain ⟨N, rfl⟩ : ∃ N : Nat, n = N := ⟨n.toNat, by have := hok.1; omega⟩
  have hN : N ≤ 60 := by have := hok.2.1; omega
  refine (rows_k N p c L hok w3 (h.ext h3)).mono fun v w4 ⟨e4, q, R, hv, hq, o, hR⟩ => ⟨e4, q, N, N, hv, fun w8 h8 => ?_⟩
  refine (closed_k N hN q N R (Adj L) hR hq w8 (o.ext h8).cells).mono fun v w9 ⟨e9, q2, d2, C, hv, o2, hC⟩ => ⟨e9, q2, N, d2, hv, ?_⟩
  have hC := rows_closed hok hC
  have lenC := hC.len
  have hx9 : Ext w w9 := (((h3.trans e4).trans h8).trans e9)
  have o2 := o2.weak (B' := 0) (Nat.zero_le _)
  refine ⟨o2.ne1 (by omega) (by omega), hr.1, hr.2, _, o2.int_at hr.1 (by omega), fun w14 h14 => ?_⟩
  have hx14 := hx9.trans h14
  refine (list_k _ (hC.u fr.toNat (by omega)) w14 (hg.ext hx14)).mono fun v w15 ⟨e15, q3, m3, d3, X, hv, oX, hpos, hX⟩ => ⟨e15, _, _, _, hv, fun w19 h19 => ⟨(hx14.trans e15).trans h19, _, _, _, _, rfl, fun h => absurd rfl h, fun _ => ⟨hok, hr.1, hr.2, X, (oX.weak hx14.size).ext h19, hpos, fun i => ?_⟩⟩⟩
  rw [hX, hC.bit fr.toNat (by omega)]
  simp

theorem IndexI_k (p : Option Addr) (c : Nat) (X : List Int) (h63 : (X.length : Int) ≤ 9223372036854775807) (x : Int) (w : World) (h : Ints .i64 w p X) :
    FnP Tryd.prog F_slices_Index_int_int #[.slice p X.length c, .int .i64 x] w fun v w' => Ext w w' ∧ ∃ t, v = .int .i64 t ∧ (0 ≤ t ↔ x ∈ X) := by
  refine ok_slices_Index_int_int p X.length c x w _ ?_
  refine ⟨fun k w' => w' = w ∧ 0 ≤ k ∧ k ≤ X.length ∧ ∀ j : Nat, (j : Int) < k → X.getD j 0 ≠ x, fun k _ => (X.length - k).toNat, ⟨rfl, by omega, by omega, fun j hj => by omega⟩, ?_⟩
  rintro k w ⟨rfl, hk0, hk1, hno⟩
  refine ⟨fun hlt => ?_, fun hge w4 h4 => ⟨h4, _, rfl, ?_⟩⟩
  · have hget := Ints.idx h hk0 hlt
    refine ⟨fun hq => cell_p hget (pIdx_none.2 hq), hk0, hlt, _, hget, fun hyes w9 h9 => ⟨h9, _, rfl, ?_⟩, fun hn => ⟨i64 (by omega), ⟨rfl, by omega, by omega, fun j hj => ?_⟩, by simp only []; omega⟩⟩
    · exact ⟨fun _ => by rw [hyes]; exact getD_mem X 0 (by omega), fun _ => hk0⟩
    · by_cases hjk : (j : Int) < k
      · exact hno j hjk
      · obtain rfl : j = k.toNat := by omega
        exact fun h => hn h.symm
  · constructor
    · intro h; omega
    · intro hx
      obtain ⟨j, hj, rfl⟩ := List.getElem_of_mem hx
      exact absurd (by simp [List.getD_eq_getElem?_getD, hj]) (hno j (by omega))

theorem ContainsI_k (p : Option Addr) (c : Nat) (X : List Int) (h63 : (X.length : Int) ≤ 9223372036854775807) (x : Int) (w : World) (h : Ints .i64 w p X) :
    FnP Tryd.prog F_slices_Contains_int_int #[.slice p X.length c, .int .i64 x] w fun v w' => Ext w w' ∧ v = .bool (decide (x ∈ X)) := by
  refine ok_slices_Contains_int_int p X.length c x w _ ?_
  intro w1 h1
  refine (IndexI_k p c X h63 x w1 (h.ext h1)).mono fun v w2 ⟨e2, t, hv, ht⟩ => ⟨e2, t, hv, fun w4 h4 => ⟨h4, ?_⟩⟩
  congr 1
  exact decide_eq_decide.2 ht
end Go.Proofs.YtopgihimdjnaeaaDoor
