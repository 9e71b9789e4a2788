/- The law PackLeast: boxes, and the law. -/
import Derived.Test.YtmdnjnflmijofaaPLc
set_option linter.unusedVariables false
set_option linter.unusedSimpArgs false
namespace Go.Proofs.Ytmdnjnflmijofaa
open Go.Sx Go.RowKit

theorem Least_k (s : Int) (q : Option Addr) (c : Nat) (L : List Int) (hc : L.length ≤ c) (h64 : (L.length : Int) ≤ 9223372036854775807) (w : World) (hL : Ints .i64 w q L) : FnP Try.prog F_pack_Least #[.slice q L.length c, .int .i64 s] w fun v w' => Ext w w' ∧ ∃ t e, v = .tuple #[.int .i64 t, .int .i64 e] ∧ (e ≠ 0 → t = 0) ∧ (e = 0 → okP s L ∧ L.length ≤ 9 ∧ Bst s L [] (L.length + 1) t) := by
  refine ok_pack_Least q L.length c s w _ fun w0 h0 => ?_
  refine (pcheck_k s q c L h64 w0 (hL.ext h0)).mono fun v w1 ⟨e1, t, hv, ht⟩ => ⟨e1, t, hv, fun hne w3 h3 => ⟨h3, 0, t, rfl, fun _ => rfl, fun h => absurd h hne⟩, fun h => ⟨fun _ w3 h3 => ⟨h3, 0, 2, rfl, fun _ => rfl, fun h => by omega⟩, fun h9 => ⟨i64 (by omega), fun w3 h3 => ?_⟩⟩⟩
  have hok := ht.1 h
  refine (least_k s hok.2.1 L hok.2.2 q c hc w w3 h3 hL none 0 0 [] _ (by omega) (by simp) Own.nil).mono fun v w4 ⟨e4, t, hv, hB⟩ => ⟨e4, t, hv, fun w6 h6 => ⟨h6, t, 0, rfl, fun h => absurd rfl h, fun _ => ⟨hok, by omega, hB⟩⟩⟩

theorem key_int : KeyT Try.prog 3 (Value.int .i64) (.int .i64) := keyT_int (by kernel_rfl)
theorem map_ty : Try.prog.underlying 61 = some (.map 3 2) := by kernel_rfl

theorem Boxes_k (s : Int) (q : Option Addr) (c : Nat) (L : List Int) (h64 : (L.length : Int) ≤ 9223372036854775807) (p : Option Addr) (d : Nat) (I : List Int) (w : World) (hL : Ints .i64 w q L) (hI : Ints .i64 w p I) :
    FnP Try.prog F_pack_Boxes #[.slice q L.length c, .int .i64 s, .slice p I.length d] w fun v w' => Ext w w' ∧ ∃ t e, v = .tuple #[.int .i64 t, .int .i64 e] ∧ (e = 0 → ∃ n : Nat, t = n ∧ Fill s L [] n) := by
  refine ok_pack_Boxes q L.length c s p I.length d w _ fun w0 h0 => ?_
  refine (pcheck_k s q c L h64 w0 (hL.ext h0)).mono fun v w1 ⟨e1, t, hv, ht⟩ => ⟨e1, t, hv, fun hne w3 h3 => ⟨h3, 0, t, rfl, fun h => absurd h hne⟩, fun h => ⟨fun _ w3 h3 => ⟨h3, 0, 1, rfl, fun h => by omega⟩, fun hlen w3 h3 => ?_⟩⟩
  obtain ⟨hl100, hs, hLb⟩ := ht.1 h
  refine run_makeMap (α := Int) (enc := Value.int .i64) fun w4 m4 e4 => ⟨e4, _, rfl, ?_⟩
  refine ⟨fun k w' => Ext w w' ∧ 0 ≤ k ∧ k ≤ I.length ∧ ∃ (m : List (Int × Value)) (F : List Int), MapIs (Value.int .i64) w' w3.heap.size m ∧ m.map (·.2) = F.map (Value.int .i64) ∧ (∀ x ∈ F, 0 ≤ x ∧ x ≤ s) ∧ ∀ n, Fill s (L.drop k.toNat) F n → Fill s L [] n, fun k _ => (I.length - k).toNat, ⟨h3.trans e4, by omega, by omega, [], [], m4, rfl, by simp, fun n hn => hn⟩, ?_⟩
  rintro k w8 ⟨hx8, hk0, hk1, m, F, hm, hmF, hFb, hfill⟩
  refine ⟨fun hlt => ?_, fun hge w9 h9 => ?_⟩
  · have g1 := Ints.idx (hI.ext hx8) hk0 hlt
    have g2 := Ints.idx (hL.ext hx8) hk0 (by omega)
    have hx := hLb _ (getD_mem L 0 (i := k.toNat) (by omega))
    have hdrop : L.drop k.toNat = L.getD k.toNat 0 :: L.drop (k + 1).toNat := by
      rw [show (k + 1).toNat = k.toNat + 1 by omega, List.drop_eq_getElem_cons (show k.toNat < L.length by omega)]
      simp [List.getD_eq_getElem?_getD, show k.toNat < L.length by omega]
    rw [hdrop] at hfill
    generalize hxe : L.getD k.toNat 0 = x at *
    generalize I.getD k.toNat 0 = b at *
    refine ⟨fun hq => cell_p g1 (pIdx_none.2 hq), hk0, hlt, b, g1, fun hq => cell_p g2 (pIdx_none.2 hq), hk0, by omega, x, g2, fun w11 h11 => ?_⟩
    refine run_look key_int map_ty elem_sl_int64 (hm.ext h11) ⟨Ext.refl _, ?_⟩
    have ways : ∃ y, (mget m b).getD (.int .i64 0) = .int .i64 y ∧ 0 ≤ y ∧ y ≤ s ∧ ∃ F', (mset m b (.int .i64 (y + x))).map (·.2) = F'.map (Value.int .i64) ∧ (y + x ≤ s → (∀ z ∈ F', 0 ≤ z ∧ z ≤ s) ∧ ∀ n, Fill s (L.drop (k + 1).toNat) F' n → Fill s (x :: L.drop (k + 1).toNat) F n) := by
      rcases mset_ways (Value.int .i64) m F hmF b with ⟨h1, h2⟩ | ⟨j, y, hj, h1, h2⟩
      · refine ⟨0, by rw [h1]; rfl, by omega, by omega, _, h2 _, fun hle => ⟨fun z hz => ?_, fun n hn => .new (by simpa using hn)⟩⟩
        rcases List.mem_append.1 hz with h | h
        · exact hFb z h
        · simp at h; omega
      · obtain ⟨hjl, hjy⟩ := List.getElem?_eq_some_iff.1 hj
        have hjd : F.getD j 0 = y := by simp [List.getD_eq_getElem?_getD, hj]
        have hyb := hFb y (hjy ▸ List.getElem_mem hjl)
        refine ⟨y, by rw [h1]; rfl, hyb.1, hyb.2, _, h2 _, fun hle => ⟨fun z hz => ?_, fun n hn => .put hjl (by rw [hjd]; exact hle) (by rw [hjd]; exact hn)⟩⟩
        rcases mem_set_cases hz with h | rfl
        · exact hFb z h
        · omega
    obtain ⟨y, hy, hy0, hys, F', hF', hnext⟩ := ways
    refine ⟨y, hy, i64 (by omega), fun w14 h14 => ?_⟩
    refine run_mapUpdate key_int map_ty (hm.ext h14) fun w15 m15 g15 => ⟨fun _ w16 h16 => ?_, fun _ w16 h16 => ?_⟩
    all_goals have hx15 : Ext w w15 := g15.below (hx8.trans h14) (hx8.trans h14).size (fun a ha => by obtain rfl := Option.some.inj ha; exact h3.size)
    · exact ⟨hx15.trans h16, 0, 1, rfl, fun h => by omega⟩
    · refine run_look key_int map_ty elem_sl_int64 (m15.ext h16) ⟨Ext.refl _, y + x, by rw [mget_mset, if_pos rfl]; rfl, fun _ w19 h19 => ⟨hx15.trans h19, 0, 1, rfl, fun h => by omega⟩, fun hle => ⟨i64 (by omega), ⟨hx15, by omega, by omega, _, F', m15, hF', (hnext hle).1, fun n hn => hfill n ((hnext hle).2 n hn)⟩, by simp only []; omega⟩⟩
  · obtain rfl : k = I.length := by omega
    refine run_len_m map_ty (hm.ext h9) ⟨Ext.refl _, _, rfl, fun w12 h12 => ⟨hx8.trans h12, _, _, rfl, fun _ => ⟨m.length, rfl, ?_⟩⟩⟩
    refine hfill _ ?_
    have hl := congrArg List.length hmF
    simp at hl
    rw [List.drop_of_length_le (by omega), hl]
    exact .nil

theorem pnumbers_k (n : Nat) (hn : n ≤ 100000) (w : World) : FnP Try.prog F_pack_numbers #[.int .i64 n] w fun v w' => Ext w w' ∧ ∃ q c, v = .slice q n c ∧ Own w.heap.size w' T_int 1 q n c ((nums n).map (.int .i64)) := by
  refine ok_pack_numbers n w _ ⟨fun q m c k w' => Ext w w' ∧ 0 ≤ k ∧ k ≤ n ∧ (m : Int) = k ∧ Own w.heap.size w' T_int 1 q m c ((nums k.toNat).map (.int .i64)), fun _ _ _ k _ => (n - k).toNat, ⟨Ext.refl _, by omega, by omega, by omega, Own.nil⟩, ?_⟩
  rintro q m c k w3 ⟨hw, hk0, hk1, hm, o⟩
  refine ⟨fun hlt => ?_, fun hge w4 h4 => ⟨hw.trans h4, q, c, ?_, ?_⟩⟩
  · refine push_int elem_sl_int o hw.size (by omega) (by omega) fun p' c' w' o' g hne => ⟨i64 (by omega), ⟨g.ext hw o, by omega, by omega, by omega, ?_⟩, by simp only []; omega⟩
    rw [show (k + 1).toNat = k.toNat + 1 by omega, nums_succ]
    rwa [Int.toNat_of_nonneg hk0]
  · rw [show m = n by omega]
  · obtain rfl : m = n := by omega
    rw [show k.toNat = m by omega] at o
    exact o.ext h4

/-- 'first' for one thing of 3 and boxes of 4. -/
theorem first1_k (q r : Option Addr) (c d : Nat) (w : World) (hL : Ints .i64 w q [3]) (hr : Ints .i64 w r [0]) : FnP Try.prog F_pack_first #[.slice q 1 c, .int .i64 4, .slice r 1 d] w fun v w' => Ext w w' ∧ ∃ p n o, v = .tuple #[.slice p n o, .int .i64 1] := by
  refine ok_pack_first q 1 c 4 r 1 d w _ fun w0 h0 => ?_
  refine mk_ints elem_sl_int (by omega) (by simp) (by omega) fun w1 o1 e1 => ⟨e1, _, _, _, rfl, ?_⟩
  have hx1 := h0.trans e1
  have oI := o1 w0.heap.size (Nat.le_refl _)
  refine ⟨fun f n c k w' => (k = 0 ∧ w' = w1 ∧ f = none ∧ n = 0 ∧ c = 0) ∨ (k = 1 ∧ n = 1 ∧ Ext w w'), fun _ _ _ k _ => (1 - k).toNat, .inl ⟨rfl, rfl, rfl, rfl, rfl⟩, ?_⟩
  rintro f n c2 k w8 (⟨rfl, rfl, rfl, rfl, rfl⟩ | ⟨rfl, rfl, hx⟩)
  · refine ⟨fun _ => ?_, fun h => by omega⟩
    have gr := Ints.idx (hr.ext hx1) (i := 0) (by omega) (by simp)
    have gq : ∀ w', Ext w w' → cell w' (pIdx q 0 1) 0 = some (.int .i64 3) := fun w' hw' => Ints.idx (hL.ext hw') (i := 0) (by omega) (by simp)
    refine ⟨fun hq => cell_p gr (pIdx_none.2 hq), by omega, by omega, 0, gr, fun k w' => k = 0 ∧ w' = w8, fun _ _ => 0, ⟨rfl, rfl⟩, ?_⟩
    rintro k w12 ⟨rfl, rfl⟩
    refine ⟨fun h => by omega, fun h => by omega, fun h => by omega, fun h => by omega, fun _ => ⟨fun _ => ?_, fun h => absurd rfl h⟩⟩
    have hq : q ≠ none := fun hq => cell_p (gq w12 hx1) (pIdx_none.2 hq)
    refine push_int elem_sl_int64 (B := w12.heap.size) (xs := []) Own.nil (Nat.le_refl _) (by omega) (by omega) fun p2 c2 w19 o19 g19 hp2 => ?_
    have he19 : Ext w12 w19 := g19.below (Ext.refl _) (Nat.le_refl _) (fun a ha => by cases ha)
    have hx19 := hx1.trans he19
    refine ⟨hp2, by omega, by omega, 0, o19.int_at (by omega) (by simp), hq, by omega, by omega, 3, gq w19 hx19, i64 (by omega), hp2, by omega, by omega, ?_⟩
    refine store_int o19 (by omega) (by simp) (by simp) fun w27 o27 g27 => ?_
    have he27 : Ext w12 w27 := g27.ext he19 o19
    refine ⟨by simp, by omega, by simp, ?_⟩
    refine store_int (oI.ext he27) (by omega) (by simp) (by simp) fun w28 o28 g28 => ⟨i64 (by omega), .inr ⟨rfl, rfl, ?_⟩, by simp⟩
    exact h0.trans (g28.ext (e1.trans he27) (oI.ext he27))
  · exact ⟨fun h => by omega, fun _ w9 h9 => ⟨hx.trans h9, _, _, _, rfl⟩⟩

theorem packs_k (w : World) : FnP Try.prog F_shiftbellkeep_packs #[] w fun v w' => Ext w w' ∧ v = .bool true := by
  refine ok_shiftbellkeep_packs w _ ?_
  intro w0 h0
  refine run_lit elem_sl_int64 [.int .i64 3] rfl rfl (by intro v hv; simp at hv; subst hv; rfl) (by omega) (by omega) fun w1 o1 e1 => ⟨e1, _, _, _, rfl, fun w5 h5 => ?_⟩
  have o5 := (o1 0 (Nat.zero_le _)).ext h5
  have hx5 := (h0.trans e1).trans h5
  have hI : Ints .i64 w5 (some ⟨w0.heap.size, 0, none⟩) [3] := o5.cells
  have hfirst : FnP Try.prog F_pack_First #[.slice (some ⟨w0.heap.size, 0, none⟩) 1 1, .int .i64 4] w5 fun v w' => Ext w5 w' ∧ ∃ p n o, v = .tuple #[.slice p n o, .int .i64 1, .int .i64 0] := by
    refine ok_pack_First _ 1 1 4 w5 _ fun w6 h6 => ?_
    refine (pcheck_k 4 _ 1 [3] (by simp) w6 (hI.ext h6)).mono fun v w7 ⟨e7, t, hv, ht⟩ => ⟨e7, t, hv, fun hne => absurd (ht.2 ⟨by simp, by omega, by simp⟩) hne, fun he w8 h8 => ?_⟩
    refine (pnumbers_k 1 (by omega) w8).mono fun v w9 ⟨e9, r, rc, hv, oR⟩ => ⟨e9, r, _, rc, hv, fun w10 h10 => ?_⟩
    have hx10 := (h8.trans e9).trans h10
    refine (first1_k _ r 1 rc w10 (hI.ext hx10) (oR.ext h10).cells).mono fun v w11 ⟨e11, p, n, o, hv⟩ => ⟨e11, _, _, _, _, hv, fun w14 h14 => ⟨(hx10.trans e11).trans h14, _, _, _, rfl⟩⟩
  refine hfirst.mono fun v w6 ⟨e6, p, n, o, hv⟩ => ⟨e6, _, _, _, _, _, hv, fun w12 h12 => ⟨hx5.trans (e6.trans h12), rfl⟩⟩

theorem core_PackLeast (W : World) : ∀ l : Option Addr, ∀ ll : Nat, ∀ lc : Nat, SlcArg Try.prog W T_int64 l ll lc → ∀ size : Int, InR .i64 size → ∀ i : Option Addr, ∀ il : Nat, ∀ ic : Nat, SlcArg Try.prog W T_int i il ic →
    FnP Try.prog F_shiftbellkeep_PackLeast #[.slice l ll lc, .int .i64 size, .slice i il ic] W fun v W' => v = .bool true ∧ Ext W W' := by
  intro q ll lc hl s hsr p il ic hi
  obtain ⟨L, rfl, _, hL⟩ := hl.ints (k := .i64) (by kernel_rfl) (by kernel_rfl)
  obtain ⟨I, rfl, _, hI⟩ := hi.ints (k := .i64) (by kernel_rfl) (by kernel_rfl)
  have h64 : (L.length : Int) ≤ 9223372036854775807 := by have := hl.le; have := hl.max; omega
  refine ok_shiftbellkeep_PackLeast q L.length lc s p I.length ic W _ fun w0 h0 => ?_
  refine (packs_k w0).mono fun v w1 ⟨e1, hv⟩ => ⟨e1, true, hv, fun h => by simp at h, fun _ w3 h3 => ?_⟩
  refine (Least_k s q lc L hl.le h64 w3 (hL.ext h3)).mono fun v w4 ⟨e4, t, e, hv, hbad, hgd⟩ => ⟨e4, t, e, hv, fun w7 h7 => ?_⟩
  refine (Boxes_k s q lc L h64 p ic I w7 (hL.ext h7) (hI.ext h7)).mono fun v w8 ⟨e8, t2, e2, hv, hbox⟩ => ⟨e8, t2, e2, hv, fun hne w11 h11 => ⟨b_true (by simpa using hbad hne), h11⟩, fun he => ?_⟩
  obtain ⟨hok, hl9, hB⟩ := hgd he
  have hle := hB.all _ (Fill.all s L [])
  simp only [List.length_nil, Nat.zero_add] at hle
  obtain ⟨n, rfl, hf⟩ : ∃ n : Nat, t = n ∧ Fill s L [] n := by
    rcases hB.is with h | h
    · omega
    · exact h
  have hsum := hf.sum (by simp) (fun x hx => (hok.2.2 x hx).2)
  have h1 : (n : Int) * s ≤ 9 * 1099511627776 := Int.mul_le_mul (by omega) (by have := hok.2.1; omega) (by have := hok.2.1; omega) (by omega)
  have h2 : 0 ≤ (n : Int) * s := Int.mul_nonneg (by omega) (by have := hok.2.1; omega)
  refine ⟨fun _ => i64 (by omega), fun _ w11 h11 => ?_, fun hbad => ?_⟩
  · refine (sum_k q lc L (by omega) (fun x hx => by have := hok.2.2 x hx; have := hok.2.1; omega) w11 (hL.ext h11)).mono fun v w12 ⟨e12, hv⟩ => ⟨e12, _, hv, fun w14 h14 => ⟨b_true ?_, h14⟩⟩
    have hpos : 0 < (n : Int) ↔ 0 < (L.length : Int) := by
      constructor
      · intro h; omega
      · intro h
        have : L ≠ [] := fun h0 => by subst h0; simp at h
        cases L with
        | nil => exact absurd rfl this
        | cons x L =>
          have hx := hok.2.2 x (by simp)
          have hge := sumL_ge (X := x :: L) (v := 1) (fun y hy => (hok.2.2 y hy).1)
          simp only [sumL] at hsum hge
          rcases Nat.eq_zero_or_pos n with h0 | h0
          · subst h0; simp at hsum hge; omega
          · omega
    simp only [sumL] at hsum
    have g1 : decide (sumL L ≤ (n : Int) * s) = true := by simp; omega
    have g2 : decide ((n : Int) ≤ (L.length : Int)) = true := by simp; omega
    rw [g1, g2]
    by_cases hn : 0 < (n : Int)
    · simp only [decide_eq_true hn, decide_eq_true (hpos.1 hn), Bool.and_self, Bool.true_or]
    · have h3 : ¬ 0 < (L.length : Int) := fun h => hn (hpos.2 h)
      have g3 : (n : Int) ≤ 0 := by omega
      have g4 : (L.length : Int) ≤ 0 := by omega
      simp only [decide_eq_true g3, decide_eq_true g4, Bool.and_self, Bool.or_true]
  · obtain ⟨m, hm, hfm⟩ := hbox hbad.1
    have := hB.all m hfm
    omega
end Go.Proofs.Ytmdnjnflmijofaa
