/- The law DueTight: all is done in time just where nowhere too much is to be done. -/
import Derived.Test.YtnclaokllghaoaaDueX
import Derived.Test.YtnclaokllghaoaaTxtC
set_option linter.unusedVariables false
set_option linter.unusedSimpArgs false
namespace Go.Proofs.Ytnclaokllghaoaa
open Go.Sx Go.RowKit

/-- What is due at d of the first m that begin at a or later. -/
def byv (l : List T) (a : Int) (m : Nat) (d : Int) : Int := sumN m fun i => if a ≤ (tk l i).a ∧ (tk l i).d = d then (tk l i).n else 0

theorem sumN_const (c : Int) (n : Nat) : sumN n (fun _ => c) = c * n := by
  induction n with
  | zero => simp [sumN]
  | succ n ih => simp only [sumN]; rw [ih]; simp [Int.mul_add]
theorem byv_bounds {l : List T} (hok : okL l) (a : Int) (d : Int) : ∀ m, m ≤ l.length → 0 ≤ byv l a m d ∧ byv l a m d ≤ 200 * m := by
  intro m hm
  have h1 : ∀ i, i < m → 0 ≤ (tk l i).n ∧ (tk l i).n ≤ 200 := fun i hi => by
    have := okT_at hok (i := i) (by omega)
    unfold okT at this; omega
  refine ⟨sumN_nonneg fun i hi => ?_, ?_⟩
  · have := h1 i hi; split <;> omega
  · rw [← sumN_const]
    refine sumN_le fun i hi => ?_
    have := h1 i hi; split <;> omega
theorem demand_bounds {l : List T} (hok : okL l) (a b : Int) : 0 ≤ demand l a b ∧ demand l a b ≤ 4000 := by
  have h1 : ∀ i, i < l.length → 0 ≤ (tk l i).n ∧ (tk l i).n ≤ 200 := fun i hi => by
    have := okT_at hok hi
    unfold okT at this; omega
  have hl := hok.1
  refine ⟨sumN_nonneg fun i hi => ?_, ?_⟩
  · have := h1 i hi; split <;> omega
  · have : demand l a b ≤ sumN l.length (fun _ => 200) := sumN_le fun i hi => by
      have := h1 i hi; split <;> omega
    rw [sumN_const] at this; omega
theorem demand_step (l : List T) (a d : Int) : demand l a d = demand l a (d - 1) + byv l a l.length d := by
  unfold demand byv
  rw [← sumN_add]
  refine sumN_congr fun i hi => ?_
  simp only [decide_eq_true_eq]
  by_cases h1 : a ≤ (tk l i).a
  · by_cases h2 : (tk l i).d = d
    · rw [if_pos ⟨h1, by omega⟩, if_neg (by omega), if_pos ⟨h1, h2⟩]; omega
    · by_cases h3 : (tk l i).d ≤ d
      · rw [if_pos ⟨h1, h3⟩, if_pos ⟨h1, by omega⟩, if_neg (by omega)]; omega
      · rw [if_neg (by omega), if_neg (by omega), if_neg (by omega)]; omega
  · rw [if_neg (by omega), if_neg (by omega), if_neg (by omega)]; omega
theorem demand_none {l : List T} (hok : okL l) {a b : Int} (h : b < 0 ∨ b = a) : demand l a b = 0 := by
  unfold demand
  refine (sumN_congr fun i hi => ?_).trans (sumN_zero l.length)
  have := okT_at hok hi
  unfold okT at this
  simp only [decide_eq_true_eq]
  rw [if_neg (by omega)]

theorem Tight_k (p : Option Addr) (c : Nat) (l : List T) (hs : Small l) (w : World) (h : Tasks w p l) : FnP Try.prog F_due_Tight #[.slice p l.length c] w fun v w' =>
    Ext w w' ∧ ∃ x y t, v = .tuple #[.int .i64 x, .int .i64 y, .bool t, .int .i64 (errC l)] ∧ (¬ okL l → t = false) ∧ (okL l → (t = true ↔ ¬ Feas l)) := by
  refine ok_due_Tight p l.length c w _ ?_
  intro w0 h0
  refine (check_k p c l hs.1 hs.2 w0 (h.ext h0)).mono fun v w1 ⟨e1, hv⟩ => ⟨e1, _, hv, fun hne w3 h3 => ⟨h3, _, _, _, rfl, fun _ => rfl, fun hok => absurd (errC_ok.2 hok) hne⟩, fun he => ?_⟩
  have hok := errC_ok.1 he
  have hlen := hok.1
  refine ⟨fun a w' => Ext w w' ∧ 0 ≤ a ∧ a ≤ 201 ∧ ∀ x y : Int, 0 ≤ x → x < a → x ≤ y → y ≤ 200 → demand l x y ≤ y - x, fun a _ => (201 - a).toNat, ⟨Ext.refl _, by omega, by omega, fun x y _ _ _ _ => by omega⟩, ?_⟩
  rintro a w5 ⟨hw5, ha0, ha1, hall⟩
  refine ⟨fun hlt w6 h6 => ?_, fun hge w6 h6 => ⟨hw5.trans h6, _, _, _, by rw [he], fun hno => absurd hok hno, fun _ => ?_⟩⟩
  · refine new_own (by intro v hv; have := List.eq_of_mem_replicate (show v ∈ List.replicate 201 (Value.int .i64 0) from hv); subst this; rfl) fun w7 o7 e7 => ?_
    have o7 := (o7 w6.heap.size (Nat.le_refl _)).weak (B' := w.heap.size) (hw5.trans h6).size
    generalize hq : (some (⟨w6.heap.size, 0, none⟩ : Addr)) = q at o7
    have hqn : q ≠ none := by rw [← hq]; simp
    have hx7 := (hw5.trans h6).trans e7
    refine ⟨fun k w' => ∃ Y : List Int, Ext w w' ∧ 0 ≤ k ∧ k ≤ l.length ∧ Y.length = 201 ∧ Own w.heap.size w' 44 201 q 1 1 (Y.map (.int .i64)) ∧ ∀ d : Nat, d < 201 → Y.getD d 0 = byv l a k.toNat d, fun k _ => (l.length - k).toNat,
      ⟨List.replicate 201 0, hx7, by omega, by omega, List.length_replicate, o7, fun d hd => by rw [getD_replicate' _ _ _ hd]; rfl⟩, ?_⟩
    rintro k w10 ⟨Y, hw10, hk0, hk1, lenY, oY, hY⟩
    refine ⟨fun hklt => ?_, fun hkge => ?_⟩
    · obtain ⟨g1, g2, g3, g4, g5⟩ := tasks_at (h.ext hw10) hk0 hklt
      have ht := okT_at hok (i := k.toNat) (by omega)
      have hbv := fun d => byv_bounds hok a d k.toNat (by omega)
      have hst : ∀ d : Int, byv l a (k + 1).toNat d = byv l a k.toNat d + if a ≤ (tk l k.toNat).a ∧ (tk l k.toNat).d = d then (tk l k.toNat).n else 0 := fun d => by
        rw [show (k + 1).toNat = k.toNat + 1 by omega]; rfl
      unfold okT at ht
      refine ⟨g1, hk0, hklt, g2, _, g3, _, g4, _, g5, fun b hb => ⟨fun hin => ?_, fun hout => ⟨i64 (by omega), ⟨Y, hw10, by omega, by omega, lenY, oY, fun d hd => ?_⟩, by simp only []; omega⟩⟩⟩
      · have hd0 : (tk l k.toNat).d.toNat < 201 := by omega
        have hget := Ints.idx oY.cells (i := (tk l k.toNat).d) (by omega) (by omega)
        rw [hY _ hd0] at hget
        have hbb := hbv (((tk l k.toNat).d.toNat : Nat) : Int)
        refine ⟨hqn, by omega, by omega, _, hget, i64 (by omega), hqn, by omega, by omega, ?_⟩
        refine store_own (off := (tk l k.toNat).d.toNat) oY (by rw [pIdx_map]; simp) (by simp [lenY]; omega) (by simp) (by intro v hv; simp at hv; subst hv; rfl) (oY.free hb) fun w16 o16 g16 => ⟨i64 (by omega), ⟨Y.set (tk l k.toNat).d.toNat (byv l a k.toNat (((tk l k.toNat).d.toNat : Nat) : Int) + (tk l k.toNat).n), g16.ext hw10 oY, by omega, by omega, by simp [lenY], ?_, fun d hd => ?_⟩, by simp only []; omega⟩
        · rw [List.map_set]; exact o16
        · rw [getD_set _ _ _ _ _ (by omega), hst]
          by_cases hdd : d = (tk l k.toNat).d.toNat
          · rw [if_pos hdd, if_pos ⟨hin, by omega⟩, hdd]
          · rw [if_neg hdd, if_neg (by omega), hY d hd]; omega
      · rw [hst, if_neg (by omega), hY d hd]; omega
    · obtain rfl : k = l.length := by omega
      simp only [Int.toNat_natCast] at hY
      refine ⟨.agg (Y.map (.int .i64)).toArray, ⟨Y.map (.int .i64), rfl, by simp [lenY], oY.cells, (fun b hb => by cases hb), hqn⟩, ?_⟩
      refine ⟨fun sm k w' => w' = w10 ∧ 0 ≤ k ∧ k ≤ 201 ∧ sm = demand l a (k - 1) ∧ ∀ y : Int, a ≤ y → y < k → demand l a y ≤ y - a, fun _ k _ => (201 - k).toNat, ⟨rfl, by omega, by omega, (demand_none hok (by omega)).symm, fun y h1 h2 => ?_⟩, ?_⟩
      · omega
      rintro sm k w10 ⟨rfl, hk0, hk1, rfl, hally⟩
      refine ⟨fun hklt w16 h16 => ?_, fun hkge => ⟨i64 (by omega), ⟨hw10, by omega, by omega, fun x y hx0 hx1 hxy hy => ?_⟩, by simp only []; omega⟩⟩
      · refine run_index_int (n := 201) (e := T_int) (by kernel_rfl) (by kernel_rfl) (by kernel_rfl) lenY hk0 (by omega) ⟨Ext.refl _, _, rfl, ?_⟩
        rw [hY k.toNat (by omega), show ((k.toNat : Nat) : Int) = k by omega, ← demand_step]
        have hb := demand_bounds hok a k
        refine ⟨i64 (by omega), fun _ => i64 (by omega), fun hyes w19 h19 => ⟨hw10.trans h19, _, _, _, by rw [he], fun hno => absurd hok hno, fun _ => ⟨fun _ hF => ?_, fun _ => rfl⟩⟩, fun hno => ⟨i64 (by omega), ⟨rfl, by omega, by omega, by congr 1; omega, fun y h1 h2 => ?_⟩, by simp only []; omega⟩⟩
        · have := hF a k ha0 (by omega) (by omega); omega
        · by_cases hyk : y = k
          · subst hyk
            rcases Int.lt_or_eq_of_le h1 with h | h
            · omega
            · rw [demand_none hok (.inr h.symm)]; omega
          · exact hally y h1 (by omega)
      · by_cases hxa : x = a
        · subst hxa; exact hally y hxy (by omega)
        · exact hall x y hx0 (by omega) hxy hy
  · constructor
    · intro h; cases h
    · intro hno
      exact absurd (fun x y hx hxy hy => hall x y hx (by omega) hxy hy) hno

theorem core_DueTight (W : World) : ∀ l : Option Addr, ∀ ll : Nat, ∀ lc : Nat, SlcArg Try.prog W 29 l ll lc → ∀ a : Int, InR .i64 a → ∀ b : Int, InR .i64 b →
    FnP Try.prog F_shiftbellkeep_DueTight #[(.slice l ll lc), (.int .i64 a), (.int .i64 b)] W fun v W' => v = .bool true ∧ Ext W W' := by
  intro p ll lc hl a ha b hb
  obtain ⟨l, rfl, hs, hT⟩ := tasks_open hl
  refine ok_shiftbellkeep_DueTight _ _ _ _ _ W _ ?_
  intro w0 h0
  refine (dues_k w0).mono fun v w1 ⟨e1, hv⟩ => ⟨e1, true, hv, fun h => by simp at h, fun _ w3 h3 => ?_⟩
  refine (Fits_k p lc l hs w3 (hT.ext h3)).mono fun v w4 ⟨e4, b1, hv, n1, o1⟩ => ⟨e4, b1, _, hv, fun w7 h7 => ?_⟩
  refine (Tight_k p lc l hs w7 (hT.ext h7)).mono fun v w8 ⟨e8, x, y, t, hv, n2, o2⟩ => ⟨e8, x, y, t, _, hv, fun hne w13 h13 => ⟨b_true ?_, h13⟩, fun he => ?_⟩
  · have hno : ¬ okL l := fun h => hne (errC_ok.2 h)
    simp [n1 hno, n2 hno]
  have hok := errC_ok.1 he
  have k1 := o1 hok
  have k2 := o2 hok
  have hlen := hok.1
  rw [he]
  have hbt : t = !b1 := by
    cases b1 <;> cases t
    · exact absurd ((k2.2 (fun h => by have := k1.2 h; cases this))) (by simp)
    · rfl
    · rfl
    · exact absurd (k1.1 rfl) (k2.1 rfl)
  refine ⟨fun _ w13 h13 => ⟨b_true (by subst hbt; cases b1 <;> rfl), h13⟩, fun hr => ?_⟩
  refine ⟨fun n k w' => w' = W ∧ 0 ≤ k ∧ k ≤ l.length ∧ n = sumN k.toNat (fun i => if (decide (a ≤ (tk l i).a ∧ (tk l i).d ≤ b)) = true then (tk l i).n else 0), fun _ k _ => (l.length - k).toNat, ⟨rfl, by omega, by omega, rfl⟩, ?_⟩
  rintro n k W ⟨rfl, hk0, hk1, rfl⟩
  have hbd : ∀ m, m ≤ l.length → 0 ≤ sumN m (fun i => if (decide (a ≤ (tk l i).a ∧ (tk l i).d ≤ b)) = true then (tk l i).n else 0) ∧ sumN m (fun i => if (decide (a ≤ (tk l i).a ∧ (tk l i).d ≤ b)) = true then (tk l i).n else 0) ≤ 200 * m := by
    intro m hm
    have h1 : ∀ i, i < m → 0 ≤ (tk l i).n ∧ (tk l i).n ≤ 200 := fun i hi => by
      have := okT_at hok (i := i) (by omega)
      unfold okT at this; omega
    refine ⟨sumN_nonneg fun i hi => ?_, ?_⟩
    · have := h1 i hi; split <;> omega
    · rw [← sumN_const]
      refine sumN_le fun i hi => ?_
      have := h1 i hi; split <;> omega
  have hb1 := hbd k.toNat (by omega)
  refine ⟨fun hklt => ?_, fun hkge => ⟨fun _ _ => i64 (by omega), fun w17 h17 => ⟨b_true ?_, h17⟩⟩⟩
  · obtain ⟨g1, g2, g3, g4, g5⟩ := tasks_at hT hk0 hklt
    have ht := okT_at hok (i := k.toNat) (by omega)
    unfold okT at ht
    refine ⟨g1, hk0, hklt, g2, _, g3, _, g4, _, g5, fun b20 _ => ⟨fun hin => ⟨i64 (by omega), i64 (by omega), ⟨rfl, by omega, by omega, ?_⟩, by simp only []; omega⟩, fun hout => ⟨i64 (by omega), ⟨rfl, by omega, by omega, ?_⟩, by simp only []; omega⟩⟩⟩
    · rw [show (k + 1).toNat = k.toNat + 1 by omega]
      simp only [sumN]
      rw [if_pos (by simpa using hin)]
    · rw [show (k + 1).toNat = k.toNat + 1 by omega]
      simp only [sumN]
      rw [if_neg (by simp only [decide_eq_true_eq]; omega)]; omega
  · obtain rfl : k = l.length := by omega
    simp only [Int.toNat_natCast]
    subst hbt
    cases b1 with
    | false => rfl
    | true =>
      have := k1.1 rfl a b hr.1.1 hr.1.2 hr.2
      unfold demand at this
      simpa using this
end Go.Proofs.Ytnclaokllghaoaa
