/- The laws PathLeast and PathScale. -/
import Derived.Test.YtopgihimdjnaeaaPathP
set_option linter.unusedVariables false
set_option linter.unusedSimpArgs false
namespace Go.Proofs.Ytopgihimdjnaeaa
open Go.Sx Go.RowKit

theorem core_PathLeast (W : World) : ∀ n : Int, InR .i64 n → ∀ l : Option Addr, ∀ ll : Nat, ∀ lc : Nat, SlcArg Try.prog W T_Edge l ll lc → ∀ d : Option Addr, ∀ dl : Nat, ∀ dc : Nat, SlcArg Try.prog W T_int64 d dl dc → ∀ t : Option Addr, ∀ tl : Nat, ∀ tc : Nat, SlcArg Try.prog W T_int64 t tl tc →
    FnP Try.prog F_shiftbellkeep_PathLeast #[.int .i64 n, .slice l ll lc, .slice d dl dc, .slice t tl tc] W fun v W' => v = .bool true ∧ Ext W W' := by
  intro n hn p ll lc hl q dl dc hd r tl tc ht
  obtain ⟨L, rfl, h63, hin, hL⟩ := edges_open hl
  obtain ⟨D, rfl, _, hD⟩ := hd.ints (k := .i64) (by kernel_rfl) (by kernel_rfl)
  obtain ⟨T, rfl, _, hT⟩ := ht.ints (k := .i64) (by kernel_rfl) (by kernel_rfl)
  have h64 : (D.length : Int) ≤ 9223372036854775807 := by have := hd.le; have := hd.max; omega
  refine ok_shiftbellkeep_PathLeast _ _ _ _ _ _ _ _ _ _ W _ ?_
  intro w0 h0
  refine (paths_k w0).mono fun v w1 ⟨e1, hv⟩ => ⟨e1, true, hv, fun h => by simp at h, fun _ w3 h3 => ?_⟩
  refine (Times_k n p lc L h63 q dc D h64 w3 (hL.ext h3) (hD.ext h3)).mono fun v w4 ⟨e4, qe, el, ec, ql, ll, lc', Sp, e, hv, hbad, hgood⟩ => ⟨e4, _, _, _, _, _, _, _, _, hv, fun b13 _ => ⟨fun hb w14 h14 => ⟨b_true ?_, (h3.trans e4).trans h14⟩, fun hg => ?_⟩⟩
  · by_cases he : e = 0
    · simp [he]
    · simp [(hbad he).2.2.1]
  · have hx4 : Ext W w4 := h3.trans e4
    obtain ⟨hok, hokD, hel, hll, ⟨A, hA⟩, Ea, La, oE, oL, hP⟩ := hgood hg.1
    obtain ⟨N, rfl⟩ : ∃ N : Nat, n = N := ⟨n.toNat, by have := hok.1; omega⟩
    simp only [Int.toNat_natCast] at hA hP
    have hOk := orderOk hok
    simp only [Int.toNat_natCast] at hOk
    have lenD := hokD.1
    have lenE := hP.eLen
    have hDb : ∀ i : Nat, i < N → 0 ≤ D.getD i 0 ∧ D.getD i 0 ≤ 1000000000 := fun i hi => hokD.2 _ (getD_mem D 0 (by omega))
    have T' : ∀ {w' : World}, Ext w4 w' → Value.bool true = .bool true ∧ Ext W w' := fun h => ⟨rfl, hx4.trans h⟩
    refine ⟨fun en k w' => w' = w4 ∧ 0 ≤ k ∧ k ≤ N ∧ 0 ≤ en ∧ ∀ i : Nat, (i : Int) < k → 0 ≤ T.getD i 0 ∧ T.getD i 0 ≤ 1099511627776 ∧ T.getD i 0 + D.getD i 0 ≤ en, fun _ k _ => (N - k).toNat, ⟨rfl, by omega, by omega, by omega, fun i hi => by omega⟩, ?_⟩
    rintro en k w4 ⟨rfl, hk0, hk1, hen, hall⟩
    have hT4 := hT.ext hx4
    have hD4 := hD.ext hx4
    have hr : 0 < N → r ≠ none := fun h hq => cell_p (Ints.idx hT4 (i := 0) (by omega) (by omega)) (pIdx_none.2 hq)
    have hq : 0 < N → q ≠ none := fun h hq => cell_p (Ints.idx hD4 (i := 0) (by omega) (by omega)) (pIdx_none.2 hq)
    refine ⟨fun hlt => ?_, fun hge => ?_⟩
    · have hb := hDb k.toNat (by omega)
      refine ⟨hr (by omega), hk0, hlt, _, Ints.idx hT4 hk0 hlt, fun _ w19 h19 => T' h19, fun hr' => ⟨hq (by omega), hk0, by omega, _, Ints.idx hD4 hk0 (by omega), i64 (by omega), i64 (by omega), ⟨rfl, by omega, by omega, by omega, fun i hi => ?_⟩, by simp only []; omega⟩⟩
      by_cases hik : (i : Int) < k
      · have := hall i hik; omega
      · obtain rfl : i = k.toNat := by omega
        omega
    · obtain rfl : k = N := by omega
      refine ⟨fun k2 w' => w' = w4 ∧ 0 ≤ k2 ∧ k2 ≤ L.length ∧ ∀ j : Nat, (j : Int) < k2 → g0 T (ed L j).f + g0 D (ed L j).f ≤ g0 T (ed L j).t, fun k2 _ => (L.length - k2).toNat, ⟨rfl, by omega, by omega, fun j hj => by omega⟩, ?_⟩
      rintro k2 w4 ⟨rfl, hj0, hj1, hle⟩
      refine ⟨fun hlt => ?_, fun hge2 => ?_⟩
      · obtain ⟨g1, g2, g3, g4⟩ := edges_at (hL.ext hx4) hj0 hlt
        have hEe := hOk _ (ed_mem (L := L) (i := k2.toNat) (by omega))
        have b1 := hall (ed L k2.toNat).f.toNat (by omega)
        have b2 := hDb (ed L k2.toNat).f.toNat (by omega)
        refine ⟨g1, hj0, hlt, g2, _, g3, _, g4, fun b23 _ => ⟨hr (by omega), by omega, by omega, _, Ints.idx hT4 (by omega) (by omega), hr (by omega), by omega, by omega, _, Ints.idx hT4 (by omega) (by omega), hq (by omega), by omega, by omega, _, Ints.idx hD4 (by omega) (by omega), i64 (by omega), fun _ w27 h27 => T' h27, fun hg' => ⟨i64 (by omega), ⟨rfl, by omega, by omega, fun j hj => ?_⟩, by simp only []; omega⟩⟩⟩
        by_cases hjk : (j : Int) < k2
        · exact hle j hjk
        · obtain rfl : j = k2.toNat := by omega
          exact hg'
      · have hleast := hP.pf.least hA hOk (t := g0 T) (fun i hi => by simpa using (hall i (by omega)).1) (fun x hx => by
          obtain ⟨j, hj, rfl⟩ := mem_ed hx
          exact hle j (by omega))
        refine ⟨fun k3 w' => w' = w4 ∧ 0 ≤ k3 ∧ k3 ≤ N, fun k3 _ => (N - k3).toNat, ⟨rfl, by omega, by omega⟩, ?_⟩
        rintro k3 w4 ⟨rfl, hi0, hi1⟩
        refine ⟨fun hlt => ?_, fun hge3 w24 h24 => ⟨b_true ?_, hx4.trans h24⟩⟩
        · have hc := hleast k3.toNat (by omega)
          simp only [g0, Int.toNat_natCast] at hc
          exact ⟨oE.ne1 (by omega) (by omega), hi0, by omega, _, oE.int_at hi0 (by omega), hr (by omega), hi0, hlt, _, Ints.idx hT4 hi0 (by omega), fun h => by omega, fun _ => ⟨i64 (by omega), ⟨rfl, by omega, by omega⟩, by simp only []; omega⟩⟩
        · rw [decide_eq_true_iff]
          rcases hP.sEq with h0 | ⟨i, hi, hs⟩
          · omega
          · have h1 := hall i (by omega)
            have h2 := hleast i hi
            simp only [g0, Int.toNat_natCast] at h2
            omega

theorem core_PathScale (W : World) : ∀ n : Int, InR .i64 n → ∀ l : Option Addr, ∀ ll : Nat, ∀ lc : Nat, SlcArg Try.prog W T_Edge l ll lc → ∀ d : Option Addr, ∀ dl : Nat, ∀ dc : Nat, SlcArg Try.prog W T_int64 d dl dc → ∀ b : Int, InR .i64 b →
    FnP Try.prog F_shiftbellkeep_PathScale #[.int .i64 n, .slice l ll lc, .slice d dl dc, .int .i64 b] W fun v W' => v = .bool true ∧ Ext W W' := by
  intro n hn p ll lc hl q dl dc hd b hb
  obtain ⟨L, rfl, h63, hin, hL⟩ := edges_open hl
  obtain ⟨D, rfl, _, hD⟩ := hd.ints (k := .i64) (by kernel_rfl) (by kernel_rfl)
  have h64 : (D.length : Int) ≤ 9223372036854775807 := by have := hd.le; have := hd.max; omega
  refine ok_shiftbellkeep_PathScale _ _ _ _ _ _ _ _ W _ ?_
  intro w0 h0
  refine (paths_k w0).mono fun v w1 ⟨e1, hv⟩ => ⟨e1, true, hv, fun h => by simp at h, fun _ w3 h3 => ?_⟩
  refine (Times_k n p lc L h63 q dc D h64 w3 (hL.ext h3) (hD.ext h3)).mono fun v w4 ⟨e4, qe, el, ec, ql, ll, lc', Sp, e, hv, hbad, hgood⟩ => ⟨e4, _, _, _, _, _, _, _, _, hv, fun b13 hb13 => ⟨fun hb w14 h14 => ⟨b_true ?_, (h3.trans e4).trans h14⟩, fun hg => ?_⟩⟩
  · by_cases he : e = 0
    · simp [he]
    · simp [(hbad he).2.2.1]
  have hx4 : Ext W w4 := h3.trans e4
  obtain ⟨⟨rfl, hb0⟩, hb1⟩ := hg
  obtain ⟨hok, hokD, hel, hll, ⟨A, hA⟩, Ea, La, oE, oL, hP⟩ := hgood rfl
  obtain ⟨N, rfl⟩ : ∃ N : Nat, n = N := ⟨n.toNat, by have := hok.1; omega⟩
  simp only [Int.toNat_natCast] at hA hP
  have hN60 : N ≤ 60 := by have := hok.2.1; omega
  have hOk := orderOk hok
  simp only [Int.toNat_natCast] at hOk
  have lenD := hokD.1
  have lenE := hP.eLen
  have lenLa := hP.lLen
  have hDb : ∀ i : Nat, i < N → 0 ≤ D.getD i 0 ∧ D.getD i 0 ≤ 1000000000 := fun i hi => hokD.2 _ (getD_mem D 0 (by omega))
  have hs4 := h3.size
  have oE := (oE.weak (B' := 0) (Nat.zero_le _))
  have oL := (oL.weak (B' := 0) (Nat.zero_le _))
  have bE : ∀ x, qe = some x → x.block ≠ b13 := fun x hx => by have := (oE.lt x hx).2; omega
  refine ⟨fun m ml mc k w' => ∃ X : List Int, Ext w4 w' ∧ Own w4.heap.size w' T_int64 1 m ml mc (X.map (.int .i64)) ∧ (∀ c ∈ [b13], ∀ x, m = some x → x.block ≠ c) ∧ 0 ≤ k ∧ k ≤ N ∧ (X.length : Int) = k ∧ ∀ i : Nat, (i : Int) < k → X.getD i 0 = D.getD i 0 * b, fun _ _ _ k _ => (N - k).toNat,
    ⟨[], Ext.refl _, Own.nil, fun c _ x hx => (by cases hx), by omega, by omega, by simp, fun i hi => by omega⟩, ?_⟩
  rintro m ml mc k w17 ⟨X, hw, oX, bX, hk0, hk1, lenX, hX⟩
  have hmul : ∀ x : Int, 0 ≤ x → x ≤ 60000000000 → 0 ≤ x * b ∧ x * b ≤ 60000000000000 := fun x hx0 hx1 => by
    have h1 := Int.mul_nonneg hx0 hb0
    have h2 := Int.mul_le_mul hx1 hb1 hb0 (by omega)
    omega
  refine ⟨fun hlt => ?_, fun hge w18 x18 => ?_⟩
  · have hD4 := hD.ext (hx4.trans hw)
    have hget := Ints.idx hD4 hk0 (by omega)
    have hbk := hDb k.toNat (by omega)
    have hmb := hmul _ hbk.1 (by omega)
    have hlm := oX.leni
    refine ⟨fun hq => cell_p hget (pIdx_none.2 hq), hk0, hlt, _, hget, i64 (by omega), ?_⟩
    refine push_intB elem_sl_int64 oX hw.size bX (by omega) (by omega) fun p' c' w' o' g _ bX' => ⟨i64 (by omega), ⟨_, g.ext hw oX, o', bX', by omega, by omega, by simp; omega, fun i hi => ?_⟩, by simp only []; omega⟩
    by_cases hik : (i : Int) < k
    · rw [show (X ++ [D.getD k.toNat 0 * b]).getD i 0 = X.getD i 0 by simp [List.getD_eq_getElem?_getD, List.getElem?_append_left (show i < X.length by omega)]]
      exact hX i hik
    · obtain rfl : i = k.toNat := by omega
      rw [show (X ++ [D.getD k.toNat 0 * b]).getD k.toNat 0 = D.getD k.toNat 0 * b by
        rw [List.getD_eq_getElem?_getD, List.getElem?_append_right (by omega), show k.toNat - X.length = 0 by omega]; rfl]
  · obtain rfl : k = N := by omega
    have e18 := extB_ext x18
    have hml : ml = X.length := oX.leni.symm
    subst hml
    have hXN : X.length = N := by omega
    have hx18 : Ext W w18 := (hx4.trans hw).trans e18
    refine (Times_k N p lc L h63 m mc X (by omega) w18 (hL.ext hx18) (oX.ext e18).cells).mono fun v w19 ⟨e19, qe2, el2, ec2, ql2, ll2, lc2, Sp2, e2, hv, hbad2, hgood2⟩ => ⟨e19, _, _, _, _, _, _, _, _, hv, fun b28 _ => ⟨fun hne w29 h29 => ⟨b_true ?_, (hx18.trans e19).trans h29⟩, fun he2 => ?_⟩⟩
    · obtain ⟨_, _, hsp, hErr⟩ := hbad2 hne
      have hnd : ¬ okD N X := fun h => by
        obtain ⟨_, i, hi, hk⟩ := hErr.1 hok h
        simp only [Int.toNat_natCast] at hi hk
        exact hA.noKnot hi hk
      simp [hErr.2.1 hok hnd, hsp]
    · obtain ⟨_, _, hel2, hll2, _, Eb, Lb, oE2, oL2, hP2⟩ := hgood2 he2
      simp only [Int.toNat_natCast] at hP2
      have hx419 : Ext w4 w19 := (hw.trans e18).trans e19
      have oE4 := oE.ext hx419
      have oL4 := oL.ext hx419
      have lenE2 := hP2.eLen
      have lenL2 := hP2.lLen
      have hp := hP.pf
      have hscale : PF N L (g0 X) (fun i => g0 Ea i * b) (fun i => g0 La i * b) (Sp * b) := by
        have hd : ∀ i : Nat, i < N → g0 X i = g0 D i * b := fun i hi => by simpa using hX i (by omega)
        have hdf : ∀ x ∈ L, g0 X x.f = g0 D x.f * b := fun x hx => by
          have := hOk x hx
          have h1 := hd x.f.toNat (by omega)
          rwa [show ((x.f.toNat : Nat) : Int) = x.f by omega] at h1
        have hadd : ∀ a c : Int, a * b + c * b = (a + c) * b := fun a c => (Int.add_mul a c b).symm
        have hle : ∀ {a c : Int}, a ≤ c → a * b ≤ c * b := fun h => Int.mul_le_mul_of_nonneg_right h hb0
        refine ⟨fun i hi => Int.mul_nonneg (hp.e0 i hi) hb0, fun x hx => ?_, fun i hi => ?_, Int.mul_nonneg hp.s0 hb0, fun i hi => ?_, ?_, fun i hi => ?_, fun x hx => ?_, fun i hi => ?_⟩
        · rw [hdf x hx, hadd]; exact hle (hp.eLe x hx)
        · rcases hp.eEq i hi with h0 | ⟨x, hx, hxt, hv⟩
          · left; rw [h0]; simp
          · exact .inr ⟨x, hx, hxt, by rw [hdf x hx, hadd, hv]⟩
        · rw [hd i hi, hadd]; exact hle (hp.sLe i hi)
        · rcases hp.sEq with h0 | ⟨i, hi, hs⟩
          · left; rw [h0]; simp
          · exact .inr ⟨i, hi, by rw [hd i hi, hadd, hs]⟩
        · rw [hd i hi, hadd]; exact hle (hp.lS i hi)
        · rw [hdf x hx, hadd]; exact hle (hp.lLe x hx)
        · rcases hp.lEq i hi with h0 | ⟨x, hx, hxf, hv⟩
          · left; rw [hd i hi, hadd, h0]
          · exact .inr ⟨x, hx, hxf, by rw [hd i hi, hadd, hv]⟩
      obtain ⟨u1, u2, u3⟩ := hP2.pf.unique hA hOk hscale
      have hslack := hp.slack hA hOk
      refine ⟨fun k3 w' => w' = w19 ∧ 0 ≤ k3 ∧ k3 ≤ N, fun k3 _ => (N - k3).toNat, ⟨rfl, by omega, by omega⟩, ?_⟩
      rintro k3 w19 ⟨rfl, hi0, hi1⟩
      have hSp := hP.sMax
      have hs0 := hP.s0
      refine ⟨fun hlt => ?_, fun hge3 => ⟨i64 (by have := hmul Sp hs0 hSp; omega), fun w32 h32 => ⟨b_true ?_, (hx4.trans hx419).trans h32⟩⟩⟩
      · have a1 := u1 k3.toNat (by omega)
        have a3 := u3 k3.toNat (by omega)
        have a4 := hslack k3.toNat (by omega)
        have a5 := hP.e0 k3.toNat (by omega)
        have a6 := hP.sLe k3.toNat (by omega)
        have a7 := hP.lS k3.toNat (by omega)
        have a8 := hDb k3.toNat (by omega)
        simp only [g0, Int.toNat_natCast] at a1 a3 a4
        have m1 := hmul (Ea.getD k3.toNat 0) a5 (by omega)
        have m2 := hmul (La.getD k3.toNat 0) (by omega) (by omega)
        refine ⟨oE2.ne1 (by omega) (by omega), hi0, by omega, _, oE2.int_at hi0 (by omega), oE4.ne1 (by omega) (by omega), hi0, by omega, _, oE4.int_at hi0 (by omega), i64 (by omega), fun _ => oL2.ne1 (by omega) (by omega), fun _ => hi0, fun _ => by omega, fun h => absurd a1 h, fun _ => ⟨_, oL2.int_at hi0 (by omega), oL4.ne1 (by omega) (by omega), hi0, by omega, _, oL4.int_at hi0 (by omega), i64 (by omega), fun h => absurd a3 h, fun _ => ⟨i64 (by omega), ⟨rfl, by omega, by omega⟩, by simp only []; omega⟩⟩⟩
      · simp [u2]
end Go.Proofs.Ytopgihimdjnaeaa
