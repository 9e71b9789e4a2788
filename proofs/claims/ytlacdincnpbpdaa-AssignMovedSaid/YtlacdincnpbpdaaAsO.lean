/- Assignment: the laws AssignPrices, AssignTurned. -/
import Derived.Test.YtlacdincnpbpdaaAsN
set_option linter.unusedVariables false
set_option linter.unusedSimpArgs false
namespace Go.Proofs.Ytlacdincnpbpdaa
open Go.Sx Go.RowKit

theorem MemS.app {B : Nat} {w w' : World} {I : Ids} {pc : Option Addr} {n cc : Nat} {U V Bl : List Int} {q : Option Addr} (M : MemS B w I pc n cc U V Bl) (g : Grew w w' none q) : MemS B w' I pc n cc U V Bl :=
  ⟨M.os.st Apart.nil g, M.ou.st Apart.nil g, M.ov.st Apart.nil g, M.ob.st Apart.nil g, M.su, M.sv, M.sb, M.uv, M.ub, M.vb⟩

theorem cut1 {B : Nat} {w : World} {b n : Nat} {U : List Int} (o : Own B w T_int64 1 (Pb b) (n + 1) (n + 1) (U.map (.int .i64))) : Cells w (pCut (Pb b) (n + 1) 1 1) ((U.drop 1).map (.int .i64)) := by
  have hl := o.leni
  intro i v hv
  have hi := (List.getElem?_eq_some_iff.1 hv).1
  simp at hi
  rw [cell_pCut _ _ _ _ _ _ (by simp; omega)]
  refine o.cells _ v ?_
  rw [List.map_drop, List.getElem?_drop] at hv
  simpa using hv
theorem cut1_ne {b n : Nat} : pCut (Pb b) (n + 1) 1 1 ≠ none := by unfold pCut; split <;> simp

def J6P (w : World) (n : Nat) (U V : List Int) (p1 : Option Addr) (n1 c1 : Nat) (p2 : Option Addr) (n2 c2 : Nat) (e : Int) (w' : World) : Prop :=
  n1 = n ∧ n2 = n ∧ e = 0 ∧ Ext w w' ∧ Own w.heap.size w' T_int64 1 p1 n c1 ((U.drop 1).map (.int .i64)) ∧ Own w.heap.size w' T_int64 1 p2 n c2 ((V.drop 1).map (.int .i64))

theorem drop1_sum {U : List Int} {n : Nat} (h : U.length = n + 1) : sumL (U.drop 1) = sumN n (fun x => g0 U (x + 1)) := by
  have := sumN_list (fun x => x) (U.drop 1)
  rw [List.map_id', List.length_drop, h, Nat.add_sub_cancel] at this
  rw [← this]
  refine sumN_congr fun i hi => ?_
  simp only [List.getD_eq_getElem?_getD, List.getElem?_drop, g0]
  congr 2; omega

theorem aPrices_k (pc : Option Addr) (cc : Nat) (C : List (List Int)) (h63 : (C.length : Int) ≤ 9223372036854775807) (w : World) (h : RowsR w pc C) : FnP Try.prog F_assign_Prices #[.slice pc C.length cc] w fun v w' =>
    Ext w w' ∧ ∃ p n1 c1 q n2 c2, v = .tuple #[.slice p n1 c1, .slice q n2 c2, .int .i64 (errA C)] ∧ (¬ sq C → n1 = 0 ∧ n2 = 0) ∧ (sq C → n1 = C.length ∧ n2 = C.length ∧ ∃ X Y : List Int, Own w.heap.size w' T_int64 1 p n1 c1 (X.map (.int .i64)) ∧ Own w.heap.size w' T_int64 1 q n2 c2 (Y.map (.int .i64)) ∧
      IsLeast C (sumL X + sumL Y) ∧ (∀ x ∈ X, -2000000000 ≤ x ∧ x ≤ 2000000000) ∧ (∀ x ∈ Y, -2000000000 ≤ x ∧ x ≤ 2000000000) ∧ ∀ i k : Nat, i < C.length → k < C.length → X.getD i 0 + Y.getD k 0 ≤ (C.getD i []).getD k 0) := by
  refine ok_assign_Prices pc C.length cc w _ ?_
  intro w0 h0
  refine (aCheck_k pc cc C h63 w0 (h.ext h0)).mono fun v w1 ⟨e1, hv⟩ => ⟨e1, _, hv, fun hne w3 h3 => ⟨h3, _, _, _, _, _, _, rfl, fun _ => ⟨rfl, rfl⟩, fun hok => absurd (errA_ok.2 hok) hne⟩, fun he w3 h3 => ?_⟩
  have hok := errA_ok.1 he
  have h12 := hok.1
  refine (solve_k pc cc C hok w3 (h.ext h3)).mono fun v w4 ⟨e4, I, U, V, Bl, hv, M, hp⟩ => ⟨e4, _, hv, J6P w3 C.length U V, ?_, ?_⟩
  · have nn : ∀ b, Pb b ≠ none := fun b => by simp
    obtain ⟨lu, lv, _⟩ := M.lu
    have hone : ∀ (X : List Int), ∀ u ∈ (X.drop 1).map (Value.int .i64), u.oneCell' = true := fun X u hu => by
      obtain ⟨x, _, rfl⟩ := List.mem_map.1 hu; rfl
    refine ⟨nn _, nn _, _, _, _, M.c1, by omega, by omega, by omega, nn _, nn _, fun w14 h14 => ?_, _, _, _, M.c2, by omega, by omega, by omega, fun w17 h17 => ?_⟩
    · have M14 := M.ext h14
      rw [show (((C.length + 1 : Nat) : Int) - 1).toNat = C.length by omega]
      refine run_app elem_sl_int64 (by omega) (B := w3.heap.size) Own.nil (e4.trans h14).size cut1_ne (news := (U.drop 1).map (.int .i64)) (by simp [lu]) (cut1 M14.ou) (hone U) (by omega) (by omega) fun p' c' w15 o15 g15 _ => ⟨_, _, _, rfl, ?_⟩
      simp only [Nat.zero_add, List.nil_append] at o15 ⊢
      have M15 := M14.app g15
      have hx15 : Ext w3 w15 := g15.ext (e4.trans h14) (Own.nil (e := T_int64) (s := 1))
      refine ⟨_, _, _, M15.c2, by omega, by omega, by omega, fun w22 h22 => ?_⟩
      have M22 := M15.ext h22
      rw [show (((C.length + 1 : Nat) : Int) - 1).toNat = C.length by omega]
      refine run_app elem_sl_int64 (by omega) (B := w3.heap.size) Own.nil (hx15.trans h22).size cut1_ne (news := (V.drop 1).map (.int .i64)) (by simp [lv]) (cut1 M22.ov) (hone V) (by omega) (by omega) fun p2 c2 w23 o23 g23 _ => ⟨_, _, _, rfl, ?_⟩
      simp only [Nat.zero_add, List.nil_append] at o23 ⊢
      exact ⟨rfl, rfl, rfl, g23.ext (hx15.trans h22) (Own.nil (e := T_int64) (s := 1)), (o15.ext h22).st Apart.nil g23, o23⟩
    · have M17 := M.ext h17
      rw [show (((C.length + 1 : Nat) : Int) - 1).toNat = C.length by omega]
      refine run_app elem_sl_int64 (by omega) (B := w3.heap.size) Own.nil (e4.trans h17).size cut1_ne (news := (U.drop 1).map (.int .i64)) (by simp [lu]) (cut1 M17.ou) (hone U) (by omega) (by omega) fun p' c' w15 o15 g15 _ => ⟨_, _, _, rfl, ?_⟩
      simp only [Nat.zero_add, List.nil_append] at o15 ⊢
      have M15 := M17.app g15
      have hx15 : Ext w3 w15 := g15.ext (e4.trans h17) (Own.nil (e := T_int64) (s := 1))
      refine fun w22 h22 => ?_
      have M22 := M15.ext h22
      refine run_app elem_sl_int64 (by omega) (B := w3.heap.size) Own.nil (hx15.trans h22).size cut1_ne (news := (V.drop 1).map (.int .i64)) (by simp [lv]) (cut1 M22.ov) (hone V) (by omega) (by omega) fun p2 c2 w23 o23 g23 _ => ⟨_, _, _, rfl, ?_⟩
      simp only [Nat.zero_add, List.nil_append] at o23 ⊢
      exact ⟨rfl, rfl, rfl, g23.ext (hx15.trans h22) (Own.nil (e := T_int64) (s := 1)), (o15.ext h22).st Apart.nil g23, o23⟩
  · rintro p1 n1 c1 p2 n2 c2 e w10 ⟨rfl, rfl, rfl, hx10, oU, oV⟩ w11 h11
    obtain ⟨lu, lv, _⟩ := M.lu
    obtain ⟨hL, _⟩ := pot_least hok hp
    refine ⟨(h3.trans hx10).trans h11, _, _, _, _, _, _, by rw [he], fun hno => absurd hok hno, fun _ => ⟨rfl, rfl, U.drop 1, V.drop 1, (oU.weak h3.size).ext h11, (oV.weak h3.size).ext h11, ?_, fun x hx => ?_, fun x hx => ?_, fun i k hi hk => ?_⟩⟩
    · rw [drop1_sum lu, drop1_sum lv]; exact hL
    · obtain ⟨j, hj, rfl⟩ := List.getElem_of_mem hx
      simp at hj
      have a := hp.uX (j + 1) (by omega) (by omega)
      have b := hp.uM (j + 1) (by omega) (by omega)
      have e : g0 U ((j : Int) + 1) = U[1 + j] := by
        unfold g0
        rw [List.getD_eq_getElem?_getD, show ((j : Int) + 1).toNat = 1 + j by omega, List.getElem?_eq_getElem (by omega)]; rfl
      rw [e] at a b
      rw [List.getElem_drop]; omega
    · obtain ⟨j, hj, rfl⟩ := List.getElem_of_mem hx
      simp at hj
      have a := hp.vX (j + 1) (by omega) (by omega)
      have b := hp.v0 (j + 1) (by omega) (by omega)
      have e : g0 V ((j : Int) + 1) = V[1 + j] := by
        unfold g0
        rw [List.getD_eq_getElem?_getD, show ((j : Int) + 1).toNat = 1 + j by omega, List.getElem?_eq_getElem (by omega)]; rfl
      rw [e] at a b
      rw [List.getElem_drop]; omega
    · have := hp.fea (i + 1) (k + 1) (by omega) (by omega) (by omega) (by omega)
      unfold cst g0 at this
      rw [show ((i : Int) + 1 - 1).toNat = i by omega, show ((k : Int) + 1 - 1).toNat = k by omega, show ((i : Int) + 1).toNat = i + 1 by omega, show ((k : Int) + 1).toNat = k + 1 by omega] at this
      simpa [List.getD_eq_getElem?_getD, List.getElem?_drop] using this

theorem sum2_k (q : Option Addr) (c : Nat) (D : List Int) (hl : D.length ≤ 1000) (hD : ∀ x ∈ D, -2000000000 ≤ x ∧ x ≤ 2000000000) (w : World) (h : Ints .i64 w q D) : FnP Try.prog F_shiftbellkeep_sum #[.slice q D.length c] w fun v w' => Ext w w' ∧ v = .int .i64 (sumL D) ∧ -2000000000000 ≤ sumL D ∧ sumL D ≤ 2000000000000 := by
  refine ok_shiftbellkeep_sum q D.length c w _ ⟨fun n k w' => w' = w ∧ 0 ≤ k ∧ k ≤ D.length ∧ n = sumL (D.take k.toNat) ∧ -(k * 2000000000) ≤ n ∧ n ≤ k * 2000000000, fun _ k _ => (D.length - k).toNat, ⟨rfl, by omega, by omega, by simp [sumL], by omega, by omega⟩, ?_⟩
  rintro n k w ⟨rfl, hk0, hk1, rfl, b1, b2⟩
  refine ⟨fun hlt => ?_, fun hge w4 h4 => ?_⟩
  · have g := Ints.idx h hk0 hlt
    have hm := hD _ (getD_mem D 0 (i := k.toNat) (by omega))
    refine ⟨fun hq => cell_p g (pIdx_none.2 hq), hk0, hlt, _, g, i64 (by omega), i64 (by omega), ⟨rfl, by omega, by omega, ?_, by omega, by omega⟩, by simp only []; omega⟩
    rw [show (k + 1).toNat = k.toNat + 1 by omega, sumL_take_succ _ (by omega)]
  · obtain rfl : k = D.length := by omega
    rw [List.take_of_length_le (by omega)] at b1 b2
    refine ⟨h4, ?_, by omega, by omega⟩
    rw [List.take_of_length_le (by omega)]

theorem core_AssignPrices (W : World) : ∀ c : Option Addr, ∀ cl : Nat, ∀ cc : Nat, SlcArg Try.prog W T_sl_int64 c cl cc → ∀ i : Int, InR .i64 i → ∀ k : Int, InR .i64 k →
    FnP Try.prog F_shiftbellkeep_AssignPrices #[.slice c cl cc, .int .i64 i, .int .i64 k] W fun v W' => v = .bool true ∧ Ext W W' := by
  intro pc cl cc hc i hi k hk
  obtain ⟨C, rfl, h63, hR, _⟩ := rows_open hc
  refine ok_shiftbellkeep_AssignPrices _ _ _ _ _ W _ ?_
  intro w0 h0
  refine (assigns_k w0).mono fun v w1 ⟨e1, hv⟩ => ⟨e1, true, hv, fun h => by simp at h, fun _ w3 h3 => ?_⟩
  refine (aPrices_k pc cc C h63 w3 (hR.ext h3)).mono fun v w4 ⟨e4, p, n1, c1, q, n2, c2, hv, hbad, hgd⟩ => ⟨e4, p, n1, c1, q, n2, c2, _, hv, fun w12 h12 => ?_⟩
  have hx4 := h3.trans e4
  have hx12 := hx4.trans h12
  refine (aLeast_k pc cc C h63 w12 (hR.ext hx12)).mono fun v w13 ⟨e13, r, n, rc, t, hv, lbad, lgd⟩ => ⟨e13, r, n, rc, t, _, hv, fun hno => ?_, fun hyes => ?_⟩
  · by_cases hok : sq C
    · obtain ⟨rfl, rfl, _⟩ := hgd hok
      have := errA_ok.2 hok
      omega
    · obtain ⟨rfl, rfl⟩ := hbad hok
      have he : errA C ≠ 0 := fun h => hok (errA_ok.1 h)
      exact ⟨fun _ => i64 (by simp), fun w19 h19 => ⟨b_true (by simp [he]), (hx12.trans e13).trans h19⟩⟩
  have hok := errA_ok.1 hyes.1.1
  have h12' := hok.1
  obtain ⟨rfl, rfl, X, Y, oX, oY, hL, bX, bY, hf⟩ := hgd hok
  obtain ⟨_, hL2, _⟩ := lgd hok
  have hx13 := hx12.trans e13
  have h4_13 := h12.trans e13
  obtain rfl := hL.same hL2
  have lX := oX.leni
  have lY := oY.leni
  refine ⟨fun _ w19 h19 => ?_, fun hne => absurd hyes.1.1 hne⟩
  have hs1 := sum2_k p c1 X (by omega) bX w19 (oX.ext (h4_13.trans h19)).cells
  rw [lX] at hs1
  refine hs1.mono fun v w20 ⟨e20, hv, s1, s2⟩ => ⟨e20, _, hv, fun w22 h22 => ?_⟩
  have hs2 := sum2_k q c2 Y (by omega) bY w22 (oY.ext (h4_13.trans h22)).cells
  rw [lY] at hs2
  refine hs2.mono fun v w23 ⟨e23, hv, s3, s4⟩ => ⟨e23, _, hv, i64 (by omega), fun _ h => ?_, fun _ h => by omega, fun _ h => by omega, fun _ => ⟨fun _ w25 h25 => ⟨rfl, hx13.trans h25⟩, fun hin => ?_⟩, fun hne => absurd rfl hne⟩
  · exact fun hq => cell_p ((oX.ext h4_13).int_at (i := i) (by omega) (by omega)) (pIdx_none.2 hq)
  · have gX := (oX.ext h4_13).int_at (i := i) (by omega) (by omega)
    have gY := (oY.ext h4_13).int_at (i := k) (by omega) (by omega)
    obtain ⟨r1, pr, d, r2, r3, r4⟩ := (hR.ext hx13).at (k := i) (by omega) (by omega)
    have hrl := hok.2.1 _ (getC_mem (C := C) (i := i.toNat) (by omega))
    have gC := Ints.idx r3 (i := k) (by omega) (by omega)
    have b1 := bX _ (getD_mem X 0 (i := i.toNat) (by omega))
    have b2 := bY _ (getD_mem Y 0 (i := k.toNat) (by omega))
    refine ⟨_, gX, fun hq => cell_p gY (pIdx_none.2 hq), by omega, by omega, _, gY, i64 (by omega), r1, by omega, by omega, pr, _, d, r2, fun hq => cell_p gC (pIdx_none.2 hq), by omega, by omega, _, gC, fun w31 h31 => ⟨b_true ?_, hx13.trans h31⟩⟩
    have := hf i.toNat k.toNat (by omega) (by omega)
    simpa using this
end Go.Proofs.Ytlacdincnpbpdaa
