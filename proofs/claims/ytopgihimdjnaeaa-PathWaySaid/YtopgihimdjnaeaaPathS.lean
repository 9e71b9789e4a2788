/- The law PathSlack. -/
import Derived.Test.YtopgihimdjnaeaaPathB
import Derived.Test.YtopgihimdjnaeaaTxtC
set_option linter.unusedVariables false
set_option linter.unusedSimpArgs false
namespace Go.Proofs.Ytopgihimdjnaeaa
open Go.Sx Go.RowKit

open Classical in
/-- Who takes longer by what is between its two times, and by m more: all takes longer by m. -/
theorem PF.longer {N : Nat} {L : List E} {A : List Int} {d d2 e l e2 l2 : Int → Int} {s s2 m : Int} {i : Nat} (hA : Topo N L A) (hL : OkL N L) (h : PF N L d e l s) (h2 : PF N L d2 e2 l2 s2) (hi : i < N) (hm : 0 ≤ m)
    (hdi : d2 i = d i + (l i - e i) + m) (hdo : ∀ j : Nat, j < N → j ≠ i → d2 j = d j) : s2 = s + m := by
  have sl := h.slack hA hL
  have toI : ∀ {x : Int}, 0 ≤ x → ((x.toNat : Nat) : Int) = x := fun h => Int.toNat_of_nonneg h
  have up : s2 ≤ s + m := by
    let t : Int → Int := fun x => if Beh L N i x.toNat then l x + m else e x
    have tp : ∀ {x : Int}, Beh L N i x.toNat → t x = l x + m := fun h => if_pos h
    have tn : ∀ {x : Int}, ¬ Beh L N i x.toNat → t x = e x := fun h => if_neg h
    have nb : ¬ Beh L N i i := hA.noKnot hi
    have hle := h2.least hA hL (t := t) (fun j hj => by
      have h0 := h.e0 j hj
      have h1 := sl j hj
      by_cases hb : Beh L N i (j : Int).toNat
      · rw [tp hb]; omega
      · rw [tn hb]; omega) (fun x hx => by
      have hb := hL x hx
      have a1 := h.lLe x hx
      have a2 := h.eLe x hx
      have a3 := sl x.t.toNat (by omega)
      rw [toI (by omega)] at a3
      have adj : Adj L x.f.toNat x.t.toNat := ⟨x, hx, (toI (by omega)).symm, (toI (by omega)).symm⟩
      by_cases hxi : x.f.toNat = i
      · have hxi' : x.f = i := by omega
        rw [hxi] at adj
        rw [tn (x := x.f) (by rw [hxi]; exact nb), tp (x := x.t) (.edge adj)]
        rw [hxi'] at a1 a2 ⊢
        omega
      · have hd := hdo x.f.toNat (by omega) hxi
        rw [toI (by omega)] at hd
        by_cases hbf : Beh L N i x.f.toNat
        · rw [tp hbf, tp (x := x.t) (.mid hbf (.edge adj) (by omega))]; omega
        · rw [tn hbf]
          by_cases hbt : Beh L N i x.t.toNat
          · rw [tp hbt]; omega
          · rw [tn hbt]; omega)
    rcases h2.sEq with h0 | ⟨j, hj, hs⟩
    · have := h.s0; omega
    · have b1 := hle j hj
      have b2 := h.lS j hj
      have b3 := h.sLe j hj
      by_cases hji : j = i
      · subst hji
        rw [tn (x := (j : Int)) (by simpa using nb)] at b1
        omega
      · have hd := hdo j hj hji
        by_cases hb : Beh L N i (j : Int).toNat
        · rw [tp hb] at b1; omega
        · rw [tn hb] at b1; omega
  have dle : ∀ j : Nat, j < N → d j ≤ d2 j := fun j hj => by
    by_cases hji : j = i
    · subst hji; have := sl j hj; omega
    · rw [hdo j hj hji]; omega
  have hle := h.least hA hL (t := e2) h2.e0 (fun x hx => by
    have hb := hL x hx
    have a1 := h2.eLe x hx
    have a2 := dle x.f.toNat (by omega)
    rw [toI (by omega)] at a2
    omega)
  have key := hA.indR hL (fun j => l j + d j + m ≤ e2 j + d2 j → s + m ≤ s2) (fun j hj ih hyp => by
    rcases h.lEq j hj with h0 | ⟨x, hx, hxf, hv⟩
    · have := h2.sLe j hj; omega
    · have hb := hL x hx
      have a1 := h2.eLe x hx
      have a2 := dle x.t.toNat (by omega)
      have a3 := ih x hx hxf
      rw [toI (by omega)] at a2 a3
      rw [hxf] at a1
      exact a3 (by omega)) i hi
  have a := hle i hi
  have := key (by omega)
  omega

theorem Clone_k (q : Option Addr) (c : Nat) (D : List Int) (h60 : D.length ≤ 1000) (w : World) (hD : Ints .i64 w q D) :
    FnP Try.prog F_slices_Clone_int64_int64 #[.slice q D.length c] w fun v w' => Ext w w' ∧ ∃ p' c', v = .slice p' D.length c' ∧ Own w.heap.size w' T_int64 1 p' D.length c' (D.map (.int .i64)) := by
  refine ok_slices_Clone_int64_int64 q D.length c w _ ⟨fun hn w0 h0 => ?_, fun hn w0 h0 => ?_⟩
  · cases D with
    | nil => exact ⟨h0, none, 0, rfl, Own.nil⟩
    | cons x r => exact absurd hn fun hq => cell_p (Ints.idx hD (i := 0) (by omega) (by simp)) (pIdx_none.2 hq)
  · refine run_lit0 elem_sl_int64 fun w1 o1 e1 => ⟨e1, _, _, _, rfl, fun w5 h5 => ?_⟩
    have o5 := (o1 w.heap.size h0.size).ext h5
    have hx5 := (h0.trans e1).trans h5
    refine run_app elem_sl_int64 (by omega) o5 hx5.size hn (news := D.map (.int .i64)) (by simp) (hD.ext hx5) (by intro u hu; simp at hu; obtain ⟨x, _, rfl⟩ := hu; rfl) (by omega) (by omega) fun p' c' w6 o6 g6 _ => ⟨_, _, _, rfl, fun w10 h10 => ?_⟩
    simp only [Nat.zero_add, List.nil_append] at o6 ⊢
    exact ⟨(g6.ext hx5 o5).trans h10, p', c', rfl, o6.ext h10⟩

theorem core_PathSlack (W : World) : ∀ n : Int, InR .i64 n → ∀ l : Option Addr, ∀ ll : Nat, ∀ lc : Nat, SlcArg Try.prog W T_Edge l ll lc → ∀ d : Option Addr, ∀ dl : Nat, ∀ dc : Nat, SlcArg Try.prog W T_int64 d dl dc → ∀ i : Int, InR .i64 i → ∀ more : Int, InR .i64 more →
    FnP Try.prog F_shiftbellkeep_PathSlack #[.int .i64 n, .slice l ll lc, .slice d dl dc, .int .i64 i, .int .i64 more] W fun v W' => v = .bool true ∧ Ext W W' := by
  intro n hn p ll lc hl q dl dc hd i hi more hmore
  obtain ⟨L, rfl, h63, hin, hL⟩ := edges_open hl
  obtain ⟨D, rfl, _, hD⟩ := hd.ints (k := .i64) (by kernel_rfl) (by kernel_rfl)
  have h64 : (D.length : Int) ≤ 9223372036854775807 := by have := hd.le; have := hd.max; omega
  refine ok_shiftbellkeep_PathSlack _ _ _ _ _ _ _ _ _ W _ ?_
  intro w0 h0
  refine (paths_k w0).mono fun v w1 ⟨e1, hv⟩ => ⟨e1, true, hv, fun h => by simp at h, fun _ w3 h3 => ?_⟩
  refine (Times_k n p lc L h63 q dc D h64 w3 (hL.ext h3) (hD.ext h3)).mono fun v w4 ⟨e4, qe, el, ec, ql, ll, lc', Sp, e, hv, hbad, hgood⟩ => ⟨e4, _, _, _, _, _, _, _, _, hv, fun b13 hb13 => ⟨fun hb w14 h14 => ⟨b_true ?_, (h3.trans e4).trans h14⟩, fun hg => ?_⟩⟩
  · by_cases he : e = 0
    · simp [he]
    · simp [(hbad he).2.2.1]
  have hx4 : Ext W w4 := h3.trans e4
  obtain ⟨⟨⟨⟨rfl, hi0⟩, hi1⟩, hm0⟩, hm1⟩ := hg
  obtain ⟨hok, hokD, hel, hll, ⟨A, hA⟩, Ea, La, oE, oL, hP⟩ := hgood rfl
  obtain ⟨N, rfl⟩ : ∃ N : Nat, n = N := ⟨n.toNat, by have := hok.1; omega⟩
  simp only [Int.toNat_natCast] at hA hP
  have hN60 : N ≤ 60 := by have := hok.2.1; omega
  have hOk := orderOk hok
  simp only [Int.toNat_natCast] at hOk
  have lenD := hokD.1
  have lenE := hP.eLen
  have lenLa := hP.lLen
  have hDb : ∀ i : Nat, i < N → 0 ≤ D.getD i 0 ∧ D.getD i 0 ≤ 1000000000 := fun i hi => hokD.2 _ (getD_mem D 0 (by omega))
  have hD4 := hD.ext hx4
  have hq : q ≠ none := fun hq => cell_p (Ints.idx hD4 (i := 0) (by omega) (by omega)) (pIdx_none.2 hq)
  obtain ⟨k, rfl⟩ : ∃ k : Nat, i = k := ⟨i.toNat, by omega⟩
  have hSp := hP.sMax
  have hs0 := hP.s0
  have hsl := hP.pf.slack hA hOk k (by omega)
  have a5 := hP.e0 k (by omega)
  have a7 := hP.lS k (by omega)
  have a8 := hDb k (by omega)
  simp only [g0, Int.toNat_natCast] at hsl
  have oE0 := (oE.weak (B' := 0) (Nat.zero_le _))
  have oL0 := (oL.weak (B' := 0) (Nat.zero_le _))
  refine ⟨oL0.ne1 (by omega) (by omega), hi0, by omega, _, oL0.int_at hi0 (by omega), oE0.ne1 (by omega) (by omega), hi0, by omega, _, oE0.int_at hi0 (by omega), ?_⟩
  simp only [Int.toNat_natCast]
  refine ⟨i64 (by omega), fun _ => hq, fun _ => hi0, fun _ => by omega, fun h => by omega, fun _ => ⟨_, Ints.idx hD4 hi0 (by omega), ?_⟩⟩
  simp only [Int.toNat_natCast]
  have T' : ∀ {w' : World} {b : Bool}, b = true → Ext w4 w' → Value.bool b = .bool true ∧ Ext W w' := fun hb h => ⟨by rw [hb], hx4.trans h⟩
  refine ⟨i64 (by omega), i64 (by omega), fun _ w17 h17 => T' (by rw [decide_eq_true_iff]; omega) h17, fun hmax w17 x17 => ?_⟩
  have h17 := extB_ext x17
  have hlt13 : b13 < w17.heap.size := x17.lt b13 (by simp)
  have hx17 := hx4.trans h17
  -- the two longer lists
  have hok2 : ∀ y : Int, 0 ≤ y → y ≤ 1000000000 → okD N (D.set k y) := fun y hy0 hy1 => ⟨by simpa using lenD, fun x hx => by
    rcases List.mem_or_eq_of_mem_set hx with h | rfl
    · exact hokD.2 x h
    · exact ⟨hy0, hy1⟩⟩
  have hall : ∀ {y : Int} {X Y : List Int} {s2 m : Int}, 0 ≤ m → y = D.getD k 0 + (La.getD k 0 - Ea.getD k 0) + m → Plan N L (D.set k y) X Y s2 → s2 = Sp + m := by
    intro y X Y s2 m hm hy hP2
    refine hP.pf.longer hA hOk hP2.pf (i := k) (by omega) hm ?_ fun j hj hjk => ?_
    · simp only [g0, Int.toNat_natCast]
      rw [getD_set _ _ _ _ _ (by omega), if_pos rfl, hy]
    · simp only [g0, Int.toNat_natCast]
      rw [getD_set _ _ _ _ _ (by omega), if_neg hjk]
  have noErr : ∀ {X : List Int} {e2 : Int}, okD N X → (e2 ≠ 0 → ErrT N L X e2) → e2 = 0 := by
    intro X e2 hX h
    apply Classical.byContradiction
    intro hne
    obtain ⟨_, i, hi, hk⟩ := (h hne).1 hok hX
    simp only [Int.toNat_natCast] at hi hk
    exact hA.noKnot hi hk
  refine (Clone_k q dc D (by omega) w17 (hD.ext hx17)).mono fun v w18 ⟨e18, p', c', hv, o18⟩ => ⟨e18, p', D.length, c', hv, ?_⟩
  have hp' : p' ≠ none := o18.ne1 (by omega) (by omega)
  have get18 := o18.int_at hi0 (by omega)
  simp only [Int.toNat_natCast] at get18
  have bl : ∀ x, p' = some x → w17.heap.size ≤ x.block ∧ x.block < w18.heap.size := fun x hx => o18.lt x hx
  refine ⟨hp', hi0, by omega, _, get18, i64 (by omega), hp', hi0, by omega, ?_⟩
  refine store_int o18 hi0 (by omega) (fun b hb x hx => by simp at hb; subst hb; have := bl x hx; omega) fun w23 o23 g23 w24 x24 => ?_
  simp only [Int.toNat_natCast] at o23
  have h24 := extB_ext x24
  have o24 := o23.ext h24
  have hx18 := hx17.trans e18
  have hx23 : Ext W w23 := g23.ext hx18 (o18.weak hx17.size)
  have hx24 := hx23.trans h24
  have lenS : ∀ y : Int, (D.set k y).length = D.length := fun y => by simp
  have ht2 := Times_k N p lc L h63 p' c' (D.set k (D.getD k 0 + (La.getD k 0 - Ea.getD k 0))) (by simpa using h64) w24 (hL.ext hx24) o24.cells
  rw [lenS] at ht2
  refine ht2.mono fun v w25 ⟨e25, qe2, el2, ec2, ql2, ll2, lc2, Sp2, e2, hv, hbad2, hgood2⟩ => ⟨e25, _, _, _, _, _, _, _, _, hv, fun b34 hb34 => ?_⟩
  have he2 : e2 = 0 := noErr (hok2 _ (by omega) (by omega)) fun hne => (hbad2 hne).2.2.2
  obtain ⟨_, _, _, _, _, Eb, Lb, _, _, hP2⟩ := hgood2 he2
  simp only [Int.toNat_natCast] at hP2
  have hSp2 := hall (m := 0) (by omega) (by omega) hP2
  have o25 := o24.ext e25
  have get25 := o25.int_at hi0 (by simp; omega)
  simp only [Int.toNat_natCast] at get25
  rw [getD_set _ _ _ _ _ (by omega), if_pos rfl] at get25
  refine ⟨hp', hi0, by omega, _, get25, i64 (by omega), hp', hi0, by omega, ?_⟩
  have s24 := h24.size
  have s25 := e25.size
  have s23 := g23.size
  refine store_int o25 hi0 (by simp; omega) (fun b hb x hx => by simp at hb; have := bl x hx; rcases hb with rfl | rfl <;> omega) fun w36 o36 g36 w37 x37 => ?_
  simp only [Int.toNat_natCast, List.set_set] at o36
  have h37 := extB_ext x37
  have o37 := o36.ext h37
  have hx36 : Ext W w36 := g36.ext (hx24.trans e25) (o25.weak hx17.size)
  have hx37 := hx36.trans h37
  have ht3 := Times_k N p lc L h63 p' c' (D.set k (D.getD k 0 + (La.getD k 0 - Ea.getD k 0) + more)) (by simpa using h64) w37 (hL.ext hx37) o37.cells
  rw [lenS] at ht3
  refine ht3.mono fun v w38 ⟨e38, qe3, el3, ec3, ql3, ll3, lc3, Sp3, e3, hv, hbad3, hgood3⟩ => ⟨e38, _, _, _, _, _, _, _, _, hv, fun b47 _ w48 x48 => ?_⟩
  have he3 : e3 = 0 := noErr (hok2 _ (by omega) (by omega)) fun hne => (hbad3 hne).2.2.2
  obtain ⟨_, _, _, _, _, Ec, Lc, _, _, hP3⟩ := hgood3 he3
  simp only [Int.toNat_natCast] at hP3
  have hSp3 := hall hm0 rfl hP3
  refine good_lit (w := w38) [e2, e3] rfl rfl (by simp) (by simp) (fun w49 h49 => ⟨fun _ => i64 (by omega), fun w56 h56 => ⟨b_true ?_, ((hx37.trans e38).trans h49).trans h56⟩⟩) w48 (extB_ext x48)
  subst he2 he3
  rw [hSp2, hSp3]; simp
end Go.Proofs.Ytopgihimdjnaeaa
