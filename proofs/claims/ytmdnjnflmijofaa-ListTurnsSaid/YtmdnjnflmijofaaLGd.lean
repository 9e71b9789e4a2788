/- The laws ListGraph and ListTurns. -/
import Derived.Test.YtmdnjnflmijofaaLGc
set_option linter.unusedVariables false
set_option linter.unusedSimpArgs false
namespace Go.Proofs.Ytmdnjnflmijofaa
open Go.Sx Go.RowKit

theorem GDone.bounds {m n : Int} {L : List E} {D : List Int} {w : World} {tq : Option Addr} {en : Int} (G : GDone m n L D w tq en) : 0 ≤ en ∧ en ≤ 60000000000 := by
  have h1 := G.I.now0
  have h2 := G.I.nowEn
  have h3 := G.I.enB
  have h4 := G.I.leftEq
  have h5 := G.okL.2.1
  have h6 : 0 ≤ G.left := by rw [← h4]; exact sumN_nonneg fun i _ => by split <;> omega
  have h7 := G.okL.1
  omega

theorem core_ListGraph (W : World) : ∀ m : Int, InR .i64 m → ∀ n : Int, InR .i64 n → ∀ l : Option Addr, ∀ ll : Nat, ∀ lc : Nat, SlcArg Try.prog W T_Edge l ll lc → ∀ d : Option Addr, ∀ dl : Nat, ∀ dc : Nat, SlcArg Try.prog W T_int64 d dl dc →
    FnP Try.prog F_shiftbellkeep_ListGraph #[.int .i64 m, .int .i64 n, .slice l ll lc, .slice d dl dc] W fun v W' => v = .bool true ∧ Ext W W' := by
  intro m hm n hn p ll lc hl q dl dc hd
  obtain ⟨L, rfl, h63, hin, hL⟩ := edges_open hl
  obtain ⟨D, rfl, _, hD⟩ := hd.ints (k := .i64) (by kernel_rfl) (by kernel_rfl)
  have h64 : (D.length : Int) ≤ 9223372036854775807 := by have := hd.le; have := hd.max; omega
  refine ok_shiftbellkeep_ListGraph _ _ _ _ _ _ _ _ W _ ?_
  intro w0 h0
  refine (lists_k w0).mono fun v w1 ⟨e1, hv⟩ => ⟨e1, true, hv, fun h => by simp at h, fun _ w3 h3 => ?_⟩
  refine (Graph_k m n p lc L h63 q dc D h64 w3 (hL.ext h3) (hD.ext h3)).mono fun v w4 ⟨e4, tq, tl, tc, en, e, hv, hbad, hgood⟩ => ⟨e4, _, _, _, _, _, hv, fun w10 h10 => ?_⟩
  have x4 := h3.trans e4
  have x10 := x4.trans h10
  refine (Times_k n p lc L h63 q dc D h64 w10 (hL.ext x10) (hD.ext x10)).mono fun v w11 ⟨e11, qe, el, ec, ql, ll, lc', Sp, f, hv, hbadT, hgoodT⟩ => ⟨e11, _, _, _, _, _, _, _, _, hv, fun b20 _ => ⟨fun hne w21 h21 => ⟨b_true ?_, (x10.trans e11).trans h21⟩, fun he => ?_⟩⟩
  · obtain ⟨rfl, rfl⟩ := hbad hne
    simp
  obtain ⟨htl, _, ⟨G⟩⟩ := hgood he
  have x11 := x10.trans e11
  have f0 : f = 0 := by
    refine Classical.byContradiction fun hne => ?_
    obtain ⟨_, i, hi, hk⟩ := (hbadT hne).2.2.2.1 G.okL G.okD'
    exact G.C.hA.noKnot hi hk
  obtain ⟨_, _, _, _, _, Ea, La, _, _, hP⟩ := hgoodT f0
  have hSp : G.Sp = Sp := (G.C.plan.pf.unique G.C.hA G.C.hL hP.pf).2.1
  subst hSp
  obtain ⟨d1, d2, d3⟩ := G.I.done G.C (by have := G.okD'.1; omega) G.left0
  have hb := G.bounds
  have hm' := G.hm
  rw [show ((m.toNat : Nat) : Int) = m by omega] at d1 d3
  have hSb : 0 ≤ G.Sp ∧ G.Sp ≤ 60000000000 := ⟨hP.s0, hP.sMax⟩
  have hDb : ∀ x ∈ D, 0 ≤ x ∧ x ≤ 1099511627776 := fun x hx => by have := G.okD'.2 x hx; omega
  have hDl : D.length ≤ 60 := by have := G.okD'.1; have := G.okL.2.1; omega
  have hsb := sumL_bounds G.okD'.2
  have h1 : m * en ≤ 20 * 60000000000 := Int.mul_le_mul (by omega) (by omega) (by omega) (by omega)
  have h2 : 0 ≤ m * en := Int.mul_nonneg (by omega) (by omega)
  have h3' : 0 ≤ (m - 1) * G.Sp := Int.mul_nonneg (by omega) (by omega)
  have h4' : (m - 1) * G.Sp ≤ 20 * 60000000000 := Int.mul_le_mul (by omega) (by omega) (by omega) (by omega)
  refine ⟨fun _ => i64 (by omega), fun _ => i64 (by omega), fun _ => i64 (by omega), fun _ w21 h21 => ?_, fun hne => absurd f0 hne⟩
  refine (sum_k q dc D (by omega) hDb w21 (hD.ext (x11.trans h21))).mono fun v w22 ⟨e22, hv⟩ => ⟨e22, _, hv, i64 (by omega), fun _ => i64 (by omega), fun _ w24 h24 => ?_, fun hbd => ?_⟩
  · refine (sum_k q dc D (by omega) hDb w24 (hD.ext (x11.trans h24))).mono fun v w25 ⟨e25, hv⟩ => ⟨e25, _, hv, fun w27 h27 => ⟨b_true (by simpa using d3), x11.trans h27⟩⟩
  · omega

theorem core_ListTurns (W : World) : ∀ m : Int, InR .i64 m → ∀ n : Int, InR .i64 n → ∀ l : Option Addr, ∀ ll : Nat, ∀ lc : Nat, SlcArg Try.prog W T_Edge l ll lc → ∀ d : Option Addr, ∀ dl : Nat, ∀ dc : Nat, SlcArg Try.prog W T_int64 d dl dc →
    FnP Try.prog F_shiftbellkeep_ListTurns #[.int .i64 m, .int .i64 n, .slice l ll lc, .slice d dl dc] W fun v W' => v = .bool true ∧ Ext W W' := by
  intro m hm n hn p ll lc hl q dl dc hd
  obtain ⟨L, rfl, h63, hin, hL⟩ := edges_open hl
  obtain ⟨D, rfl, _, hD⟩ := hd.ints (k := .i64) (by kernel_rfl) (by kernel_rfl)
  have h64 : (D.length : Int) ≤ 9223372036854775807 := by have := hd.le; have := hd.max; omega
  refine ok_shiftbellkeep_ListTurns _ _ _ _ _ _ _ _ W _ ?_
  intro w0 h0
  refine (lists_k w0).mono fun v w1 ⟨e1, hv⟩ => ⟨e1, true, hv, fun h => by simp at h, fun _ w3 h3 => ?_⟩
  refine (Graph_k m n p lc L h63 q dc D h64 w3 (hL.ext h3) (hD.ext h3)).mono fun v w4 ⟨e4, tq, tl, tc, en, e, hv, hbad, hgood⟩ => ⟨e4, _, _, _, _, _, hv, fun hne w10 h10 => ⟨b_true ?_, (h3.trans e4).trans h10⟩, fun he => ?_⟩
  · by_cases he : e = 0
    · have := (hgood he).1; omega
    · obtain ⟨rfl, rfl⟩ := hbad he; simp
  obtain ⟨htl, hcap, ⟨G⟩⟩ := hgood he.1
  have x4 := h3.trans e4
  have hb := G.bounds
  have hn1 := G.okL.2.1
  have hall := G.I.all G.left0
  have bl := G.I.tl
  have lenD := G.okD'.1
  obtain ⟨N, rfl⟩ : ∃ N : Nat, n = N := ⟨n.toNat, by omega⟩
  obtain ⟨M, rfl⟩ : ∃ M : Nat, m = M := ⟨m.toNat, by have := G.hm; omega⟩
  simp only [Int.toNat_natCast] at hall bl
  have I := G.I
  have C := G.C
  simp only [Int.toNat_natCast] at I C
  have hD4 := hD.ext x4
  have hL4 := hL.ext x4
  have T' : ∀ {w' : World}, Ext w4 w' → Value.bool true = .bool true ∧ Ext W w' := fun h => ⟨rfl, x4.trans h⟩
  have ct : ∀ (k : Int), 0 ≤ k → k < N → Go.Sx.cell w4 (pIdx tq k 2) 0 = some (.int .i64 (tu G.Tn k.toNat).at_) ∧ Go.Sx.cell w4 (pIdx tq k 2) 1 = some (.int .i64 (tu G.Tn k.toNat).hand) := fun k h0 h1 => ⟨G.T.idx default h0 (by omega) rfl, G.T.idx default h0 (by omega) rfl⟩
  have cd : ∀ (k : Int), 0 ≤ k → k < N → Go.Sx.cell w4 (pIdx q k 1) 0 = some (.int .i64 (dg D k.toNat)) := fun k h0 h1 => Ints.idx hD4 h0 (by omega)
  refine ⟨fun k w' => w' = w4 ∧ 0 ≤ k ∧ k ≤ N, fun k _ => (N - k).toNat, ⟨rfl, by omega, by omega⟩, ?_⟩
  rintro k w4 ⟨rfl, hk0, hk1⟩
  refine ⟨fun hlt => ?_, fun hge => ?_⟩
  · obtain ⟨c1, c2⟩ := ct k hk0 (by omega)
    obtain ⟨b1, b2, b3, b4, b5⟩ := I.bg k.toNat (by omega) (hall _ (by omega))
    have ha := I.atB k.toNat (by omega)
    have hd' := C.dB k.toNat (by omega)
    have gd := cd k hk0 (by omega)
    have hq : q ≠ none := fun hq => cell_p gd (pIdx_none.2 hq)
    refine ⟨fun hq => cell_p c1 (pIdx_none.2 hq), hk0, hlt, cell_p c1, _, c1, _, c2, fun b15 _ => ⟨fun _ => hq, fun _ => hk0, fun _ => by omega, fun h => by omega, fun _ => ⟨_, gd, i64 (by omega), fun h => by omega, fun _ => ⟨by omega, hk0, by omega, ?_⟩⟩⟩⟩
    have hpc : pCut tq tc 0 2 = tq := pCut_zero tq tc 2
    rw [hpc]
    refine ⟨fun k2 w' => w' = w4 ∧ 0 ≤ k2 ∧ k2 ≤ k, fun k2 _ => (k - k2).toNat, ⟨rfl, by omega, by omega⟩, ?_⟩
    rintro k2 w4 ⟨rfl, hj0, hj1⟩
    refine ⟨fun hlt2 => ?_, fun hge2 => ⟨i64 (by omega), ⟨rfl, by omega, by omega⟩, by simp only []; omega⟩⟩
    have hlt3 : k2 < k := by omega
    obtain ⟨c3, c4⟩ := ct k2 hj0 (by omega)
    obtain ⟨b1', b2', b3', b4', b5'⟩ := I.bg k2.toNat (by omega) (hall _ (by omega))
    have ha' := I.atB k2.toNat (by omega)
    have hd'' := C.dB k2.toNat (by omega)
    have gd2 := cd k2 hj0 (by omega)
    have next : InR .i64 (k2 + 1) ∧ (w4 = w4 ∧ 0 ≤ k2 + 1 ∧ k2 + 1 ≤ k) ∧ (k - (k2 + 1)).toNat < (k - k2).toNat := ⟨i64 (by omega), ⟨rfl, by omega, by omega⟩, by omega⟩
    refine ⟨fun hq => cell_p c3 (pIdx_none.2 hq), hj0, hlt2, cell_p c3, _, c3, _, c4, fun b22 _ => ⟨fun _ => hq, fun _ => hj0, fun _ => by omega, fun hh => ⟨_, gd2, i64 (by omega), fun _ => hq, fun _ => hk0, fun _ => by omega, fun hlt4 => ⟨_, gd, i64 (by omega), fun hlt5 => ?_, fun _ => next⟩, fun _ => next⟩, fun _ => next⟩⟩
    have := I.apart k.toNat k2.toNat (by omega) (by omega) (by omega) (hall _ (by omega)) (hall _ (by omega)) hh
    omega
  · refine ⟨fun k2 w' => w' = w4 ∧ 0 ≤ k2 ∧ k2 ≤ L.length, fun k2 _ => (L.length - k2).toNat, ⟨rfl, by omega, by omega⟩, ?_⟩
    rintro k2 w4 ⟨rfl, hj0, hj1⟩
    refine ⟨fun hlt => ?_, fun hge2 w16 h16 => T' h16⟩
    obtain ⟨g1, g2, g3, g4⟩ := edges_at hL4 hj0 hlt
    have hEe := C.hL _ (ed_mem (L := L) (i := k2.toNat) (by omega))
    have hed := (I.ed _ (ed_mem (L := L) (i := k2.toNat) (by omega)) (hall _ (by omega))).2
    obtain ⟨c1, _⟩ := ct (ed L k2.toNat).f (by omega) (by omega)
    obtain ⟨c2, _⟩ := ct (ed L k2.toNat).t (by omega) (by omega)
    have gd := cd (ed L k2.toNat).f (by omega) (by omega)
    have hd' := C.dB (ed L k2.toNat).f.toNat (by omega)
    have ha := I.atB (ed L k2.toNat).f.toNat (by omega)
    have hnb : G.now ≤ 60000000000 := by have := I.nowEn; omega
    refine ⟨g1, hj0, hlt, g2, _, g3, _, g4, fun b18 _ => ⟨fun hq => cell_p c1 (pIdx_none.2 hq), by omega, by omega, cell_p c2, _, by rw [cell_pAdd]; exact c2, fun hq => cell_p c1 (pIdx_none.2 hq), by omega, by omega, cell_p c1, _, by rw [cell_pAdd]; exact c1, fun hq => cell_p gd (pIdx_none.2 hq), by omega, by omega, _, gd, i64 (by omega), fun h => by omega, fun _ => ⟨i64 (by omega), ⟨rfl, by omega, by omega⟩, by simp only []; omega⟩⟩⟩
end Go.Proofs.Ytmdnjnflmijofaa
