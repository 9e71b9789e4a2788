/- How long it takes: what package path's Times answers. -/
import Derived.Test.YtblgmhmjafgdgaaGraph
set_option linter.unusedVariables false
set_option linter.unusedSimpArgs false
namespace Go.Proofs.Ytblgmhmjafgdgaa
open Go.Sx Go.RowKit

def okD (n : Int) (D : List Int) : Prop := (D.length : Int) = n ∧ ∀ x ∈ D, 0 ≤ x ∧ x ≤ 1000000000
abbrev g0 (X : List Int) (i : Int) : Int := X.getD i.toNat 0

theorem pcheck_k (n : Int) (p : Option Addr) (c : Nat) (L : List E) (h63 : (L.length : Int) ≤ 9223372036854775807) (q : Option Addr) (c2 : Nat) (D : List Int) (h64 : (D.length : Int) ≤ 9223372036854775807) (w : World) (h : Edges w p L) (hD : Ints .i64 w q D) :
    FnP Try.prog F_path_check #[.int .i64 n, .slice p L.length c, .slice q D.length c2] w fun v w' => Ext w w' ∧ ∃ r m d e, v = .tuple #[.slice r m d, .int .i64 e] ∧
      ((e = 0 ∧ okG n L ∧ okD n D ∧ (m : Int) = n ∧ ∃ A, Own w.heap.size w' T_int 1 r m d (A.map (.int .i64)) ∧ Topo n.toNat L A) ∨
       (e ≠ 0 ∧ m = 0 ∧ (okG n L → okD n D → e = 8 ∧ ∃ i, i < n.toNat ∧ Beh L n.toNat i i) ∧ (okG n L → ¬ okD n D → e = 1) ∧ (¬ okG n L → e = errG n L))) := by
  refine ok_path_check n p L.length c q D.length c2 w _ ?_
  intro w0 h0
  refine (checkG_k n p c L h63 w0 (h.ext h0)).mono fun v w1 ⟨e1, hv⟩ => ⟨e1, _, hv, fun hne w3 h3 => ⟨h3, _, _, _, _, rfl, .inr ⟨hne, rfl, fun hok => absurd (errG_ok.2 hok) hne, fun hok => absurd (errG_ok.2 hok) hne, fun _ => rfl⟩⟩, fun he => ?_⟩
  have hok := errG_ok.1 he
  have bad : ∀ (w' : World), Ext w w' → ¬ okD n D → Ext w w' ∧ ∃ r m d e, Value.tuple #[.slice none 0 0, .int .i64 1] = .tuple #[.slice r m d, .int .i64 e] ∧
      ((e = 0 ∧ okG n L ∧ okD n D ∧ (m : Int) = n ∧ ∃ A, Own w.heap.size w' T_int 1 r m d (A.map (.int .i64)) ∧ Topo n.toNat L A) ∨
       (e ≠ 0 ∧ m = 0 ∧ (okG n L → okD n D → e = 8 ∧ ∃ i, i < n.toNat ∧ Beh L n.toNat i i) ∧ (okG n L → ¬ okD n D → e = 1) ∧ (¬ okG n L → e = errG n L))) :=
    fun w' hw hno => ⟨hw, _, _, _, _, rfl, .inr ⟨by omega, rfl, fun _ h => absurd h hno, fun _ _ => rfl, fun h => absurd hok h⟩⟩
  refine ⟨fun hl w3 h3 => bad w3 h3 fun h => hl h.1, fun hl => ?_⟩
  refine ⟨fun k w' => w' = w ∧ 0 ≤ k ∧ k ≤ D.length ∧ ∀ i : Nat, (i : Int) < k → 0 ≤ D.getD i 0 ∧ D.getD i 0 ≤ 1000000000, fun k _ => (D.length - k).toNat, ⟨rfl, by omega, by omega, fun i hi => by omega⟩, ?_⟩
  rintro k w5 ⟨rfl, hk0, hk1, hall⟩
  refine ⟨fun hlt => ⟨fun hq => cell_p (Ints.idx hD hk0 hlt) (pIdx_none.2 hq), hk0, hlt, _, Ints.idx hD hk0 hlt, fun hb w7 h7 => bad w7 h7 fun h => ?_, fun hg => ⟨i64 (by omega), ⟨rfl, by omega, by omega, fun i hi => ?_⟩, by simp only []; omega⟩⟩, fun hge w6 h6 => ?_⟩
  · have := h.2 _ (getD_mem D 0 (i := k.toNat) (by omega)); omega
  · by_cases hik : (i : Int) < k
    · exact hall i hik
    · obtain rfl : i = k.toNat := by omega
      exact hg
  · have hokD : okD n D := ⟨hl, fun x hx => by
      obtain ⟨i, hi⟩ := List.mem_iff_getElem?.1 hx
      have hlt := (List.getElem?_eq_some_iff.1 hi).1
      have := hall i (by omega)
      rw [List.getD_eq_getElem?_getD, hi] at this
      exact this⟩
    refine (Order_k n p c L h63 w6 (h.ext h6)).mono fun v w7 ⟨e7, r, m, d, e, hv, _, ho⟩ => ⟨e7, r, m, d, e, hv, fun w12 h12 => ⟨(h6.trans e7).trans h12, r, m, d, e, rfl, ?_⟩⟩
    rcases ho hok with ⟨rfl, hm, A, oA, hA⟩ | ⟨rfl, rfl, hk⟩
    · exact .inl ⟨rfl, hok, hokD, hm, A, (oA.weak h6.size).ext h12, hA⟩
    · exact .inr ⟨by omega, rfl, fun _ _ => ⟨rfl, hk⟩, fun _ h => absurd hokD h, fun h => absurd hok h⟩

/-- When each may begin, and must, and how long it takes. -/
structure Plan (N : Nat) (L : List E) (D Ea La : List Int) (Sp : Int) : Prop where
  eLen : Ea.length = N
  lLen : La.length = N
  e0 : ∀ i : Nat, i < N → 0 ≤ Ea.getD i 0
  eLe : ∀ e ∈ L, g0 Ea e.f + g0 D e.f ≤ g0 Ea e.t
  eEq : ∀ i : Nat, i < N → Ea.getD i 0 = 0 ∨ ∃ e ∈ L, e.t = i ∧ Ea.getD i 0 = g0 Ea e.f + g0 D e.f
  s0 : 0 ≤ Sp
  sMax : Sp ≤ 60000000000
  sLe : ∀ i : Nat, i < N → Ea.getD i 0 + D.getD i 0 ≤ Sp
  sEq : Sp = 0 ∨ ∃ i : Nat, i < N ∧ Sp = Ea.getD i 0 + D.getD i 0
  lS : ∀ i : Nat, i < N → La.getD i 0 + D.getD i 0 ≤ Sp
  lLe : ∀ e ∈ L, g0 La e.f + g0 D e.f ≤ g0 La e.t
  lEq : ∀ i : Nat, i < N → La.getD i 0 + D.getD i 0 = Sp ∨ ∃ e ∈ L, e.f = i ∧ La.getD i 0 + D.getD i 0 = g0 La e.t

/-- What lies in memory meanwhile. -/
structure Mem (B : Nat) (w : World) (p qe ql qa : Option Addr) (N b0 da : Nat) (A Ea La : List Int) (Sp : Int) : Prop where
  op : Own B w T_Plan 3 p 1 1 [.slice qe N N, .slice ql N N, .int .i64 Sp]
  oe : Own B w T_int64 1 qe N N (Ea.map (.int .i64))
  ol : Own B w T_int64 1 ql N N (La.map (.int .i64))
  oa : Own B w T_int 1 qa N da (A.map (.int .i64))
  pe : Apart p qe
  pl : Apart p ql
  el : Apart qe ql
  pa : Apart p qa
  ea : Apart qe qa
  la : Apart ql qa
  bp : ∀ x, p = some x → x.block ≠ b0
  be : ∀ x, qe = some x → x.block ≠ b0
  bl : ∀ x, ql = some x → x.block ≠ b0

theorem Mem.cell0 {B : Nat} {w : World} {p qe ql qa : Option Addr} {N b0 da : Nat} {A Ea La : List Int} {Sp : Int} (M : Mem B w p qe ql qa N b0 da A Ea La Sp) : p ≠ none ∧ cell w p 0 = some (.slice qe N N) ∧ cell w p 1 = some (.slice ql N N) ∧ cell w p 2 = some (.int .i64 Sp) :=
  ⟨M.op.ne1 (by omega) (by omega), M.op.cells 0 _ rfl, M.op.cells 1 _ rfl, M.op.cells 2 _ rfl⟩
theorem Mem.cell1 {B : Nat} {w : World} {p qe ql qa : Option Addr} {N b0 da : Nat} {A Ea La : List Int} {Sp : Int} (M : Mem B w p qe ql qa N b0 da A Ea La Sp) : cell w (pAdd p 0) 0 = some (.slice qe N N) ∧ cell w (pAdd p 1) 0 = some (.slice ql N N) ∧ cell w (pAdd p 2) 0 = some (.int .i64 Sp) := by
  obtain ⟨_, h1, h2, h3⟩ := M.cell0
  exact ⟨by rw [cell_pAdd]; exact h1, by rw [cell_pAdd]; exact h2, by rw [cell_pAdd]; exact h3⟩

theorem Mem.setE {B : Nat} {w w' : World} {p qe ql qa : Option Addr} {N b0 da : Nat} {A Ea La X : List Int} {Sp : Int} (M : Mem B w p qe ql qa N b0 da A Ea La Sp) (o : Own B w' T_int64 1 qe N N (X.map (.int .i64))) (g : Grew w w' qe qe) : Mem B w' p qe ql qa N b0 da A X La Sp :=
  ⟨Own.grew (B' := 0) M.op M.pe g, o, Own.grew (B' := 0) M.ol M.el.symm g, Own.grew (B' := 0) M.oa M.ea.symm g, M.pe, M.pl, M.el, M.pa, M.ea, M.la, M.bp, M.be, M.bl⟩
theorem Mem.setL {B : Nat} {w w' : World} {p qe ql qa : Option Addr} {N b0 da : Nat} {A Ea La X : List Int} {Sp : Int} (M : Mem B w p qe ql qa N b0 da A Ea La Sp) (o : Own B w' T_int64 1 ql N N (X.map (.int .i64))) (g : Grew w w' ql ql) : Mem B w' p qe ql qa N b0 da A Ea X Sp :=
  ⟨Own.grew (B' := 0) M.op M.pl g, Own.grew (B' := 0) M.oe M.el g, o, Own.grew (B' := 0) M.oa M.la.symm g, M.pe, M.pl, M.el, M.pa, M.ea, M.la, M.bp, M.be, M.bl⟩
theorem Mem.setP {B : Nat} {w w' : World} {p qe ql qa : Option Addr} {N b0 da : Nat} {A Ea La : List Int} {Sp y : Int} (M : Mem B w p qe ql qa N b0 da A Ea La Sp) (o : Own B w' T_Plan 3 p 1 1 [.slice qe N N, .slice ql N N, .int .i64 y]) (g : Grew w w' p p) : Mem B w' p qe ql qa N b0 da A Ea La y :=
  ⟨o, Own.grew (B' := 0) M.oe M.pe.symm g, Own.grew (B' := 0) M.ol M.pl.symm g, Own.grew (B' := 0) M.oa M.pa.symm g, M.pe, M.pl, M.el, M.pa, M.ea, M.la, M.bp, M.be, M.bl⟩

/-- The way in: all three are made, in whatever order, and put together. -/
theorem mem_begin {B : Nat} {w : World} {p qe ql qa : Option Addr} {N b0 da : Nat} {A : List Int} {K : World → Prop}
    (op : Own B w T_Plan 3 p 1 1 [.slice none 0 0, .slice none 0 0, .int .i64 0]) (oe : Own B w T_int64 1 qe N N ((List.replicate N (0 : Int)).map (.int .i64))) (ol : Own B w T_int64 1 ql N N ((List.replicate N (0 : Int)).map (.int .i64))) (oa : Own B w T_int 1 qa N da (A.map (.int .i64)))
    (pe : Apart p qe) (pl : Apart p ql) (el : Apart qe ql) (pa : Apart p qa) (ea : Apart qe qa) (la : Apart ql qa) (bp : ∀ x, p = some x → x.block ≠ b0) (be : ∀ x, qe = some x → x.block ≠ b0) (bl : ∀ x, ql = some x → x.block ≠ b0)
    (hk : ∀ w', Mem B w' p qe ql qa N b0 da A (List.replicate N 0) (List.replicate N 0) 0 → Grew w w' p p → K w') : Store w p [.slice qe N N, .slice ql N N, .int .i64 0] [b0] K := by
  refine store_own op (map_add0 p) (by simp) (by simp) (by intro v hv; simp at hv; rcases hv with rfl | rfl | rfl <;> rfl) (by intro b hb x hx; simp at hb; subst hb; exact bp x hx) fun w' o' g => hk w' ⟨by simpa [setAt] using o', Own.grew (B' := 0) oe pe.symm g, Own.grew (B' := 0) ol pl.symm g, Own.grew (B' := 0) oa pa.symm g, pe, pl, el, pa, ea, la, bp, be, bl⟩ g
end Go.Proofs.Ytblgmhmjafgdgaa
