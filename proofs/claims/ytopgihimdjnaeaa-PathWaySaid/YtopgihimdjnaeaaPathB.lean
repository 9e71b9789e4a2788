/- Is an edge in a list?; the law PathChain. -/
import Derived.Test.YtopgihimdjnaeaaPathP
import Derived.Laws.StructEq
set_option linter.unusedVariables false
set_option linter.unusedSimpArgs false
namespace Go.Proofs.Ytopgihimdjnaeaa
open Go.Sx Go.RowKit

theorem part_int {P : Program} {t : TypeId} {k : IntKind} (h : P.underlying t = some (.int k)) {xs : Array Value} {off : Nat} {v : Value} (hx : xs[off]? = some v) (w : World) : (part t xs off).run P w = .ok v w := by
  simp [part, isAgg, run_underlying h, hx]

theorem run_eq2 {P : Program} {t t1 t2 : TypeId} {k1 k2 : IntKind} (ht : P.underlying t = some (.struct (P.fieldsOf t))) (hp : P.stoodInHeld t = false) (hm : P.eqGuardType P.depth t = false)
    (hf : (P.fieldsOf t).toList.map (fun f => (f.name != "_", f.type, f.offset)) = [(true, t1, 0), (true, t2, 1)]) (h1 : P.underlying t1 = some (.int k1)) (h2 : P.underlying t2 = some (.int k2))
    {a b c d : Int} {cx cy : Bool} {w : World} {K : Value → World → Prop} (hk : K (.bool (decide (a = c ∧ b = d))) w) :
    Run P (.eq .eql t cx cy (.agg #[.int k1 a, .int k2 b]) (.agg #[.int k1 c, .int k2 d])) w K := by
  refine ⟨_, w, ?_, hk⟩
  show (do eqGuard .eql t _ _ (.agg #[.int k1 a, .int k2 b]) (.agg #[.int k1 c, .int k2 d]); binOp .eql t (.agg #[.int k1 a, .int k2 b]) (.agg #[.int k1 c, .int k2 d]) : Sem Value).run P w = _
  rw [Sem.run_bind, run_eqGuard_agg w _ _ _ _ _ _ hm, Result.andThen_ok, run_eql_struct, run_equalIn_struct w 9999 t _ _ ht hp]
  generalize (P.fieldsOf t).toList = fs at hf
  match fs, hf with
  | [], hf => simp at hf
  | [_], hf => simp at hf
  | _ :: _ :: _ :: _, hf => simp at hf
  | [f, g], hf =>
    simp only [List.map_cons, List.map_nil, List.cons.injEq, Prod.mk.injEq, bne_iff_ne, ne_eq, and_true] at hf
    obtain ⟨⟨n1, rfl, o1⟩, n2, rfl, o2⟩ := hf
    have p1 : ∀ x y : Int, (part f.type #[.int k1 x, .int k2 y] f.offset).run P w = .ok (.int k1 x) w := fun x y => part_int h1 (by rw [o1]; rfl) w
    have p2 : ∀ x y : Int, (part g.type #[.int k1 x, .int k2 y] g.offset).run P w = .ok (.int k2 y) w := fun x y => part_int h2 (by rw [o2]; rfl) w
    have q1 : (Op.equalIn 9999 f.type (.int k1 a) (.int k1 c)).run P w = .ok (a == c) w := run_equalIn_int w 9998 _ _ _ _ _ h1
    have q2 : (Op.equalIn 9999 g.type (.int k2 b) (.int k2 d)).run P w = .ok (b == d) w := run_equalIn_int w 9998 _ _ _ _ _ h2
    simp only [Op.eqFields, n1, n2, ne_eq, not_false_eq_true, if_true, Sem.run_bind, p1, p2, q1, q2, Result.andThen_ok, Sem.run_ite, Sem.run_pure]
    by_cases e1 : a = c <;> by_cases e2 : b = d <;> simp [e1, e2]

theorem IndexE_k (p : Option Addr) (c : Nat) (L : List E) (h63 : (L.length : Int) ≤ 9223372036854775807) (x y : Int) (w : World) (h : Edges w p L) :
    FnP Try.prog F_slices_Index_api_Edge_api_Edge #[.slice p L.length c, .agg #[.int .i64 x, .int .i64 y]] w fun v w' => Ext w w' ∧ ∃ t, v = .int .i64 t ∧ (0 ≤ t ↔ ∃ e ∈ L, e.f = x ∧ e.t = y) := by
  refine ok_slices_Index_api_Edge_api_Edge p L.length c x y w _ ?_
  intro b0 _
  refine ⟨fun k w' => w' = w ∧ 0 ≤ k ∧ k ≤ L.length ∧ ∀ j : Nat, (j : Int) < k → ¬ ((ed L j).f = x ∧ (ed L j).t = y), fun k _ => (L.length - k).toNat, ⟨rfl, by omega, by omega, fun j hj => by omega⟩, ?_⟩
  rintro k w ⟨rfl, hk0, hk1, hno⟩
  refine ⟨fun hlt => ?_, fun hge w4 h4 => ⟨h4, _, rfl, ?_⟩⟩
  · obtain ⟨g1, g2, g3, g4⟩ := edges_at h hk0 hlt
    refine ⟨g1, hk0, hlt, g2, _, g3, _, g4, fun w6 h6 => run_eq2 (t1 := T_int) (t2 := T_int) (by kernel_rfl) (by kernel_rfl) (by kernel_rfl) (by kernel_rfl) (by kernel_rfl) (by kernel_rfl) ⟨Ext.refl _, _, rfl, fun hyes w9 h9 => ⟨h9, _, rfl, ?_⟩, fun hn => ⟨i64 (by omega), ⟨rfl, by omega, by omega, fun j hj => ?_⟩, by simp only []; omega⟩⟩⟩
    · rw [decide_eq_true_iff] at hyes
      exact ⟨fun _ => ⟨_, ed_mem (L := L) (i := k.toNat) (by omega), hyes.1.symm, hyes.2.symm⟩, fun _ => hk0⟩
    · rw [decide_eq_false_iff_not] at hn
      by_cases hjk : (j : Int) < k
      · exact hno j hjk
      · obtain rfl : j = k.toNat := by omega
        exact fun h => hn ⟨h.1.symm, h.2.symm⟩
  · constructor
    · intro h; omega
    · rintro ⟨e, he, h1, h2⟩
      obtain ⟨j, hj, rfl⟩ := mem_ed he
      exact absurd ⟨h1, h2⟩ (hno j (by omega))

theorem ContainsE_k (p : Option Addr) (c : Nat) (L : List E) (h63 : (L.length : Int) ≤ 9223372036854775807) (x y : Int) (w : World) (h : Edges w p L) :
    FnP Try.prog F_slices_Contains_api_Edge_api_Edge #[.slice p L.length c, .agg #[.int .i64 x, .int .i64 y]] w fun v w' => Ext w w' ∧ v = .bool (decide (∃ e ∈ L, e.f = x ∧ e.t = y)) := by
  refine ok_slices_Contains_api_Edge_api_Edge p L.length c x y w _ ?_
  intro b0 _ w1 h1
  refine (IndexE_k p c L h63 x y w1 (h.ext h1)).mono fun v w2 ⟨e2, t, hv, ht⟩ => ⟨e2, t, hv, fun w4 h4 => ⟨h4, ?_⟩⟩
  congr 1
  exact decide_eq_decide.2 ht

theorem core_PathChain (W : World) : ∀ n : Int, InR .i64 n → ∀ l : Option Addr, ∀ ll : Nat, ∀ lc : Nat, SlcArg Try.prog W T_Edge l ll lc → ∀ d : Option Addr, ∀ dl : Nat, ∀ dc : Nat, SlcArg Try.prog W T_int64 d dl dc → ∀ t : Option Addr, ∀ tl : Nat, ∀ tc : Nat, SlcArg Try.prog W T_int t tl tc →
    FnP Try.prog F_shiftbellkeep_PathChain #[.int .i64 n, .slice l ll lc, .slice d dl dc, .slice t tl tc] W fun v W' => v = .bool true ∧ Ext W W' := by
  intro n hn p ll lc hl q dl dc hd r tl tc ht
  obtain ⟨L, rfl, h63, hin, hL⟩ := edges_open hl
  obtain ⟨D, rfl, _, hD⟩ := hd.ints (k := .i64) (by kernel_rfl) (by kernel_rfl)
  obtain ⟨T, rfl, _, hT⟩ := ht.ints (k := .i64) (by kernel_rfl) (by kernel_rfl)
  have h64 : (D.length : Int) ≤ 9223372036854775807 := by have := hd.le; have := hd.max; omega
  have h65 : (T.length : Int) ≤ 9223372036854775807 := by have := ht.le; have := ht.max; omega
  refine ok_shiftbellkeep_PathChain _ _ _ _ _ _ _ _ _ _ W _ ?_
  intro w0 h0
  refine (paths_k w0).mono fun v w1 ⟨e1, hv⟩ => ⟨e1, true, hv, fun h => by simp at h, fun _ w3 h3 => ?_⟩
  refine (Times_k n p lc L h63 q dc D h64 w3 (hL.ext h3) (hD.ext h3)).mono fun v w4 ⟨e4, qe, el, ec, ql, ll, lc', Sp, e, hv, hbad, hgood⟩ => ⟨e4, _, _, _, _, _, _, _, _, hv, fun b13 _ => ⟨fun hb w14 h14 => ⟨b_true ?_, (h3.trans e4).trans h14⟩, fun hg => ?_⟩⟩
  · simp [(hbad hb).2.2.1]
  have hx4 : Ext W w4 := h3.trans e4
  obtain ⟨hok, hokD, hel, hll, ⟨A, hA⟩, Ea, La, oE, oL, hP⟩ := hgood hg
  obtain ⟨N, rfl⟩ : ∃ N : Nat, n = N := ⟨n.toNat, by have := hok.1; omega⟩
  simp only [Int.toNat_natCast] at hA hP
  have hOk := orderOk hok
  simp only [Int.toNat_natCast] at hOk
  have lenD := hokD.1
  have hDb : ∀ i : Nat, i < N → 0 ≤ D.getD i 0 ∧ D.getD i 0 ≤ 1000000000 := fun i hi => hokD.2 _ (getD_mem D 0 (by omega))
  have hp := hP.pf
  have T' : ∀ {w' : World}, Ext w4 w' → Value.bool true = .bool true ∧ Ext W w' := fun h => ⟨rfl, hx4.trans h⟩
  have hSp := hP.sMax
  have hs0 := hP.s0
  let at' : Int → Int := fun k => T.getD k.toNat 0
  refine ⟨fun sum k w' => w' = w4 ∧ 0 ≤ k ∧ k ≤ T.length ∧ 0 ≤ sum ∧ sum ≤ Sp ∧ (k = 0 → sum = 0) ∧ (0 < k → 0 ≤ at' (k - 1) ∧ at' (k - 1) < N ∧ sum ≤ g0 Ea (at' (k - 1)) + g0 D (at' (k - 1))), fun _ k _ => (T.length - k).toNat, ⟨rfl, by omega, by omega, by omega, hs0, fun _ => rfl, fun h => by omega⟩, ?_⟩
  rintro sum k w4 ⟨rfl, hk0, hk1, hsum, hsumS, hz, hlast⟩
  have hT4 := hT.ext hx4
  have hD4 := hD.ext hx4
  have hq : 0 < N → q ≠ none := fun h hq => cell_p (Ints.idx hD4 (i := 0) (by omega) (by omega)) (pIdx_none.2 hq)
  refine ⟨fun hlt => ?_, fun hge w18 h18 => ⟨b_true (by simpa using hsumS), hx4.trans h18⟩⟩
  have hr : r ≠ none := fun hq => cell_p (Ints.idx hT4 (i := 0) (by omega) (by omega)) (pIdx_none.2 hq)
  have step : ∀ s : Int, 0 ≤ s → (0 ≤ at' k ∧ at' k < N) → s ≤ g0 Ea (at' k) → InR .i64 (s + D.getD (at' k).toNat 0) ∧ 0 ≤ s + D.getD (at' k).toNat 0 ∧ s + D.getD (at' k).toNat 0 ≤ Sp ∧ s + D.getD (at' k).toNat 0 ≤ g0 Ea (at' k) + g0 D (at' k) := by
    intro s hs hr hle
    have h1 := hp.sLe (at' k).toNat (by omega)
    rw [show (((at' k).toNat : Nat) : Int) = at' k by omega] at h1
    have h2 := hDb (at' k).toNat (by omega)
    have h3 : g0 D (at' k) = D.getD (at' k).toNat 0 := rfl
    exact ⟨i64 (by omega), by omega, by omega, by omega⟩
  refine ⟨hr, hk0, hlt, _, Ints.idx hT4 hk0 hlt, fun _ _ => i64 (by omega), fun _ _ => hr, fun _ _ => by omega, fun _ _ => by omega, fun _ w19 h19 => T' h19, fun hin' => ⟨fun hkp => ?_, fun hkp => ?_⟩⟩
  · refine ⟨_, Ints.idx hT4 (i := k - 1) (by omega) (by omega), fun w20 h20 => ?_⟩
    refine (ContainsE_k p lc L h63 _ _ w20 (hL.ext (hx4.trans h20))).mono fun v w21 ⟨e21, hv⟩ => ⟨e21, _, hv, fun _ w23 h23 => T' h23, fun hyes => ?_⟩
    rw [decide_eq_true_iff] at hyes
    obtain ⟨e, he, hf, hto⟩ := hyes
    obtain ⟨l1, l2, l3⟩ := hlast hkp
    have hle := hp.eLe e he
    rw [hf, hto] at hle
    obtain ⟨s1, s2, s3, s4⟩ := step sum hsum hin' (Int.le_trans l3 hle)
    refine ⟨hq (by omega), by omega, by omega, _, Ints.idx hD4 (by omega) (by omega), s1, i64 (by omega), ⟨rfl, by omega, by omega, s2, s3, fun _ => by omega, fun _ => ?_⟩, by simp only []; omega⟩
    rw [show k + 1 - 1 = k by omega]
    exact ⟨hin'.1, hin'.2, s4⟩
  · have he0 := hp.e0 (at' k).toNat (by have h2 := hin'.2; have h1 := hin'.1; show (T.getD k.toNat 0).toNat < N; omega)
    rw [show (((at' k).toNat : Nat) : Int) = at' k from Int.toNat_of_nonneg hin'.1] at he0
    have hz := hz (by omega)
    obtain ⟨s1, s2, s3, s4⟩ := step sum hsum hin' (by omega)
    refine ⟨hq (by omega), by omega, by omega, _, Ints.idx hD4 (by omega) (by omega), s1, i64 (by omega), ⟨rfl, by omega, by omega, s2, s3, fun _ => by omega, fun _ => ?_⟩, by simp only []; omega⟩
    rw [show k + 1 - 1 = k by omega]
    exact ⟨hin'.1, hin'.2, s4⟩
end Go.Proofs.Ytopgihimdjnaeaa
