/- Closed graphs as lists of edges; the law GraphReach. -/
import Derived.Test.YtopgihimdjnaeaaDoorGraphT
import Derived.Test.YtopgihimdjnaeaaDoorTxtB
import Derived.Laws.StructEq
set_option linter.unusedVariables false
set_option linter.unusedSimpArgs false
namespace Go.Proofs.YtopgihimdjnaeaaDoor
open Go.Sx Go.RowKit

theorem part_int {P : Program} {t : TypeId} {k : IntKind} (h : P.underlying t = some (.int k)) {xs : Array Value} {off : Nat} {v : Value} (hx : xs[off]? = some v) (w : World) : (part t xs off).run P w = .ok v w := by
  simp [part, isAgg, run_underlying h, hx]

theorem equalIn2 {P : Program} {t t1 t2 : TypeId} {k1 k2 : IntKind} (ht : P.underlying t = some (.struct (P.fieldsOf t))) (hp : P.stoodInHeld t = false)
    (hf : (P.fieldsOf t).toList.map (fun f => (f.name != "_", f.type, f.offset)) = [(true, t1, 0), (true, t2, 1)]) (h1 : P.underlying t1 = some (.int k1)) (h2 : P.underlying t2 = some (.int k2))
    {a b c d : Int} {w : World} : (Op.equalIn 10000 t (.agg #[.int k1 a, .int k2 b]) (.agg #[.int k1 c, .int k2 d])).run P w = .ok (decide (a = c ∧ b = d)) w := by
  rw [run_equalIn_struct w 9999 t _ _ ht hp]
  generalize (P.fieldsOf t).toList = fs at hf
  match fs, hf with
  | [], hf => simp at hf
  | [_], hf => simp at hf
  | _ :: _ :: _ :: _, hf => simp at hf
  | [f, g], hf =>
    simp only [List.map_cons, List.map_nil, List.cons.injEq, Prod.mk.injEq, bne_iff_ne, ne_eq, and_true] at hf
    obtain ⟨⟨n1, rfl, o1⟩, n2, rfl, o2⟩ := hf
    have p1 : ∀ x y : Int, (part f.type #[.int k1 x, .int k2 y] f.offset).run P w = .ok (.int k1 x) w := fun x y => part_int h1 (by rw [o1]; rfl) w
    have p2 : ∀ x y : Int, (part g.type #[.int k1 x, .int k2 y] g.offset).run P w = .ok (.int k2 y) w := fun x y => part_int h2 (by rw [o2]; rfl) w
    have q1 : (Op.equalIn 9999 f.type (.int k1 a) (.int k1 c)).run P w = .ok (a == c) w := run_equalIn_int w 9998 _ _ _ _ _ h1
    have q2 : (Op.equalIn 9999 g.type (.int k2 b) (.int k2 d)).run P w = .ok (b == d) w := run_equalIn_int w 9998 _ _ _ _ _ h2
    simp only [Op.eqFields, n1, n2, ne_eq, not_false_eq_true, if_true, Sem.run_bind, p1, p2, q1, q2, Result.andThen_ok, Sem.run_ite, Sem.run_pure]
    by_cases e1 : a = c <;> by_cases e2 : b = d <;> simp [e1, e2]

theorem run_eq2 {P : Program} {t t1 t2 : TypeId} {k1 k2 : IntKind} (ht : P.underlying t = some (.struct (P.fieldsOf t))) (hp : P.stoodInHeld t = false) (hm : P.eqGuardType P.depth t = false)
    (hf : (P.fieldsOf t).toList.map (fun f => (f.name != "_", f.type, f.offset)) = [(true, t1, 0), (true, t2, 1)]) (h1 : P.underlying t1 = some (.int k1)) (h2 : P.underlying t2 = some (.int k2))
    {a b c d : Int} {cx cy : Bool} {w : World} {K : Value → World → Prop} (hk : K (.bool (decide (a = c ∧ b = d))) w) :
    Run P (.eq .eql t cx cy (.agg #[.int k1 a, .int k2 b]) (.agg #[.int k1 c, .int k2 d])) w K := by
  refine ⟨_, w, ?_, hk⟩
  show (do eqGuard .eql t _ _ (.agg #[.int k1 a, .int k2 b]) (.agg #[.int k1 c, .int k2 d]); binOp .eql t (.agg #[.int k1 a, .int k2 b]) (.agg #[.int k1 c, .int k2 d]) : Sem Value).run P w = _
  rw [Sem.run_bind, run_eqGuard_agg w _ _ _ _ _ _ hm, Result.andThen_ok, run_eql_struct, equalIn2 ht hp hf h1 h2]
  rfl

theorem run_ne2 {P : Program} {t t1 t2 : TypeId} {k1 k2 : IntKind} (ht : P.underlying t = some (.struct (P.fieldsOf t))) (hp : P.stoodInHeld t = false) (hm : P.eqGuardType P.depth t = false)
    (hf : (P.fieldsOf t).toList.map (fun f => (f.name != "_", f.type, f.offset)) = [(true, t1, 0), (true, t2, 1)]) (h1 : P.underlying t1 = some (.int k1)) (h2 : P.underlying t2 = some (.int k2))
    {a b c d : Int} {cx cy : Bool} {w : World} {K : Value → World → Prop} (hk : K (.bool (!decide (a = c ∧ b = d))) w) :
    Run P (.eq .neq t cx cy (.agg #[.int k1 a, .int k2 b]) (.agg #[.int k1 c, .int k2 d])) w K := by
  refine ⟨_, w, ?_, hk⟩
  show (do eqGuard .neq t _ _ (.agg #[.int k1 a, .int k2 b]) (.agg #[.int k1 c, .int k2 d]); binOp .neq t (.agg #[.int k1 a, .int k2 b]) (.agg #[.int k1 c, .int k2 d]) : Sem Value).run P w = _
  rw [Sem.run_bind, run_eqGuard_agg w _ _ _ _ _ _ hm, Result.andThen_ok, run_neq_struct, equalIn2 ht hp hf h1 h2]
  rfl

theorem IndexE_k (p : Option Addr) (c : Nat) (L : List E) (h63 : (L.length : Int) ≤ 9223372036854775807) (x y : Int) (w : World) (h : Edges w p L) :
    FnP Tryd.prog F_slices_Index_api_Edge_api_Edge #[.slice p L.length c, .agg #[.int .i64 x, .int .i64 y]] w fun v w' => Ext w w' ∧ ∃ t, v = .int .i64 t ∧ (0 ≤ t ↔ ∃ e ∈ L, e.f = x ∧ e.t = y) := by
  refine ok_slices_Index_api_Edge_api_Edge p L.length c x y w _ ?_
  intro b0 _
  refine ⟨fun k w' => w' = w ∧ 0 ≤ k ∧ k ≤ L.length ∧ ∀ j : Nat, (j : Int) < k → ¬ ((ed L j).f = x ∧ (ed L j).t = y), fun k _ => (L.length - k).toNat, ⟨rfl, by omega, by omega, fun j hj => by omega⟩, ?_⟩
  rintro k w ⟨rfl, hk0, hk1, hno⟩
  refine ⟨fun hlt => ?_, fun hge w4 h4 => ⟨h4, _, rfl, ?_⟩⟩
  · obtain ⟨g1, g2, g3, g4⟩ := edges_at h hk0 hlt
    refine ⟨g1, hk0, hlt, g2, _, g3, _, g4, fun w6 h6 => run_eq2 (t1 := T_int) (t2 := T_int) (by kernel_rfl) (by kernel_rfl) (by kernel_rfl) (by kernel_rfl) (by kernel_rfl) (by kernel_rfl) ⟨Ext.refl _, _, rfl, fun hyes w9 h9 => ⟨h9, _, rfl, ?_⟩, fun hn => ⟨i64 (by omega), ⟨rfl, by omega, by omega, fun j hj => ?_⟩, by simp only []; omega⟩⟩⟩
    · rw [decide_eq_true_iff] at hyes
      exact ⟨fun _ => ⟨_, ed_mem (L := L) (i := k.toNat) (by omega), hyes.1.symm, hyes.2.symm⟩, fun _ => hk0⟩
    · rw [decide_eq_false_iff_not] at hn
      by_cases hjk : (j : Int) < k
      · exact hno j hjk
      · obtain rfl : j = k.toNat := by omega
        exact fun h => hn ⟨h.1.symm, h.2.symm⟩
  · constructor
    · intro h; omega
    · rintro ⟨e, he, h1, h2⟩
      obtain ⟨j, hj, rfl⟩ := mem_ed he
      exact absurd ⟨h1, h2⟩ (hno j (by omega))

theorem ContainsE_k (p : Option Addr) (c : Nat) (L : List E) (h63 : (L.length : Int) ≤ 9223372036854775807) (x y : Int) (w : World) (h : Edges w p L) :
    FnP Tryd.prog F_slices_Contains_api_Edge_api_Edge #[.slice p L.length c, .agg #[.int .i64 x, .int .i64 y]] w fun v w' => Ext w w' ∧ v = .bool (decide (∃ e ∈ L, e.f = x ∧ e.t = y)) := by
  refine ok_slices_Contains_api_Edge_api_Edge p L.length c x y w _ ?_
  intro b0 _ w1 h1
  refine (IndexE_k p c L h63 x y w1 (h.ext h1)).mono fun v w2 ⟨e2, t, hv, ht⟩ => ⟨e2, t, hv, fun w4 h4 => ⟨h4, ?_⟩⟩
  congr 1
  exact decide_eq_decide.2 ht

theorem EqualE_k (p : Option Addr) (c : Nat) (L : List E) (q : Option Addr) (d : Nat) (M : List E) (h63 : (L.length : Int) ≤ 9223372036854775807) (w : World) (hL : Edges w p L) (hM : Edges w q M) :
    FnP Tryd.prog F_slices_Equal_api_Edge_api_Edge #[.slice p L.length c, .slice q M.length d] w fun v w' => Ext w w' ∧ ∃ t, v = .bool t ∧ (t = true ↔ L = M) := by
  refine ok_slices_Equal_api_Edge_api_Edge p L.length c q M.length d w _ ⟨fun hne w0 h0 => ⟨h0, _, rfl, ?_⟩, fun heq => ?_⟩
  · constructor
    · intro h; cases h
    · rintro rfl; exact absurd rfl hne
  refine ⟨fun k w' => w' = w ∧ 0 ≤ k ∧ k ≤ L.length ∧ ∀ j : Nat, (j : Int) < k → ed L j = ed M j, fun k _ => (L.length - k).toNat, ⟨rfl, by omega, by omega, fun j hj => by omega⟩, ?_⟩
  rintro k w ⟨rfl, hk0, hk1, hall⟩
  refine ⟨fun hlt => ?_, fun hge w4 h4 => ⟨h4, _, rfl, ?_⟩⟩
  · obtain ⟨g1, g2, g3, g4⟩ := edges_at hL hk0 hlt
    obtain ⟨f1, f2, f3, f4⟩ := edges_at hM hk0 (by omega)
    refine ⟨g1, hk0, hlt, g2, _, g3, _, g4, f1, hk0, by omega, f2, _, f3, _, f4, fun w6 h6 => run_ne2 (t1 := T_int) (t2 := T_int) (by kernel_rfl) (by kernel_rfl) (by kernel_rfl) (by kernel_rfl) (by kernel_rfl) (by kernel_rfl) ⟨Ext.refl _, _, rfl, fun hyes w9 h9 => ⟨h9, _, rfl, ?_⟩, fun hn => ⟨i64 (by omega), ⟨rfl, by omega, by omega, fun j hj => ?_⟩, by simp only []; omega⟩⟩⟩
    · constructor
      · intro h; cases h
      · rintro rfl; simp at hyes
    · by_cases hjk : (j : Int) < k
      · exact hall j hjk
      · obtain rfl : j = k.toNat := by omega
        simp at hn
        cases hx : ed L k.toNat; cases hy : ed M k.toNat; simp_all
  · simp only [true_iff]
    apply List.ext_getElem?
    intro j
    by_cases hj : j < L.length
    · rw [getElem?_getD L default hj, getElem?_getD M default (by omega)]
      exact congrArg some (hall j (by omega))
    · rw [List.getElem?_eq_none (by omega), List.getElem?_eq_none (by omega)]

/-- The edges of rows of numbers. -/
def edsF (N : Nat) (B : Nat → List Int) : List E := (List.range N).flatMap fun i => (B i).map fun x => ⟨(i : Int), x⟩
theorem edsF_succ (N : Nat) (B : Nat → List Int) : edsF (N + 1) B = edsF N B ++ (B N).map fun x => ⟨(N : Int), x⟩ := by
  simp [edsF, List.range_succ]
theorem edsF_congr {N : Nat} {B C : Nat → List Int} (h : ∀ i, i < N → B i = C i) : edsF N B = edsF N C := by
  induction N with
  | zero => rfl
  | succ n ih => rw [edsF_succ, edsF_succ, ih (fun i hi => h i (by omega)), h n (by omega)]
theorem edsF_mem {N : Nat} {B : Nat → List Int} {e : E} : e ∈ edsF N B ↔ ∃ i : Nat, i < N ∧ e.f = i ∧ e.t ∈ B i := by
  unfold edsF
  simp only [List.mem_flatMap, List.mem_range, List.mem_map]
  constructor
  · rintro ⟨i, hi, x, hx, rfl⟩; exact ⟨i, hi, rfl, hx⟩
  · rintro ⟨i, hi, h1, h2⟩; exact ⟨i, hi, e.t, h2, by cases e; simp_all⟩
theorem encE_len (L : List E) : (L.flatMap encE).length = L.length * 2 := by
  induction L with
  | nil => rfl
  | cons a r ih => rw [List.flatMap_cons, List.length_append, ih]; simp [encE]; omega

open Classical in
noncomputable def relB (A : Nat → Nat → Prop) (i : Nat) : List Int := ((List.range 64).filter fun j => decide (A i j)).map Int.ofNat
noncomputable def relE (N : Nat) (A : Nat → Nat → Prop) : List E := edsF N (relB A)
theorem relB_mem {A : Nat → Nat → Prop} {i : Nat} {x : Int} : x ∈ relB A i ↔ ∃ j : Nat, x = j ∧ j < 64 ∧ A i j := by
  unfold relB
  simp only [List.mem_map, List.mem_filter, List.mem_range, decide_eq_true_eq]
  constructor
  · rintro ⟨j, ⟨h1, h2⟩, rfl⟩; exact ⟨j, rfl, h1, h2⟩
  · rintro ⟨j, rfl, h1, h2⟩; exact ⟨j, ⟨h1, h2⟩, rfl⟩
theorem relE_mem {N : Nat} {A : Nat → Nat → Prop} {e : E} : e ∈ relE N A ↔ ∃ i j : Nat, e.f = i ∧ e.t = j ∧ i < N ∧ j < 64 ∧ A i j := by
  unfold relE
  rw [edsF_mem]
  constructor
  · rintro ⟨i, hi, h1, h2⟩
    obtain ⟨j, h3, h4, h5⟩ := relB_mem.1 h2
    exact ⟨i, j, h1, h3, hi, h4, h5⟩
  · rintro ⟨i, j, h1, h3, hi, h4, h5⟩
    exact ⟨i, hi, h1, relB_mem.2 ⟨j, h3, h4, h5⟩⟩
theorem relE_congr {N : Nat} {A C : Nat → Nat → Prop} (h : ∀ i j, i < N → (A i j ↔ C i j)) : relE N A = relE N C :=
  edsF_congr fun i hi => by
    unfold relB
    congr 1
    apply List.filter_congr
    intro j _
    simp [h i j hi]
theorem bits_rel {S : Int} {A : Nat → Nat → Prop} {i : Nat} (h : ∀ j, tb S j = true ↔ A i j) : bitsOf S = relB A i := by
  unfold bitsOf relB
  congr 1
  apply List.filter_congr
  intro j _
  have := h j
  cases hb : tb S j <;> simp_all

theorem listB_k (S : Int) (hS : U S) (w : World) (hg : GL w) : FnP Tryd.prog F_graph_list #[.int .u64 S] w fun v w' => Ext w w' ∧ ∃ q m d, v = .slice q m d ∧ Own w.heap.size w' T_int 1 q m d ((bitsOf S).map (.int .i64)) := by
  refine ok_graph_list S w _ ?_
  refine ⟨fun q m d s w' => ∃ X : List Int, Ext w w' ∧ Own w.heap.size w' T_int 1 q m d (X.map (.int .i64)) ∧ U s ∧ bitsOf S = X ++ bitsOf s, fun _ _ _ s _ => s.toNat,
    ⟨[], Ext.refl _, Own.nil, hS, rfl⟩, ?_⟩
  rintro q m d s w3 ⟨X, hw, oX, hs, hall⟩
  have lenX := oX.leni
  have hl := congrArg List.length hall
  rw [List.length_append] at hl
  have hb := bitsOf_length (S := S)
  refine ⟨fun hne w4 h4 => ?_, fun he w4 h4 => ⟨hw.trans h4, q, m, d, rfl, ?_⟩⟩
  · have hu := U_iff.1 hs
    obtain ⟨t1, t2, t3, t4⟩ := tzbits (x := s.toNat) (by omega) (by omega)
    generalize hT : Lib.ctz 64 s.toNat = t at t1 t2 t3 t4
    have ht3 : tb s t = true := by rw [tb_nat hs]; exact t3
    refine (TZ_k s hs hne w4 (hg.ext (hw.trans h4))).mono fun v w5 ⟨e5, hv⟩ => ⟨e5, _, hv, ?_⟩
    rw [hT]
    have hs1 : U (s - 1) := by rw [U_iff]; omega
    have hbit : ∀ i, tb (iBit .and .u64 s (s - 1)) i = (tb s i && decide (i ≠ t)) := fun i => by
      have := t4 i
      rw [Nat.testBit_and] at this
      rw [tb_and, tb_nat hs, tb_nat hs1, show (s - 1).toNat = s.toNat - 1 by omega]
      exact this
    have hU := U_and s (s - 1)
    have hdec : (iBit .and .u64 s (s - 1)).toNat < s.toNat := by
      have he : (iBit .and .u64 s (s - 1)).toNat = s.toNat &&& (s.toNat - 1) := by
        apply Nat.eq_of_testBit_eq
        intro i
        rw [← tb_nat hU, hbit, t4, tb_nat hs]
      rw [he]
      have := Nat.and_le_right (n := s.toNat) (m := s.toNat - 1)
      omega
    have hcons := bitsOf_cons (S := s) (S' := iBit .and .u64 s (s - 1)) t1 (fun i hi => by rw [tb_nat hs]; exact t2 i hi) ht3 hbit
    refine push_int elem_sl_int oX hw.size (by omega) (by omega) fun q' d' w' o' g _ => ⟨hs1, ⟨_, g.ext hw oX, o', hU, ?_⟩, hdec⟩
    rw [hall, hcons]; simp
  · subst he
    rw [bitsOf_zero, List.append_nil] at hall
    rw [hall]; exact oX.ext h4

theorem edges_k (N : Nat) (hN : N ≤ 60) (p : Option Addr) (c : Nat) (R : List Int) (hl : R.length = N) (hU : ∀ i, i < N → U (R.getD i 0)) (w : World) (h : Ints .u64 w p R) (hg : GL w) :
    FnP Tryd.prog F_graph_edges #[.slice p N c] w fun v w' => Ext w w' ∧ ∃ q m d, v = .slice q m d ∧ Own w.heap.size w' T_Edge 2 q m d ((edsF N fun i => bitsOf (R.getD i 0)).flatMap encE) := by
  let B : Nat → List Int := fun i => bitsOf (R.getD i 0)
  refine ok_graph_edges p N c w _ ?_
  refine ⟨fun q m d k w' => Ext w w' ∧ 0 ≤ k ∧ k ≤ N ∧ (m : Int) ≤ 64 * k ∧ Own w.heap.size w' T_Edge 2 q m d ((edsF k.toNat B).flatMap encE), fun _ _ _ k _ => (N - k).toNat, ⟨Ext.refl _, by omega, by omega, by omega, by simpa [edsF] using Own.nil⟩, ?_⟩
  rintro q m d k w3 ⟨hw, hk0, hk1, hm, o⟩
  refine ⟨fun hlt => ?_, fun hge w4 h4 => ⟨hw.trans h4, q, m, d, rfl, ?_⟩⟩
  · refine ⟨(h.ext hw).ne (by intro he; simp at he; subst he; simp at hl; omega), hk0, hlt, _, Ints.idx (h.ext hw) hk0 (by omega), fun w5 h5 => ?_⟩
    refine (listB_k _ (hU k.toNat (by omega)) w5 ((hg.ext hw).ext h5)).mono fun v w6 ⟨e6, q', m', d', hv, oX⟩ => ⟨e6, q', m', d', hv, ?_⟩
    have lenX := oX.leni
    have lenB := bitsOf_length (S := R.getD k.toNat 0)
    have hw6 := (hw.trans h5).trans e6
    have hx36 := h5.trans e6
    refine ⟨fun a n c j w' => Ext w w' ∧ 0 ≤ j ∧ j ≤ m' ∧ (n : Int) ≤ 64 * k + j ∧ Own w.heap.size w' T_Edge 2 a n c ((edsF k.toNat B ++ ((B k.toNat).take j.toNat).map fun x => (⟨((k.toNat : Nat) : Int), x⟩ : E)).flatMap encE) ∧ Ints .i64 w' q' (B k.toNat) ∧ Apart q' a ∧ ∀ x, q' = some x → x.block < w'.heap.size, fun _ _ _ j _ => (m' - j).toNat,
      ⟨hw6, by omega, by omega, by omega, by simpa using (o.ext h5).ext e6, oX.cells, fun a b ha hb he => ?_, fun x hx => (oX.lt x hx).2⟩, ?_⟩
    · have h1 := (oX.lt a ha).1
      have h2 := ((o.ext h5).lt b hb).2
      omega
    rintro a n c j w13 ⟨hw13, hj0, hj1, hn, oA, hX, hap, hblk⟩
    refine ⟨fun hjlt => ?_, fun hjge => ⟨i64 (by omega), ⟨hw13, by omega, by omega, by omega, ?_⟩, by simp only []; omega⟩⟩
    · refine ⟨hX.ne (fun he => by have h1 : (B k.toNat).length = 0 := (by simpa using congrArg List.length he); have h2 : (B k.toNat).length = m' := lenX; omega), hj0, hjlt, _, Ints.idx hX hj0 (by simp only [B]; omega), ?_⟩
      refine push elem_sl_Edge (by omega) oA hw13.size (by rfl) (by intro u hu; simp [Value.cells] at hu; rcases hu with rfl | rfl <;> rfl) (by omega) (by omega) (by omega) fun p' c' w' o' g hne => ⟨i64 (by omega), ⟨g.ext hw13 oA, by omega, by omega, by omega, ?_, hX.grew hap g, hap.grewC hblk g, fun x hx => Nat.lt_of_lt_of_le (hblk x hx) g.size⟩, by simp only []; omega⟩
      rw [show (j + 1).toNat = j.toNat + 1 by omega, List.take_add_one, getElem?_getD (B k.toNat) 0 (by simp only [B]; omega)]
      have hkk : ((k.toNat : Nat) : Int) = k := by omega
      simp only [Option.toList_some, List.map_append, List.map_cons, List.map_nil, List.flatMap_append, List.flatMap_cons, List.flatMap_nil, List.append_nil, ← List.append_assoc, encE, hkk] at o' ⊢
      simpa [Value.cells] using o'
    · rw [show (k + 1).toNat = k.toNat + 1 by omega, edsF_succ]
      rw [List.take_of_length_le (by simp only [B]; omega)] at oA
      exact oA
  · obtain rfl : k = N := by omega
    exact o.ext h4

theorem Close_k (n : Int) (p : Option Addr) (c : Nat) (L : List E) (h63 : (L.length : Int) ≤ 9223372036854775807) (w : World) (h : Edges w p L) (hg : GL w) :
    FnP Tryd.prog F_graph_Close #[.int .i64 n, .slice p L.length c] w fun v w' => Ext w w' ∧ ∃ q m d e, v = .tuple #[.slice q m d, .int .i64 e] ∧ (¬ okG n L → e = errG n L ∧ m = 0) ∧
      (okG n L → (400 < (relE n.toNat (Beh L n.toNat)).length → e = 2 ∧ m = 0) ∧ ((relE n.toNat (Beh L n.toNat)).length ≤ 400 → e = 0 ∧ m = (relE n.toNat (Beh L n.toNat)).length ∧ Own w.heap.size w' T_Edge 2 q m d ((relE n.toNat (Beh L n.toNat)).flatMap encE))) := by
  refine ok_graph_Close n p L.length c w _ ?_
  intro w0 h0
  refine (checkG_k n p c L h63 w0 (h.ext h0)).mono fun v w1 ⟨e1, hv⟩ => ⟨e1, _, hv, fun hne w3 h3 => ⟨h3, _, _, _, _, rfl, fun _ => ⟨rfl, rfl⟩, fun hok => absurd (errG_ok.2 hok) hne⟩, fun he w3 h3 => ?_⟩
  have hok := errG_ok.1 he
  obtain ⟨N, rfl⟩ : ∃ N : Nat, n = N := ⟨n.toNat, by have := hok.1; omega⟩
  have hN : N ≤ 60 := by have := hok.2.1; omega
  simp only [Int.toNat_natCast]
  refine (rows_k N p c L hok w3 (h.ext h3)).mono fun v w4 ⟨e4, q, R, hv, hq, o, hR⟩ => ⟨e4, q, N, N, hv, fun w8 h8 => ?_⟩
  refine (closed_k N hN q N R (Adj L) hR hq w8 (o.ext h8).cells).mono fun v w9 ⟨e9, q2, d2, C, hv, o2, hC⟩ => ⟨e9, q2, N, d2, hv, fun w13 h13 => ?_⟩
  have hC := rows_closed hok hC
  have hx9 : Ext w w9 := (((h3.trans e4).trans h8).trans e9)
  have hx13 := hx9.trans h13
  refine (edges_k N hN q2 d2 C hC.len hC.u w13 (o2.ext h13).cells (hg.ext hx13)).mono fun v w14 ⟨e14, q3, m3, d3, hv, oE⟩ => ⟨e14, q3, m3, d3, hv, ?_⟩
  have hE : (edsF N fun i => bitsOf (C.getD i 0)) = relE N (Beh L N) := edsF_congr fun i hi => bits_rel (hC.bit i hi)
  rw [hE] at oE
  have hlen := oE.len
  rw [encE_len] at hlen
  obtain rfl : m3 = (relE N (Beh L N)).length := by omega
  refine ⟨fun hgt w18 h18 => ⟨(hx13.trans e14).trans h18, _, _, _, _, rfl, fun hno => absurd hok hno, fun _ => ⟨fun _ => ⟨rfl, rfl⟩, fun hle => by omega⟩⟩, fun hle w18 h18 => ⟨(hx13.trans e14).trans h18, _, _, _, _, rfl, fun hno => absurd hok hno, fun _ => ⟨fun hgt => by omega, fun _ => ⟨rfl, rfl, (oE.weak hx13.size).ext h18⟩⟩⟩⟩

theorem beh_lt {N : Nat} {L : List E} (hok : okG N L) {i j : Nat} (h : Beh L N i j) : i < N ∧ j < N := by
  induction h with
  | edge h =>
    obtain ⟨e, he, h1, h2⟩ := h
    have := hok.2.2.2 e he
    unfold okE at this; omega
  | mid _ _ _ a b => exact ⟨a.1, b.2⟩

/-- Of what is closed the closed one is itself. -/
theorem relE_ok {N : Nat} {L : List E} (hok : okG N L) (hl : (relE N (Beh L N)).length ≤ 400) : okG N (relE N (Beh L N)) :=
  ⟨hok.1, hok.2.1, hl, fun e he => by
    obtain ⟨i, j, h1, h2, h3, h4, h5⟩ := relE_mem.1 he
    have := beh_lt hok h5
    unfold okE; omega⟩
theorem relE_beh {N : Nat} {L : List E} (hok : okG N L) {i j : Nat} : Beh (relE N (Beh L N)) N i j ↔ Beh L N i j := by
  have hN : N ≤ 60 := by have := hok.2.1; omega
  constructor
  · intro h
    induction h with
    | edge h =>
      obtain ⟨e, he, h1, h2⟩ := h
      obtain ⟨a, b, g1, g2, _, _, g⟩ := relE_mem.1 he
      have ha := Int.ofNat.inj (g1.symm.trans h1)
      have hb := Int.ofNat.inj (g2.symm.trans h2)
      rw [← ha, ← hb]; exact g
    | mid _ _ hk a b => exact .mid a b hk
  · intro h
    have hb := beh_lt hok h
    exact .edge ⟨⟨i, j⟩, relE_mem.2 ⟨i, j, rfl, rfl, hb.1, by omega, h⟩, rfl, rfl⟩

theorem core_GraphReach (W : World) (hg : GL W) : ∀ n : Int, InR .i64 n → ∀ l : Option Addr, ∀ ll : Nat, ∀ lc : Nat, SlcArg Tryd.prog W T_Edge l ll lc → ∀ i : Int, InR .i64 i → ∀ k : Int, InR .i64 k →
    FnP Tryd.prog F_shiftbellkeep_GraphReach #[.int .i64 n, .slice l ll lc, .int .i64 i, .int .i64 k] W fun v W' => v = .bool true ∧ Ext W W' := by
  intro n hn p ll lc hl i hi k hk
  obtain ⟨L, rfl, h63, hin, hL⟩ := edges_open hl
  refine ok_shiftbellkeep_GraphReach _ _ _ _ _ _ W _ ?_
  intro w0 h0
  refine (graphs_k w0).mono fun v w1 ⟨e1, hv⟩ => ⟨e1, true, hv, fun h => by simp at h, fun _ w3 h3 => ?_⟩
  refine (Reach_k n p lc L h63 i w3 (hL.ext h3) (hg.ext h3)).mono fun v w4 ⟨e4, qa, ma, da, e, hv, hra, hr1⟩ => ⟨e4, qa, ma, da, e, hv, fun w9 h9 => ?_⟩
  have hx9 := (h3.trans e4).trans h9
  refine (Reach_k n p lc L h63 k w9 (hL.ext hx9) (hg.ext hx9)).mono fun v w10 ⟨e10, qb, mb, db, f, hv, _, hr2⟩ => ⟨e10, qb, mb, db, f, hv, fun w15 h15 => ?_⟩
  have hx15 := (hx9.trans e10).trans h15
  refine (Close_k n p lc L h63 w15 (hL.ext hx15) (hg.ext hx15)).mono fun v w16 ⟨e16, qc, mc, dc, g, hv, hc1, hc2⟩ => ⟨e16, qc, mc, dc, g, hv, ?_⟩
  have hx16 := hx15.trans e16
  have h4_16 := ((h9.trans e10).trans h15).trans e16
  have h10_16 := h15.trans e16
  have T' : ∀ {w' : World} {b : Bool}, b = true → Ext w16 w' → Value.bool b = .bool true ∧ Ext W w' := fun hb h => ⟨by rw [hb], hx16.trans h⟩
  refine good_lit (w := w16) [e, f] rfl rfl (by simp) (by simp) fun w22 h22 => ⟨fun hbad w29 h29 => T' ?_ (h22.trans h29), fun hgd => ?_⟩
  · by_cases he : e = 0
    · simp [he]
    · simp [hra he]
  simp at hgd
  obtain ⟨rfl, rfl⟩ := hgd
  obtain ⟨hok, hi0, hi1, X, oX, hX0, hX⟩ := hr1 rfl
  obtain ⟨_, hk0, hk1, Y, oY, hY0, hY⟩ := hr2 rfl
  have lX := oX.leni
  have lY := oY.leni
  subst lX lY
  have mX := oX.le
  have mY := oY.le
  obtain ⟨N, rfl⟩ : ∃ N : Nat, n = N := ⟨n.toNat, by have := hok.1; omega⟩
  have hN : N ≤ 60 := by have := hok.2.1; omega
  simp only [Int.toNat_natCast] at hX hY hc2
  have hXi : ∀ x : Int, 0 ≤ x → (x ∈ X ↔ Beh L N i.toNat x.toNat) := fun x hx => by
    have := hX x.toNat
    rwa [Int.toNat_of_nonneg hx] at this
  have hYi : ∀ x : Int, 0 ≤ x → (x ∈ Y ↔ Beh L N k.toNat x.toNat) := fun x hx => by
    have := hY x.toNat
    rwa [Int.toNat_of_nonneg hx] at this
  have hcE : ∀ w' : World, Ext w16 w' → g = 0 → Edges w' qc (relE N (Beh L N)) ∧ mc = (relE N (Beh L N)).length ∧ (relE N (Beh L N)).length ≤ 400 := fun w' h' hg0 => by
    by_cases hle : (relE N (Beh L N)).length ≤ 400
    · obtain ⟨_, h1, h2⟩ := (hc2 hok).2 hle
      exact ⟨(Own.recs (h2.ext h') (by intro x hx; rfl)), h1, hle⟩
    · have := ((hc2 hok).1 (by omega)).1; omega
  have hin : (∃ e ∈ relE N (Beh L N), e.f = i ∧ e.t = k) ↔ k ∈ X := by
    rw [hXi k hk0]
    constructor
    · rintro ⟨e, he, h1, h2⟩
      obtain ⟨a, b, g1, g2, _, _, g⟩ := relE_mem.1 he
      rw [show i.toNat = a by omega, show k.toNat = b by omega]; exact g
    · intro h
      have hb := beh_lt hok h
      exact ⟨⟨i, k⟩, relE_mem.2 ⟨i.toNat, k.toNat, by simp; omega, by simp; omega, hb.1, by omega, h⟩, rfl, rfl⟩
  have tail : ∀ w6 : World, Ext w16 w6 → g = 0 → ∀ w35 : World, Ext w6 w35 →
      FnP Tryd.prog F_graph_Close #[.int .i64 N, .slice qc mc dc] w35 fun v36 w36 => Ext w35 w36 ∧ ∃ (t37 : Option Addr) (tl38 tc39 : Nat) (t40 : Int), v36 = .tuple #[.slice t37 tl38 tc39, .int .i64 t40] ∧ t40 = 0 ∧ ∀ w41, Ext w36 w41 →
        FnP Tryd.prog F_slices_Equal_api_Edge_api_Edge #[.slice qc mc dc, .slice t37 tl38 tc39] w41 fun v42 w42 => Ext w41 w42 ∧ v42 = .bool true := by
    intro w6 h6 hg0 w35 h35
    obtain ⟨hE, hm, hle⟩ := hcE w35 (h6.trans h35) hg0
    subst hm
    have hok2 := relE_ok hok hle
    have hx35 := (hx16.trans h6).trans h35
    refine (Close_k N qc dc _ (by omega) w35 hE (hg.ext hx35)).mono fun v w36 ⟨e36, q5, m5, d5, e5, hv, _, hd⟩ => ⟨e36, q5, m5, d5, e5, hv, ?_⟩
    have hsame : relE N (Beh (relE N (Beh L N)) N) = relE N (Beh L N) := relE_congr fun _ _ _ => relE_beh hok
    have hd := hd hok2
    simp only [Int.toNat_natCast] at hd
    rw [hsame] at hd
    obtain ⟨h0, h1, h2⟩ := hd.2 hle
    subst h0 h1
    refine ⟨rfl, fun w41 h41 => ?_⟩
    refine (EqualE_k qc dc _ q5 d5 _ (by omega) w41 (hE.ext (e36.trans h41)) (Own.recs (h2.ext h41) (by intro x hx; rfl))).mono fun v w42 ⟨e42, t, hv, ht⟩ => ⟨e42, ?_⟩
    rw [hv, ht.2 rfl]
  have fin : ∀ w36 : World, Ext w16 w36 → g = 0 → ∀ w44 : World, Ext w36 w44 →
      FnP Tryd.prog F_slices_Contains_api_Edge_api_Edge #[.slice qc mc dc, .agg #[.int .i64 i, .int .i64 k]] w44 fun v45 w45 => Ext w44 w45 ∧ ∃ t46 : Bool, v45 = .bool t46 ∧ ∀ w47, Ext w36 w47 →
        FnP Tryd.prog F_slices_Contains_int_int #[.slice qa X.length da, .int .i64 k] w47 fun v48 w48 => Ext w47 w48 ∧ ∃ t49 : Bool, v48 = .bool t49 ∧ ∀ w50, Ext w36 w50 → Value.bool ((t46 && t49) || ((!t46) && (!t49))) = .bool true ∧ Ext W w50 := by
    intro w36 h36 hg0 w44 h44
    obtain ⟨hE, hm, hle⟩ := hcE w44 (h36.trans h44) hg0
    subst hm
    refine (ContainsE_k qc dc _ (by omega) i k w44 hE).mono fun v w45 ⟨e45, hv⟩ => ⟨e45, _, hv, fun w47 h47 => ?_⟩
    refine (ContainsI_k qa da X (by omega) k w47 (oX.ext (h4_16.trans (h36.trans h47))).cells).mono fun v w48 ⟨e48, hv⟩ => ⟨e48, _, hv, fun w50 h50 => T' ?_ (h36.trans h50)⟩
    rw [decide_eq_decide.2 hin]
    cases decide (k ∈ X) <;> rfl
  intro w29 h29
  have hx16_29 := h22.trans h29
  refine (ContainsI_k qa da X (by omega) k w29 (oX.ext (h4_16.trans hx16_29)).cells).mono fun v w30 ⟨e30, hv⟩ => ⟨e30, _, hv, fun hyes => ?_, fun hno => ?_⟩
  · rw [decide_eq_true_iff] at hyes
    have hbk := (hXi k hk0).1 hyes
    refine ⟨fun j w' => Ext w22 w' ∧ 0 ≤ j ∧ j ≤ Y.length, fun j _ => (Y.length - j).toNat, ⟨Ext.refl _, by omega, by omega⟩, ?_⟩
    rintro j w34 ⟨hw34, hj0, hj1⟩
    have h16_34 := h22.trans hw34
    refine ⟨fun hlt => ?_, fun hge => ⟨fun hne w35 h35 => T' ?_ (h16_34.trans h35), fun hg0 w35 h35 => (tail w34 h16_34 hg0 w35 h35).mono fun v w36 ⟨e36, a, b, c, d, hv, hd, hk⟩ => ⟨e36, a, b, c, d, hv, fun _ w41 h41 => (hk w41 h41).mono fun v w42 ⟨e42, hv⟩ => ⟨e42, true, hv, fun _ w44 h44 => fin w36 ((h16_34.trans h35).trans e36) hg0 w44 h44, fun h => by cases h⟩, fun h => absurd hd h⟩⟩⟩
    · have hY' := (oY.ext (h10_16.trans h16_34)).cells
      refine ⟨hY'.ne (by intro he; simp at he; subst he; simp at hlt; omega), hj0, hlt, _, Ints.idx hY' hj0 hlt, fun w36 h36 => ?_⟩
      refine (ContainsI_k qa da X (by omega) _ w36 (oX.ext (h4_16.trans (h16_34.trans h36))).cells).mono fun v w37 ⟨e37, hv⟩ => ⟨e37, _, hv, fun hno => ?_, fun _ => ⟨i64 (by omega), ⟨hw34, by omega, by omega⟩, by simp only []; omega⟩⟩
      exfalso
      rw [decide_eq_false_iff_not] at hno
      have hm := getD_mem Y 0 (i := j.toNat) (by omega)
      have h0 := hY0 _ hm
      have hb := (hYi _ h0).1 hm
      exact hno ((hXi _ h0).2 (.mid hbk hb (by omega)))
    · have h1 : (relE N (Beh L N)).length > 400 := by
        rcases Nat.lt_or_ge 400 (relE N (Beh L N)).length with h | h
        · exact h
        · exact absurd ((hc2 hok).2 h).1 hne
      simp [((hc2 hok).1 h1).2]
  · refine ⟨fun hne w35 h35 => T' ?_ (h22.trans h35), fun hg0 w35 h35 => (tail w22 h22 hg0 w35 h35).mono fun v w36 ⟨e36, a, b, c, d, hv, hd, hk⟩ => ⟨e36, a, b, c, d, hv, fun _ w41 h41 => (hk w41 h41).mono fun v w42 ⟨e42, hv⟩ => ⟨e42, true, hv, fun _ w44 h44 => fin w36 ((h22.trans h35).trans e36) hg0 w44 h44, fun h => by cases h⟩, fun h => absurd hd h⟩⟩
    have h1 : (relE N (Beh L N)).length > 400 := by
      rcases Nat.lt_or_ge 400 (relE N (Beh L N)).length with h | h
      · exact h
      · exact absurd ((hc2 hok).2 h).1 hne
    simp [((hc2 hok).1 h1).2]
end Go.Proofs.YtopgihimdjnaeaaDoor
