/- Pairs: edges, lists of numbers and of bits: small contracts. -/
import Derived.Test.YtlacdincnpbpdaaDoorGraphP
import Derived.Test.YtlacdincnpbpdaaDoorTzK
import Derived.Test.YtlacdincnpbpdaaDoorSxR
set_option linter.unusedVariables false
set_option linter.unusedSimpArgs false
namespace Go.Proofs.YtlacdincnpbpdaaDoor
open Go.Sx Go.RowKit
variable {P : Program}

theorem encE_len (L : List E) : (L.flatMap encE).length = L.length * 2 := by
  induction L with
  | nil => rfl
  | cons a r ih => rw [List.flatMap_cons, List.length_append, ih]; simp [encE]; omega

theorem part_int {P : Program} {t : TypeId} {k : IntKind} (h : P.underlying t = some (.int k)) {xs : Array Value} {off : Nat} {v : Value} (hx : xs[off]? = some v) (w : World) : (part t xs off).run P w = .ok v w := by
  simp [part, isAgg, run_underlying h, hx]

theorem equalIn2 {P : Program} {t t1 t2 : TypeId} {k1 k2 : IntKind} (ht : P.underlying t = some (.struct (P.fieldsOf t))) (hp : P.stoodInHeld t = false)
    (hf : (P.fieldsOf t).toList.map (fun f => (f.name != "_", f.type, f.offset)) = [(true, t1, 0), (true, t2, 1)]) (h1 : P.underlying t1 = some (.int k1)) (h2 : P.underlying t2 = some (.int k2))
    {a b c d : Int} {w : World} : (Op.equalIn 10000 t (.agg #[.int k1 a, .int k2 b]) (.agg #[.int k1 c, .int k2 d])).run P w = .ok (decide (a = c ∧ b = d)) w := by
  rw [run_equalIn_struct w 9999 t _ _ ht hp]
  generalize (P.fieldsOf t).toList = fs at hf
  match fs, hf with
  | [], hf => simp at hf
  | [_], hf => simp at hf
  | _ :: _ :: _ :: _, hf => simp at hf
  | [f, g], hf =>
    simp only [List.map_cons, List.map_nil, List.cons.injEq, Prod.mk.injEq, bne_iff_ne, ne_eq, and_true] at hf
    obtain ⟨⟨n1, rfl, o1⟩, n2, rfl, o2⟩ := hf
    have p1 : ∀ x y : Int, (part f.type #[.int k1 x, .int k2 y] f.offset).run P w = .ok (.int k1 x) w := fun x y => part_int h1 (by rw [o1]; rfl) w
    have p2 : ∀ x y : Int, (part g.type #[.int k1 x, .int k2 y] g.offset).run P w = .ok (.int k2 y) w := fun x y => part_int h2 (by rw [o2]; rfl) w
    have q1 : (Op.equalIn 9999 f.type (.int k1 a) (.int k1 c)).run P w = .ok (a == c) w := run_equalIn_int w 9998 _ _ _ _ _ h1
    have q2 : (Op.equalIn 9999 g.type (.int k2 b) (.int k2 d)).run P w = .ok (b == d) w := run_equalIn_int w 9998 _ _ _ _ _ h2
    simp only [Op.eqFields, n1, n2, ne_eq, not_false_eq_true, if_true, Sem.run_bind, p1, p2, q1, q2, Result.andThen_ok, Sem.run_ite, Sem.run_pure]
    by_cases e1 : a = c <;> by_cases e2 : b = d <;> simp [e1, e2]

theorem run_eq2 {P : Program} {t t1 t2 : TypeId} {k1 k2 : IntKind} (ht : P.underlying t = some (.struct (P.fieldsOf t))) (hp : P.stoodInHeld t = false) (hm : P.eqGuardType P.depth t = false)
    (hf : (P.fieldsOf t).toList.map (fun f => (f.name != "_", f.type, f.offset)) = [(true, t1, 0), (true, t2, 1)]) (h1 : P.underlying t1 = some (.int k1)) (h2 : P.underlying t2 = some (.int k2))
    {a b c d : Int} {cx cy : Bool} {w : World} {K : Value → World → Prop} (hk : K (.bool (decide (a = c ∧ b = d))) w) :
    Run P (.eq .eql t cx cy (.agg #[.int k1 a, .int k2 b]) (.agg #[.int k1 c, .int k2 d])) w K := by
  refine ⟨_, w, ?_, hk⟩
  show (do eqGuard .eql t _ _ (.agg #[.int k1 a, .int k2 b]) (.agg #[.int k1 c, .int k2 d]); binOp .eql t (.agg #[.int k1 a, .int k2 b]) (.agg #[.int k1 c, .int k2 d]) : Sem Value).run P w = _
  rw [Sem.run_bind, run_eqGuard_agg w _ _ _ _ _ _ hm, Result.andThen_ok, run_eql_struct, equalIn2 ht hp hf h1 h2]
  rfl

theorem run_ne2 {P : Program} {t t1 t2 : TypeId} {k1 k2 : IntKind} (ht : P.underlying t = some (.struct (P.fieldsOf t))) (hp : P.stoodInHeld t = false) (hm : P.eqGuardType P.depth t = false)
    (hf : (P.fieldsOf t).toList.map (fun f => (f.name != "_", f.type, f.offset)) = [(true, t1, 0), (true, t2, 1)]) (h1 : P.underlying t1 = some (.int k1)) (h2 : P.underlying t2 = some (.int k2))
    {a b c d : Int} {cx cy : Bool} {w : World} {K : Value → World → Prop} (hk : K (.bool (!decide (a = c ∧ b = d))) w) :
    Run P (.eq .neq t cx cy (.agg #[.int k1 a, .int k2 b]) (.agg #[.int k1 c, .int k2 d])) w K := by
  refine ⟨_, w, ?_, hk⟩
  show (do eqGuard .neq t _ _ (.agg #[.int k1 a, .int k2 b]) (.agg #[.int k1 c, .int k2 d]); binOp .neq t (.agg #[.int k1 a, .int k2 b]) (.agg #[.int k1 c, .int k2 d]) : Sem Value).run P w = _
  rw [Sem.run_bind, run_eqGuard_agg w _ _ _ _ _ _ hm, Result.andThen_ok, run_neq_struct, equalIn2 ht hp hf h1 h2]
  rfl

theorem IndexE_k (p : Option Addr) (c : Nat) (L : List E) (h63 : (L.length : Int) ≤ 9223372036854775807) (x y : Int) (w : World) (h : Edges w p L) :
    FnP Tryd.prog F_slices_Index_api_Edge_api_Edge #[.slice p L.length c, .agg #[.int .i64 x, .int .i64 y]] w fun v w' => Ext w w' ∧ ∃ t, v = .int .i64 t ∧ (0 ≤ t ↔ ∃ e ∈ L, e.f = x ∧ e.t = y) := by
  refine ok_slices_Index_api_Edge_api_Edge p L.length c x y w _ ?_
  intro b0 _
  refine ⟨fun k w' => w' = w ∧ 0 ≤ k ∧ k ≤ L.length ∧ ∀ j : Nat, (j : Int) < k → ¬ ((ed L j).f = x ∧ (ed L j).t = y), fun k _ => (L.length - k).toNat, ⟨rfl, by omega, by omega, fun j hj => by omega⟩, ?_⟩
  rintro k w ⟨rfl, hk0, hk1, hno⟩
  refine ⟨fun hlt => ?_, fun hge w4 h4 => ⟨h4, _, rfl, ?_⟩⟩
  · obtain ⟨g1, g2, g3, g4⟩ := edges_at h hk0 hlt
    refine ⟨g1, hk0, hlt, g2, _, g3, _, g4, fun w6 h6 => run_eq2 (t1 := T_int) (t2 := T_int) (by kernel_rfl) (by kernel_rfl) (by kernel_rfl) (by kernel_rfl) (by kernel_rfl) (by kernel_rfl) ⟨Ext.refl _, _, rfl, fun hyes w9 h9 => ⟨h9, _, rfl, ?_⟩, fun hn => ⟨i64 (by omega), ⟨rfl, by omega, by omega, fun j hj => ?_⟩, by simp only []; omega⟩⟩⟩
    · rw [decide_eq_true_iff] at hyes
      exact ⟨fun _ => ⟨_, ed_mem (L := L) (i := k.toNat) (by omega), hyes.1.symm, hyes.2.symm⟩, fun _ => hk0⟩
    · rw [decide_eq_false_iff_not] at hn
      by_cases hjk : (j : Int) < k
      · exact hno j hjk
      · obtain rfl : j = k.toNat := by omega
        exact fun h => hn ⟨h.1.symm, h.2.symm⟩
  · constructor
    · intro h; omega
    · rintro ⟨e, he, h1, h2⟩
      obtain ⟨j, hj, rfl⟩ := mem_ed he
      exact absurd ⟨h1, h2⟩ (hno j (by omega))

theorem ContainsE_k (p : Option Addr) (c : Nat) (L : List E) (h63 : (L.length : Int) ≤ 9223372036854775807) (x y : Int) (w : World) (h : Edges w p L) :
    FnP Tryd.prog F_slices_Contains_api_Edge_api_Edge #[.slice p L.length c, .agg #[.int .i64 x, .int .i64 y]] w fun v w' => Ext w w' ∧ v = .bool (decide (∃ e ∈ L, e.f = x ∧ e.t = y)) := by
  refine ok_slices_Contains_api_Edge_api_Edge p L.length c x y w _ ?_
  intro b0 _ w1 h1
  refine (IndexE_k p c L h63 x y w1 (h.ext h1)).mono fun v w2 ⟨e2, t, hv, ht⟩ => ⟨e2, t, hv, fun w4 h4 => ⟨h4, ?_⟩⟩
  congr 1
  exact decide_eq_decide.2 ht

theorem CloneE_k (q : Option Addr) (c : Nat) (D : List E) (h60 : D.length ≤ 100000) (w : World) (hD : Edges w q D) :
    FnP Tryd.prog F_slices_Clone_api_Edge_api_Edge #[.slice q D.length c] w fun v w' => Ext w w' ∧ ∃ p' c', v = .slice p' D.length c' ∧ Own w.heap.size w' T_Edge 2 p' D.length c' (D.flatMap encE) := by
  refine ok_slices_Clone_api_Edge_api_Edge q D.length c w _ ⟨fun hn w0 h0 => ?_, fun hn w0 h0 => ?_⟩
  · cases D with
    | nil => exact ⟨h0, none, 0, rfl, Own.nil⟩
    | cons x r => exact absurd hn (edges_at hD (k := 0) (by omega) (by simp)).1
  · refine run_lit0 elem_sl_Edge fun w1 o1 e1 => ⟨e1, _, _, _, rfl, fun w5 h5 => ?_⟩
    have o5 := (o1 w.heap.size h0.size).ext h5
    have hx5 := (h0.trans e1).trans h5
    refine run_app elem_sl_Edge (by omega) o5 hx5.size hn (news := D.flatMap encE) (by rw [encE_len]) (fun i v hv => ?_) (fun u hu => ?_) (by omega) (by omega) fun p' c' w6 o6 g6 _ => ⟨_, _, _, rfl, fun w10 h10 => ?_⟩
    · have hi := (List.getElem?_eq_some_iff.1 hv).1
      rw [encE_len] at hi
      have hr := hD.ext hx5
      have h2 : (D.flatMap encE)[i]? = (encE (D.getD (i / 2) default))[i % 2]? := by
        clear hv hr hD h60
        revert i
        induction D with
        | nil => intro i hi; simp at hi
        | cons a r ih =>
          intro i hi
          rw [List.flatMap_cons]
          match i, hi with
          | 0, _ => rfl
          | 1, _ => rfl
          | i + 2, hi =>
            rw [List.getElem?_append_right (by simp [encE])]
            simp only [encE, List.length_cons, List.length_nil, Nat.add_sub_cancel]
            have := ih i (by simp at hi; omega)
            rw [show (i + 2) / 2 = i / 2 + 1 by omega, show (i + 2) % 2 = i % 2 by omega]
            simpa [encE] using this
      rw [h2] at hv
      have := hr (i / 2) (D.getD (i / 2) default) (getElem?_getD D default (by omega)) (i % 2) v hv
      rwa [show i / 2 * 2 + i % 2 = i by omega] at this
    · obtain ⟨x, _, hx⟩ := List.mem_flatMap.1 hu
      simp [encE] at hx
      rcases hx with rfl | rfl <;> rfl
    · simp only [Nat.zero_add, List.nil_append] at o6 ⊢
      exact ⟨(g6.ext hx5 o5).trans h10, p', c', rfl, o6.ext h10⟩

theorem edges_open {W : World} {p : Option Addr} {n c : Nat} (h : SlcArg Tryd.prog W T_Edge p n c) : ∃ L : List E, L.length = n ∧ (L.length : Int) ≤ 9223372036854775807 ∧ (∀ e ∈ L, InR .i64 e.f ∧ InR .i64 e.t) ∧ Edges W p L := by
  obtain ⟨L, h1, h2, h3⟩ := h.recs2 (α := E) (t1 := T_int) (t2 := T_int) (k1 := .i64) (k2 := .i64) (by kernel_rfl) (by kernel_rfl) (by kernel_rfl) (by kernel_rfl) (fun a b => ⟨a, b⟩) encE (fun _ _ => rfl)
  refine ⟨L, h1, ?_, fun e he => ?_, h3⟩
  · have := h.le; have := h.max; omega
  · obtain ⟨a, b, rfl, ha, hb⟩ := h2 e he
    exact ⟨ha, hb⟩

theorem push_recB {t ty e : TypeId} {z : Value} {s b : Nat} (he : slEl P t = some (e, s, b, z)) (hs : 0 < s) {B : Nat} {w : World} {p : Option Addr} {n c : Nat} {xs : List Value} {v : Value} {ns : List Nat}
    {K : Option Addr → Nat → Nat → World → Prop} (ho : Own B w e s p n c xs) (hB : B ≤ w.heap.size) (hv : v.cells.size = s) (h1 : ∀ u ∈ v.cells.toList, u.oneCell' = true) (hns : ∀ b ∈ ns, ∀ x, p = some x → x.block ≠ b) (hb : (n + 1) * b ≤ 140737488355328) (h24 : s ≤ 16777216) (hm : n + 1 ≤ 9223372036854775807)
    (hk : ∀ p' c' w', Own B w' e s p' (n + 1) c' (xs ++ v.cells.toList) → Grew w w' p p' → p' ≠ none → K p' (n + 1) c' w') :
    ∀ w1, ExtB [] ns w w1 → Run P (.buildSlice t 1 [(0, v)]) w1 fun v2 w2 => Ext w1 w2 ∧ ∃ q : Option Addr, ∃ m : Nat, ∃ d : Nat, v2 = .slice q m d ∧ ∀ w3, ExtB [] ns w2 w3 →
      Run P (.append #[t, t] ty [.slice p n c, .slice q m d]) w3 fun v4 w4 => Kept ns w3 w4 ∧ ∃ q' : Option Addr, ∃ m' : Nat, ∃ d' : Nat, v4 = .slice q' m' d' ∧ K q' m' d' w4 := by
  intro w1 x1
  have e1 := extB_ext x1
  refine run_lit he [v] rfl rfl (fun u hu => by simp at hu; subst hu; exact hv) (by omega) (by omega) fun w2 o2 e2 => ⟨e2, _, _, _, rfl, fun w3 x3 => ?_⟩
  have e3 := extB_ext x3
  have o2 := (o2 w1.heap.size (Nat.le_refl _)).ext e3
  have ho' := ((ho.ext e1).ext e2).ext e3
  have hsz : B ≤ w3.heap.size := Nat.le_trans hB (Nat.le_trans e1.size (Nat.le_trans e2.size e3.size))
  refine run_app he hs ho' hsz (by simp) (news := v.cells.toList) (by simp [hv]) (by simpa using o2.cells) h1 hb hm fun p' c' w4 h2 h3 h4 => ⟨fun b hb => ?_, _, _, _, rfl, hk p' c' w4 h2 ?_ ?_⟩
  · refine h3.by_.block b (x3.lt b hb) fun he => ?_
    cases p with
    | none => cases he
    | some y => simp [blk] at he; exact hns b hb y rfl he.symm
  · exact Grew.of_ext e1 (Grew.of_ext e2 (Grew.of_ext e3 h3))
  · intro hn; have := h4.1 hn; omega

theorem listB_k (S : Int) (hS : U S) (w : World) (hg : GL w) : FnP Tryd.prog F_match_list #[.int .u64 S] w fun v w' => Ext w w' ∧ ∃ q m d, v = .slice q m d ∧ Own w.heap.size w' T_int 1 q m d ((bitsOf S).map (.int .i64)) := by
  refine ok_match_list S w _ ?_
  refine ⟨fun q m d s w' => ∃ X : List Int, Ext w w' ∧ Own w.heap.size w' T_int 1 q m d (X.map (.int .i64)) ∧ U s ∧ bitsOf S = X ++ bitsOf s, fun _ _ _ s _ => s.toNat,
    ⟨[], Ext.refl _, Own.nil, hS, rfl⟩, ?_⟩
  rintro q m d s w3 ⟨X, hw, oX, hs, hall⟩
  have lenX := oX.leni
  have hl := congrArg List.length hall
  rw [List.length_append] at hl
  have hb := bitsOf_length (S := S)
  refine ⟨fun hne w4 h4 => ?_, fun he w4 h4 => ⟨hw.trans h4, q, m, d, rfl, ?_⟩⟩
  · have hu := U_iff.1 hs
    obtain ⟨t1, t2, t3, t4⟩ := tzbits (x := s.toNat) (by omega) (by omega)
    generalize hT : Lib.ctz 64 s.toNat = t at t1 t2 t3 t4
    have ht3 : tb s t = true := by rw [tb_nat hs]; exact t3
    refine (TZ_k s hs hne w4 (hg.ext (hw.trans h4))).mono fun v w5 ⟨e5, hv⟩ => ⟨e5, _, hv, ?_⟩
    rw [hT]
    have hs1 : U (s - 1) := by rw [U_iff]; omega
    have hbit : ∀ i, tb (iBit .and .u64 s (s - 1)) i = (tb s i && decide (i ≠ t)) := fun i => by
      have := t4 i
      rw [Nat.testBit_and] at this
      rw [tb_and, tb_nat hs, tb_nat hs1, show (s - 1).toNat = s.toNat - 1 by omega]
      exact this
    have hU := U_and s (s - 1)
    have hdec : (iBit .and .u64 s (s - 1)).toNat < s.toNat := by
      have he : (iBit .and .u64 s (s - 1)).toNat = s.toNat &&& (s.toNat - 1) := by
        apply Nat.eq_of_testBit_eq
        intro i
        rw [← tb_nat hU, hbit, t4, tb_nat hs]
      rw [he]
      have := Nat.and_le_right (n := s.toNat) (m := s.toNat - 1)
      omega
    have hcons := bitsOf_cons (S := s) (S' := iBit .and .u64 s (s - 1)) t1 (fun i hi => by rw [tb_nat hs]; exact t2 i hi) ht3 hbit
    refine push_int elem_sl_int oX hw.size (by omega) (by omega) fun q' d' w' o' g _ => ⟨hs1, ⟨_, g.ext hw oX, o', hU, ?_⟩, hdec⟩
    rw [hall, hcons]; simp
  · subst he
    rw [bitsOf_zero, List.append_nil] at hall
    rw [hall]; exact oX.ext h4


theorem IndexI_k (p : Option Addr) (c : Nat) (X : List Int) (h63 : (X.length : Int) ≤ 9223372036854775807) (x : Int) (w : World) (h : Ints .i64 w p X) :
    FnP Tryd.prog F_slices_Index_int_int #[.slice p X.length c, .int .i64 x] w fun v w' => Ext w w' ∧ ∃ t, v = .int .i64 t ∧ (0 ≤ t ↔ x ∈ X) := by
  refine ok_slices_Index_int_int p X.length c x w _ ?_
  refine ⟨fun k w' => w' = w ∧ 0 ≤ k ∧ k ≤ X.length ∧ ∀ j : Nat, (j : Int) < k → X.getD j 0 ≠ x, fun k _ => (X.length - k).toNat, ⟨rfl, by omega, by omega, fun j hj => by omega⟩, ?_⟩
  rintro k w ⟨rfl, hk0, hk1, hno⟩
  refine ⟨fun hlt => ?_, fun hge w4 h4 => ⟨h4, _, rfl, ?_⟩⟩
  · have g := Ints.idx h hk0 hlt
    refine ⟨fun hq => cell_p g (pIdx_none.2 hq), hk0, hlt, _, g, fun hyes w9 h9 => ⟨h9, _, rfl, fun _ => ?_, fun _ => hk0⟩, fun hn => ⟨i64 (by omega), ⟨rfl, by omega, by omega, fun j hj => ?_⟩, by simp only []; omega⟩⟩
    · rw [hyes]; exact getD_mem X 0 (by omega)
    · by_cases hjk : (j : Int) < k
      · exact hno j hjk
      · obtain rfl : j = k.toNat := by omega
        exact fun he => hn he.symm
  · constructor
    · intro h; omega
    · intro hm
      obtain ⟨j, hj, rfl⟩ := List.getElem_of_mem hm
      exact absurd (by simp [List.getD_eq_getElem?_getD, hj]) (hno j (by omega))

theorem ContainsI_k (p : Option Addr) (c : Nat) (X : List Int) (h63 : (X.length : Int) ≤ 9223372036854775807) (x : Int) (w : World) (h : Ints .i64 w p X) :
    FnP Tryd.prog F_slices_Contains_int_int #[.slice p X.length c, .int .i64 x] w fun v w' => Ext w w' ∧ v = .bool (decide (x ∈ X)) := by
  refine ok_slices_Contains_int_int p X.length c x w _ ?_
  intro w1 h1
  refine (IndexI_k p c X h63 x w1 (h.ext h1)).mono fun v w2 ⟨e2, t, hv, ht⟩ => ⟨e2, t, hv, fun w4 h4 => ⟨h4, ?_⟩⟩
  congr 1
  exact decide_eq_decide.2 ht

end Go.Proofs.YtlacdincnpbpdaaDoor
