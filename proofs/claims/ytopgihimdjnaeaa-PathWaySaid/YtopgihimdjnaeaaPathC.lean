/- The way of critical things; the law PathWay. -/
import Derived.Test.YtopgihimdjnaeaaPathS
import Derived.Test.YtopgihimdjnaeaaTxtD
set_option linter.unusedVariables false
set_option linter.unusedSimpArgs false
namespace Go.Proofs.Ytopgihimdjnaeaa
open Go.Sx Go.RowKit

theorem IndexI_k (p : Option Addr) (c : Nat) (X : List Int) (h63 : (X.length : Int) ≤ 9223372036854775807) (x : Int) (w : World) (h : Ints .i64 w p X) :
    FnP Try.prog F_slices_Index_int_int #[.slice p X.length c, .int .i64 x] w fun v w' => Ext w w' ∧ ∃ t, v = .int .i64 t ∧ (0 ≤ t ↔ x ∈ X) := by
  refine ok_slices_Index_int_int p X.length c x w _ ?_
  refine ⟨fun k w' => w' = w ∧ 0 ≤ k ∧ k ≤ X.length ∧ ∀ j : Nat, (j : Int) < k → X.getD j 0 ≠ x, fun k _ => (X.length - k).toNat, ⟨rfl, by omega, by omega, fun j hj => by omega⟩, ?_⟩
  rintro k w ⟨rfl, hk0, hk1, hno⟩
  refine ⟨fun hlt => ?_, fun hge w4 h4 => ⟨h4, _, rfl, ?_⟩⟩
  · have hget := Ints.idx h hk0 hlt
    refine ⟨fun hq => cell_p hget (pIdx_none.2 hq), hk0, hlt, _, hget, fun hyes w9 h9 => ⟨h9, _, rfl, ?_⟩, fun hn => ⟨i64 (by omega), ⟨rfl, by omega, by omega, fun j hj => ?_⟩, by simp only []; omega⟩⟩
    · exact ⟨fun _ => by rw [hyes]; exact getD_mem X 0 (by omega), fun _ => hk0⟩
    · by_cases hjk : (j : Int) < k
      · exact hno j hjk
      · obtain rfl : j = k.toNat := by omega
        exact fun h => hn h.symm
  · constructor
    · intro h; omega
    · intro hx
      obtain ⟨j, hj, rfl⟩ := List.getElem_of_mem hx
      exact absurd (by simp [List.getD_eq_getElem?_getD, hj]) (hno j (by omega))

theorem ContainsI_k (p : Option Addr) (c : Nat) (X : List Int) (h63 : (X.length : Int) ≤ 9223372036854775807) (x : Int) (w : World) (h : Ints .i64 w p X) :
    FnP Try.prog F_slices_Contains_int_int #[.slice p X.length c, .int .i64 x] w fun v w' => Ext w w' ∧ v = .bool (decide (x ∈ X)) := by
  refine ok_slices_Contains_int_int p X.length c x w _ ?_
  intro w1 h1
  refine (IndexI_k p c X h63 x w1 (h.ext h1)).mono fun v w2 ⟨e2, t, hv, ht⟩ => ⟨e2, t, hv, fun w4 h4 => ⟨h4, ?_⟩⟩
  congr 1
  exact decide_eq_decide.2 ht

theorem ErrT.same {n : Int} {L : List E} {D : List Int} {e f : Int} (h : ErrT n L D e) (k : ErrT n L D f) : e = f := by
  by_cases h1 : okG n L
  · by_cases h2 : okD n D
    · rw [(h.1 h1 h2).1, (k.1 h1 h2).1]
    · rw [h.2.1 h1 h2, k.2.1 h1 h2]
  · rw [h.2.2 h1, k.2.2 h1]

/-- Two calls agree whether there is an order. -/
theorem times_same {n : Int} {L : List E} {D : List Int} {e f : Int} (h : e ≠ 0 → ErrT n L D e) (h0 : e = 0 → okG n L ∧ okD n D ∧ ∃ A, Topo n.toNat L A) (k : f ≠ 0 → ErrT n L D f) (k0 : f = 0 → okG n L ∧ okD n D ∧ ∃ A, Topo n.toNat L A) : e = f := by
  by_cases he : e = 0 <;> by_cases hf : f = 0
  · omega
  · exfalso
    obtain ⟨g1, g2, A, hA⟩ := h0 he
    obtain ⟨_, i, hi, hb⟩ := (k hf).1 g1 g2
    exact hA.noKnot hi hb
  · exfalso
    obtain ⟨g1, g2, A, hA⟩ := k0 hf
    obtain ⟨_, i, hi, hb⟩ := (h he).1 g1 g2
    exact hA.noKnot hi hb
  · exact (h he).same (k hf)

theorem Critical_k (n : Int) (p : Option Addr) (c : Nat) (L : List E) (h63 : (L.length : Int) ≤ 9223372036854775807) (q : Option Addr) (c2 : Nat) (D : List Int) (h64 : (D.length : Int) ≤ 9223372036854775807) (w : World) (h : Edges w p L) (hD : Ints .i64 w q D) :
    FnP Try.prog F_path_Critical #[.int .i64 n, .slice p L.length c, .slice q D.length c2] w fun v w' => Ext w w' ∧ ∃ r m d e, v = .tuple #[.slice r m d, .int .i64 e] ∧ (e ≠ 0 → m = 0 ∧ ErrT n L D e) ∧
      (e = 0 → okG n L ∧ okD n D ∧ (∃ A, Topo n.toNat L A) ∧ ∃ Ea La Sp, Plan n.toNat L D Ea La Sp ∧ ∃ C : List Int, Own w.heap.size w' T_int 1 r m d (C.map (.int .i64)) ∧ ∀ i : Nat, i < n.toNat → ((i : Int) ∈ C ↔ Ea.getD i 0 = La.getD i 0)) := by
  refine ok_path_Critical n p L.length c q D.length c2 w _ ?_
  intro w0 h0
  refine (Times_k n p c L h63 q c2 D h64 w0 (h.ext h0) (hD.ext h0)).mono fun v w1 ⟨e1, qe, el, ec, ql, ll, lc, Sp, e, hv, hbad, hgood⟩ => ⟨e1, _, _, _, _, _, _, _, _, hv, fun b10 hb10 => ⟨fun hne w11 h11 => ⟨(h0.trans e1).trans h11, _, _, _, _, rfl, fun hne => ⟨rfl, (hbad hne).2.2.2⟩, fun h => absurd h hne⟩, fun he => ?_⟩⟩
  obtain ⟨hok, hokD, hel, hll, hA, Ea, La, oE, oL, hP⟩ := hgood he
  obtain ⟨N, rfl⟩ : ∃ N : Nat, n = N := ⟨n.toNat, by have := hok.1; omega⟩
  have hN : N ≤ 60 := by have := hok.2.1; omega
  have hx1 := h0.trans e1
  simp only [Int.toNat_natCast] at hP hA ⊢
  have lenE := hP.eLen
  have lenL := hP.lLen
  refine ⟨fun r m d k w' => ∃ C : List Int, Ext w1 w' ∧ Own w1.heap.size w' T_int 1 r m d (C.map (.int .i64)) ∧ (∀ x, r = some x → x.block ≠ b10) ∧ 0 ≤ k ∧ k ≤ N ∧ (m : Int) ≤ k ∧ ∀ i : Nat, (i : Int) ∈ C ↔ (i : Int) < k ∧ Ea.getD i 0 = La.getD i 0, fun _ _ _ k _ => (N - k).toNat,
    ⟨[], Ext.refl _, Own.nil, fun x hx => (by cases hx), by omega, by omega, by omega, fun i => by simp; omega⟩, ?_⟩
  rintro r m d k w14 ⟨C, hw, oC, hrb, hk0, hk1, hm, hC⟩
  refine ⟨fun hlt => ?_, fun hge w15 h15 => ⟨(hx1.trans hw).trans h15, r, m, d, 0, rfl, fun h => absurd rfl h, fun _ => ⟨hok, hokD, hA, Ea, La, Sp, hP, C, (oC.weak hx1.size).ext h15, fun i hi => ?_⟩⟩⟩
  · have gE := (oE.ext hw).int_at hk0 (by omega)
    have gL := (oL.ext hw).int_at hk0 (by omega)
    refine ⟨cell_p gE |> fun h hq => h (pIdx_none.2 hq), hk0, by omega, _, gE, cell_p gL |> fun h hq => h (pIdx_none.2 hq), hk0, by omega, _, gL, fun heq => ?_, fun hne => ⟨i64 (by omega), ⟨C, hw, oC, hrb, by omega, by omega, by omega, fun i => ?_⟩, by simp only []; omega⟩⟩
    · refine push_intB elem_sl_int oC hw.size (fun b hb x hx => by simp at hb; subst hb; exact hrb x hx) (by omega) (by omega) fun r' d' w' o' g hne hnew => ⟨i64 (by omega), ⟨_, g.ext hw oC, o', hnew _ (by simp), by omega, by omega, by omega, fun i => ?_⟩, by simp only []; omega⟩
      simp only [List.mem_append, List.mem_singleton, hC]
      constructor
      · rintro (⟨h1, h2⟩ | h1)
        · exact ⟨by omega, h2⟩
        · refine ⟨by omega, ?_⟩
          obtain rfl : i = k.toNat := by omega
          exact heq
      · rintro ⟨h1, h2⟩
        by_cases hik : (i : Int) < k
        · exact .inl ⟨hik, h2⟩
        · exact .inr (by omega)
    · rw [hC]
      constructor
      · rintro ⟨h1, h2⟩; exact ⟨by omega, h2⟩
      · rintro ⟨h1, h2⟩
        by_cases hik : (i : Int) < k
        · exact ⟨hik, h2⟩
        · obtain rfl : i = k.toNat := by omega
          exact absurd h2 hne
  · rw [hC]
    exact ⟨fun h => h.2, fun h => ⟨by omega, h⟩⟩

/-- 'tight': both times of one are at. -/
theorem tight_k {N : Nat} {L : List E} {D Ea La : List Int} {Sp : Int} (hP : Plan N L D Ea La Sp) (pp qe ql : Option Addr) (ec lc : Nat) (i at_ : Int) (hi0 : 0 ≤ i) (hi1 : i < N) (w : World) (hp : Cells w pp [.slice qe N ec, .slice ql N lc, .int .i64 Sp]) (hE : Ints .i64 w qe Ea) (hL : Ints .i64 w ql La) :
    FnP Try.prog F_path_Way_1 #[.int .i64 i, .int .i64 at_, .pointer pp] w fun v w' => Ext w w' ∧ v = .bool (decide (Ea.getD i.toNat 0 = at_ ∧ La.getD i.toNat 0 = at_)) := by
  have h0 := hp 0 _ rfl
  have h1 := hp 1 _ rfl
  have lenE := hP.eLen
  have lenL := hP.lLen
  have gE := Ints.idx hE hi0 (by omega)
  have gL := Ints.idx hL hi0 (by omega)
  refine ok_path_Way_1 i at_ pp w _ ⟨cell_p h0, _, _, _, (by rw [cell_pAdd]; exact h0), fun hq => cell_p gE (pIdx_none.2 hq), hi0, by omega, _, gE, fun _ => cell_p h0, fun he => ⟨_, _, _, (by rw [cell_pAdd]; exact h1), fun hq => cell_p gL (pIdx_none.2 hq), hi0, by omega, _, gL, fun w8 h8 => ⟨h8, ?_⟩⟩, fun hne w4 h4 => ⟨h4, ?_⟩⟩
  · congr 1
    rw [decide_eq_decide]
    exact ⟨fun h => ⟨he, h⟩, fun h => h.2⟩
  · congr 1
    symm
    rw [decide_eq_false_iff_not]
    exact fun h => hne h.1

theorem least_k (N : Nat) (hN : N ≤ 60) (f : Value) (p1 : Option Addr) (w : World) (Pr : Int → Bool) (hc : cell w p1 0 = some (.int .i64 N))
    (hf : ∀ (k : Int) w', 0 ≤ k → k < N → Ext w w' → FnVP Try.prog f [.int .i64 k] w' fun v w'' => Ext w' w'' ∧ v = .bool (Pr k)) :
    FnP Try.prog F_path_Way_2 #[f, .pointer p1] w fun v w' => Ext w w' ∧ ∃ t, v = .int .i64 t ∧ ((0 ≤ t ∧ t < N ∧ Pr t = true) ∨ (t = -1 ∧ ∀ k : Int, 0 ≤ k → k < N → Pr k = false)) := by
  refine ok_path_Way_2 f p1 w _ ⟨N, hc, fun k w' => Ext w w' ∧ 0 ≤ k ∧ k ≤ N ∧ ∀ j : Int, 0 ≤ j → j < k → Pr j = false, fun k _ => (N - k).toNat, ⟨Ext.refl _, by omega, by omega, fun j _ _ => by omega⟩, ?_⟩
  rintro k w3 ⟨hw, hk0, hk1, hall⟩
  refine ⟨fun hlt w4 h4 => ?_, fun hge w4 h4 => ⟨hw.trans h4, -1, rfl, .inr ⟨rfl, fun j h0 h1 => hall j h0 (by omega)⟩⟩⟩
  obtain ⟨g, cap, hv, hF⟩ := hf k w4 hk0 hlt (hw.trans h4)
  refine ⟨g, cap, hv, hF.mono fun v w5 ⟨e5, hv⟩ => ⟨e5, _, hv, fun ht w7 h7 => ⟨hw.trans h7, k, rfl, .inl ⟨hk0, hlt, ht⟩⟩, fun hf => ⟨i64 (by omega), ⟨hw, by omega, by omega, fun j h0 h1 => ?_⟩, by simp only []; omega⟩⟩⟩
  by_cases hjk : j = k
  · rw [hjk]; exact hf
  · exact hall j h0 (by omega)

open Classical in
/-- Is there an edge from one to k, that begins just then? -/
theorem next_k {N : Nat} {L : List E} {D Ea La : List Int} {Sp : Int} (hP : Plan N L D Ea La Sp) (h63 : (L.length : Int) ≤ 9223372036854775807) (p3 p52 p22 p47 p19 p qe ql : Option Addr) (lc ec lcc : Nat) (k was end_ : Int) (hk0 : 0 ≤ k) (hk1 : k < N) (w : World)
    (h3 : cell w p3 0 = some (.slice p L.length lc)) (h52 : cell w p52 0 = some (.int .i64 was)) (h22 : cell w p22 0 = some (.func (.func F_path_Way_1) #[] #[.pointer p19])) (h47 : cell w p47 0 = some (.int .i64 end_))
    (hLm : Edges w p L) (hp : Cells w p19 [.slice qe N ec, .slice ql N lcc, .int .i64 Sp]) (hE : Ints .i64 w qe Ea) (hL : Ints .i64 w ql La) :
    FnP Try.prog F_path_Way_4 #[.int .i64 k, .pointer p3, .pointer p52, .pointer p22, .pointer p47] w fun v w' => Ext w w' ∧ v = .bool (decide ((∃ e ∈ L, e.f = was ∧ e.t = k) ∧ Ea.getD k.toNat 0 = end_ ∧ La.getD k.toNat 0 = end_)) := by
  refine ok_path_Way_4 k p3 p52 p22 p47 w _ ⟨_, _, _, h3, fun j w' => Ext w w' ∧ 0 ≤ j ∧ j ≤ L.length ∧ ∀ m : Nat, (m : Int) < j → (ed L m).f = was → (ed L m).t = k → ¬ (Ea.getD k.toNat 0 = end_ ∧ La.getD k.toNat 0 = end_), fun j _ => (L.length - j).toNat, ⟨Ext.refl _, by omega, by omega, fun m hm => by omega⟩, ?_⟩
  rintro j w5 ⟨hw, hj0, hj1, hall⟩
  refine ⟨fun hlt => ?_, fun hge w6 h6 => ⟨hw.trans h6, ?_⟩⟩
  · obtain ⟨g1, g2, g3, g4⟩ := edges_at (hLm.ext hw) hj0 hlt
    refine ⟨g1, hj0, hlt, g2, _, g3, _, g4, fun b8 _ => ⟨was, ext_cell hw h52, fun hyes => ⟨_, ext_cell hw h22, end_, ext_cell hw h47, fun w12 h12 => ?_⟩, fun hno => ⟨i64 (by omega), ⟨hw, by omega, by omega, fun m hm hf ht => ?_⟩, by simp only []; omega⟩⟩⟩
    · have hx := hw.trans h12
      refine ⟨F_path_Way_1, #[.pointer p19], rfl, ((tight_k hP p19 qe ql ec lcc k end_ hk0 hk1 w12 (hp.ext hx) (hE.ext hx) (hL.ext hx) :) : FnP Try.prog F_path_Way_1 _ _ _).mono fun v w13 ⟨e13, hv⟩ => ⟨e13, _, hv, fun ht w15 h15 => ⟨hw.trans h15, ?_⟩, fun hf => ⟨i64 (by omega), ⟨hw, by omega, by omega, fun m hm hmf hmt => ?_⟩, by simp only []; omega⟩⟩⟩
      · rw [decide_eq_true_iff] at ht
        rw [decide_eq_true_iff.2]
        exact ⟨⟨_, ed_mem (L := L) (i := j.toNat) (by omega), hyes.1, hyes.2⟩, ht⟩
      · rw [decide_eq_false_iff_not] at hf
        exact hf
    · by_cases hmj : (m : Int) < j
      · exact hall m hmj hf ht
      · obtain rfl : m = j.toNat := by omega
        omega
  · symm
    have : ¬ ((∃ e ∈ L, e.f = was ∧ e.t = k) ∧ Ea.getD k.toNat 0 = end_ ∧ La.getD k.toNat 0 = end_) := by
      rintro ⟨⟨e, he, h1, h2⟩, h4⟩
      obtain ⟨m, hm, rfl⟩ := mem_ed he
      exact hall m (by omega) h1 h2 h4
    simp only [this, decide_false]

/-- A row of critical things, each by an edge behind the one ahead of it. -/
structure WayTo (N : Nat) (L : List E) (D Ea La X : List Int) : Prop where
  crit : ∀ x ∈ X, 0 ≤ x ∧ x < N ∧ g0 Ea x = g0 La x
  first : ∀ x, X[0]? = some x → g0 Ea x = 0
  edge : ∀ (k : Nat) (x y : Int), X[k]? = some x → X[k + 1]? = some y → (∃ e ∈ L, e.f = x ∧ e.t = y) ∧ g0 Ea y = g0 Ea x + g0 D x

open Classical in
noncomputable def posOf (A : List Int) (i : Int) : Nat := if h : ∃ p, A[p]? = some i then h.choose else 0
theorem posOf_some {N : Nat} {L : List E} {A : List Int} (hA : Topo N L A) {i : Int} (h0 : 0 ≤ i) (h1 : i < N) : A[posOf A i]? = some i := by
  obtain ⟨p, hp, _⟩ := hA.place (i := i.toNat) (by omega)
  rw [Int.toNat_of_nonneg h0] at hp
  have hex : ∃ p, A[p]? = some i := ⟨p, hp⟩
  unfold posOf
  rw [dif_pos hex]
  exact hex.choose_spec

/-- There is a critical one that begins at once. -/
theorem crit_first {N : Nat} {L : List E} {A D Ea La : List Int} {Sp : Int} (hN : 0 < N) (hA : Topo N L A) (hL : OkL N L) (hP : Plan N L D Ea La Sp) (hD0 : ∀ i : Nat, i < N → 0 ≤ D.getD i 0) : ∃ i : Nat, i < N ∧ Ea.getD i 0 = 0 ∧ La.getD i 0 = 0 := by
  have sl := hP.pf.slack hA hL
  have key := hA.ind hL (fun j => Ea.getD j 0 = La.getD j 0 → ∃ i : Nat, i < N ∧ Ea.getD i 0 = 0 ∧ La.getD i 0 = 0) (fun j hj ih hc => by
    rcases hP.eEq j hj with h0 | ⟨x, hx, hxt, he⟩
    · exact ⟨j, hj, h0, by rw [← hc]; exact h0⟩
    · have hb := hL x hx
      refine ih x hx hxt ?_
      have h1 := hP.lLe x hx
      have h2 := sl x.f.toNat (by omega)
      rw [hxt] at h1
      simp only [g0, Int.toNat_natCast] at h1 h2 he ⊢
      omega)
  rcases hP.sEq with h0 | ⟨j, hj, hs⟩
  · have h1 := hP.lS 0 hN
    have h2 := sl 0 hN
    have h3 := hP.e0 0 hN
    have h4 := hP.sLe 0 hN
    simp only [g0, Int.toNat_natCast] at h2
    obtain ⟨i, hi⟩ : ∃ i : Nat, A[0]? = some (i : Int) ∧ i < N := by
      have hl := hA.len
      have hm : A[0]'(by omega) ∈ A := List.getElem_mem _
      obtain ⟨i, hi, hlt⟩ := hA.inn _ hm
      exact ⟨i, by rw [List.getElem?_eq_getElem (by omega), hi], hlt⟩
    refine key i hi.2 ?_
    have e1 := hP.e0 i hi.2
    have e2 := hP.sLe i hi.2
    have e3 := hP.lS i hi.2
    have e4 := sl i hi.2
    simp only [g0, Int.toNat_natCast] at e4
    have d0 := hD0 i hi.2
    rcases hP.lEq i hi.2 with h' | ⟨y, hy, hyf, he⟩
    · omega
    · have hb := hL y hy
      have f1 := hP.lS y.t.toNat (by omega)
      have f2 := hP.e0 y.t.toNat (by omega)
      have f4 := sl y.t.toNat (by omega)
      have f5 := hD0 y.t.toNat (by omega)
      simp only [g0, Int.toNat_natCast] at f4 he
      omega
  · refine key j hj ?_
    have h1 := hP.lS j hj
    have h2 := sl j hj
    simp only [g0, Int.toNat_natCast] at h2
    omega

/-- Behind a critical one that is not the last comes a critical one. -/
theorem crit_next {N : Nat} {L : List E} {A D Ea La : List Int} {Sp : Int} (hA : Topo N L A) (hL : OkL N L) (hP : Plan N L D Ea La Sp) {i : Nat} (hi : i < N) (hc : Ea.getD i 0 = La.getD i 0) (hne : Ea.getD i 0 + D.getD i 0 ≠ Sp) :
    ∃ k : Nat, k < N ∧ (∃ e ∈ L, e.f = i ∧ e.t = k) ∧ Ea.getD k 0 = Ea.getD i 0 + D.getD i 0 ∧ La.getD k 0 = Ea.getD i 0 + D.getD i 0 := by
  have sl := hP.pf.slack hA hL
  rcases hP.lEq i hi with h | ⟨x, hx, hxf, he⟩
  · omega
  · have hb := hL x hx
    have h1 := hP.eLe x hx
    have h2 := sl x.t.toNat (by omega)
    rw [hxf] at h1
    simp only [g0, Int.toNat_natCast] at h1 h2 he
    exact ⟨x.t.toNat, by omega, ⟨x, hx, hxf, by omega⟩, by omega, by omega⟩

theorem sumW_step {N : Nat} {L : List E} {D Ea La X : List Int} (h : WayTo N L D Ea La X) : ∀ k, k < X.length → sumL ((X.take (k + 1)).map (g0 D)) = g0 Ea (X.getD k 0) + g0 D (X.getD k 0) := by
  intro k
  induction k with
  | zero =>
    intro hk
    have hl : 0 < (X.map (g0 D)).length := by simpa using hk
    have := sumL_take_succ (X.map (g0 D)) hl
    rw [List.map_take, this]
    have h0 := h.first (X.getD 0 0) (getElem?_getD X 0 hk)
    rw [h0]
    simp [sumL, List.getD_eq_getElem?_getD, hk]
  | succ k ih =>
    intro hk
    have hl : k + 1 < (X.map (g0 D)).length := by simpa using hk
    have := sumL_take_succ (X.map (g0 D)) hl
    rw [List.map_take, this, ← List.map_take, ih (by omega)]
    have h1 := (h.edge k _ _ (getElem?_getD X 0 (by omega)) (getElem?_getD X 0 hk)).2
    rw [h1]
    congr 1
    simp [List.getD_eq_getElem?_getD, hk]

theorem cells3 {w : World} {p : Option Addr} {B e s n c : Nat} {vs : List Value} (h : Own B w e s p n c vs) : Cells w p vs := h.cells

theorem Way_k (n : Int) (hn : InR .i64 n) (p : Option Addr) (c : Nat) (L : List E) (h63 : (L.length : Int) ≤ 9223372036854775807) (q : Option Addr) (c2 : Nat) (D : List Int) (h64 : (D.length : Int) ≤ 9223372036854775807) (w : World) (h : Edges w p L) (hD : Ints .i64 w q D) :
    FnP Try.prog F_path_Way #[.int .i64 n, .slice p L.length c, .slice q D.length c2] w fun v w' => Ext w w' ∧ ∃ r m d e, v = .tuple #[.slice r m d, .int .i64 e] ∧ (e ≠ 0 → m = 0 ∧ ErrT n L D e) ∧
      (e = 0 → okG n L ∧ okD n D ∧ (∃ A, Topo n.toNat L A) ∧ ∃ Ea La Sp, Plan n.toNat L D Ea La Sp ∧ ∃ X : List Int, Own w.heap.size w' T_int 1 r m d (X.map (.int .i64)) ∧ m ≤ 60 ∧ WayTo n.toNat L D Ea La X ∧ (n = 0 → X = []) ∧ (X = [] → n = 0) ∧ ∀ x, X.getLast? = some x → g0 Ea x + g0 D x = Sp) := by
  refine ok_path_Way n p L.length c q D.length c2 w _ ?_
  intro w0 h0
  refine new_own (by intro v hv; simp at hv; subst hv; rfl) fun w1 o1 e1 w2 h2 => ?_
  have o1 := o1 w0.heap.size (Nat.le_refl _)
  generalize (some (⟨w0.heap.size, 0, none⟩ : Addr)) = p1 at o1
  have hx2 := (h0.trans e1).trans h2
  refine new_own (by intro v hv; simp at hv; subst hv; rfl) fun w3 o3 e3 => ?_
  have o3 := o3 w2.heap.size (Nat.le_refl _)
  generalize (some (⟨w2.heap.size, 0, none⟩ : Addr)) = p3 at o3
  have hx3 := hx2.trans e3
  have c1 := ((o1.ext h2).ext e3).cells 0 _ rfl
  have c3 := o3.cells 0 _ rfl
  refine ⟨n, c1, p, L.length, c, c3, fun w8 h8 => ?_⟩
  have hx8 := hx3.trans h8
  refine (Times_k n p c L h63 q c2 D h64 w8 (h.ext hx8) (hD.ext hx8)).mono fun v w9 ⟨e9, qe, el, ec, ql, ll, lc, Sp, e, hv, hbad, hgood⟩ => ⟨e9, _, _, _, _, _, _, _, _, hv, fun w18 h18 => ?_⟩
  have hx18 := (hx8.trans e9).trans h18
  refine new_own (by intro v hv; simp at hv; rcases hv with rfl | rfl <;> rfl) fun w19 o19 e19 => ?_
  have o19 := o19 w18.heap.size (Nat.le_refl _)
  have hqn : (some (⟨w18.heap.size, 0, none⟩ : Addr)) ≠ none := by simp
  generalize (some (⟨w18.heap.size, 0, none⟩ : Addr)) = p19 at o19 hqn
  refine store_own (off := 0) o19 (map_add0 _) (by simp) (by simp) (by intro v hv; simp at hv; rcases hv with rfl | rfl | rfl <;> rfl) (by simp) fun w20 o20 g20 => ?_
  have hx20 : Ext w18 w20 := g20.ext e19 o19
  have hW20 := hx18.trans hx20
  refine ⟨fun hne w21 h21 => ⟨hW20.trans h21, _, _, _, _, rfl, fun _ => ⟨rfl, (hbad hne).2.2.2⟩, fun he => absurd he hne⟩, fun he w21 h21 => ?_⟩
  obtain ⟨hok, hokD, hel, hll, ⟨A, hA⟩, Ea, La, oE, oL, hP⟩ := hgood he
  obtain ⟨N, rfl⟩ : ∃ N : Nat, n = N := ⟨n.toNat, by have := hok.1; omega⟩
  have hN : N ≤ 60 := by have := hok.2.1; omega
  obtain rfl : N = el := by omega
  obtain rfl : N = ll := by omega
  have hOk := orderOk hok
  simp only [Int.toNat_natCast] at hP hA hOk ⊢
  have hD0 : ∀ i : Nat, i < N → 0 ≤ D.getD i 0 := fun i hi => (hokD.2 _ (getD_mem D 0 (by have := hokD.1; omega))).1
  have lenE := hP.eLen
  have lenL := hP.lLen
  have lenD := hokD.1
  refine new_own (by intro v hv; simp at hv; subst hv; rfl) fun w22 o22 e22 => ?_
  have o22 := o22 w21.heap.size (Nat.le_refl _)
  generalize (some (⟨w21.heap.size, 0, none⟩ : Addr)) = p22 at o22
  refine store_own (off := 0) o22 (map_add0 _) (by simp) (by simp) (by intro v hv; simp at hv; subst hv; rfl) (by simp) fun w23 o23 g23 => ?_
  have hx21_23 : Ext w21 w23 := g23.ext e22 o22
  have h20_23 := h21.trans hx21_23
  have h18_23 := hx20.trans h20_23
  have hW23 := hx18.trans h18_23
  -- what is known from now on
  have c1 : cell w23 p1 0 = some (.int .i64 (N : Int)) := ext_cell ((((h8.trans e9).trans h18).trans h18_23)) c1
  have c3 : cell w23 p3 0 = some (.slice p L.length c) := ext_cell ((((h8.trans e9).trans h18).trans h18_23)) c3
  have hp : Cells w23 p19 [.slice qe N ec, .slice ql N lc, .int .i64 Sp] := (o20.ext h20_23).cells
  have hc22 : cell w23 p22 0 = some (.func (.func F_path_Way_1) #[] #[.pointer p19]) := o23.cells 0 _ rfl
  have hE23 : Ints .i64 w23 qe Ea := (oE.ext (h18.trans h18_23)).cells
  have hL23 : Ints .i64 w23 ql La := (oL.ext (h18.trans h18_23)).cells
  have hLm := h.ext hW23
  have hDm := hD.ext hW23
  clear o23 g23 o22 o20 g20 o19 hv
  have sl := hP.pf.slack hA hOk
  refine fun w24 h24 => ?_
  have hcl : ∀ (k : Int) w', 0 ≤ k → k < N → Ext w24 w' → FnVP Try.prog (.func (.func F_path_Way_3) #[] #[.pointer p22]) [.int .i64 k] w' fun v w'' => Ext w' w'' ∧ v = .bool (decide (Ea.getD k.toNat 0 = 0 ∧ La.getD k.toNat 0 = 0)) := by
    intro k w' hk0 hk1 hx
    have hx' := h24.trans hx
    refine ⟨F_path_Way_3, #[.pointer p22], rfl, (ok_path_Way_3 k p22 w' _ ⟨_, ext_cell hx' hc22, fun w1' h1' => ⟨F_path_Way_1, #[.pointer p19], rfl, ?_⟩⟩ : FnP Try.prog F_path_Way_3 #[.int .i64 k, .pointer p22] w' _)⟩
    have hx1 := hx'.trans h1'
    exact ((tight_k hP p19 qe ql ec lc k 0 hk0 hk1 w1' (hp.ext hx1) (hE23.ext hx1) (hL23.ext hx1) :) : FnP Try.prog F_path_Way_1 _ _ _).mono fun v w2' ⟨e2', hv⟩ => ⟨e2', _, hv, fun w4' h4' => ⟨h4', rfl⟩⟩
  have fst := least_k N hN (.func (.func F_path_Way_3) #[] #[.pointer p22]) p1 w24 (fun k => decide (Ea.getD k.toNat 0 = 0 ∧ La.getD k.toNat 0 = 0)) (ext_cell h24 c1) hcl
  refine fst.mono fun v w25 ⟨e25, t, hv, ht⟩ => ⟨e25, t, hv, ?_⟩
  have hx25 := h24.trans e25
  have step0 : 0 ≤ t → t < N ∧ g0 Ea t = 0 ∧ g0 La t = 0 := fun h0 => by
    rcases ht with ⟨_, h1, h2⟩ | ⟨h1, _⟩
    · exact ⟨h1, by simpa [g0] using h2⟩
    · omega
  have none0 : t < 0 → N = 0 := fun hneg => by
    rcases ht with ⟨h1, _⟩ | ⟨_, h1⟩
    · omega
    · rcases Nat.eq_zero_or_pos N with h0 | h0
      · exact h0
      · obtain ⟨i, hi, g1, g2⟩ := crit_first h0 hA hOk hP hD0
        have := h1 i (by omega) (by omega)
        simp only [Int.toNat_natCast, decide_eq_false_iff_not] at this
        exact absurd ⟨g1, g2⟩ this
  have cell23 : ∀ {w' : World}, Ext w23 w' → Ext w w' := fun h => hW23.trans h
  clear ht fst
  refine ⟨fun out m d i w' => ∃ X : List Int, Ext w23 w' ∧ Own w23.heap.size w' T_int 1 out m d (X.map (.int .i64)) ∧ (0 ≤ i → i < N ∧ WayTo N L D Ea La (X ++ [i]) ∧ m ≤ posOf A i) ∧ (i < 0 → N = 0 ∧ X = []), fun _ _ _ i _ => if i < 0 then 0 else N + 1 - posOf A i,
    ⟨[], Ext.refl _, Own.nil, fun h0 => ⟨(step0 h0).1, ⟨fun x hx => ?_, fun x hx => ?_, fun k x y hx hy => ?_⟩, Nat.zero_le _⟩, fun hneg => ⟨none0 hneg, rfl⟩⟩, ?_⟩
  · simp at hx; subst hx; exact ⟨h0, (step0 h0).1, by rw [(step0 h0).2.1, (step0 h0).2.2]⟩
  · simp at hx; subst hx; exact (step0 h0).2.1
  · simp at hy
  rintro out m d i w30 ⟨X, hw30, oX, hpos, hneg⟩
  have lenX := oX.leni
  refine ⟨fun hi0 w31 h31 => ?_, fun hlt w31 h31 => ?_⟩
  · obtain ⟨hiN, hW, hm⟩ := hpos hi0
    have hci := hW.crit i (by simp)
    have hposl : posOf A i < N := by
      have := posOf_some hA hi0 hiN
      have := (List.getElem?_eq_some_iff.1 this).1
      rwa [hA.len] at this
    have hEi : 0 ≤ g0 Ea i := hP.e0 i.toNat (by omega)
    have hSi := hP.sLe i.toNat (by omega)
    have hSm := hP.sMax
    have hDi := hD0 i.toNat (by omega)
    have g0E : g0 Ea i = Ea.getD i.toNat 0 := rfl
    have g0D : g0 D i = D.getD i.toNat 0 := rfl
    refine push_int elem_sl_int oX hw30.size (by omega) (by omega) (fun p' c' w37 o37 g37 hne => ?_) w31 h31
    have hx37 : Ext w23 w37 := g37.ext hw30 oX
    have gE := Ints.idx (hE23.ext hx37) hi0 (by omega)
    have gD := Ints.idx (hDm.ext hx37) hi0 (by omega)
    refine ⟨hqn, qe, N, ec, (by rw [cell_pAdd]; exact ext_cell hx37 (hp 0 _ rfl)), (fun hq => cell_p gE (pIdx_none.2 hq)), hi0, hiN, _, gE, (fun hq => cell_p gD (pIdx_none.2 hq)), hi0, by omega, _, gD, i64 (by omega), fun w46 h46 => ?_⟩
    have hx46 := hx37.trans h46
    refine new_own (by intro v hv; simp at hv; subst hv; rfl) fun w47 o47 e47 => ?_
    have o47 := o47 w46.heap.size (Nat.le_refl _)
    generalize (some (⟨w46.heap.size, 0, none⟩ : Addr)) = p47 at o47
    refine store_own (off := 0) o47 (map_add0 _) (by simp) (by simp) (by intro v hv; simp at hv; subst hv; rfl) (by simp) fun w48 o48 g48 => ?_
    have hx48 : Ext w46 w48 := g48.ext e47 o47
    have h37_48 := h46.trans hx48
    have h23_48 := hx46.trans hx48
    refine ⟨_, o48.cells 0 _ rfl, hqn, Sp, (by rw [cell_pAdd]; exact ext_cell h23_48 (hp 2 _ rfl)), fun heq w51 h51 => ?_, fun hne2 w51 h51 => ?_⟩
    · have hx51 := (h37_48.trans h51)
      refine ⟨cell23 (hx37.trans hx51), _, _, _, _, rfl, fun h => absurd rfl h, fun _ => ⟨hok, hokD, ⟨A, hA⟩, Ea, La, Sp, hP, X ++ [i], (o37.weak hW23.size).ext hx51, by omega, hW, fun h => by omega, fun h => by simp at h, fun x hx => ?_⟩⟩
      simp at hx; subst hx; exact heq
    · have h23_51 := h23_48.trans h51
      refine new_own (by intro v hv; simp at hv; subst hv; rfl) fun w52 o52 e52 => ?_
      have o52 := o52 w51.heap.size (Nat.le_refl _)
      generalize (some (⟨w51.heap.size, 0, none⟩ : Addr)) = p52 at o52
      refine store_own (off := 0) o52 (map_add0 _) (by simp) (by simp) (by intro v hv; simp at hv; subst hv; rfl) (by simp) fun w53 o53 g53 w54 h54 => ?_
      have hx53 : Ext w51 w53 := g53.ext e52 o52
      have h23_53 := h23_51.trans hx53
      have c52 : cell w53 p52 0 = some (.int .i64 i) := o53.cells 0 _ rfl
      have c47 : cell w53 p47 0 = some (.int .i64 (Ea.getD i.toNat 0 + D.getD i.toNat 0)) := ext_cell (h51.trans hx53) (o48.cells 0 _ rfl)
      classical
      have hcl2 : ∀ (k : Int) w', 0 ≤ k → k < N → Ext w54 w' → FnVP Try.prog (.func (.func F_path_Way_4) #[] #[.pointer p3, .pointer p52, .pointer p22, .pointer p47]) [.int .i64 k] w' fun v w'' => Ext w' w'' ∧ v = .bool (decide ((∃ e ∈ L, e.f = i ∧ e.t = k) ∧ Ea.getD k.toNat 0 = Ea.getD i.toNat 0 + D.getD i.toNat 0 ∧ La.getD k.toNat 0 = Ea.getD i.toNat 0 + D.getD i.toNat 0)) := by
        intro k w' hk0 hk1 hx
        have hx' := h54.trans hx
        have hx23 := h23_53.trans hx'
        refine ⟨F_path_Way_4, #[.pointer p3, .pointer p52, .pointer p22, .pointer p47], rfl, ?_⟩
        have := next_k hP h63 p3 p52 p22 p47 p19 p qe ql c ec lc k i (Ea.getD i.toNat 0 + D.getD i.toNat 0) hk0 hk1 w' (ext_cell hx23 c3) (ext_cell hx' c52) (ext_cell hx23 hc22) (ext_cell hx' c47) (hLm.ext hx23) (hp.ext hx23) (hE23.ext hx23) (hL23.ext hx23)
        refine (this : FnP Try.prog F_path_Way_4 _ _ _).mono fun v w'' ⟨h1, h2⟩ => ⟨h1, ?_⟩
        rw [h2]
      have nxt := least_k N hN (.func (.func F_path_Way_4) #[] #[.pointer p3, .pointer p52, .pointer p22, .pointer p47]) p1 w54 (fun k => decide ((∃ e ∈ L, e.f = i ∧ e.t = k) ∧ Ea.getD k.toNat 0 = Ea.getD i.toNat 0 + D.getD i.toNat 0 ∧ La.getD k.toNat 0 = Ea.getD i.toNat 0 + D.getD i.toNat 0)) (ext_cell (h23_53.trans h54) c1) hcl2
      refine nxt.mono fun v w55 ⟨e55, t, hv, ht⟩ => ⟨e55, t, hv, ?_⟩
      have hcrit : Ea.getD i.toNat 0 = La.getD i.toNat 0 := hci.2.2
      obtain ⟨k, hk, hedge, hk1, hk2⟩ := crit_next hA hOk hP (i := i.toNat) (by omega) hcrit hne2
      rcases ht with ⟨t0, t1, t2⟩ | ⟨_, hno⟩
      · rw [decide_eq_true_iff] at t2
        obtain ⟨⟨e, he, e1', e2'⟩, t3, t4⟩ := t2
        have hrise : posOf A i < posOf A t := hA.rise (K := 0) (i := i.toNat) (j := t.toNat) (.edge ⟨e, he, by omega, by omega⟩) (by rw [Int.toNat_of_nonneg hi0]; exact posOf_some hA hi0 hiN) (by rw [Int.toNat_of_nonneg t0]; exact posOf_some hA t0 t1)
        refine ⟨⟨X ++ [i], h23_53, (o37.ext h37_48).ext (h51.trans hx53), fun _ => ⟨t1, ⟨fun x hx => ?_, fun x hx => ?_, fun j x y hx hy => ?_⟩, by omega⟩, fun h => by omega⟩, ?_⟩
        · rcases List.mem_append.1 hx with h | h
          · exact hW.crit x h
          · simp at h; subst h
            exact ⟨t0, t1, by show Ea.getD _ 0 = La.getD _ 0; rw [t3, t4]⟩
        · rw [List.getElem?_append_left (by simp)] at hx
          exact hW.first x hx
        · have hyl := (List.getElem?_eq_some_iff.1 hy).1
          simp only [List.length_append, List.length_cons, List.length_nil] at hyl
          rw [List.getElem?_append_left (by simp; omega)] at hx
          by_cases hj : j + 1 < (X ++ [i]).length
          · rw [List.getElem?_append_left hj] at hy
            exact hW.edge j x y hx hy
          · simp only [List.length_append, List.length_cons, List.length_nil] at hj
            obtain rfl : j = X.length := by omega
            rw [List.getElem?_append_right (by simp)] at hy
            simp at hx hy
            subst hx hy
            exact ⟨⟨e, he, e1', e2'⟩, t3⟩
        · simp only []
          rw [if_neg (by omega), if_neg (by omega)]
          have : posOf A t < N := by
            have := (List.getElem?_eq_some_iff.1 (posOf_some hA t0 t1)).1
            rwa [hA.len] at this
          omega
      · exfalso
        have := hno k (by omega) (by omega)
        rw [decide_eq_false_iff_not] at this
        refine this ⟨?_, by simpa using hk1, by simpa using hk2⟩
        rw [Int.toNat_of_nonneg hi0] at hedge
        exact hedge
  · obtain ⟨hN0, rfl⟩ := hneg hlt
    exact ⟨cell23 (hw30.trans h31), _, _, _, _, rfl, fun h => absurd rfl h, fun _ => ⟨hok, hokD, ⟨A, hA⟩, Ea, La, Sp, hP, [], (oX.weak hW23.size).ext h31, by simp at lenX; omega, ⟨fun x hx => (by cases hx), fun x hx => by simp at hx, fun k x y hx _ => by simp at hx⟩, fun _ => rfl, fun _ => by omega, fun x hx => by simp at hx⟩⟩

theorem core_PathWay (W : World) : ∀ n : Int, InR .i64 n → ∀ l : Option Addr, ∀ ll : Nat, ∀ lc : Nat, SlcArg Try.prog W T_Edge l ll lc → ∀ d : Option Addr, ∀ dl : Nat, ∀ dc : Nat, SlcArg Try.prog W T_int64 d dl dc →
    FnP Try.prog F_shiftbellkeep_PathWay #[.int .i64 n, .slice l ll lc, .slice d dl dc] W fun v W' => v = .bool true ∧ Ext W W' := by
  intro n hn p ll lc hl q dl dc hd
  obtain ⟨L, rfl, h63, hin, hL⟩ := edges_open hl
  obtain ⟨D, rfl, _, hD⟩ := hd.ints (k := .i64) (by kernel_rfl) (by kernel_rfl)
  have h64 : (D.length : Int) ≤ 9223372036854775807 := by have := hd.le; have := hd.max; omega
  refine ok_shiftbellkeep_PathWay _ _ _ _ _ _ _ W _ ?_
  intro w0 h0
  refine (paths_k w0).mono fun v w1 ⟨e1, hv⟩ => ⟨e1, true, hv, fun h => by simp at h, fun _ w3 h3 => ?_⟩
  refine (Times_k n p lc L h63 q dc D h64 w3 (hL.ext h3) (hD.ext h3)).mono fun v w4 ⟨e4, qe, el, ec, ql, ll, lc', Sp, e, hv, hbad, hgood⟩ => ⟨e4, _, _, _, _, _, _, _, _, hv, fun b13 hb13 w14 x14 => ?_⟩
  have h14 := extB_ext x14
  have hx14 := (h3.trans e4).trans h14
  refine (Way_k n hn p lc L h63 q dc D h64 w14 (hL.ext hx14) (hD.ext hx14)).mono fun v w15 ⟨e15, rw_, mw, dw, f, hv, wbad, wgood⟩ => ⟨e15, rw_, mw, dw, f, hv, fun w20 x20 => ?_⟩
  have h20 := extB_ext x20
  have hx20 := (hx14.trans e15).trans h20
  refine (Critical_k n p lc L h63 q dc D h64 w20 (hL.ext hx20) (hD.ext hx20)).mono fun v w21 ⟨e21, rc, mc, dc', g, hv, cbad, cgood⟩ => ⟨e21, rc, mc, dc', g, hv, ?_⟩
  have hx21 := hx20.trans e21
  have hef : e = f := times_same (fun h => (hbad h).2.2.2) (fun h => ⟨(hgood h).1, (hgood h).2.1, (hgood h).2.2.2.2.1⟩) (fun h => (wbad h).2) (fun h => ⟨(wgood h).1, (wgood h).2.1, (wgood h).2.2.1⟩)
  have heg : e = g := times_same (fun h => (hbad h).2.2.2) (fun h => ⟨(hgood h).1, (hgood h).2.1, (hgood h).2.2.2.2.1⟩) (fun h => (cbad h).2) (fun h => ⟨(cgood h).1, (cgood h).2.1, (cgood h).2.2.1⟩)
  subst hef heg
  refine ⟨fun hne => ?_, fun he => ?_⟩
  · obtain ⟨rfl, _⟩ := wbad hne
    obtain ⟨rfl, _⟩ := cbad hne
    exact ⟨fun _ => i64 (by simp), fun w26 h26 => ⟨b_true (by simp), hx21.trans h26⟩⟩
  obtain ⟨hok, hokD, hel, hll, ⟨A, hA⟩, Ea, La, oE, oL, hP⟩ := hgood he
  obtain ⟨_, _, _, Eb, Lb, Sb, hPb, X, oX, hm60, hW, hXn, hnX, hlast⟩ := wgood he
  obtain ⟨_, _, _, Ec, Lc, Sc, hPc, C, oC, hC⟩ := cgood he
  subst he
  obtain ⟨N, rfl⟩ : ∃ N : Nat, n = N := ⟨n.toNat, by have := hok.1; omega⟩
  have hN60 : N ≤ 60 := by have := hok.2.1; omega
  have hOk := orderOk hok
  simp only [Int.toNat_natCast] at hP hA hPb hPc hC hW hOk
  have lenD := hokD.1
  have lenX := oX.leni
  have lenC := oC.leni
  have leC := oC.le
  subst lenX lenC
  have hD0 : ∀ i : Nat, i < N → 0 ≤ D.getD i 0 := fun i hi => (hokD.2 _ (getD_mem D 0 (by omega))).1
  obtain ⟨ub1, ub2, ub3⟩ := hP.pf.unique hA hOk hPb.pf
  obtain ⟨uc1, uc2, uc3⟩ := hPb.pf.unique hA hOk hPc.pf
  have h15_21 := h20.trans e21
  have hXI : ∀ {w' : World}, Ext w21 w' → Ints .i64 w' rw_ X := fun h => (oX.ext (h15_21.trans h)).cells
  have hq : 0 < N → q ≠ none := fun h hq => cell_p (Ints.idx (hD.ext hx21) (i := 0) (by omega) (by omega)) (pIdx_none.2 hq)
  have sm := hPb.sMax
  refine ⟨fun sum k w' => w' = w21 ∧ 0 ≤ k ∧ k ≤ X.length ∧ sum = sumL ((X.take k.toNat).map (g0 D)), fun _ k _ => (X.length - k).toNat, ⟨rfl, by omega, by omega, by simp [sumL]⟩, ?_⟩
  rintro sum k w21 ⟨rfl, hk0, hk1, hsum⟩
  refine ⟨fun hlt => ?_, fun hge w30 x30 => ?_⟩
  · have gX := Ints.idx (hXI (Ext.refl _)) hk0 hlt
    have hrn : rw_ ≠ none := fun hn => cell_p gX (pIdx_none.2 hn)
    have hxk : X[k.toNat]? = some (X.getD k.toNat 0) := getElem?_getD X 0 (by omega)
    generalize hxv : X.getD k.toNat 0 = x at gX hxk
    obtain ⟨x0, x1, x2⟩ := hW.crit x (List.mem_of_getElem? hxk)
    refine ⟨hrn, hk0, hlt, x, gX, fun w31 h31 => ?_⟩
    refine (ContainsI_k rc dc' C (by omega) x w31 (oC.ext h31).cells).mono fun v w32 ⟨e32, hv⟩ => ⟨e32, _, hv, fun _ _ => i64 (by omega), fun _ _ => hrn, fun _ _ => by omega, fun _ _ => by omega, fun hno => ?_, fun _ => ?_⟩
    · exfalso
      rw [decide_eq_false_iff_not] at hno
      refine hno ?_
      have := (hC x.toNat (by omega)).2 (by
        have a1 := uc1 x.toNat (by omega)
        have a2 := uc3 x.toNat (by omega)
        simp only [g0, Int.toNat_natCast] at a1 a2 x2
        rw [← a1, ← a2]; exact x2)
      rwa [Int.toNat_of_nonneg x0] at this
    · have hst := sumW_step hW k.toNat (by omega)
      have hsn : sum + g0 D x = sumL ((X.take (k.toNat + 1)).map (g0 D)) := by
        have hl : k.toNat < (X.map (g0 D)).length := by simp; omega
        rw [List.map_take, sumL_take_succ _ hl, ← List.map_take, ← hsum]
        congr 1
        rw [List.getD_eq_getElem?_getD, List.getElem?_map, hxk]; rfl
      rw [hxv, ← hsn] at hst
      have b1 := hPb.e0 x.toNat (by omega)
      have b2 := hPb.sLe x.toNat (by omega)
      have b3 := hD0 x.toNat (by omega)
      have gg : g0 D x = D.getD x.toNat 0 := rfl
      have ge : g0 Eb x = Eb.getD x.toNat 0 := rfl
      have gD := Ints.idx (hD.ext hx21) x0 (show x < D.length by omega)
      refine ⟨fun hkp => ?_, fun hkn => ⟨hq (by omega), x0, by omega, _, gD, i64 (by omega), i64 (by omega), ⟨rfl, by omega, by omega, by rw [show (k + 1).toNat = k.toNat + 1 by omega, ← hsn]⟩, by simp only []; omega⟩⟩
      have gP := Ints.idx (hXI (Ext.refl _)) (i := k - 1) (by omega) (by omega)
      have hpk : X[k.toNat - 1]? = some (X.getD (k.toNat - 1) 0) := getElem?_getD X 0 (by omega)
      rw [show (k - 1).toNat = k.toNat - 1 by omega] at gP
      obtain ⟨⟨ed_, he, he1, he2⟩, _⟩ := hW.edge (k.toNat - 1) _ _ hpk (by rw [show k.toNat - 1 + 1 = k.toNat by omega]; exact hxk)
      refine ⟨_, gP, fun w35 h35 => ?_⟩
      refine (ContainsE_k p lc L h63 _ _ w35 (hL.ext (hx21.trans h35))).mono fun v w36 ⟨e36, hv⟩ => ⟨e36, _, hv, fun hno => ?_, fun _ => ⟨hq (by omega), x0, by omega, _, gD, i64 (by omega), i64 (by omega), ⟨rfl, by omega, by omega, by rw [show (k + 1).toNat = k.toNat + 1 by omega, ← hsn]⟩, by simp only []; omega⟩⟩
      rw [decide_eq_false_iff_not] at hno
      exact absurd ⟨ed_, he, he1, he2⟩ hno
  · obtain rfl : k = X.length := by omega
    refine good_lit (w := w21) [0, 0] rfl rfl (by simp) (by simp) (fun w31 h31 w38 h38 => ⟨b_true ?_, (hx21.trans h31).trans h38⟩) w30 (extB_ext x30)
    have hsS : sum = Sp := by
      rw [ub2]
      rcases Nat.eq_zero_or_pos X.length with h0 | h0
      · have hX0 : X = [] := List.eq_nil_of_length_eq_zero h0
        have hN0 := hnX hX0
        rw [hsum, hX0]
        have : Sb = 0 := by
          rcases hPb.sEq with h | ⟨i, hi, _⟩
          · exact h
          · omega
        rw [this]; simp [sumL]
      · have hst := sumW_step hW (X.length - 1) (by omega)
        rw [show X.length - 1 + 1 = X.length by omega] at hst
        rw [hsum, Int.toNat_natCast, hst]
        refine hlast _ ?_
        rw [List.getLast?_eq_getElem?]
        exact getElem?_getD X 0 (by omega)
    subst hsS
    have hiff : ((N : Int) = 0) ↔ X = [] := ⟨hXn, hnX⟩
    rcases Nat.eq_zero_or_pos X.length with h0 | h0
    · have hX0 : X = [] := List.eq_nil_of_length_eq_zero h0
      simp [hX0, hiff.2 hX0]
    · have hX0 : X ≠ [] := fun h => by simp [h] at h0
      have hN0 : ¬ (N : Int) = 0 := fun h => hX0 (hiff.1 h)
      have hN1 : N ≠ 0 := by omega
      simp [hX0, hN1]
end Go.Proofs.Ytopgihimdjnaeaa
