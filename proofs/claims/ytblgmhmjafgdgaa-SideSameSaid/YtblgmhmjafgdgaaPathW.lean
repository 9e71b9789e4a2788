/- Times of package path: the walk. -/
import Derived.Test.YtblgmhmjafgdgaaPathT
set_option linter.unusedVariables false
set_option linter.unusedSimpArgs false
namespace Go.Proofs.Ytblgmhmjafgdgaa
open Go.Sx Go.RowKit

theorem apN {m n : Nat} (h : m ≠ n) : Apart (some (⟨m, 0, none⟩ : Addr)) (some ⟨n, 0, none⟩) := by
  intro a b ha hb
  obtain rfl := Option.some.inj ha
  obtain rfl := Option.some.inj hb
  exact h
theorem neB {m b : Nat} (h : b < m) : ∀ x, (some (⟨m, 0, none⟩ : Addr)) = some x → x.block ≠ b := by
  intro x hx; obtain rfl := Option.some.inj hx; simp; omega

def ErrT (n : Int) (L : List E) (D : List Int) (e : Int) : Prop :=
  (okG n L → okD n D → e = 8 ∧ ∃ i, i < n.toNat ∧ Beh L n.toNat i i) ∧ (okG n L → ¬ okD n D → e = 1) ∧ (¬ okG n L → e = errG n L)

theorem Times_k (n : Int) (p : Option Addr) (c : Nat) (L : List E) (h63 : (L.length : Int) ≤ 9223372036854775807) (q : Option Addr) (c2 : Nat) (D : List Int) (h64 : (D.length : Int) ≤ 9223372036854775807) (w : World) (h : Edges w p L) (hD : Ints .i64 w q D) :
    FnP Try.prog F_path_Times #[.int .i64 n, .slice p L.length c, .slice q D.length c2] w fun v w' => Ext w w' ∧ ∃ qe el ec ql ll lc Sp e, v = .tuple #[.agg #[.slice qe el ec, .slice ql ll lc, .int .i64 Sp], .int .i64 e] ∧
      (e ≠ 0 → el = 0 ∧ ll = 0 ∧ Sp = 0 ∧ ErrT n L D e) ∧
      (e = 0 → okG n L ∧ okD n D ∧ (el : Int) = n ∧ (ll : Int) = n ∧ (∃ A, Topo n.toNat L A) ∧ ∃ Ea La, Own w.heap.size w' T_int64 1 qe el ec (Ea.map (.int .i64)) ∧ Own w.heap.size w' T_int64 1 ql ll lc (La.map (.int .i64)) ∧ Plan n.toNat L D Ea La Sp) := by
  refine ok_path_Times n p L.length c q D.length c2 w _ ?_
  intro b0 hb0 w1 x1
  have h1 := extB_ext x1
  have hb1 : b0 < w1.heap.size := x1.lt b0 (by simp)
  refine (pcheck_k n p c L h63 q c2 D h64 w1 (h.ext h1) (hD.ext h1)).mono fun v w2 ⟨e2, r, m, d, e, hv, hcase⟩ => ⟨e2, r, m, d, e, hv, fun hne w7 x7 => ⟨but_ext x7 (h1.trans e2) (by intro b hb; simp at hb; omega), _, _, _, _, _, _, _, _, rfl, fun _ => ⟨rfl, rfl, rfl, ?_⟩, fun h => absurd h hne⟩, fun he => ?_⟩
  · rcases hcase with ⟨h0, _⟩ | ⟨_, _, k1, k2, k3⟩
    · exact absurd h0 hne
    · exact ⟨k1, k2, k3⟩
  obtain ⟨hok, hokD, hm, A, oA, hA⟩ : okG n L ∧ okD n D ∧ (m : Int) = n ∧ ∃ A, Own w1.heap.size w2 T_int 1 r m d (A.map (.int .i64)) ∧ Topo n.toNat L A := by
    rcases hcase with ⟨_, k⟩ | ⟨h0, _⟩
    · exact k
    · exact absurd he h0
  clear hcase
  subst he
  obtain ⟨N, rfl⟩ : ∃ N : Nat, n = N := ⟨n.toNat, by have := hok.1; omega⟩
  obtain rfl : m = N := by omega
  have hN : m ≤ 60 := by have := hok.2.1; omega
  simp only [Int.toNat_natCast] at hA ⊢
  have hx2 : Ext w w2 := h1.trans e2
  have hs2 := e2.size
  have lenA := hA.len
  have lenD : D.length = m := by have := hokD.1; omega
  have hDb : ∀ i : Nat, i < m → 0 ≤ D.getD i 0 ∧ D.getD i 0 ≤ 1000000000 := fun i hi => hokD.2 _ (getD_mem D 0 (by omega))
  have hE : ∀ e ∈ L, 0 ≤ e.f ∧ e.f < m ∧ 0 ≤ e.t ∧ e.t < m := fun e he => hok.2.2.2 e he
  have oA := oA.weak (B' := w.heap.size) h1.size
  let J : Option Addr → World → Prop := fun p8 w9 => ∃ qe ql, Ext w w9 ∧ Mem w.heap.size w9 p8 qe ql r m b0 d A (List.replicate m 0) (List.replicate m 0) 0
  have fin : ∀ (w' : World) (a b c : Nat), Ext w2 w' → w2.heap.size ≤ a → w2.heap.size ≤ b → w2.heap.size ≤ c → a ≠ b → a ≠ c → b ≠ c → Own w.heap.size w' T_Plan 3 (some ⟨a, 0, none⟩) 1 1 [.slice none 0 0, .slice none 0 0, .int .i64 0] →
      Own w.heap.size w' T_int64 1 (some ⟨b, 0, none⟩) m m ((List.replicate m (0 : Int)).map (.int .i64)) → Own w.heap.size w' T_int64 1 (some ⟨c, 0, none⟩) m m ((List.replicate m (0 : Int)).map (.int .i64)) →
      Store w' (some (⟨a, 0, none⟩ : Addr)) [.slice (some (⟨b, 0, none⟩ : Addr)) m m, .slice (some (⟨c, 0, none⟩ : Addr)) m m, .int .i64 0] [b0] fun w22 => J (some ⟨a, 0, none⟩) w22 := by
    intro w' a b c hw ha hb hc hab hac hbc op oe ol
    refine mem_begin op oe ol (oA.ext hw) (apN hab) (apN hac) (apN hbc) (fresh_apart oA ha).symm (fresh_apart oA hb).symm (fresh_apart oA hc).symm (neB (by omega)) (neB (by omega)) (neB (by omega)) fun w22 M g => ⟨_, _, g.ext (hx2.trans hw) op, M⟩
  have mk : ∀ {w' : World} {K : Value → World → Prop}, Ext w w' → (∀ w'', Own w.heap.size w'' T_int64 1 (some ⟨w'.heap.size, 0, none⟩) m m ((List.replicate m (0 : Int)).map (.int .i64)) → Ext w' w'' → w'.heap.size < w''.heap.size → K (.slice (some ⟨w'.heap.size, 0, none⟩) m m) w'') → Run Try.prog (.makeSlice T_sl_int64 (.int .i64 m) (.int .i64 m)) w' K := by
    intro w' K hw hk
    refine mk_ints elem_sl_int64 (by omega) (by omega) (by omega) fun w'' o e => ?_
    simp only [Int.toNat_natCast] at o ⊢
    have o := o w.heap.size hw.size
    exact hk w'' o e o.size_lt
  have nw : ∀ {w' : World} {K : Option Addr → World → Prop}, Ext w w' → (∀ w'', Own w.heap.size w'' T_Plan 3 (some ⟨w'.heap.size, 0, none⟩) 1 1 [.slice none 0 0, .slice none 0 0, .int .i64 0] → Ext w' w'' → w'.heap.size < w''.heap.size → K (some ⟨w'.heap.size, 0, none⟩) w'') → New w' T_Plan [.slice none 0 0, .slice none 0 0, .int .i64 0] K := by
    intro w' K hw hk
    refine new_own (by intro v hv; simp at hv; rcases hv with rfl | rfl <;> rfl) fun w'' o e => ?_
    have o := o w.heap.size hw.size
    exact hk w'' o e o.size_lt
  have hWr : ∀ {a b : World}, Ext w a → ExtB [] [b0] a b → Ext w b := fun h x => h.trans (extB_ext x)
  refine ⟨J, ⟨fun w10 x10 => mk (hWr hx2 x10) fun w11 o1 g1 z1 => ⟨g1, _, _, _, rfl,
      fun w15 x15 => mk (hWr ((hWr hx2 x10).trans g1) x15) fun w16 o2 g2 z2 => ⟨g2, _, _, _, rfl, fun w20 x20 => nw (hWr ((hWr ((hWr hx2 x10).trans g1) x15).trans g2) x20) fun w21 o3 g3 z3 => ?_⟩,
      fun w15 x15 => nw (hWr ((hWr hx2 x10).trans g1) x15) fun w16 o2 g2 z2 => fun w20 x20 => mk (hWr ((hWr ((hWr hx2 x10).trans g1) x15).trans g2) x20) fun w21 o3 g3 z3 => ⟨g3, _, _, _, rfl, ?_⟩⟩,
    fun w10 x10 => mk (hWr hx2 x10) fun w11 o1 g1 z1 => ⟨g1, _, _, _, rfl,
      fun w15 x15 => mk (hWr ((hWr hx2 x10).trans g1) x15) fun w16 o2 g2 z2 => ⟨g2, _, _, _, rfl, fun w20 x20 => nw (hWr ((hWr ((hWr hx2 x10).trans g1) x15).trans g2) x20) fun w21 o3 g3 z3 => ?_⟩,
      fun w15 x15 => nw (hWr ((hWr hx2 x10).trans g1) x15) fun w16 o2 g2 z2 => fun w20 x20 => mk (hWr ((hWr ((hWr hx2 x10).trans g1) x15).trans g2) x20) fun w21 o3 g3 z3 => ⟨g3, _, _, _, rfl, ?_⟩⟩,
    fun w10 x10 => nw (hWr hx2 x10) fun w11 o1 g1 z1 =>
      ⟨fun w15 x15 => mk (hWr ((hWr hx2 x10).trans g1) x15) fun w16 o2 g2 z2 => ⟨g2, _, _, _, rfl, fun w20 x20 => mk (hWr ((hWr ((hWr hx2 x10).trans g1) x15).trans g2) x20) fun w21 o3 g3 z3 => ⟨g3, _, _, _, rfl, ?_⟩⟩,
      fun w15 x15 => mk (hWr ((hWr hx2 x10).trans g1) x15) fun w16 o2 g2 z2 => ⟨g2, _, _, _, rfl, fun w20 x20 => mk (hWr ((hWr ((hWr hx2 x10).trans g1) x15).trans g2) x20) fun w21 o3 g3 z3 => ⟨g3, _, _, _, rfl, ?_⟩⟩⟩⟩, ?_⟩
  all_goals try (
    have s10 := (extB_ext x10).size
    have s15 := (extB_ext x15).size
    have s20 := (extB_ext x20).size
    have y1 := (((o1.ext (extB_ext x15)).ext g2).ext (extB_ext x20)).ext g3
    have y2 := (o2.ext (extB_ext x20)).ext g3
    refine fin w21 _ _ _ (((((extB_ext x10).trans g1).trans (extB_ext x15)).trans g2).trans ((extB_ext x20).trans g3)) (by omega) (by omega) (by omega) (by omega) (by omega) (by omega) (by assumption) (by assumption) (by assumption))
  rintro p8 w9 ⟨qe, ql, hw9, M⟩
  refine ⟨fun k w' => ∃ (Ea : List Int) (Sp : Int), Ext w w' ∧ Mem w.heap.size w' p8 qe ql r m b0 d A Ea (List.replicate m 0) Sp ∧ 0 ≤ k ∧ k ≤ m ∧ EarlyTo m L D A Ea Sp k.toNat, fun k _ => (m - k).toNat, ⟨_, _, hw9, M, by omega, by omega, ?_⟩, ?_⟩
  · have hz : ∀ i : Nat, (List.replicate m (0 : Int)).getD i 0 = 0 := fun i => by rw [List.getD_eq_getElem?_getD, List.getElem?_replicate]; split <;> rfl
    refine ⟨by simp, fun i hi => by rw [hz]; omega, fun i hi _ => hz i, fun e _ hm => by simp at hm, fun i hi => .inl (hz i), by omega, by simp, fun i hi hm => by simp at hm, .inl rfl⟩
  rintro k w12 ⟨Ea, Sp, hw, M, hk0, hk1, hEa⟩
  have lenE := hEa.len
  have hkk : ((k.toNat : Nat) : Int) = k := by omega
  refine ⟨fun hlt => ?_, fun hge => ?_⟩
  · have hAk : A[k.toNat]? = some (A.getD k.toNat 0) := getElem?_getD A 0 (by omega)
    have hget := M.oa.int_at hk0 (by omega)
    obtain ⟨i, hi, him⟩ := hA.inn _ (List.mem_of_getElem? hAk)
    refine ⟨M.oa.ne1 (by omega) (by omega), hk0, hlt, _, hget, ?_⟩
    revert hAk hi
    generalize A.getD k.toNat 0 = x
    intro hAk hi
    subst hi
    have hfi : ∀ e ∈ L, e.t = i → e.f.toNat ≠ i := fun e he het hf => by
      have hEe := hE e he
      have hm := hA.ahead k.toNat e he (by rw [het]; exact hAk)
      obtain ⟨pp, hpp, hp2⟩ := mem_take hm
      have := cnt_one_place (by have := hA.once i him; omega) (by rw [show e.f = (i : Int) by omega] at hp2; exact hp2) hAk
      omega
    refine ⟨fun k2 w' => ∃ v : Int, Ext w w' ∧ Mem w.heap.size w' p8 qe ql r m b0 d A (Ea.set i v) (List.replicate m 0) Sp ∧ 0 ≤ k2 ∧ k2 ≤ L.length ∧ 0 ≤ v ∧ (∀ j : Nat, (j : Int) < k2 → (ed L j).t = i → g0 Ea (ed L j).f + g0 D (ed L j).f ≤ v) ∧ (v = 0 ∨ ∃ e ∈ L, e.t = i ∧ v = g0 Ea e.f + g0 D e.f), fun k2 _ => (L.length - k2).toNat,
      ⟨0, hw, ?_, by omega, by omega, by omega, fun j hj => by omega, .inl rfl⟩, ?_⟩
    · have hz : Ea.getD i 0 = 0 := hEa.rest i him fun hm => by
        obtain ⟨pp, hpp, hp2⟩ := mem_take hm
        have := cnt_one_place (by have := hA.once i him; omega) hp2 hAk; omega
      have : Ea.set i 0 = Ea := by
        apply List.ext_getElem (by simp)
        intro j h1 h2
        rw [List.getElem_set]
        split
        · rename_i hij
          subst hij
          rw [List.getD_eq_getElem?_getD, List.getElem?_eq_getElem h2] at hz
          exact hz.symm
        · rfl
      rw [this]; exact M
    rintro k2 w16 ⟨v, hw, M, hj0, hj1, hv0, hvle, hveq⟩
    have hset : ∀ j : Nat, (Ea.set i v).getD j 0 = if j = i then v else Ea.getD j 0 := fun j => getD_set _ _ _ _ _ (by omega)
    have hvb : v ≤ k.toNat * 1000000000 + 1000000000 := by
      rcases hveq with h0 | ⟨e, he, het, hv⟩
      · omega
      · have hEe := hE e he
        have := (hEa.b e.f.toNat (by omega)).2
        have := (hDb e.f.toNat (by omega)).2
        rw [hv]; show Ea.getD e.f.toNat 0 + D.getD e.f.toNat 0 ≤ _; omega
    obtain ⟨hp8, c0, c1, c2'⟩ := M.cell0
    obtain ⟨f0, f1, f2⟩ := M.cell1
    have hqe : qe ≠ none := M.oe.ne1 (by omega) (by omega)
    have hDw := hD.ext hw
    have hq : q ≠ none := fun hq => cell_p (Ints.idx hDw (i := 0) (by omega) (by omega)) (pIdx_none.2 hq)
    refine ⟨fun hlt2 => ?_, fun hge2 => ?_⟩
    · obtain ⟨g1, g2, g3, g4⟩ := edges_at (h.ext hw) hj0 hlt2
      have hjj : ((k2.toNat : Nat) : Int) = k2 := by omega
      have hEe := hE _ (ed_mem (L := L) (i := k2.toNat) (by omega))
      refine ⟨g1, hj0, hlt2, g2, _, g3, _, g4, fun b19 hb19 => ⟨fun het => ?_, fun het => ⟨i64 (by omega), ⟨v, hw, M, by omega, by omega, hv0, fun j hj hjt => ?_, hveq⟩, by simp only []; omega⟩⟩⟩
      · have hne := hfi _ (ed_mem (L := L) (i := k2.toNat) (by omega)) het
        have hgi := M.oe.int_at (i := (i : Int)) (by omega) (by simp; omega)
        rw [show ((i : Int)).toNat = i by simp, hset, if_pos rfl] at hgi
        have hgf := M.oe.int_at (i := (ed L k2.toNat).f) (by omega) (by simp; omega)
        rw [hset, if_neg hne] at hgf
        have hgd := Ints.idx hDw (i := (ed L k2.toNat).f) (by omega) (by omega)
        have hb1 := hEa.b (ed L k2.toNat).f.toNat (by omega)
        have hb2 := hDb (ed L k2.toNat).f.toNat (by omega)
        refine ⟨hp8, _, _, _, f0, hp8, _, _, _, f0, hqe, by omega, by omega, _, hgi, hp8, _, _, _, f0, hqe, by omega, by omega, _, hgf, hq, by omega, by omega, _, hgd, i64 (by omega), hqe, by omega, by omega, ?_⟩
        refine store_int M.oe (by omega) (by simp; omega) (by intro b hb y hy; simp at hb; rcases hb with rfl | rfl; exact M.be y hy; exact M.oe.free hb19 _ (by simp) y hy) fun w32 o' g => ⟨i64 (by omega), ⟨max v (g0 Ea (ed L k2.toNat).f + g0 D (ed L k2.toNat).f), g.ext hw M.oe, M.setE (by simpa using o') g, by omega, by omega, by omega, fun j hj hjt => ?_, ?_⟩, by simp only []; omega⟩
        · by_cases hjk : (j : Int) < k2
          · have := hvle j hjk hjt; omega
          · obtain rfl : j = k2.toNat := by omega
            omega
        · rcases Int.le_total v (g0 Ea (ed L k2.toNat).f + g0 D (ed L k2.toNat).f) with hle | hle
          · exact .inr ⟨_, ed_mem (L := L) (i := k2.toNat) (by omega), het, by omega⟩
          · rcases hveq with h0 | ⟨e, he, het', hv⟩
            · exact .inl (by omega)
            · exact .inr ⟨e, he, het', by omega⟩
      · by_cases hjk : (j : Int) < k2
        · exact hvle j hjk hjt
        · obtain rfl : j = k2.toNat := by omega
          exact absurd hjt het
    · obtain rfl : k2 = L.length := by omega
      have hgi := M.oe.int_at (i := (i : Int)) (by omega) (by simp; omega)
      rw [show ((i : Int)).toNat = i by simp, hset, if_pos rfl] at hgi
      have hgd := Ints.idx hDw (i := (i : Int)) (by omega) (by omega)
      rw [show ((i : Int)).toNat = i by simp] at hgd
      have hb2 := hDb i him
      refine ⟨hp8, _, f2, hp8, _, _, _, f0, hqe, by omega, by omega, _, hgi, hq, by omega, by omega, _, hgd, i64 (by omega), hp8, ?_⟩
      refine store_own M.op (off := 2) rfl (by simp) (by simp) (by intro v hv; simp at hv; subst hv; rfl) (by intro b hb y hy; simp at hb; subst hb; exact M.bp y hy) fun w23 o' g => ⟨i64 (by omega), ⟨_, _, g.ext hw M.op, M.setP (by simpa [setAt] using o') g, by omega, by omega, ?_⟩, by simp only []; omega⟩
      rw [show (k + 1).toNat = k.toNat + 1 by omega]
      refine early_step hA hDb hE hEa him hAk hv0 (fun e he het => ?_) hveq
      obtain ⟨j, hj, rfl⟩ := mem_ed he
      exact hvle j (by omega) het
  · obtain rfl : k = m := by omega
    simp only [Int.toNat_natCast] at hEa
    refine ⟨fun k w' => ∃ La : List Int, Ext w w' ∧ Mem w.heap.size w' p8 qe ql r m b0 d A Ea La Sp ∧ 0 ≤ k ∧ k ≤ m ∧ LateTo m L D A La Sp k.toNat ∧ ∀ i : Nat, i < m → (i : Int) ∉ A.drop (m - k.toNat) → La.getD i 0 = 0, fun k _ => (m - k).toNat, ⟨_, hw, M, by omega, by omega, ?_, fun i hi _ => ?_⟩, ?_⟩
    · have hd : A.drop (m - (0 : Int).toNat) = [] := List.drop_of_length_le (by simp [lenA])
      refine ⟨by simp, fun i hi hm => ?_, fun i hi hm => ?_, fun e _ hm => ?_, fun i hi hm => ?_⟩ <;> (rw [hd] at hm; simp at hm)
    · rw [List.getD_eq_getElem?_getD, List.getElem?_replicate]; split <;> rfl
    clear hw M hk0 hk1 hge
    rintro k w15 ⟨La, hw, M, hk0, hk1, hLa, hrest⟩
    have lenL := hLa.len
    have hkk : ((k.toNat : Nat) : Int) = k := by omega
    obtain ⟨hp8, c0, c1, c2'⟩ := M.cell0
    have hsp := hEa.sMax
    have hsp0 := hEa.s0
    refine ⟨fun hlt => ?_, fun hge => ?_⟩
    · have hidx : ((m : Int) - 1 - k).toNat = m - 1 - k.toNat := by omega
      have hAk : A[m - 1 - k.toNat]? = some (A.getD (m - 1 - k.toNat) 0) := getElem?_getD A 0 (by omega)
      have hget := M.oa.int_at (i := (m : Int) - 1 - k) (by omega) (by omega)
      rw [hidx] at hget
      obtain ⟨i, hi, him⟩ := hA.inn _ (List.mem_of_getElem? hAk)
      obtain ⟨f0, f1, f2⟩ := M.cell1
      refine ⟨i64 (by omega), i64 (by omega), M.oa.ne1 (by omega) (by omega), by omega, by omega, _, hget, hp8, _, f2, ?_⟩
      revert hAk hi
      generalize A.getD (m - 1 - k.toNat) 0 = x
      intro hAk hi
      subst hi
      refine ⟨fun en k2 w' => w' = w15 ∧ 0 ≤ k2 ∧ k2 ≤ L.length ∧ en ≤ Sp ∧ (∀ j : Nat, (j : Int) < k2 → (ed L j).f = i → en ≤ g0 La (ed L j).t) ∧ (en = Sp ∨ ∃ e ∈ L, e.f = i ∧ en = g0 La e.t), fun _ k2 _ => (L.length - k2).toNat,
        ⟨rfl, by omega, by omega, by omega, fun j hj => by omega, .inl rfl⟩, ?_⟩
      rintro en k2 w15 ⟨rfl, hj0, hj1, hen, hle, heq⟩
      have hql : ql ≠ none := M.ol.ne1 (by omega) (by omega)
      have hDw := hD.ext hw
      have hq : q ≠ none := fun hq => cell_p (Ints.idx hDw (i := 0) (by omega) (by omega)) (pIdx_none.2 hq)
      refine ⟨fun hlt2 => ?_, fun hge2 => ?_⟩
      · obtain ⟨g1, g2, g3, g4⟩ := edges_at (h.ext hw) hj0 hlt2
        have hjj : ((k2.toNat : Nat) : Int) = k2 := by omega
        have hEe := hE _ (ed_mem (L := L) (i := k2.toNat) (by omega))
        refine ⟨g1, hj0, hlt2, g2, _, g3, _, g4, fun b24 hb24 => ⟨fun hef => ⟨hp8, _, _, _, f1, hql, by omega, by omega, _, M.ol.int_at (by omega) (by omega), i64 (by omega), ⟨rfl, by omega, by omega, by omega, fun j hj hjf => ?_, ?_⟩, by simp only []; omega⟩, fun hef => ⟨i64 (by omega), ⟨rfl, by omega, by omega, hen, fun j hj hjf => ?_, heq⟩, by simp only []; omega⟩⟩⟩
        · by_cases hjk : (j : Int) < k2
          · have := hle j hjk hjf; omega
          · obtain rfl : j = k2.toNat := by omega
            show _ ≤ La.getD (ed L k2.toNat).t.toNat 0; omega
        · rcases Int.le_total en (La.getD (ed L k2.toNat).t.toNat 0) with hl | hl
          · rcases heq with h0 | ⟨e, he, hef', hv⟩
            · exact .inl (by omega)
            · exact .inr ⟨e, he, hef', by omega⟩
          · exact .inr ⟨_, ed_mem (L := L) (i := k2.toNat) (by omega), hef, by show _ = La.getD (ed L k2.toNat).t.toNat 0; omega⟩
        · by_cases hjk : (j : Int) < k2
          · exact hle j hjk hjf
          · obtain rfl : j = k2.toNat := by omega
            exact absurd hjf hef
      · obtain rfl : k2 = L.length := by omega
        have hgd := Ints.idx hDw (i := (i : Int)) (by omega) (by omega)
        rw [show ((i : Int)).toNat = i by simp] at hgd
        have hb2 := hDb i him
        have hen2 : -60000000000 ≤ en := by
          rcases heq with h0 | ⟨e, he, hef, hv⟩
          · omega
          · have hEe := hE e he
            by_cases hmd : e.t ∈ A.drop (m - k.toNat)
            · have := hLa.b e.t.toNat (by omega) (by rw [show ((e.t.toNat : Nat) : Int) = e.t by omega]; exact hmd)
              have hv : en = La.getD e.t.toNat 0 := hv
              omega
            · have := hrest e.t.toNat (by omega) (by rw [show ((e.t.toNat : Nat) : Int) = e.t by omega]; exact hmd)
              have hv : en = La.getD e.t.toNat 0 := hv
              omega
        refine ⟨hp8, _, _, _, f1, hq, by omega, by omega, _, hgd, i64 (by omega), hql, by omega, by omega, ?_⟩
        refine store_int M.ol (by omega) (by omega) (by intro b hb y hy; simp at hb; subst hb; exact M.bl y hy) fun w26 o' g => ⟨i64 (by omega), ⟨_, g.ext hw M.ol, M.setL o' g, by omega, by omega, ?_, fun j hj hn => ?_⟩, by simp only []; omega⟩
        · rw [show (k + 1).toNat = k.toNat + 1 by omega, show ((i : Int)).toNat = i by simp]
          refine late_step hA (by omega) hDb hE hLa him hAk (by omega) (fun e he hef => ?_) ?_
          · obtain ⟨j, hj, rfl⟩ := mem_ed he
            have := hle j (by omega) hef; omega
          · rcases heq with h0 | ⟨e, he, hef, hv⟩
            · exact .inl (by omega)
            · exact .inr ⟨e, he, hef, by omega⟩
        · rw [show (k + 1).toNat = k.toNat + 1 by omega, drop_next lenA (by omega) hAk] at hn
          rw [getD_set _ _ _ _ _ (by omega), if_neg (fun hji => hn (.inr (by omega)))]
          exact hrest j hj fun h => hn (.inl h)
    · obtain rfl : k = m := by omega
      simp only [Int.toNat_natCast] at hLa
      refine ⟨hp8, _, _, _, c0, _, _, _, c1, _, c2', fun w23 x23 => ⟨but_ext x23 hw (by intro b hb; simp at hb; omega), _, _, _, _, _, _, _, _, rfl, fun h => absurd rfl h, fun _ => ⟨hok, hokD, rfl, rfl, ⟨A, hA⟩, Ea, La, ?_, ?_, plan_of hN hA hE hEa hLa⟩⟩⟩
      · exact M.oe.but x23.toBut (by intro b hb y hy; simp at hb; subst hb; exact M.be y hy)
      · exact M.ol.but x23.toBut (by intro b hb y hy; simp at hb; subst hb; exact M.bl y hy)
end Go.Proofs.Ytblgmhmjafgdgaa
