/- The laws MatchTurn, MatchKonig and MatchHall. -/
import Derived.Test.YtlacdincnpbpdaaDoorMtV
set_option linter.unusedVariables false
set_option linter.unusedSimpArgs false
namespace Go.Proofs.YtlacdincnpbpdaaDoor
open Go.Sx Go.RowKit

theorem nOf_count (p : Nat → Bool) : ∀ n : Nat, (((List.range n).countP p : Nat) : Int) = nOf n fun i => p i = true
  | 0 => rfl
  | n + 1 => by
    rw [List.range_succ, List.countP_append, Int.natCast_add, nOf_count p n]
    by_cases hp : p n = true
    · rw [nOf_t (S := fun i => p i = true) hp]; simp [hp]
    · rw [nOf_f (S := fun i => p i = true) hp]; simp [hp]
theorem nOf_up {S : Nat → Prop} {n : Nat} : ∀ k : Nat, (∀ i, n ≤ i → ¬ S i) → nOf (n + k) S = nOf n S
  | 0, _ => rfl
  | k + 1, h => by
    rw [show n + (k + 1) = n + k + 1 by omega, nOf_f (h (n + k) (by omega)), nOf_up k h]
theorem bits_count {S : Int} {n : Nat} (hn : n ≤ 64) (h : ∀ i, tb S i = true → i < n) : ((bitsOf S).length : Int) = nOf n fun i => tb S i = true := by
  have h1 : (bitsOf S).length = (List.range 64).countP fun i => tb S i := by
    unfold bitsOf
    rw [List.length_map, List.countP_eq_length_filter]
  rw [h1, nOf_count]
  have := nOf_up (S := fun i => tb S i = true) (n := n) (64 - n) fun i hi hb => by have := h i hb; omega
  rw [show n + (64 - n) = 64 by omega] at this
  exact this
theorem bits_mem {S : Int} {x : Int} : x ∈ bitsOf S ↔ 0 ≤ x ∧ tb S x.toNat = true := by
  constructor
  · intro h
    have h0 := bitsOf_nonneg h
    refine ⟨h0.1, ?_⟩
    have : x = ((x.toNat : Nat) : Int) := by omega
    rw [this] at h
    exact bitsOf_mem.1 h
  · rintro ⟨h0, h1⟩
    have : x = ((x.toNat : Nat) : Int) := by omega
    rw [this]
    exact bitsOf_mem.2 h1

/-- All tables of the same pairs have as many. -/
theorem PairsX.same {N M : Nat} {L : List E} {May H X May' H' X' : List Int} (h : PairsX N M L May H X) (h' : PairsX N M L May' H' X') : many N X = many N X' := by
  have h1 := h.inv.best h.out (h'.out.pr h'.inv.mt)
  have h2 := h'.inv.best h'.out (h.out.pr h.inv.mt)
  omega

theorem AltX.cover {N M : Nat} {L : List E} {May H X : List Int} {left right : Int} (h : PairsX N M L May H X) (hA : AltX N M L H X left right) : many N X = nOf N (fun i => ¬ tb left i = true) + nOf M fun k => tb right k = true := by
  have hP := h.out.pr h.inv.mt
  have h1 := hP.cover (S := fun i => tb left i = true) (T := fun k => tb right k = true) fun i k _ => hA.out i k
  have h2 := hP.most (S := fun i => tb left i = true) (T := fun k => tb right k = true) hA.un fun k hk ht => by
    obtain ⟨_, h3, h4⟩ := hA.back k ht
    have hlt := h.inv.lt k hk
    exact ⟨(hg H k).toNat, by omega, h4, (h.out.iff _ k (by omega) hk).2 (by omega)⟩
  omega

theorem core_MatchKonig (W : World) (hg0 : GL W) : ∀ n : Int, InR .i64 n → ∀ m : Int, InR .i64 m → ∀ l : Option Addr, ∀ ll : Nat, ∀ lc : Nat, SlcArg Tryd.prog W T_Edge l ll lc → ∀ other : Option Addr, ∀ otherl : Nat, ∀ otherc : Nat, SlcArg Tryd.prog W T_int other otherl otherc →
    FnP Tryd.prog F_shiftbellkeep_MatchKonig #[.int .i64 n, .int .i64 m, .slice l ll lc, .slice other otherl otherc] W fun v W' => v = .bool true ∧ Ext W W' := by
  intro n hn m hm p ll lc hl r ol oc ho
  obtain ⟨L, rfl, h63, hin, hL⟩ := edges_open hl
  obtain ⟨Y, rfl, _, hY⟩ := ho.ints (k := .i64) (by kernel_rfl) (by kernel_rfl)
  have h64 := ho.le
  have h65 := ho.max
  refine ok_shiftbellkeep_MatchKonig _ _ _ _ _ _ _ _ W _ ?_
  intro w0 h0
  refine (matches_k w0 (hg0.ext h0)).mono fun v w1 ⟨e1, hv⟩ => ⟨e1, true, hv, fun h => by simp at h, fun _ w3 h3 => ?_⟩
  refine (Pairs_k n m p lc L h63 w3 (hg0.ext h3) (hL.ext h3)).mono fun v w4 ⟨e4, q, l, d, hv, hbad, hgd⟩ => ⟨e4, _, _, _, _, hv, fun w9 h9 => ?_⟩
  have x9 := (h3.trans e4).trans h9
  refine (Cover_k n m p lc L h63 w9 (hg0.ext x9) (hL.ext x9)).mono fun v w10 ⟨e10, qa, la, da, qb, lb, db, hv, hbad2, hgd2⟩ => ⟨e10, _, _, _, _, _, _, _, hv, ?_⟩
  have x10 := x9.trans e10
  refine ⟨fun hne => ?_, fun he w18 h18 => ?_⟩
  · have hno : ¬ okX n m L := fun h => hne (errX_ok.2 h)
    have := hbad hno
    obtain ⟨h1, h2⟩ := hbad2 hno
    subst_vars
    exact ⟨fun _ => i64 (by simp), fun _ => i64 (by simp), fun w18 h18 => ⟨by simp, x10.trans h18⟩⟩
  have hok := errX_ok.1 he
  obtain ⟨hlN, hld, May, H, X, oX, hP⟩ := hgd hok
  obtain ⟨left, right, rest, May', H', X', hP', hA, hUr, hrest, oa, ob⟩ := hgd2 hok
  have hXl := oX.leni
  have hok' := hok
  obtain ⟨hn0, hn1, hm0, hm1, hl, hLok⟩ := hok'
  have hcov := hA.cover hP'
  rw [hP'.same hP] at hcov
  have hla := bits_count (S := rest) (n := n.toNat) (by omega) fun i hi => ((hrest i).1 hi).1
  have hlb := bits_count (S := right) (n := m.toNat) (by omega) fun i hi => (hA.back i hi).1
  have la' := oa.leni
  have lb' := ob.leni
  have hca : nOf n.toNat (fun i => tb rest i = true) = nOf n.toNat fun i => ¬ tb left i = true := nOf_congr fun i hi => by
    rw [hrest]
    constructor
    · rintro ⟨_, h⟩; rw [h]; simp
    · intro h; exact ⟨hi, by simpa using h⟩
  have hbl1 := bitsOf_length (S := rest)
  have hbl2 := bitsOf_length (S := right)
  have hml : many n.toNat X = la + lb := by rw [hcov, ← hca, ← hla, ← hlb, la', lb']
  have x18 := x10.trans h18
  have hcap := oX.le
  have hk1 := kpairs_k n m p lc L h63 q d X (by omega) (by omega) w18 (hL.ext x18) (oX.ext ((h9.trans e10).trans h18)).cells
  rw [hXl] at hk1
  refine hk1.mono fun v w19 ⟨e19, hv⟩ => ⟨e19, _, hv, ?_⟩
  rw [if_pos ⟨by omega, hP.out.pr hP.inv.mt⟩, hml]
  have oa' := oa.cells
  refine ⟨fun k w' => w' = w10 ∧ 0 ≤ k ∧ k ≤ L.length, fun k _ => (L.length - k).toNat, ⟨rfl, by omega, by omega⟩, ?_⟩
  rintro k w10 ⟨rfl, hk0, hk1⟩
  refine ⟨fun hlt => ?_, fun hge => ⟨fun _ => i64 (by omega), fun _ w24 h24 => ?_, fun hb => ?_⟩⟩
  · obtain ⟨g1, g2, g3, g4⟩ := edges_at (hL.ext x10) hk0 hlt
    have hmem := ed_mem (L := L) (i := k.toNat) (by omega)
    have hE := hLok _ hmem
    refine ⟨g1, hk0, hlt, g2, _, g3, _, g4, fun b26 _ => fun w27 h27 => ?_⟩
    have hcA := ContainsI_k qa da (bitsOf rest) (by omega) (ed L k.toNat).f w27 (oa.ext h27).cells
    rw [la'] at hcA
    refine hcA.mono fun v w28 ⟨e28, hv⟩ => ⟨e28, _, hv, fun hno w30 h30 => ?_, fun _ => ⟨i64 (by omega), ⟨rfl, by omega, by omega⟩, by simp only []; omega⟩⟩
    have hcB := ContainsI_k qb db (bitsOf right) (by omega) (ed L k.toNat).t w30 (ob.ext h30).cells
    rw [lb'] at hcB
    refine hcB.mono fun v w31 ⟨e31, hv⟩ => ⟨e31, _, hv, fun hno2 => ?_, fun _ => ⟨i64 (by omega), ⟨rfl, by omega, by omega⟩, by simp only []; omega⟩⟩
    rw [decide_eq_false_iff_not, bits_mem] at hno hno2
    have hleft : tb left (ed L k.toNat).f.toNat = true := Classical.byContradiction fun hx => hno ⟨hE.1, (hrest _).2 ⟨by omega, by simpa using hx⟩⟩
    exact absurd ⟨hE.2.2.1, hA.out _ (ed L k.toNat).t.toNat hleft ⟨_, hmem, by omega, by omega⟩⟩ hno2
  · have x24 := x10.trans h24
    refine (kpairs_k n m p lc L h63 r oc Y (by omega) (by omega) w24 (hL.ext x24) (hY.ext x24)).mono fun v w25 ⟨e25, hv⟩ => ⟨e25, _, hv, fun w27 h27 => ⟨b_true ?_, x10.trans h27⟩⟩
    rw [decide_eq_true_iff]
    split
    · rename_i hx
      have := hP.inv.best hP.out hx.2
      omega
    · omega
  · rcases hb with (h1 | h1) | h1
    · exact absurd he h1
    · omega
    · exact absurd rfl h1

theorem OutOf.eqMany {N M : Nat} {A : Nat → Nat → Prop} {H X : List Int} (hO : OutOf N M H X) (h : MtU N M A (fun _ => false) H) : many N X = many M H := by
  have h1 : many N X ≤ many M H := nOf_inj (fun i k => hg X i = k) (fun i hi hx => by
    rcases hO.val i hi with h0 | ⟨k, hk, he⟩
    · exact absurd h0 hx
    · exact ⟨k, hk, he, by rw [(hO.iff i k hi hk).1 he]; omega⟩) (fun i j k hi hj hx _ h1 h2 => (hO.pr h).inj i j hi hj (h1.trans h2.symm) hx)
  have h2 : many M H ≤ many N X := nOf_inj (fun k i => hg H k = i) (fun k hk hx => by
    rcases h.val k hk with h0 | ⟨h0, h1⟩
    · exact absurd h0 hx
    · exact ⟨(hg H k).toNat, by omega, by omega, by rw [(hO.iff _ k (by omega) hk).2 (by omega)]; omega⟩) (fun k j i hk hj hx _ h1 h2 => h.inj k j hk hj rfl rfl (by omega) (by omega))
  omega

theorem MtU.prT {N M : Nat} {A : Nat → Nat → Prop} {H : List Int} (h : MtU N M A (fun _ => false) H) : Pr M N (fun k i => A i k) H :=
  ⟨h.len, fun k hk => by
    rcases h.val k hk with h0 | ⟨h0, h1⟩
    · exact .inl h0
    · exact .inr ⟨(hg H k).toNat, by omega, by omega, h.ed k hk rfl h0⟩, fun k j hk hj he hne => by
    rcases h.val k hk with h0 | ⟨h0, h1⟩
    · exact absurd h0 hne
    · exact h.inj k j hk hj rfl rfl h0 he⟩

theorem Pr.mono {N M : Nat} {A B : Nat → Nat → Prop} {X : List Int} (h : Pr N M A X) (hAB : ∀ i k, A i k → B i k) : Pr N M B X :=
  ⟨h.len, fun i hi => by
    rcases h.val i hi with h0 | ⟨k, hk, he, ha⟩
    · exact .inl h0
    · exact .inr ⟨k, hk, he, hAB i k ha⟩, h.inj⟩

def mir (e : E) : E := ⟨e.t, e.f⟩
theorem adj_mir {L : List E} {i k : Nat} : Adj (L.map mir) i k ↔ Adj L k i := by
  unfold Adj
  constructor
  · rintro ⟨e, he, h1, h2⟩
    obtain ⟨x, hx, rfl⟩ := List.mem_map.1 he
    exact ⟨x, hx, h2, h1⟩
  · rintro ⟨e, he, h1, h2⟩
    exact ⟨mir e, List.mem_map.2 ⟨e, he, rfl⟩, h2, h1⟩
theorem okX_mir {n m : Int} {L : List E} (h : okX n m L) : okX m n (L.map mir) := by
  obtain ⟨h1, h2, h3, h4, h5, h6⟩ := h
  refine ⟨h3, h4, h1, h2, by simpa using h5, fun e he => ?_⟩
  obtain ⟨x, hx, rfl⟩ := List.mem_map.1 he
  have := h6 x hx
  exact ⟨this.2.2.1, this.2.2.2, this.1, this.2.1⟩

theorem turned_many {N M : Nat} {L : List E} {May H X May' H' X' : List Int} (h : PairsX N M L May H X) (h' : PairsX M N (L.map mir) May' H' X') : many N X = many M X' := by
  have h1 := h.inv.best h.out (h'.inv.mt.prT.mono fun i k ha => adj_mir.1 ha)
  have h2 := h'.inv.best h'.out (h.inv.mt.prT.mono fun i k ha => adj_mir.2 ha)
  rw [h.out.eqMany h.inv.mt] at h1 ⊢
  rw [h'.out.eqMany h'.inv.mt] at h2 ⊢
  omega

theorem more_many {N M : Nat} {L : List E} {x : E} {May H X May' H' X' : List Int} (h : PairsX N M L May H X) (h' : PairsX N M (L ++ [x]) May' H' X') : many N X' = many N X ∨ many N X' = many N X + 1 := by
  have h1 := h'.inv.best h'.out ((h.out.pr h.inv.mt).mono fun i k ⟨e, he, h1⟩ => ⟨e, List.mem_append_left _ he, h1⟩)
  have hP := h'.out.pr h'.inv.mt
  have hl := hP.len
  by_cases hx : ∃ a : Nat, a < N ∧ x.f = a
  · obtain ⟨a, ha, hxa⟩ := hx
    have hgs : ∀ i, hg (X'.set a (-1)) i = if i = a then -1 else hg X' i := fun i => getD_set _ _ _ _ _ (by omega)
    have hY : Pr N M (Adj L) (X'.set a (-1)) := ⟨by simpa using hl, fun i hi => by
      rw [hgs]
      by_cases hia : i = a
      · rw [if_pos hia]; exact .inl rfl
      · rw [if_neg hia]
        rcases hP.val i hi with h0 | ⟨k, hk, he, e, hem, h2, h3⟩
        · exact .inl h0
        · refine .inr ⟨k, hk, he, e, ?_, h2, h3⟩
          rcases List.mem_append.1 hem with h4 | h4
          · exact h4
          · simp at h4; subst h4; omega, fun i j hi hj he hne => by
      rw [hgs] at hne
      rw [hgs, hgs] at he
      by_cases hia : i = a
      · rw [if_pos hia] at hne; exact absurd rfl hne
      · rw [if_neg hia] at he hne
        by_cases hja : j = a
        · rw [if_pos hja] at he; exact absurd he hne
        · rw [if_neg hja] at he; exact hP.inj i j hi hj he hne⟩
    have h2 := h.inv.best h.out hY
    have h3 : many N X' ≤ many N (X'.set a (-1)) + 1 := by
      have : many N X' ≤ sumN N fun i => (if hg (X'.set a (-1)) i ≠ -1 then 1 else 0) + if i = a then 1 else 0 := sumN_le fun i hi => by
        by_cases hia : i = a
        · have e1 : hg (X'.set a (-1)) i = -1 := by rw [hgs, if_pos hia]
          rw [if_neg (show ¬ hg (X'.set a (-1)) i ≠ -1 from fun h => h e1), if_pos hia]; split <;> omega
        · have e1 : hg (X'.set a (-1)) i = hg X' i := by rw [hgs, if_neg hia]
          rw [e1, if_neg hia]
          by_cases hx : hg X' i ≠ -1
          · rw [if_pos hx, if_pos hx]; omega
          · rw [if_neg hx, if_neg hx]; omega
      rw [sumN_add, sumN_single, if_pos ha] at this
      refine Int.le_trans this (Int.le_of_eq ?_)
      rw [Int.add_left_inj]
      unfold many nOf
      exact sumN_congr fun i _ => by
        by_cases hx : hg (X'.set a (-1)) i ≠ -1
        · rw [if_pos hx, if_pos hx]
        · rw [if_neg hx, if_neg hx]
    omega
  · have hY : Pr N M (Adj L) X' := ⟨hl, fun i hi => by
      rcases hP.val i hi with h0 | ⟨k, hk, he, e, hem, h2, h3⟩
      · exact .inl h0
      · refine .inr ⟨k, hk, he, e, ?_, h2, h3⟩
        rcases List.mem_append.1 hem with h4 | h4
        · exact h4
        · simp at h4; subst h4; exact absurd ⟨i, hi, h2⟩ hx, hP.inj⟩
    have h2 := h.inv.best h.out hY
    omega

theorem mir_at {L : List E} {k : Nat} (h : k < L.length) : (L.map mir).take (k + 1) = (L.map mir).take k ++ [mir (ed L k)] := by
  rw [List.take_add_one, List.getElem?_map, getElem?_getD L default h]; rfl

theorem many_lt {N : Nat} {X : List Int} : 0 ≤ many N X ∧ many N X ≤ N := ⟨nOf_nonneg _ _, nOf_le_n _ _⟩

theorem core_MatchTurn (W : World) (hg0 : GL W) : ∀ n : Int, InR .i64 n → ∀ m : Int, InR .i64 m → ∀ l : Option Addr, ∀ ll : Nat, ∀ lc : Nat, SlcArg Tryd.prog W T_Edge l ll lc → ∀ x_0 : Int, InR .i64 x_0 → ∀ x_1 : Int, InR .i64 x_1 →
    FnP Tryd.prog F_shiftbellkeep_MatchTurn #[.int .i64 n, .int .i64 m, .slice l ll lc, .agg #[.int .i64 x_0, .int .i64 x_1]] W fun v W' => v = .bool true ∧ Ext W W' := by
  intro n hn m hm p ll lc hl x0 hx0 x1 hx1
  obtain ⟨L, rfl, h63, hin, hL⟩ := edges_open hl
  refine ok_shiftbellkeep_MatchTurn _ _ _ _ _ _ _ W _ ?_
  intro b0 hb0 w1 h1
  refine (matches_k w1 (hg0.ext h1)).mono fun v w2 ⟨e2, hv⟩ => ⟨e2, true, hv, fun h => by simp at h, fun _ w4 x4 => ?_⟩
  have h4 := extB_ext x4
  have hb4 : b0 < w4.heap.size := x4.lt b0 (by simp)
  refine (Pairs_k n m p lc L h63 w4 (hg0.ext h4) (hL.ext h4)).mono fun v w5 ⟨e5, q, l, d, hv, hbad, hgd⟩ => ⟨e5, _, _, _, _, hv, fun hne w10 h10 => ⟨?_, (h4.trans e5).trans h10⟩, fun he => ?_⟩
  · rw [hbad fun h => hne (errX_ok.2 h)]; rfl
  have hok := errX_ok.1 he
  obtain ⟨hlN, hld, May, H, X, oX, hP⟩ := hgd hok
  have hXl := oX.leni
  have hn0 := hok.1
  have hm0 := hok.2.2.1
  have x5 := h4.trans e5
  have hb5 : b0 < w5.heap.size := Nat.lt_of_lt_of_le hb4 e5.size
  have hl400 := hok.2.2.2.2.1
  refine ⟨fun q' l' d' k w' => Ext W w' ∧ Ext w5 w' ∧ 0 ≤ k ∧ k ≤ L.length ∧ l' = k.toNat ∧ Own w5.heap.size w' T_Edge 2 q' l' d' (((L.map mir).take k.toNat).flatMap encE), fun _ _ _ k _ => (L.length - k).toNat, ⟨x5, Ext.refl _, by omega, by omega, rfl, Own.nil⟩, ?_⟩
  rintro q' l' d' k w13 ⟨hx13, h513, hk0, hk1, rfl, oT⟩
  refine ⟨fun hlt => ?_, fun hge w14 x14 => ?_⟩
  · obtain ⟨g1, g2, g3, g4⟩ := edges_at (hL.ext hx13) hk0 hlt
    refine ⟨g1, hk0, hlt, g2, _, g3, _, g4, fun b16 hb16 => ?_⟩
    refine push_recB elem_sl_Edge (by omega) oT h513.size rfl (by intro u hu; simp [Value.cells] at hu; rcases hu with rfl | rfl <;> rfl) (fun b hb x hx => ?_) (by omega) (by omega) (by omega) fun p' c' w' o' g _ => ⟨i64 (by omega), ⟨g.below hx13 hx13.size fun a ha => ?_, g.ext h513 oT, by omega, by omega, by omega, ?_⟩, by simp only []; omega⟩
    · have := oT.lt x hx
      simp at hb
      rcases hb with rfl | rfl <;> omega
    · have := (oT.lt a ha).1
      have := x5.size
      omega
    · rw [show (k + 1).toNat = k.toNat + 1 by omega, mir_at (by omega), List.flatMap_append]
      simpa [encE, mir, Value.cells] using o'
  have h14 := extB_ext x14
  obtain rfl : k = L.length := by omega
  have hokT := okX_mir hok
  have hx14 := hx13.trans h14
  have hTl : (L.map mir).length = L.length := by simp
  have htk : (L.map mir).take ((L.length : Int)).toNat = L.map mir := List.take_of_length_le (by simp)
  rw [htk] at oT
  have eT : Edges w14 q' (L.map mir) := (oT.ext h14).recs fun _ _ => rfl
  have hPT := Pairs_k m n q' d' (L.map mir) (by omega) w14 (hg0.ext hx14) eT
  rw [hTl] at hPT
  simp only [Int.toNat_natCast]
  refine hPT.mono fun v w15 ⟨e15, q2, l2, d2, hv, hbad2, hgd2⟩ => ⟨e15, _, _, _, _, hv, fun w20 h20 => ?_⟩
  obtain ⟨hlN2, hld2, May2, H2, X2, oX2, hP2⟩ := hgd2 hokT
  have hXl2 := oX2.leni
  have hx15 := hx14.trans e15
  have hcap := oX.le
  have hcap2 := oX2.le
  have hsame := turned_many hP hP2
  have hk1 := kpairs_k n m p lc L h63 q d X (by omega) (by omega) w20 (hL.ext (hx15.trans h20)) (oX.ext (((h513.trans h14).trans e15).trans h20)).cells
  rw [hXl, if_pos ⟨by omega, hP.out.pr hP.inv.mt⟩] at hk1
  refine hk1.mono fun v w21 ⟨e21, hv⟩ => ⟨e21, _, hv, fun hb => ?_, fun _ w23 h23 => ?_⟩
  · rcases hb with hb | hb
    · exact absurd (errX_ok.2 hokT) hb
    · have := many_lt (N := n.toNat) (X := X); omega
  have hk2 := kpairs_k m n q' d' (L.map mir) (by omega) q2 d2 X2 (by omega) (by omega) w23 (eT.ext (e15.trans h23)) (oX2.ext h23).cells
  rw [hXl2, hTl, if_pos ⟨by have := hok.2.2.1; omega, hP2.out.pr hP2.inv.mt⟩] at hk2
  refine hk2.mono fun v w24 ⟨e24, hv⟩ => ⟨e24, _, hv, fun hne => absurd hsame.symm hne, fun _ => ?_⟩
  -- one edge more
  have hb15 : b0 < w15.heap.size := Nat.lt_of_lt_of_le (x14.lt b0 (by simp)) e15.size
  have hl16 : L.length + 1 ≤ 401 := by omega
  have appn : ∀ {wb : World} {pa pb : Option Addr} {ca cb : Nat} {K : Value → World → Prop}, Ext w15 wb → Own w15.heap.size wb T_Edge 2 pa L.length ca (L.flatMap encE) → Cells wb pb (encE (⟨x0, x1⟩ : E)) →
      (∀ p' c' w', Ext w15 w' → Own w15.heap.size w' T_Edge 2 p' (L.length + 1) c' ((L ++ [(⟨x0, x1⟩ : E)]).flatMap encE) → Kept [b0] wb w' → K (.slice p' (L.length + 1) c') w') → Run Tryd.prog (.append #[22, 22] 22 [.slice pa L.length ca, .slice pb 1 cb]) wb K := fun {wb pa pb ca cb K} hx oa ob hk => by
    refine run_app elem_sl_Edge (by omega) oa hx.size (ob.ne (by simp [encE])) (news := encE (⟨x0, x1⟩ : E)) rfl ob (by intro u hu; simp [encE] at hu; rcases hu with rfl | rfl <;> rfl) (by omega) (by omega) fun p' c' w' o' g _ => hk p' c' w' (g.ext hx oa) ?_ fun b hb => ?_
    · rw [List.flatMap_append]; simpa using o'
    · simp at hb; subst hb
      refine g.by_.block b (Nat.lt_of_lt_of_le hb15 hx.size) fun he => ?_
      cases pa with
      | none => cases he
      | some y => simp [blk] at he; have := (oa.lt y rfl).1; omega
  refine ⟨fun q3 l3 d3 w' => Ext w15 w' ∧ l3 = L.length + 1 ∧ Own w15.heap.size w' T_Edge 2 q3 l3 d3 ((L ++ [(⟨x0, x1⟩ : E)]).flatMap encE), ⟨fun w29 x29 => ?_, fun w29 x29 => ?_⟩, ?_⟩
  · have h29 := extB_ext x29
    refine (CloneE_k p lc L (by omega) w29 (hL.ext (hx15.trans h29))).mono fun v w30 ⟨e30, pc, cc, hv, oc⟩ => ⟨e30, _, _, _, hv, fun w34 x34 => ?_⟩
    have h34 := extB_ext x34
    refine run_lit elem_sl_Edge [.agg #[.int .i64 x0, .int .i64 x1]] rfl rfl (by intro v hv; simp at hv; subst hv; rfl) (by omega) (by omega) fun w35 o35 e35 => ⟨e35, _, _, _, rfl, fun w39 x39 => ?_⟩
    have h39 := extB_ext x39
    refine appn ((((h29.trans e30).trans h34).trans e35).trans h39) ((((oc.weak h29.size).ext h34).ext e35).ext h39) ?_ ?_
    rotate_left
    · exact fun p' c' w' hx o' hkp => ⟨hkp, _, _, _, rfl, hx, rfl, o'⟩
    have := ((o35 0 (Nat.zero_le _)).ext h39).cells
    simpa [Value.cells, encE] using this
  · have h29 := extB_ext x29
    refine run_lit elem_sl_Edge [.agg #[.int .i64 x0, .int .i64 x1]] rfl rfl (by intro v hv; simp at hv; subst hv; rfl) (by omega) (by omega) fun w30 o30 e30 => ⟨e30, _, _, _, rfl, fun w34 x34 => ?_⟩
    have h34 := extB_ext x34
    have hx34 := (h29.trans e30).trans h34
    refine (CloneE_k p lc L (by omega) w34 (hL.ext (hx15.trans hx34))).mono fun v w35 ⟨e35, pc, cc, hv, oc⟩ => ⟨e35, _, _, _, hv, fun w39 x39 => ?_⟩
    have h39 := extB_ext x39
    refine appn ((hx34.trans e35).trans h39) ((oc.weak hx34.size).ext h39) ?_ ?_
    rotate_left
    · exact fun p' c' w' hx o' hkp => ⟨hkp, _, _, _, rfl, hx, rfl, o'⟩
    have := (((o30 0 (Nat.zero_le _)).ext h34).ext (e35.trans h39)).cells
    simpa [Value.cells, encE] using this
  rintro q3 l3 d3 w28 ⟨hx28, rfl, o28⟩ w29 x29
  have h29 := extB_ext x29
  have hx29 := hx15.trans (hx28.trans h29)
  have e3 : Edges w29 q3 (L ++ [(⟨x0, x1⟩ : E)]) := (o28.ext h29).recs fun _ _ => rfl
  have hPm := Pairs_k n m q3 d3 (L ++ [(⟨x0, x1⟩ : E)]) (by simp; omega) w29 (hg0.ext hx29) e3
  rw [List.length_append] at hPm
  refine hPm.mono fun v w30 ⟨e30, q4, l4, d4, hv, hbad4, hgd4⟩ => ⟨e30, _, _, _, _, hv, fun hne w35 h35 => ⟨?_, (hx29.trans e30).trans h35⟩, fun he4 w35 h35 => ?_⟩
  · rw [hbad4 fun h => hne (errX_ok.2 h)]; rfl
  have hok4 := errX_ok.1 he4
  obtain ⟨hlN4, hld4, May4, H4, X4, oX4, hP4⟩ := hgd4 hok4
  have hXl4 := oX4.leni
  have hcap4 := oX4.le
  have hk4 := kpairs_k n m q3 d3 (L ++ [(⟨x0, x1⟩ : E)]) (by simp; omega) q4 d4 X4 (by omega) (by omega) w35 (e3.ext (e30.trans h35)) (oX4.ext h35).cells
  rw [hXl4, List.length_append, if_pos ⟨by have := hok.1; omega, hP4.out.pr hP4.inv.mt⟩] at hk4
  have hb1 := many_lt (N := n.toNat) (X := X)
  have hn60 := hok.2.1
  refine hk4.mono fun v w36 ⟨e36, hv⟩ => ⟨e36, _, hv, fun _ => i64 (by omega), fun w38 h38 => ⟨b_true ?_, (hx29.trans e30).trans h38⟩⟩
  rcases more_many hP hP4 with h | h
  · simp [h]
  · simp [h]

theorem nodup_count {N : Nat} : ∀ {V : List Int}, V.Nodup → (∀ y ∈ V, 0 ≤ y ∧ y < N) → (V.length : Int) = nOf N fun k => (k : Int) ∈ V := by
  intro V
  induction V with
  | nil => intro _ _; rw [nOf_none (by simp)]; rfl
  | cons y V ih =>
    intro hn hb
    rw [List.nodup_cons] at hn
    have hy := hb y (List.mem_cons_self ..)
    have := ih hn.2 fun z hz => hb z (List.mem_cons_of_mem _ hz)
    rw [List.length_cons, Int.natCast_add, this]
    have : nOf N (fun k => (k : Int) ∈ y :: V) = sumN N fun k => (@ite Int ((k : Int) ∈ V) (Classical.propDecidable _) 1 0) + if k = y.toNat then 1 else 0 := sumN_congr fun k hk => by
      by_cases hky : k = y.toNat
      · have : (k : Int) = y := by omega
        rw [if_pos (show ((k : Nat) : Int) ∈ y :: V by rw [this]; simp), if_pos hky, if_neg (show ¬ ((k : Nat) : Int) ∈ V by rw [this]; exact hn.1)]; rfl
      · have : (k : Int) ≠ y := by omega
        rw [if_neg hky]
        by_cases hkv : (k : Int) ∈ V
        · rw [if_pos (show ((k : Nat) : Int) ∈ y :: V from List.mem_cons_of_mem _ hkv), if_pos hkv]; rfl
        · rw [if_neg (show ¬ ((k : Nat) : Int) ∈ y :: V by simp [this, hkv]), if_neg hkv]; rfl
    rw [this, sumN_add, sumN_single, if_pos (by omega)]
    rfl

def nbr (L : List E) (W : List Int) (k : Nat) : Prop := ∃ e ∈ L, e.f ∈ W ∧ e.t = k

/-- Have they fewer together than they are? -/
theorem lacks_k (N M : Nat) (p : Option Addr) (c : Nat) (L : List E) (hok : okX N M L) (q : Option Addr) (d : Nat) (X : List Int) (h64 : (X.length : Int) ≤ 9223372036854775807) (c0 c1 : Option Addr) (w : World) (h : Edges w p L) (hX : Ints .i64 w q X) (h0 : cell w c0 0 = some (.int .i64 N)) (h1 : cell w c1 0 = some (.slice p L.length c)) :
    FnP Tryd.prog F_shiftbellkeep_MatchHall_1 #[.slice q X.length d, .pointer c0, .pointer c1] w fun v w' => Ext w w' ∧ v = .bool (decide (nOf M (nbr L X) < nOf N fun i => (i : Int) ∈ X)) := by
  obtain ⟨hn0, hn1, hm0, hm1, hl, hLok⟩ := hok
  refine ok_shiftbellkeep_MatchHall_1 q X.length d c0 c1 w _ ⟨_, h0, ?_⟩
  refine ⟨fun many k w' => w' = w ∧ 0 ≤ k ∧ k ≤ N ∧ many = nOf k.toNat fun i => (i : Int) ∈ X, fun _ k _ => (N - k).toNat, ⟨rfl, by omega, by omega, rfl⟩, ?_⟩
  rintro mn k w ⟨rfl, hk0, hk1, rfl⟩
  have hnb := nOf_le_n k.toNat fun i => (i : Int) ∈ X
  have hnb0 := nOf_nonneg k.toNat fun i => (i : Int) ∈ X
  refine ⟨fun hlt w5 h5 => ?_, fun hge => ?_⟩
  · have hkk : ((k.toNat : Nat) : Int) = k := by omega
    have hs1 : k ∈ X → nOf (k + 1).toNat (fun i => (i : Int) ∈ X) = nOf k.toNat (fun i => (i : Int) ∈ X) + 1 := fun h => by
      rw [show (k + 1).toNat = k.toNat + 1 by omega]
      exact nOf_t (S := fun i => (i : Int) ∈ X) (show ((k.toNat : Nat) : Int) ∈ X by rw [hkk]; exact h)
    have hs0 : ¬ k ∈ X → nOf (k + 1).toNat (fun i => (i : Int) ∈ X) = nOf k.toNat (fun i => (i : Int) ∈ X) := fun h => by
      rw [show (k + 1).toNat = k.toNat + 1 by omega]
      exact nOf_f (S := fun i => (i : Int) ∈ X) (show ¬ ((k.toNat : Nat) : Int) ∈ X by rw [hkk]; exact h)
    refine (ContainsI_k q d X h64 k w5 (hX.ext h5)).mono fun v w6 ⟨e6, hv⟩ => ⟨e6, _, hv, fun hy => ⟨i64 (by omega), i64 (by omega), ⟨rfl, by omega, by omega, (hs1 (by simpa using hy)).symm⟩, by simp only []; omega⟩, fun hno => ⟨i64 (by omega), ⟨rfl, by omega, by omega, (hs0 (by simpa using hno)).symm⟩, by simp only []; omega⟩⟩
  obtain rfl : k = N := by omega
  simp only [Int.toNat_natCast]
  refine ⟨_, _, _, h1, ?_⟩
  refine ⟨fun qm lm cm k w' => Ext w w' ∧ 0 ≤ k ∧ k ≤ L.length ∧ ∃ V : List Int, Own w.heap.size w' T_int 1 qm lm cm (V.map (.int .i64)) ∧ lm ≤ k.toNat ∧ V.Nodup ∧ ∀ y, y ∈ V ↔ ∃ a : Nat, (a : Int) < k ∧ (ed L a).f ∈ X ∧ (ed L a).t = y, fun _ _ _ k _ => (L.length - k).toNat, ⟨Ext.refl _, by omega, by omega, [], Own.nil, by omega, List.nodup_nil, fun y => by simp; intro a ha; omega⟩, ?_⟩
  rintro qm lm cm k w11 ⟨hx, hk0, hk1, V, oV, hlm, hVn, hV⟩
  have hVl := oV.leni
  refine ⟨fun hlt => ?_, fun hge w12 h12 => ⟨hx.trans h12, ?_⟩⟩
  · obtain ⟨g1, g2, g3, g4⟩ := edges_at (h.ext hx) hk0 hlt
    have hsucc : ∀ y, (∃ a : Nat, (a : Int) < k + 1 ∧ (ed L a).f ∈ X ∧ (ed L a).t = y) ↔ (∃ a : Nat, (a : Int) < k ∧ (ed L a).f ∈ X ∧ (ed L a).t = y) ∨ ((ed L k.toNat).f ∈ X ∧ (ed L k.toNat).t = y) := fun y => by
      constructor
      · rintro ⟨a, ha, h1⟩
        by_cases hak : (a : Int) < k
        · exact .inl ⟨a, hak, h1⟩
        · obtain rfl : a = k.toNat := by omega
          exact .inr h1
      · rintro (⟨a, ha, h1⟩ | h1)
        · exact ⟨a, by omega, h1⟩
        · exact ⟨k.toNat, by omega, h1⟩
    refine ⟨g1, hk0, hlt, g2, _, g3, _, g4, fun b14 hb14 => fun w15 h15 => ?_⟩
    refine (ContainsI_k q d X h64 (ed L k.toNat).f w15 (hX.ext (hx.trans h15))).mono fun v w16 ⟨e16, hv⟩ => ⟨e16, _, hv, fun hy w18 h18 => ?_, fun hno => ⟨i64 (by omega), ⟨hx, by omega, by omega, V, oV, by omega, hVn, fun y => ?_⟩, by simp only []; omega⟩⟩
    · have hcV := ContainsI_k qm cm V (by omega) (ed L k.toNat).t w18 (oV.ext h18).cells
      rw [hVl] at hcV
      rw [decide_eq_true_iff] at hy
      refine hcV.mono fun v w19 ⟨e19, hv⟩ => ⟨e19, _, hv, fun hnv => ?_, fun hyv => ⟨i64 (by omega), ⟨hx, by omega, by omega, V, oV, by omega, hVn, fun y => ?_⟩, by simp only []; omega⟩⟩
      · rw [decide_eq_false_iff_not] at hnv
        refine push_intB elem_sl_int oV hx.size (fun b hb x hx' => by simp at hb; subst hb; have := (oV.lt x hx').2; omega) (by omega) (by omega) fun p' c' w' o' g _ _ => ⟨i64 (by omega), ⟨g.ext hx oV, by omega, by omega, _, o', by omega, ?_, fun y => ?_⟩, by simp only []; omega⟩
        · rw [List.nodup_append]
          refine ⟨hVn, by simp, fun a ha b hb => ?_⟩
          simp at hb; subst hb
          exact fun he => hnv (he ▸ ha)
        · rw [hsucc, List.mem_append, hV]
          refine or_congr Iff.rfl ?_
          simp
          constructor
          · rintro rfl; exact ⟨hy, rfl⟩
          · rintro ⟨_, h⟩; exact h.symm
      · rw [decide_eq_true_iff] at hyv
        rw [hsucc, hV]
        constructor
        · exact .inl
        · rintro (h | ⟨_, rfl⟩)
          · exact h
          · exact (hV _).1 hyv
    · rw [decide_eq_false_iff_not] at hno
      rw [hsucc, hV]
      constructor
      · exact .inl
      · rintro (h | ⟨h, _⟩)
        · exact h
        · exact absurd h hno
  · obtain rfl : k = L.length := by omega
    have hmem : ∀ y, y ∈ V ↔ ∃ e ∈ L, e.f ∈ X ∧ e.t = y := fun y => by
      rw [hV]
      constructor
      · rintro ⟨a, ha, h1, h2⟩; exact ⟨_, ed_mem (L := L) (by omega), h1, h2⟩
      · rintro ⟨e, he, h1, h2⟩
        obtain ⟨a, ha, rfl⟩ := mem_ed he
        exact ⟨a, by omega, h1, h2⟩
    have hlen := nodup_count (N := M) hVn fun y hy => by
      obtain ⟨e, he, _, rfl⟩ := (hmem y).1 hy
      have := hLok e he
      omega
    have hnb : nOf M (fun k => (k : Int) ∈ V) = nOf M (nbr L X) := nOf_congr fun k _ => hmem k
    rw [← hnb, ← hlen, hVl]

theorem core_MatchHall (W : World) (hg0 : GL W) : ∀ n : Int, InR .i64 n → ∀ m : Int, InR .i64 m → ∀ l : Option Addr, ∀ ll : Nat, ∀ lc : Nat, SlcArg Tryd.prog W T_Edge l ll lc → ∀ some : Option Addr, ∀ somel : Nat, ∀ somec : Nat, SlcArg Tryd.prog W T_int some somel somec →
    FnP Tryd.prog F_shiftbellkeep_MatchHall #[.int .i64 n, .int .i64 m, .slice l ll lc, .slice some somel somec] W fun v W' => v = .bool true ∧ Ext W W' := by
  intro n hn m hm p ll lc hl r sl sc hs
  obtain ⟨L, rfl, h63, hin, hL⟩ := edges_open hl
  obtain ⟨Y, rfl, _, hY⟩ := hs.ints (k := .i64) (by kernel_rfl) (by kernel_rfl)
  have h64 := hs.le
  have h65 := hs.max
  refine ok_shiftbellkeep_MatchHall _ _ _ _ _ _ _ _ W _ ?_
  intro w0 h0
  refine new_one rfl fun p1 w1 e1 cn _ _ => fun w2 h2 => ?_
  refine new_one rfl fun p3 w3 e3 cl _ _ => fun w4 h4 => ?_
  have x3 := ((h0.trans e1).trans h2).trans e3
  have cn3 := ext_cell (h2.trans e3) cn
  refine (matches_k w4 (hg0.ext (x3.trans h4))).mono fun v w5 ⟨e5, hv⟩ => ⟨e5, true, hv, fun h => by simp at h, fun _ => ⟨_, cn3, _, _, _, cl, fun w11 h11 => ?_⟩⟩
  have x11 := x3.trans h11
  refine (Pairs_k n m p lc L h63 w11 (hg0.ext x11) (hL.ext x11)).mono fun v w12 ⟨e12, q, l, d, hv, hbad, hgd⟩ => ⟨e12, _, _, _, _, hv, _, ext_cell (h11.trans e12) cn3, _, _, _, ext_cell (h11.trans e12) cl, fun w21 h21 => ?_⟩
  have x21 := (x11.trans e12).trans h21
  refine (Lack_k n m p lc L h63 w21 (hg0.ext x21) (hL.ext x21)).mono fun v w22 ⟨e22, qa, la, da, hv, hbad2, hgd2⟩ => ⟨e22, _, _, _, _, hv, fun hne => ?_, fun he => ?_⟩
  · have hno : ¬ okX n m L := fun h => hne (errX_ok.2 h)
    have := hbad hno
    have := hbad2 hno
    subst_vars
    exact ⟨fun _ => i64 (by simp), fun w27 h27 => ⟨by simp, (x21.trans e22).trans h27⟩⟩
  have x22 := x21.trans e22
  have h322 := ((h11.trans e12).trans h21).trans e22
  have hok := errX_ok.1 he
  obtain ⟨hlN, hld, May, H, X, oX, hP⟩ := hgd hok
  obtain ⟨left, right, May', H', X', hP', hA, oa⟩ := hgd2 hok
  have hXl := oX.leni
  have la' := oa.leni
  obtain ⟨hn0, hn1, hm0, hm1, hl4, hLok⟩ := id hok
  obtain ⟨N, rfl⟩ : ∃ N : Nat, n = N := ⟨n.toNat, by omega⟩
  obtain ⟨M, rfl⟩ : ∃ M : Nat, m = M := ⟨m.toNat, by omega⟩
  simp only [Int.toNat_natCast] at *
  have hcov := hA.cover hP'
  rw [hP'.same hP] at hcov
  have hla := bits_count (S := left) (n := N) (by omega) hA.lt
  have hcompl := nOf_compl N fun i => tb left i = true
  have hmn := many_lt (N := N) (X := X)
  have hrn := nOf_nonneg M fun k => tb right k = true
  have cn22 := ext_cell h322 cn3
  have cl22 := ext_cell h322 cl
  refine ⟨_, cn22, _, _, _, cl22, _, cn22, fun w32 h32 => ?_⟩
  have hcap := oX.le
  have hk1 := kpairs_k N M p lc L h63 q d X (by omega) (by omega) w32 (hL.ext (x22.trans h32)) (oX.ext ((h21.trans e22).trans h32)).cells
  simp only [Int.toNat_natCast] at hk1
  rw [hXl, if_pos ⟨by omega, hP.out.pr hP.inv.mt⟩] at hk1
  refine hk1.mono fun v w33 ⟨e33, hv⟩ => ⟨e33, _, hv, fun hc => ?_, fun hc => ?_⟩
  · have lackY : many N X = N → ∀ w35, Ext w22 w35 → FnP Tryd.prog F_shiftbellkeep_MatchHall_1 #[.slice r Y.length sc, .pointer p1, .pointer p3] w35 fun v w36 => Ext w35 w36 ∧ v = .bool false := fun hall w35 h35 => by
      refine (lacks_k N M p lc L hok r sc Y (by omega) p1 p3 w35 (hL.ext (x22.trans h35)) (hY.ext (x22.trans h35)) (ext_cell h35 cn22) (ext_cell h35 cl22)).mono fun v w36 ⟨e36, hv⟩ => ⟨e36, ?_⟩
      rw [hv]
      congr 1
      rw [decide_eq_false_iff_not]
      have hPr := hP.out.pr hP.inv.mt
      have hf := nOf_full hall
      have : nOf N (fun i => (i : Int) ∈ Y) ≤ nOf M (nbr L Y) := nOf_inj (fun i k => hg X i = k) (fun i hi hy => by
        rcases hPr.val i hi with h0 | ⟨k, hk, hx, e, he, h1, h2⟩
        · exact absurd h0 (hf i hi)
        · exact ⟨k, hk, hx, e, he, by rw [h1]; exact hy, h2⟩) (fun i j k hi hj _ _ h1 h2 => hPr.inj i j hi hj (h1.trans h2.symm) (hf i hi))
      omega
    refine ⟨fun hall => ⟨fun hx => absurd hall hx, fun _ w35 h35 => ?_⟩, fun hnall w35 h35 => ?_⟩
    · refine (lackY hall w35 h35).mono fun v w36 ⟨e36, hv⟩ => ⟨e36, _, hv, fun w38 h38 => ⟨rfl, x22.trans h38⟩⟩
    · have hlk := lacks_k N M p lc L hok qa da (bitsOf left) (by have := bitsOf_length (S := left); omega) p1 p3 w35 (hL.ext (x22.trans h35)) (oa.ext h35).cells (ext_cell h35 cn22) (ext_cell h35 cl22)
      rw [la'] at hlk
      refine hlk.mono fun v w36 ⟨e36, hv⟩ => ⟨e36, _, hv, fun _ => ⟨fun _ w38 h38 => ⟨trivial, x22.trans h38⟩, fun hx => absurd hx hnall⟩, fun hf => ?_⟩
      rw [decide_eq_false_iff_not] at hf
      have h1 : nOf N (fun i => (i : Int) ∈ bitsOf left) = nOf N fun i => tb left i = true := nOf_congr fun i _ => bitsOf_mem
      have h2 : nOf M (nbr L (bitsOf left)) ≤ nOf M fun k => tb right k = true := nOf_le fun k hk ⟨e, he, h3, h4⟩ => by
        have h5 := bits_mem.1 h3
        exact hA.out _ k h5.2 ⟨e, he, by omega, h4⟩
      rw [h1] at hf
      omega
  · have hz : errX N M L = 0 := he
    exfalso
    rcases hc with h1 | ⟨h1, h2⟩
    · exact h1 hz
    · by_cases hall : many N X = N
      · have hfx : ∀ i, i < N → hg X' i ≠ -1 := nOf_full ((hP'.same hP).trans hall)
        have hz0 := nOf_none (n := N) (S := fun i => tb left i = true) fun i _ hx => by rw [hA.emp hfx i] at hx; cases hx
        have h3 : (la : Int) = 0 := by omega
        rcases h1 with h1 | h1
        · exact h1 hall
        · omega
      · have h3 : (la : Int) ≠ 0 := by omega
        rcases h2 with h2 | h2
        · exact hall h2
        · omega
end Go.Proofs.YtlacdincnpbpdaaDoor
