/- Pairs: what package match answers; the keep's own look at pairs. -/
import Derived.Test.YtlacdincnpbpdaaDoorMtW
set_option linter.unusedVariables false
set_option linter.unusedSimpArgs false
namespace Go.Proofs.YtlacdincnpbpdaaDoor
open Go.Sx Go.RowKit

/-- Whom one reaches, from those who have nobody. -/
structure Alt0 (N M : Nat) (H X : List Int) (S T : Nat → Prop) (left right : Int) : Prop where
  ul : U left
  ur : U right
  lt : ∀ i, tb left i = true → i < N
  un : ∀ i, i < N → hg X i = -1 → tb left i = true
  back : ∀ k, tb right k = true → k < M ∧ 0 ≤ hg H k ∧ tb left (hg H k).toNat = true
  sup : ∀ i, tb left i = true → hg X i = -1 ∨ ∃ k, tb right k = true ∧ hg H k = i
  subS : ∀ i, tb left i = true → S i
  subT : ∀ k, tb right k = true → T k
  emp : (∀ i, i < N → hg X i ≠ -1) → ∀ i, tb left i = false

structure AltX (N M : Nat) (L : List E) (H X : List Int) (left right : Int) : Prop where
  ul : U left
  ur : U right
  lt : ∀ i, tb left i = true → i < N
  un : ∀ i, i < N → hg X i = -1 → tb left i = true
  back : ∀ k, tb right k = true → k < M ∧ 0 ≤ hg H k ∧ tb left (hg H k).toNat = true
  sup : ∀ i, tb left i = true → hg X i = -1 ∨ ∃ k, tb right k = true ∧ hg H k = i
  out : ∀ i k, tb left i = true → Adj L i k → tb right k = true
  emp : (∀ i, i < N → hg X i ≠ -1) → ∀ i, tb left i = false

def unset (x : Int) : Nat := (List.range 64).countP fun k => !tb x k

theorem alternating_k (n m : Int) (p : Option Addr) (c : Nat) (L : List E) (hok : okX n m L) (w : World) (hg0 : GL w) (h : Edges w p L) : FnP Tryd.prog F_match_alternating #[.int .i64 n, .int .i64 m, .slice p L.length c] w fun v w' => Ext w w' ∧ ∃ left right May H X, v = .tuple #[.int .u64 left, .int .u64 right] ∧
    PairsX n.toNat m.toNat L May H X ∧ AltX n.toNat m.toNat L H X left right := by
  have hok' := hok
  obtain ⟨hn0, hn1, hm0, hm1, hl, hL⟩ := hok'
  refine ok_match_alternating n m p L.length c w _ fun w0 h0 => ?_
  refine (pairs_k n m p c L hok w0 (hg0.ext h0) (h.ext h0)).mono fun v w1 ⟨e1, t, mq, hq, May, H, q, X, hv, hMem, oX, hP⟩ => ⟨e1, t, q, _, _, hv, ?_⟩
  have hadj : ∀ i k, Adj L i k → i < n.toNat ∧ k < m.toNat := fun i k h => adj_lt hok h
  obtain ⟨N, rfl⟩ : ∃ N : Nat, n = N := ⟨n.toNat, by omega⟩
  obtain ⟨M, rfl⟩ : ∃ M : Nat, m = M := ⟨m.toNat, by omega⟩
  simp only [Int.toNat_natCast] at *
  have hx1 := h0.trans e1
  have hXl := oX.leni
  have hI := hP.inv
  have hO := hP.out
  have hgl : ∀ w', Ext w1 w' → GL w' := fun w' hx => hg0.ext (hx1.trans hx)
  obtain ⟨S, T, hB, hS⟩ := hI.blk
  have hSun : ∀ i, i < N → hg X i = -1 → S i := fun i hi h1 => hS i hi fun k hk he => by have := (hO.iff i k hi hk).2 he; omega
  refine ⟨fun left k w' => w' = w1 ∧ 0 ≤ k ∧ k ≤ N ∧ U left ∧ ∀ i : Nat, tb left i = true ↔ ((i : Int) < k ∧ hg X i = -1), fun left k _ => (N - k).toNat, ⟨rfl, by omega, by omega, by rw [U_iff]; omega, fun i => by rw [tb_zero]; simp; omega⟩, ?_⟩
  rintro left k w1 ⟨rfl, hk0, hk1, hul, hbl⟩
  refine ⟨fun hlt => ?_, fun hge => ?_⟩
  · have g := oX.int_at hk0 (by omega)
    rw [hg_eq (by omega)] at g
    have hval := hO.val k.toNat (by omega)
    refine ⟨fun hq => cell_p g (pIdx_none.2 hq), hk0, hlt, _, g, fun hneg => ⟨hk0, i64 (by omega), ⟨rfl, by omega, by omega, U_or _ _, fun i => ?_⟩, by simp only []; omega⟩, fun hpos => ⟨i64 (by omega), ⟨rfl, by omega, by omega, hul, fun i => ?_⟩, by simp only []; omega⟩⟩
    · rw [tb_or, tb_shl hk0 (by omega), Bool.or_eq_true, hbl, decide_eq_true_iff]
      constructor
      · rintro (⟨h1, h2⟩ | h1)
        · exact ⟨by omega, h2⟩
        · subst h1; exact ⟨by omega, by omega⟩
      · rintro ⟨h1, h2⟩
        by_cases hik : (i : Int) < k
        · exact .inl ⟨hik, h2⟩
        · right; omega
    · rw [hbl]
      constructor
      · rintro ⟨h1, h2⟩; exact ⟨by omega, h2⟩
      · rintro ⟨h1, h2⟩
        refine ⟨?_, h2⟩
        have : i ≠ k.toNat := fun hx => by rw [hx] at h2; omega
        omega
  obtain rfl : k = N := by omega
  have A0 : Alt0 N M H X S T left 0 := ⟨hul, by rw [U_iff]; omega, fun i hi => by have := (hbl i).1 hi; omega, fun i hi hx => (hbl i).2 ⟨by omega, hx⟩, (fun k hk => by rw [tb_zero] at hk; cases hk), fun i hi => .inl ((hbl i).1 hi).2, fun i hi => hSun i (by have := (hbl i).1 hi; omega) ((hbl i).1 hi).2, (fun k hk => by rw [tb_zero] at hk; cases hk), fun hall i => by
    cases hx : tb left i with
    | false => rfl
    | true => have h1 := (hbl i).1 hx; exact absurd h1.2 (hall i (by omega))⟩
  refine ⟨fun right left again w' => w' = w1 ∧ Alt0 N M H X S T left right ∧ (again = false → ∀ i k, tb left i = true → Adj L i k → tb right k = true), fun right left again _ => 2 * unset right + if again = true then 1 else 0, ⟨rfl, A0, fun h => by cases h⟩, ?_⟩
  rintro right11 left12 again13 w1 ⟨rfl, A1, hend⟩
  refine ⟨fun hag => ?_, fun hag w15 h15 => ⟨hx1.trans h15, left12, right11, May, H, X, rfl, hP, ⟨A1.ul, A1.ur, A1.lt, A1.un, A1.back, A1.sup, hend hag, A1.emp⟩⟩⟩
  subst hag
  refine ⟨fun right left again k w' => w' = w1 ∧ 0 ≤ k ∧ k ≤ N ∧ Alt0 N M H X S T left right ∧ (∀ j, tb right11 j = true → tb right j = true) ∧ (again = true → unset right < unset right11) ∧
      (again = false → right = right11 ∧ left = left12 ∧ ∀ i : Nat, (i : Int) < k → tb left i = true → ∀ j, Adj L i j → tb right j = true), fun _ _ _ k _ => (N - k).toNat, ⟨rfl, by omega, by omega, A1, fun _ h => h, (fun h => by cases h), fun _ => ⟨rfl, rfl, fun i hi => by omega⟩⟩, ?_⟩
  rintro right16 left17 again18 k19 w1 ⟨rfl, hk0, hk1, A2, hsub, hgrow, hsame⟩
  refine ⟨fun hlt => ⟨hk0, fun hz => ?_, fun hnz => ?_⟩, fun hge => ⟨⟨rfl, A2, fun hag i k hi ha => ?_⟩, ?_⟩⟩
  · rw [shr_bit A2.ul hk0 (by omega)] at hz
    have hz := if_zero hz
    refine ⟨i64 (by omega), ⟨rfl, by omega, by omega, A2, hsub, hgrow, fun hag => ?_⟩, by simp only []; omega⟩
    obtain ⟨h1, h2, h3⟩ := hsame hag
    refine ⟨h1, h2, fun i hi hbi => ?_⟩
    by_cases hik : (i : Int) < k19
    · exact h3 i hik hbi
    · obtain rfl : i = k19.toNat := by omega
      exact absurd hbi hz
  · rw [shr_bit A2.ul hk0 (by omega)] at hnz
    have hbit := if_ne hnz
    obtain ⟨cm, cmi⟩ := hMem.may k19 hk0 hlt
    obtain ⟨hUm, hbm⟩ := hP.may.2 k19.toNat (by omega)
    refine ⟨hMem.ne, hMem.ne, _, _, _, hMem.c0, cm, hk0, hlt, _, cmi, ?_⟩
    refine ⟨fun right left again s w' => w' = w1 ∧ Alt0 N M H X S T left right ∧ U s ∧ tb left k19.toNat = true ∧ (∀ j, tb s j = true → Adj L k19.toNat j ∧ tb right j = false) ∧ (∀ j, Adj L k19.toNat j → tb right j = true ∨ tb s j = true) ∧ (∀ j, tb right16 j = true → tb right j = true) ∧
        (again = true → unset right < unset right11) ∧ (again = false → right = right16 ∧ left = left17 ∧ again18 = false), fun _ _ _ s _ => s.toNat, ⟨rfl, A2, U_andNot _ _, hbit, fun j hj => ?_, fun j hj => ?_, fun _ h => h, hgrow, fun h => ⟨rfl, rfl, h⟩⟩, ?_⟩
    · rw [tb_andNot] at hj; simp at hj
      exact ⟨(hbm j).1 hj.1, hj.2⟩
    · rw [tb_andNot, (hbm j).2 hj]
      cases hx : tb right16 j <;> simp
    rintro right26 left27 again28 s29 w1 ⟨rfl, A3, hUs, hbl3, hs1, hs2, hsub2, hgrow2, hsame2⟩
    refine ⟨fun hne w31 h31 => ?_, fun he => ⟨i64 (by omega), ⟨rfl, by omega, by omega, A3, fun j hj => hsub2 j (hsub j hj), hgrow2, fun hag => ?_⟩, by simp only []; omega⟩⟩
    · obtain ⟨k, hk, hk64, _, hkt, hU1, hU2, hrest, hdec⟩ := low_k hUs hne
      refine (TZ_k _ hUs hne w31 (hgl w31 h31)).mono fun v w32 ⟨e32, hv⟩ => ⟨e32, _, hv, ?_⟩
      rw [hk]
      obtain ⟨hka, hkr⟩ := hs1 k hkt
      have hkM := (hadj _ _ hka).2
      obtain ⟨_, hpos, hSk⟩ := hB.back k (hB.out _ _ (A3.subS _ hbl3) hka)
      obtain ⟨ch, chk⟩ := hMem.has k (by omega) (by omega)
      simp only [Int.toNat_natCast] at chk
      have hltN := hI.lt k hkM
      have hbr : ∀ j, tb (iBit .or .u64 right26 (iBit .shl .u64 1 k)) j = (tb right26 j || decide (j = k)) := fun j => by
        rw [tb_or, tb_shl (by omega) (by omega)]; simp
      have hbl' : ∀ j, tb (iBit .or .u64 left27 (iBit .shl .u64 1 (hg H k))) j = (tb left27 j || decide (j = (hg H k).toNat)) := fun j => by
        rw [tb_or, tb_shl (by omega) (by omega)]
      have hmono : unset (iBit .or .u64 right26 (iBit .shl .u64 1 k)) < unset right26 := countP_lt (fun j _ hj => by
        rw [hbr] at hj
        cases hx : tb right26 j with
        | false => rfl
        | true => rw [hx] at hj; simp at hj) (List.mem_range.2 hk64) (by rw [hkr]; rfl) (by rw [hbr]; simp)
      have hle : unset right26 ≤ unset right11 := List.countP_mono_left fun j _ hj => by
        cases hx : tb right11 j with
        | false => rfl
        | true => rw [hsub2 j (hsub j hx)] at hj; simp at hj
      refine ⟨by omega, hMem.ne, hMem.ne, _, _, _, hMem.c1, ch, by omega, by omega, _, chk, hpos, hU1, ⟨rfl, ⟨U_or _ _, U_or _ _, fun i hi => ?_, fun i hi hx => ?_, fun j hj => ?_, fun i hi => ?_, fun i hi => ?_, fun j hj => ?_, fun hall => by have := A3.emp hall k19.toNat; rw [hbl3] at this; cases this⟩, hU2, ?_, fun j hj => ?_, fun j hj => ?_, fun j hj => ?_, fun _ => by omega, fun h => by cases h⟩, hdec⟩
      · rw [hbl', Bool.or_eq_true, decide_eq_true_iff] at hi
        rcases hi with hi | rfl
        · exact A3.lt i hi
        · omega
      · rw [hbl', A3.un i hi hx]; rfl
      · rw [hbr] at hj; simp at hj
        rcases hj with hj | rfl
        · obtain ⟨h1, h2, h3⟩ := A3.back j hj
          exact ⟨h1, h2, by rw [hbl', h3]; rfl⟩
        · exact ⟨hkM, hpos, by rw [hbl']; simp⟩
      · rw [hbl', Bool.or_eq_true, decide_eq_true_iff] at hi
        rcases hi with hi | rfl
        · rcases A3.sup i hi with h1 | ⟨j, h1, h2⟩
          · exact .inl h1
          · exact .inr ⟨j, by rw [hbr, h1]; rfl, h2⟩
        · exact .inr ⟨k, by rw [hbr]; simp, by omega⟩
      · rw [hbl', Bool.or_eq_true, decide_eq_true_iff] at hi
        rcases hi with hi | rfl
        · exact A3.subS i hi
        · exact hSk
      · rw [hbr] at hj; simp at hj
        rcases hj with hj | rfl
        · exact A3.subT j hj
        · exact hB.out _ _ (A3.subS _ hbl3) hka
      · rw [hbl', hbl3]; rfl
      · rw [hrest] at hj; simp at hj
        obtain ⟨h1, h2⟩ := hs1 j hj.1
        exact ⟨h1, by rw [hbr, h2]; simp; exact hj.2⟩
      · rw [hbr, hrest]
        rcases hs2 j hj with h1 | h1
        · left; rw [h1]; rfl
        · by_cases hjk : j = k
          · left; simp [hjk]
          · right; rw [h1]; simp [hjk]
      · rw [hbr, hsub2 j hj]; rfl
    · obtain ⟨rfl, rfl, h18⟩ := hsame2 hag
      obtain ⟨h1, h2, h3⟩ := hsame h18
      refine ⟨h1, h2, fun i hi hbi => ?_⟩
      by_cases hik : (i : Int) < k19
      · exact h3 i hik hbi
      · obtain rfl : i = k19.toNat := by omega
        intro j hj
        rcases hs2 j hj with h4 | h4
        · exact h4
        · rw [he, tb_zero] at h4; cases h4
  · exact (hsame hag).2.2 i (by have := A2.lt i hi; omega) hi k ha
  · simp only []
    cases again18 with
    | true => have := hgrow rfl; simp; omega
    | false => obtain ⟨h1, _⟩ := hsame rfl; rw [h1]; simp

theorem Pairs_k (n m : Int) (p : Option Addr) (c : Nat) (L : List E) (h63 : (L.length : Int) ≤ 9223372036854775807) (w : World) (hg0 : GL w) (h : Edges w p L) : FnP Tryd.prog F_match_Pairs #[.int .i64 n, .int .i64 m, .slice p L.length c] w fun v w' => Ext w w' ∧ ∃ q l d, v = .tuple #[.slice q l d, .int .i64 (errX n m L)] ∧
    (¬ okX n m L → l = 0) ∧ (okX n m L → l = n.toNat ∧ l ≤ d ∧ ∃ May H X, Own w.heap.size w' T_int 1 q l d (X.map (.int .i64)) ∧ PairsX n.toNat m.toNat L May H X) := by
  refine ok_match_Pairs n m p L.length c w _ fun w0 h0 => ?_
  refine (checkX_k n m p c L h63 w0 (h.ext h0)).mono fun v w1 ⟨e1, hv⟩ => ⟨e1, _, hv, fun hne w3 h3 => ⟨h3, _, _, _, rfl, fun _ => rfl, fun hok => absurd (errX_ok.2 hok) hne⟩, fun he w3 h3 => ?_⟩
  have hok := errX_ok.1 he
  refine (pairs_k n m p c L hok w3 (hg0.ext h3) (h.ext h3)).mono fun v w4 ⟨e4, t, mq, hq, May, H, q, X, hv, hMem, oX, hP⟩ => ⟨e4, _, _, _, _, hv, fun w9 h9 => ⟨(h3.trans e4).trans h9, q, _, _, by rw [he], fun hn => absurd hok hn, fun _ => ⟨rfl, Nat.le_refl _, May, H, X, (oX.weak h3.size).ext h9, hP⟩⟩⟩

theorem Lack_k (n m : Int) (p : Option Addr) (c : Nat) (L : List E) (h63 : (L.length : Int) ≤ 9223372036854775807) (w : World) (hg0 : GL w) (h : Edges w p L) : FnP Tryd.prog F_match_Lack #[.int .i64 n, .int .i64 m, .slice p L.length c] w fun v w' => Ext w w' ∧ ∃ q l d, v = .tuple #[.slice q l d, .int .i64 (errX n m L)] ∧
    (¬ okX n m L → l = 0) ∧ (okX n m L → ∃ left right May H X, PairsX n.toNat m.toNat L May H X ∧ AltX n.toNat m.toNat L H X left right ∧ Own w.heap.size w' T_int 1 q l d ((bitsOf left).map (.int .i64))) := by
  refine ok_match_Lack n m p L.length c w _ fun w0 h0 => ?_
  refine (checkX_k n m p c L h63 w0 (h.ext h0)).mono fun v w1 ⟨e1, hv⟩ => ⟨e1, _, hv, fun hne w3 h3 => ⟨h3, _, _, _, rfl, fun _ => rfl, fun hok => absurd (errX_ok.2 hok) hne⟩, fun he w3 h3 => ?_⟩
  have hok := errX_ok.1 he
  refine (alternating_k n m p c L hok w3 (hg0.ext h3) (h.ext h3)).mono fun v w4 ⟨e4, left, right, May, H, X, hv, hP, hA⟩ => ⟨e4, _, _, hv, fun w7 h7 => ?_⟩
  refine (listB_k left hA.ul w7 (hg0.ext h7)).mono fun v w8 ⟨e8, q, l, d, hv, o⟩ => ⟨e8, _, _, _, hv, fun w12 h12 => ⟨(h7.trans e8).trans h12, q, l, d, by rw [he], fun hn => absurd hok hn, fun _ => ⟨left, right, May, H, X, hP, hA, (o.weak h7.size).ext h12⟩⟩⟩

theorem Cover_k (n m : Int) (p : Option Addr) (c : Nat) (L : List E) (h63 : (L.length : Int) ≤ 9223372036854775807) (w : World) (hg0 : GL w) (h : Edges w p L) : FnP Tryd.prog F_match_Cover #[.int .i64 n, .int .i64 m, .slice p L.length c] w fun v w' => Ext w w' ∧ ∃ q l d q' l' d', v = .tuple #[.slice q l d, .slice q' l' d', .int .i64 (errX n m L)] ∧
    (¬ okX n m L → l = 0 ∧ l' = 0) ∧ (okX n m L → ∃ left right rest May H X, PairsX n.toNat m.toNat L May H X ∧ AltX n.toNat m.toNat L H X left right ∧ U rest ∧ (∀ i, tb rest i = true ↔ i < n.toNat ∧ tb left i = false) ∧
      Own w.heap.size w' T_int 1 q l d ((bitsOf rest).map (.int .i64)) ∧ Own w.heap.size w' T_int 1 q' l' d' ((bitsOf right).map (.int .i64))) := by
  refine ok_match_Cover n m p L.length c w _ fun w0 h0 => ?_
  refine (checkX_k n m p c L h63 w0 (h.ext h0)).mono fun v w1 ⟨e1, hv⟩ => ⟨e1, _, hv, fun hne w3 h3 => ⟨h3, _, _, _, _, _, _, rfl, fun _ => ⟨rfl, rfl⟩, fun hok => absurd (errX_ok.2 hok) hne⟩, fun he w3 h3 => ?_⟩
  have hok := errX_ok.1 he
  have hn0 := hok.1
  have hn1 := hok.2.1
  obtain ⟨hf1, hf2⟩ := full hn0 (by omega)
  refine (alternating_k n m p c L hok w3 (hg0.ext h3) (h.ext h3)).mono fun v w4 ⟨e4, left, right, May, H, X, hv, hP, hA⟩ => ⟨e4, _, _, hv, hn0, hf1, fun w7 h7 => ?_⟩
  refine (listB_k _ (U_andNot _ _) w7 (hg0.ext h7)).mono fun v w8 ⟨e8, q, l, d, hv, o⟩ => ⟨e8, _, _, _, hv, fun w12 h12 => ?_⟩
  refine (listB_k right hA.ur w12 (hg0.ext ((h7.trans e8).trans h12))).mono fun v w13 ⟨e13, q', l', d', hv, o'⟩ => ⟨e13, _, _, _, hv, fun w17 h17 => ⟨((h7.trans e8).trans h12).trans (e13.trans h17), q, l, d, q', l', d', by rw [he], fun hn => absurd hok hn, fun _ => ⟨left, right, _, May, H, X, hP, hA, U_andNot _ _, fun i => ?_, ((o.weak h7.size).ext h12).ext (e13.trans h17), (o'.weak ((h7.trans e8).trans h12).size).ext h17⟩⟩⟩
  rw [tb_andNot, hf2]
  simp

theorem ints_take {k : IntKind} {w : World} {p : Option Addr} {X : List Int} (h : Ints k w p X) (n : Nat) : Ints k w p (X.take n) := by
  intro i v hv
  rw [List.getElem?_map, List.getElem?_take] at hv
  refine h i v ?_
  rw [List.getElem?_map]
  split at hv
  · exact hv
  · simp at hv

open Classical in
/-- The keep's own look at pairs. -/
theorem kpairs_k (n m : Int) (p : Option Addr) (c : Nat) (L : List E) (h63 : (L.length : Int) ≤ 9223372036854775807) (q : Option Addr) (d : Nat) (X : List Int) (h64 : (X.length : Int) ≤ d) (h65 : (d : Int) ≤ 9223372036854775807) (w : World) (h : Edges w p L) (hX : Ints .i64 w q X) :
    FnP Tryd.prog F_shiftbellkeep_pairs #[.int .i64 n, .int .i64 m, .slice p L.length c, .slice q X.length d] w fun v w' => Ext w w' ∧ v = .int .i64 (if (X.length : Int) = n ∧ Pr n.toNat m.toNat (Adj L) X then many n.toNat X else -1) := by
  refine ok_shiftbellkeep_pairs n m p L.length c q X.length d w _ ⟨fun hne w0 h0 => ⟨h0, by rw [if_neg fun h => hne h.1]⟩, fun heq => ?_⟩
  have hN : n.toNat = X.length := by omega
  rw [hN]
  have bad : ∀ k : Nat, k < X.length → hg X k ≠ -1 → (¬ (0 ≤ hg X k ∧ hg X k < m ∧ Adj L k (hg X k).toNat) ∨ ∃ j, j < k ∧ hg X j = hg X k) → ¬ ((X.length : Int) = n ∧ Pr X.length m.toNat (Adj L) X) := fun k hk hne hb ⟨_, hP⟩ => by
    rcases hP.val k hk with h1 | ⟨a, ha, h1, h2⟩
    · exact hne h1
    · rcases hb with hb | ⟨j, hj, he⟩
      · refine hb ⟨by omega, by omega, ?_⟩
        rw [h1]; simpa using h2
      · have := hP.inj j k (by omega) hk he (by omega); omega
  refine ⟨fun many k w' => w' = w ∧ 0 ≤ k ∧ k ≤ X.length ∧ many = nOf k.toNat (fun i => hg X i ≠ -1) ∧ (∀ i : Nat, (i : Int) < k → hg X i = -1 ∨ (0 ≤ hg X i ∧ hg X i < m ∧ Adj L i (hg X i).toNat)) ∧ (∀ i j : Nat, (i : Int) < k → (j : Int) < k → hg X i = hg X j → hg X i ≠ -1 → i = j), fun _ k _ => (X.length - k).toNat, ⟨rfl, by omega, by omega, rfl, fun i hi => by omega, fun i j hi => by omega⟩, ?_⟩
  rintro mn k w ⟨rfl, hk0, hk1, rfl, hval, hinj⟩
  have hnb := nOf_le_n k.toNat fun i => hg X i ≠ -1
  have hnb0 := nOf_nonneg k.toNat fun i => hg X i ≠ -1
  refine ⟨fun hlt => ?_, fun hge w4 h4 => ⟨h4, ?_⟩⟩
  · have g := Ints.idx hX hk0 hlt
    rw [hg_eq (by omega)] at g
    obtain ⟨K, rfl⟩ : ∃ K : Nat, k = K := ⟨k.toNat, by omega⟩
    simp only [Int.toNat_natCast] at g
    refine ⟨fun hq => cell_p g (pIdx_none.2 hq), hk0, hlt, _, g, fun hm1 => ⟨i64 (by omega), ⟨rfl, by omega, by omega, ?_, fun i hi => ?_, fun i j hi hj he hne => ?_⟩, by simp only []; omega⟩, fun hnm => ⟨fun hr w5 h5 => ⟨h5, ?_⟩, fun hr w5 h5 => ?_⟩⟩
    · rw [show ((K : Int) + 1).toNat = K + 1 by omega]
      exact (nOf_f fun hne => hne hm1).symm
    · by_cases hik : (i : Int) < K
      · exact hval i hik
      · obtain rfl : i = K := by omega
        exact .inl hm1
    · have hiK : i ≠ K := fun hx => hne (hx ▸ hm1)
      have hjK : j ≠ K := fun hx => hne (he.trans (hx ▸ hm1))
      exact hinj i j (by omega) (by omega) he hne
    · rw [if_neg (bad K (by omega) hnm (.inl fun hb => by omega))]
    · refine (ContainsE_k p c L h63 K (hg X K) w5 (h.ext h5)).mono fun v w6 ⟨e6, hv⟩ => ⟨e6, _, hv, fun _ => by omega, fun _ => by omega, fun _ => by omega, fun hno w8 h8 => ⟨h8, ?_⟩, fun hyes w8 h8 => ?_⟩
      · rw [decide_eq_false_iff_not] at hno
        rw [if_neg (bad K (by omega) hnm (.inl fun ⟨h1, h2, e, he, h3, h4⟩ => hno ⟨e, he, h3, by omega⟩))]
      · rw [decide_eq_true_iff] at hyes
        have hadj : Adj L K (hg X K).toNat := by
          obtain ⟨e, he, h1, h2⟩ := hyes
          exact ⟨e, he, h1, by omega⟩
        rw [show pCut q d 0 1 = q from pCut_zero q d 1]
        have hI := ContainsI_k q (d - (0 : Int).toNat) (X.take K) (by simp; omega) (hg X K) w8 (ints_take (hX.ext h8) K)
        rw [show (X.take K).length = ((K : Int) - 0).toNat by simp; omega] at hI
        refine hI.mono fun v w9 ⟨e9, hv⟩ => ⟨e9, _, hv, fun hyes' w11 h11 => ⟨h11, ?_⟩, fun hno' => ⟨i64 (by omega), i64 (by omega), ⟨rfl, by omega, by omega, ?_, fun i hi => ?_, fun i j hi hj he hne => ?_⟩, by simp only []; omega⟩⟩
        · rw [decide_eq_true_iff] at hyes'
          obtain ⟨j, hj, he⟩ := List.getElem_of_mem hyes'
          rw [List.length_take] at hj
          rw [if_neg (bad K (by omega) hnm (.inr ⟨j, by omega, ?_⟩))]
          rw [List.getElem_take] at he
          rw [← he]
          simp [List.getD_eq_getElem?_getD, show j < X.length by omega]
        · rw [show ((K : Int) + 1).toNat = K + 1 by omega]
          exact (nOf_t hnm).symm
        · by_cases hik : (i : Int) < K
          · exact hval i hik
          · obtain rfl : i = K := by omega
            exact .inr ⟨hr.1, hr.2, hadj⟩
        · rw [decide_eq_false_iff_not] at hno'
          have hnot : ∀ j : Nat, j < K → hg X j ≠ hg X K := fun j hj he => hno' (by
            rw [← he, List.mem_iff_getElem]
            exact ⟨j, by simp; omega, by simp [List.getD_eq_getElem?_getD, show j < X.length by omega]⟩)
          by_cases hiK : i = K
          · by_cases hjK : j = K
            · omega
            · subst hiK; exact absurd he.symm (hnot j (by omega))
          · by_cases hjK : j = K
            · subst hjK; exact absurd he (hnot i (by omega))
            · exact hinj i j (by omega) (by omega) he hne
  · obtain rfl : k = X.length := by omega
    have hP : Pr X.length m.toNat (Adj L) X := ⟨rfl, fun i hi => by
      rcases hval i (by omega) with h1 | ⟨h1, h2, h3⟩
      · exact .inl h1
      · exact .inr ⟨(hg X i).toNat, by omega, by omega, h3⟩, fun i j hi hj => hinj i j (by omega) (by omega)⟩
    rw [if_pos ⟨heq, hP⟩]
    rfl

theorem nOf_one (S : Nat → Prop) (h : S 0) : nOf 1 S = 1 := by
  have := nOf_all (n := 1) (S := S) fun i hi => by have h0 : i = 0 := (by omega); rw [h0]; exact h
  simpa using this

theorem matches_k (w : World) (hg0 : GL w) : FnP Tryd.prog F_shiftbellkeep_matches #[] w fun v w' => Ext w w' ∧ v = .bool true := by
  refine ok_shiftbellkeep_matches w _ ?_
  intro w0 h0
  refine run_lit elem_sl_Edge [.agg #[.int .i64 0, .int .i64 0]] rfl rfl (by intro v hv; simp at hv; subst hv; rfl) (by omega) (by omega) fun w1 o1 e1 => ⟨e1, _, _, _, rfl, fun w5 h5 => ?_⟩
  have o5 := (o1 0 (Nat.zero_le _)).ext h5
  have hE : Edges w5 (some ⟨w0.heap.size, 0, none⟩) [⟨0, 0⟩] := Own.recs (enc := encE) (xs := [⟨0, 0⟩]) o5 fun x _ => rfl
  have hok : okX 1 1 [⟨0, 0⟩] := ⟨by omega, by omega, by omega, by omega, by simp, by intro e he; simp at he; subst he; simp⟩
  have hx5 := (h0.trans e1).trans h5
  refine (Pairs_k 1 1 _ 1 [⟨0, 0⟩] (by simp) w5 (hg0.ext hx5) hE).mono fun v w6 ⟨e6, q, l, d, hv, _, hgd⟩ => ⟨e6, q, l, d, _, hv, ?_⟩
  obtain ⟨hl, hd, May, H, X, oX, hP⟩ := hgd hok
  have hl1 : l = 1 := hl
  subst hl1
  have he := errX_ok.2 hok
  have hY : Pr 1 1 (Adj [⟨0, 0⟩]) [0] := ⟨rfl, fun i hi => by
    obtain rfl : i = 0 := by omega
    exact .inr ⟨0, by omega, rfl, ⟨0, 0⟩, by simp, rfl, rfl⟩, fun i j hi hj _ _ => by omega⟩
  have hbest := hP.inv.best hP.out hY
  have h1 : many 1 [0] = 1 := nOf_one _ (by simp)
  have hX0 : hg X 0 ≠ -1 := fun hx => by
    have : many 1 X = 0 := nOf_none fun i hi => by have h0 : i = 0 := (by omega); rw [h0]; exact fun hne => hne hx
    simp only [show (1 : Int).toNat = 1 from rfl] at hbest
    omega
  have g := oX.int_at (i := 0) (by omega) (by have := oX.leni; omega)
  have hXl := oX.leni
  simp only [Int.toNat_zero] at g
  rw [hg_eq (by omega)] at g
  have hXz : hg X 0 = 0 := by
    rcases hP.out.val 0 (by decide) with h2 | ⟨k, hk, h2⟩
    · exact absurd h2 hX0
    · have hk : k < 1 := hk
      omega
  rw [hXz] at g
  exact ⟨fun _ => fun hq => cell_p g (pIdx_none.2 hq), fun _ => by omega, fun _ => by omega, fun _ => ⟨0, g, fun w12 h12 => ⟨hx5.trans (e6.trans h12), rfl⟩⟩, fun hbad => by omega⟩
end Go.Proofs.YtlacdincnpbpdaaDoor
