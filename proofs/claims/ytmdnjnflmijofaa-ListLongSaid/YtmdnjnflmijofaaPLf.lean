/- The longest ones first; the least span. -/
import Derived.Test.YtmdnjnflmijofaaPLc
import Derived.Test.YtmdnjnflmijofaaPLe
set_option linter.unusedVariables false
set_option linter.unusedSimpArgs false
namespace Go.Proofs.Ytmdnjnflmijofaa
open Go.Sx Go.RowKit

theorem compare_k (x y : Int) (w : World) : FnP Try.prog F_cmp_Compare_int64 #[.int .i64 x, .int .i64 y] w fun v w' => Ext w w' ∧ ∃ t : Int, v = .int .i64 t ∧ (t < 0 ↔ x < y) := by
  refine ok_cmp_Compare_int64 x y w _ fun w0 h0 => ?_
  refine ok_cmp_isNaN_int64 x w0 _ fun w1 h1 => ⟨h1, _, rfl, fun w3 h3 => ?_⟩
  refine ok_cmp_isNaN_int64 y w3 _ fun w4 h4 => ⟨h4, _, rfl, fun h => by simp at h, fun _ => ⟨fun h => by simp at h, fun _ => ⟨fun h w6 h6 => ⟨h6, -1, rfl, by omega⟩, fun h => ⟨fun h' w6 h6 => ⟨h6, 1, rfl, by omega⟩, fun h' w6 h6 => ⟨h6, 0, rfl, by omega⟩⟩⟩⟩⟩

theorem long_cmps (B0 : World) (q : Option Addr) (c : Nat) (D : List Int) (hD : Ints .i64 B0 q D) (p1 : Option Addr) (hc : cell B0 p1 0 = some (.slice q D.length c)) : Cmps B0 (fun x => 0 ≤ x ∧ x < D.length) (fun x => dg D x.toNat) (.func (.func F_list_Long_1) #[] #[.pointer p1]) := by
  intro x y w hx hSx hSy
  have gx := Ints.idx (hD.ext hx) hSx.1 hSx.2
  have gy := Ints.idx (hD.ext hx) hSy.1 hSy.2
  have hq : q ≠ none := fun hq => cell_p gx (pIdx_none.2 hq)
  refine ⟨F_list_Long_1, #[.pointer p1], rfl, (ok_list_Long_1 x y p1 w _ ⟨_, _, _, ext_cell hx hc, hq, hSy.1, hSy.2, _, gy, _, _, _, ext_cell hx hc, hq, hSx.1, hSx.2, _, gx, fun w8 h8 => ?_⟩ : FnP Try.prog F_list_Long_1 #[.int .i64 x, .int .i64 y, .pointer p1] w _)⟩
  exact (compare_k _ _ w8).mono fun v w9 ⟨e9, t, hv, ht⟩ => ⟨e9, t, hv, fun w11 h11 => ⟨h11, t, rfl, ht⟩⟩

theorem nums_mem {n : Nat} {x : Int} (h : x ∈ nums n) : 0 ≤ x ∧ x < n := by
  simp only [nums, List.mem_map, List.mem_range] at h
  obtain ⟨a, ha, rfl⟩ := h
  simp; omega

theorem Long_k (m : Nat) (q : Option Addr) (c : Nat) (D : List Int) (hok : okM m D) (h20 : D.length < 20) (w : World) (hDm : Ints .i64 w q D) :
    FnP Try.prog F_list_Long #[.int .i64 m, .slice q D.length c] w fun v w' => Ext w w' ∧ ∃ p oc t row load on, v = .tuple #[.slice p D.length oc, .int .i64 t, .int .i64 0] ∧ row.Perm (nums D.length) ∧ Falls (fun x => dg D x.toNat) row 0 D.length ∧ Own w.heap.size w' T_int 1 p D.length oc (on.map (.int .i64)) ∧ Puts D m row load on ∧ IsMax load t := by
  have hok' := hok
  obtain ⟨m0, m1, dl, hD⟩ := hok'
  refine ok_list_Long m q D.length c w _ fun w0 h0 => ?_
  refine new_one rfl fun p1 w1 e1 c1 hp1 hsz => ⟨_, _, _, c1, fun w5 h5 => ?_⟩
  have hx1 := h0.trans e1
  refine (lcheck_k m q c D (by omega) w5 (hDm.ext (hx1.trans h5))).mono fun v w6 ⟨e6, hv⟩ => ⟨e6, _, hv, fun hne => absurd (errM_ok.2 hok) hne, fun _ => ⟨_, _, _, c1, fun w11 h11 => ?_⟩⟩
  refine (lnumbers_k D.length (by omega) w11).mono fun v w12 ⟨e12, r, rc, hv, oR⟩ => ⟨e12, r, _, rc, hv, fun w16 h16 => ?_⟩
  have hx16 := (h11.trans e12).trans h16
  have hxw := hx1.trans hx16
  have cm := long_cmps w1 q c D (hDm.ext hx1) p1 c1
  have oR1 := (oR.weak h11.size).ext h16
  refine (stable_k w1 _ _ _ cm r D.length rc (nums D.length) (fun x hx => nums_mem hx) h20 w16 hx16 oR1).mono fun v w17 ⟨hv, e17, g17, Y, oY, hp, hfl⟩ => ⟨hv, _, _, _, ext_cell e17 c1, fun w21 h21 => ?_⟩
  have hx21 := hx1.trans (e17.trans h21)
  have hYl : Y.length = D.length := by rw [hp.length_eq, nums_len]
  have hrun := run_k m (by omega) q c D dl hD r rc Y (fun x hx => nums_mem (hp.mem_iff.1 hx)) (by omega) w21 (hDm.ext hx21) (oY.ext h21).cells
  rw [hYl] at hrun
  refine hrun.mono fun v w22 ⟨e22, p, oc, t, load, on, hv, oN, hP, ht⟩ => ⟨e22, _, _, _, _, hv, fun w27 h27 => ⟨(hx21.trans e22).trans h27, _, _, _, Y, load, on, rfl, hp, hfl, (oN.weak hx21.size).ext h27, hP, ht⟩⟩

/-- The jobs that are left go to hands; the span is t. -/
inductive Comp : List Int → List Int → Int → Prop
  | nil {F : List Int} {t : Int} : IsMax F t → Comp [] F t
  | put {x : Int} {L F : List Int} {t : Int} {k : Nat} : k < F.length → Comp L (F.set k (F.getD k 0 + x)) t → Comp (x :: L) F t

theorem set_perm (v : Int) : ∀ (F : List Int) (k : Nat), k < F.length → (F.set k v).Perm (v :: F.eraseIdx k)
  | [], k, h => by simp at h
  | a :: F, 0, _ => by simp
  | a :: F, k + 1, h => by
    simp only [List.set_cons_succ, List.eraseIdx_cons_succ]
    exact ((set_perm v F k (by simpa using h)).cons a).trans (List.Perm.swap v a _)
theorem set_same (F : List Int) (k : Nat) (h : k < F.length) : F.set k (F.getD k 0) = F := by
  apply List.ext_getElem?
  intro i
  rw [List.getElem?_set]
  by_cases hi : k = i
  · subst hi; simp [h]
  · simp [hi]
theorem IsMax.perm {F G : List Int} {t : Int} (h : IsMax F t) (hp : F.Perm G) : IsMax G t := ⟨hp.mem_iff.1 h.1, fun x hx => h.2 x (hp.mem_iff.2 hx)⟩
theorem Comp.perm {L F : List Int} {t : Int} (h : Comp L F t) : ∀ {G : List Int}, F.Perm G → Comp L G t := by
  induction h with
  | nil hm => exact fun hp => .nil (hm.perm hp)
  | @put x L F t k hk _ ih =>
    intro G hp
    obtain ⟨j, hj, he⟩ : ∃ j, j < G.length ∧ G.getD j 0 = F.getD k 0 := by
      obtain ⟨j, hj, he⟩ := List.getElem_of_mem (hp.mem_iff.1 (getD_mem F 0 hk))
      exact ⟨j, hj, by simpa [List.getD_eq_getElem?_getD, hj] using he⟩
    refine .put hj (ih ?_)
    have h1 := set_perm (F.getD k 0) F k hk
    have h2 := set_perm (G.getD j 0) G j hj
    rw [set_same F k hk] at h1
    rw [set_same G j hj, he] at h2
    have h3 : (F.eraseIdx k).Perm (G.eraseIdx j) := ((h1.symm.trans hp).trans h2).cons_inv
    rw [he]
    exact ((set_perm _ F k hk).trans (h3.cons _)).trans (set_perm _ G j hj).symm
theorem same_perm (F : List Int) {j k : Nat} (hj : j < F.length) (hk : k < F.length) (h : F.getD j 0 = F.getD k 0) (v : Int) : (F.set k v).Perm (F.set j v) := by
  have h1 := set_perm (F.getD k 0) F k hk
  have h2 := set_perm (F.getD j 0) F j hj
  rw [set_same F k hk] at h1
  rw [set_same F j hj, h] at h2
  exact ((set_perm v F k hk).trans ((h1.symm.trans h2).cons_inv.cons _)).trans (set_perm v F j hj).symm

theorem Comp.ge {L F : List Int} {t : Int} (h : Comp L F t) (hL : ∀ x ∈ L, 0 ≤ x) : ∀ y ∈ F, y ≤ t := by
  induction h with
  | nil hm => exact hm.2
  | @put x L F t k hk _ ih =>
    have hx := hL x (by simp)
    have := ih fun y hy => hL y (by simp [hy])
    intro y hy
    obtain ⟨i, hi, rfl⟩ := List.getElem_of_mem hy
    by_cases hik : i = k
    · subst hik
      have h1 := this (F.getD i 0 + x) (by rw [List.mem_iff_getElem?]; exact ⟨i, by simp [hi]⟩)
      have h2 : F.getD i 0 = F[i] := by simp [List.getD_eq_getElem?_getD, hi]
      omega
    · exact this _ (by rw [List.mem_iff_getElem?]; exact ⟨i, by rw [List.getElem?_set, if_neg (fun h => hik h.symm)]; simp [hi]⟩)
theorem Comp.sum {L F : List Int} {t : Int} (h : Comp L F t) : sumL F + sumL L ≤ F.length * t := by
  induction h with
  | nil hm => have := sumL_le hm.2; simp [sumL]; omega
  | @put x L F t k hk _ ih =>
    rw [sumL_set hk] at ih
    simp only [sumL, List.length_set] at ih ⊢; omega

/-- Jobs to hands, one by one. -/
def addAll : List Int → List Int → List Int → List Int
  | [], _, F => F
  | x :: L, A, F => addAll L A.tail (F.set (A.headD 0).toNat (F.getD (A.headD 0).toNat 0 + x))
theorem addAll_len (L : List Int) : ∀ A F, (addAll L A F).length = F.length := by
  induction L with
  | nil => intro A F; rfl
  | cons x L ih => intro A F; simp [addAll, ih]
theorem Comp.of_all (L : List Int) : ∀ (A F : List Int) (t : Int), A.length = L.length → (∀ a ∈ A, 0 ≤ a ∧ a < F.length) → IsMax (addAll L A F) t → Comp L F t := by
  induction L with
  | nil => intro A F t _ _ h; exact .nil h
  | cons x L ih =>
    intro A F t hl hA h
    cases A with
    | nil => simp at hl
    | cons a A =>
      have ha := hA a (by simp)
      exact .put (k := a.toNat) (by omega) (ih A _ t (by simpa using hl) (fun b hb => by simpa using hA b (by simp [hb])) h)
theorem sumN_head (n : Nat) (f : Nat → Int) : sumN (n + 1) f = f 0 + sumN n fun i => f (i + 1) := by
  induction n with
  | zero => simp [sumN]
  | succ n ih => rw [sumN, ih]; simp only [sumN]; omega
theorem addAll_at (L : List Int) : ∀ (A F : List Int), A.length = L.length → (∀ a ∈ A, 0 ≤ a ∧ a < F.length) → ∀ k, k < F.length → (addAll L A F).getD k 0 = F.getD k 0 + sumN L.length fun i => if A.getD i 0 = k then dg L i else 0 := by
  induction L with
  | nil => intro A F _ _ k _; simp [addAll, sumN]
  | cons x L ih =>
    intro A F hl hA k hk
    cases A with
    | nil => simp at hl
    | cons a A =>
      have ha := hA a (by simp)
      simp only [addAll, List.tail_cons, List.headD_cons]
      rw [ih A _ (by simpa using hl) (fun b hb => by simpa using hA b (by simp [hb])) k (by simpa using hk), List.length_cons, sumN_head, getD_set _ _ _ _ _ (by omega)]
      simp only [List.getD_cons_zero, List.getD_cons_succ, dg]
      by_cases hka : k = a.toNat
      · rw [if_pos hka, if_pos (by omega), hka]; omega
      · rw [if_neg hka, if_neg (by omega)]; omega
theorem addAll_spans {m : Nat} {D on : List Int} (hl : on.length = D.length) (h : ∀ x ∈ on, 0 ≤ x ∧ x < m) : addAll D on (List.replicate m 0) = spans m D on := by
  refine ext_getD (by rw [addAll_len, spans_len]; simp) fun k hk => ?_
  rw [addAll_len] at hk
  simp only [List.length_replicate] at hk
  rw [addAll_at D on _ hl (by simpa using h) k (by simpa using hk), spans_at hk, getD_replicate' _ _ _ hk]
  simp [loadOf]

structure Bsp (L F : List Int) (b t : Int) : Prop where
  is : t = b ∨ Comp L F t
  le : t ≤ b
  all : ∀ u, Comp L F u → t ≤ u

theorem lleast_k : ∀ (L : List Int), (∀ x ∈ L, 0 ≤ x ∧ x ≤ 1000000000) → ∀ (q : Option Addr) (c : Nat), L.length ≤ c → L.length ≤ 9 → ∀ (B0 w : World), Ext B0 w → Ints .i64 B0 q L → ∀ (p : Option Addr) (n d : Nat) (F : List Int) (b : Int), 0 < n → n ≤ 20 → (∀ x ∈ F, 0 ≤ x ∧ x ≤ (9 - L.length) * 1000000000) →
    Own B0.heap.size w T_int64 1 p n d (F.map (.int .i64)) → FnP Try.prog F_list_least #[.slice p n d, .slice q L.length c, .int .i64 b] w fun v w' => Ext w w' ∧ ∃ t, v = .int .i64 t ∧ Bsp L F b t := by
  intro L
  induction L with
  | nil =>
    intro _ q c hc _ B0 w hx hL p n d F b hn0 hn hF o
    have hnl := o.leni
    refine ok_list_least p n d q 0 c b w _ fun w0 h0 => ?_
    have hmax := Max_k p d F (by omega) (by omega) w0 (o.ext h0).cells
    rw [hnl] at hmax
    refine hmax.mono fun v w1 ⟨e1, t, hv, ht⟩ => ⟨e1, t, hv, fun _ w3 h3 => ⟨h3, _, rfl, ?_, by omega, fun u hu => ?_⟩, fun h => absurd rfl h.2⟩
    · rcases Int.le_total b t with h | h
      · exact .inl (Int.min_eq_left h)
      · rw [Int.min_eq_right h]; exact .inr (.nil ht)
    · cases hu with
      | nil hm => have := ht.same hm; omega
  | cons x L ih =>
    intro hLb q c hc h9 B0 w hx hL p n d F b hn0 hn hF o
    have hnl := o.leni
    have hxb := hLb x (by simp)
    have hLt : ∀ y ∈ L, 0 ≤ y ∧ y ≤ 1000000000 := fun y hy => hLb y (by simp [hy])
    simp only [List.length_cons] at hc h9 hF
    have htl := Ints.tail hL hc
    refine ok_list_least p n d q (L.length + 1) c b w _ fun w0 h0 => ?_
    have hmax := Max_k p d F (by omega) (by omega) w0 (o.ext h0).cells
    rw [hnl] at hmax
    refine hmax.mono fun v w1 ⟨e1, tm, hv, ht⟩ => ⟨e1, tm, hv, fun h w3 h3 => ?_, fun h => ?_⟩
    · have hb : b ≤ tm := by omega
      refine ⟨h3, _, rfl, .inl (Int.min_eq_left hb), by omega, fun u hu => ?_⟩
      have := hu.ge (fun y hy => (hLb y hy).1) tm ht.1
      omega
    clear hmax
    refine ⟨fun b1 k w' => w' = w ∧ 0 ≤ k ∧ k ≤ n ∧ (b1 = b ∨ Comp (x :: L) F b1) ∧ b1 ≤ b ∧ ∀ j : Nat, (j : Int) < k → ∀ u, Comp L (F.set j (F.getD j 0 + x)) u → b1 ≤ u, fun _ k _ => (n - k).toNat, ⟨rfl, by omega, by omega, .inl rfl, Int.le_refl _, fun j hj => by omega⟩, ?_⟩
    rintro b1 k w ⟨rfl, hk0, hk1, hb1, hb2, hb3⟩
    have g0 : ∀ w', Ext B0 w' → cell w' (pIdx q 0 1) 0 = some (.int .i64 x) := fun w' hw' => by simpa using Ints.idx (hL.ext hw') (i := 0) (by omega) (by simp)
    have hq : q ≠ none := fun hq => cell_p (g0 w hx) (pIdx_none.2 hq)
    have hcut : ((((L.length + 1 : Nat) : Int)) - 1).toNat = L.length := by omega
    refine ⟨fun hlt => ?_, fun hge w7 h7 => ⟨h7, b1, rfl, hb1, hb2, fun u hu => ?_⟩⟩
    · have g := o.int_at hk0 (by omega)
      have hfm := getD_mem F 0 (i := k.toNat) (by omega)
      have hfk := hF _ hfm
      have hp := o.ne1 (by omega) (by omega)
      refine ⟨hp, hk0, hlt, _, g, fun w8 h8 => ?_⟩
      have hidx := Index64_k p d F (by omega) (F.getD k.toNat 0) w8 (o.ext h8).cells
      rw [hnl] at hidx
      refine hidx.mono fun v w9 ⟨e9, hv⟩ => ⟨e9, ?_⟩
      obtain ⟨a, rfl, hat⟩ : ∃ a : Nat, v = .int .i64 a ∧ At F (F.getD k.toNat 0) a := by
        rcases hv with ⟨h1, _⟩ | h
        · exact absurd hfm h1
        · exact h
      refine ⟨a, rfl, fun hak => ⟨i64 (by omega), ⟨rfl, by omega, by omega, hb1, hb2, fun j hj u hu => ?_⟩, by simp only []; omega⟩, fun hka => ?_⟩
      · by_cases hjk : (j : Int) < k
        · exact hb3 j hjk u hu
        · obtain rfl : j = k.toNat := by omega
          refine hb3 a hak u ?_
          rw [hat.2.1]
          exact hu.perm (same_perm F hat.1 (by omega) hat.2.1 _)
      · refine ⟨hp, hk0, hlt, _, g, hq, by omega, by omega, _, g0 w hx, i64 (by omega), hp, hk0, hlt, ?_⟩
        refine store_back o hk0 (by omega) fun w13 o13 g13 hback => ?_
        have hx13 := g13.ext hx o
        refine ⟨by omega, by omega, by omega, fun w14 h14 => ?_⟩
        rw [hcut]
        refine (ih hLt _ (c - (1 : Int).toNat) (by simp; omega) (by omega) B0 w14 (hx13.trans h14) htl p n d (F.set k.toNat (F.getD k.toNat 0 + x)) b1 hn0 hn (fun y hy => ?_) (o13.ext h14)).mono fun v w15 ⟨e15, t, hv, hB⟩ => ⟨e15, t, hv, hp, hk0, hlt, _, o13.int_at hk0 (by simp; omega), hq, by omega, by omega, _, g0 w13 hx13, ?_, hp, hk0, hlt, ?_⟩
        · rcases mem_set_cases hy with h | rfl
          · have := hF y h; omega
          · omega
        · rw [getD_set _ _ _ _ _ (by omega), if_pos rfl]; exact i64 (by omega)
        · refine hback _ _ (by rw [getD_set _ _ _ _ _ (by omega), if_pos rfl]; omega) ⟨i64 (by omega), ⟨rfl, by omega, by omega, ?_, ?_, fun j hj u hu => ?_⟩, by simp only []; omega⟩
          · rcases hB.is with h | h
            · rw [h]; exact hb1
            · exact .inr (.put (by omega) h)
          · have := hB.le; omega
          · by_cases hjk : (j : Int) < k
            · have := hb3 j hjk u hu; have := hB.le; omega
            · obtain rfl : j = k.toNat := by omega
              exact hB.all u hu
    · cases hu with
      | put h1 h2 => exact hb3 _ (by omega) u h2

theorem lLeast_k (m : Int) (q : Option Addr) (c : Nat) (D : List Int) (hc : D.length ≤ c) (h64 : (D.length : Int) ≤ 9223372036854775807) (w : World) (hDm : Ints .i64 w q D) :
    FnP Try.prog F_list_Least #[.int .i64 m, .slice q D.length c] w fun v w' => Ext w w' ∧ ∃ t e, v = .tuple #[.int .i64 t, .int .i64 e] ∧ (e ≠ 0 → t = 0) ∧ (e = 0 → okM m D ∧ D.length ≤ 9 ∧ ∃ b row load on, row.Perm (nums D.length) ∧ Puts D m.toNat row load on ∧ IsMax load b ∧ Bsp D (List.replicate m.toNat 0) b t) := by
  refine ok_list_Least m q D.length c w _ fun w0 h0 => ?_
  refine (lcheck_k m q c D h64 w0 (hDm.ext h0)).mono fun v w1 ⟨e1, hv⟩ => ⟨e1, _, hv, fun hne w3 h3 => ⟨h3, 0, _, rfl, fun _ => rfl, fun h => absurd h hne⟩, fun he => ⟨fun _ w3 h3 => ⟨h3, 0, 2, rfl, fun _ => rfl, fun h => by omega⟩, fun h9 w3 h3 => ?_⟩⟩
  have hok := errM_ok.1 he
  have hok' := hok
  obtain ⟨m0, m1, dl, hD⟩ := hok'
  obtain ⟨M, rfl⟩ : ∃ M : Nat, m = M := ⟨m.toNat, by omega⟩
  refine (Long_k M q c D hok (by omega) w3 (hDm.ext h3)).mono fun v w4 ⟨e4, p, oc, t, row, load, on, hv, hp, _, _, hP, ht⟩ => ⟨e4, _, _, _, _, _, hv, fun w10 h10 => ?_⟩
  refine mk_ints elem_sl_int64 (by omega) (by omega) (by omega) fun w11 o11 e11 => ⟨e11, _, _, _, rfl, fun w15 h15 => ?_⟩
  have hx10 := (h3.trans e4).trans h10
  have hx15 := (hx10.trans e11).trans h15
  have o15 := (o11 w.heap.size hx10.size).ext h15
  simp only [Int.toNat_natCast] at o15 ⊢
  refine (lleast_k D hD q c hc (by omega) w w15 hx15 hDm _ M M (List.replicate M 0) t (by omega) (by omega) (fun x hx => by have := List.eq_of_mem_replicate hx; omega) o15).mono fun v w16 ⟨e16, t2, hv, hB⟩ => ⟨e16, t2, hv, fun w18 h18 => ⟨(hx10.trans e11).trans h18, t2, 0, rfl, fun h => absurd rfl h, fun _ => ⟨hok, by omega, t, row, load, on, hp, hP, ht, hB⟩⟩⟩

theorem sumL_perm {X Y : List Int} (h : X.Perm Y) : sumL X = sumL Y := by
  induction h with
  | nil => rfl
  | cons x _ ih => simp only [sumL, ih]
  | swap x y l => simp only [sumL]; omega
  | trans _ _ h1 h2 => exact h1.trans h2

theorem core_ListLeast (W : World) : ∀ m : Int, InR .i64 m → ∀ d : Option Addr, ∀ dl : Nat, ∀ dc : Nat, SlcArg Try.prog W T_int64 d dl dc → ∀ o : Option Addr, ∀ ol : Nat, ∀ oc : Nat, SlcArg Try.prog W T_int o ol oc →
    FnP Try.prog F_shiftbellkeep_ListLeast #[.int .i64 m, .slice d dl dc, .slice o ol oc] W fun v W' => v = .bool true ∧ Ext W W' := by
  intro m hm q dl dc hd o ol oc ho
  obtain ⟨D, rfl, _, hD⟩ := hd.ints (k := .i64) (by kernel_rfl) (by kernel_rfl)
  obtain ⟨on, rfl, _, hO⟩ := ho.ints (k := .i64) (by kernel_rfl) (by kernel_rfl)
  have h64 : (D.length : Int) ≤ 9223372036854775807 := by have := hd.le; have := hd.max; omega
  have h65 : (on.length : Int) ≤ 9223372036854775807 := by have := ho.le; have := ho.max; omega
  refine ok_shiftbellkeep_ListLeast m q D.length dc o on.length oc W _ ?_
  intro w0 h0
  refine (lists_k w0).mono fun v w1 ⟨e1, hv⟩ => ⟨e1, true, hv, fun h => by simp at h, fun _ w3 h3 => ?_⟩
  refine (lLeast_k m q dc D hd.le h64 w3 (hD.ext h3)).mono fun v w4 ⟨e4, t, e, hv, hbad, hgd⟩ => ⟨e4, t, e, hv, fun w7 h7 => ?_⟩
  refine (Span_k m q dc D h64 o oc on h65 w7 (hD.ext h7) (hO.ext h7)).mono fun v w8 ⟨e8, t2, e2, hv, hs1, hs2, hs3⟩ => ⟨e8, t2, e2, hv, fun hne w11 h11 => ⟨b_true (by simpa using hbad hne), h11⟩, fun he => ?_⟩
  obtain ⟨hok, hl9, b, row, load, lon, hp, hP, hb, hB⟩ := hgd he
  have hok' := hok
  obtain ⟨m0, m1, dl60, hDb⟩ := hok'
  obtain ⟨M, rfl⟩ : ∃ M : Nat, m = M := ⟨m.toNat, by omega⟩
  simp only [Int.toNat_natCast] at hP hB hs3
  have hsD : sumL load = sumL D := by
    rw [(hP.graham (by omega) hDb (by omega)).1, sumL_perm (hp.map _), sumL_nums, sumL_eq_sumN]; rfl
  have hz : sumL (List.replicate M (0 : Int)) = 0 := by
    have : ∀ n : Nat, sumL (List.replicate n 0) = 0 := fun n => by induction n with
      | zero => rfl
      | succ n ih => rw [List.replicate_succ]; simp only [sumL, ih]; rfl
    exact this M
  have hsum : sumL D ≤ M * t := by
    rcases hB.is with h | h
    · have := sumL_le hb.2
      rw [hP.len.1, hsD] at this
      rw [h]; exact this
    · have := h.sum
      rw [hz, List.length_replicate] at this
      omega
  have hbb := (hP.bounds hDb).1 b hb.1
  have hrl : row.length = D.length := by rw [hp.length_eq, nums_len]
  have h0t : 0 ≤ t := by
    rcases hB.is with h | h
    · omega
    · exact h.ge (fun x hx => (hDb x hx).1) 0 (by simp; omega)
  have htb := hB.le
  have h1 : (M : Int) * t ≤ 20 * 9000000000 := Int.mul_le_mul (by omega) (by omega) (by omega) (by omega)
  have h2 : 0 ≤ (M : Int) * t := Int.mul_nonneg (by omega) (by omega)
  refine ⟨fun _ => i64 (by omega), fun _ w11 h11 => ?_, fun hbad => ?_⟩
  · refine (sum_k q dc D (by omega) (fun x hx => by have := hDb x hx; omega) w11 (hD.ext h11)).mono fun v w12 ⟨e12, hv⟩ => ⟨e12, _, hv, fun w14 h14 => ⟨b_true (by simpa using hsum), h14⟩⟩
  · exfalso
    by_cases hon : okOn M D on
    · have ht2 := (hs3 hok hon).2
      rw [← addAll_spans hon.1 (by simpa using hon.2)] at ht2
      have := hB.all _ (Comp.of_all D on _ t2 hon.1 (by simpa using hon.2) ht2)
      omega
    · have := (hs2 hok hon).1; omega
end Go.Proofs.Ytmdnjnflmijofaa
