/- The longest ones first: at most a third more than the least span; the law ListLong. -/
import Derived.Test.YtmdnjnflmijofaaPLh
set_option linter.unusedVariables false
set_option linter.unusedSimpArgs false
namespace Go.Proofs.Ytmdnjnflmijofaa
open Go.Sx Go.RowKit

/-- A job's weight, by the least one x of those that count, and the span t. -/
def wt (x t a : Int) : Int := if a < x then 0 else if t < a + x then 2 else 1
structure Rk (x t f g : Int) : Prop where
  f0 : 0 ≤ f
  g0 : 0 ≤ g ∧ g ≤ 2
  one : 1 ≤ g → x ≤ f
  two : 2 ≤ g → t < f + x

theorem Comp.weight {x t : Int} (h3 : t < 3 * x) (hx : 0 ≤ x) {L F : List Int} (h : Comp L F t) (hL : ∀ a ∈ L, 0 ≤ a) : ∀ G : List Int, G.length = F.length → (∀ j, j < F.length → Rk x t (F.getD j 0) (G.getD j 0)) → sumL (L.map (wt x t)) + sumL G ≤ 2 * F.length := by
  induction h with
  | @nil F t hm =>
    intro G hG hR
    have := sumL_le (X := G) (v := 2) fun g hg => by
      obtain ⟨j, hj, rfl⟩ := List.getElem_of_mem hg
      have := (hR j (by omega)).g0.2
      simpa [List.getD_eq_getElem?_getD, hj] using this
    simp only [List.map_nil, sumL]; rw [hG] at this; omega
  | @put a L F t k hk hc ih =>
    intro G hG hR
    have ha := hL a (by simp)
    have hLt : ∀ b ∈ L, 0 ≤ b := fun b hb => hL b (by simp [hb])
    have hge := hc.ge hLt (F.getD k 0 + a) (by rw [List.mem_iff_getElem?]; exact ⟨k, by simp [hk]⟩)
    have r := hR k hk
    have hkG : k < G.length := by omega
    have := ih h3 hLt (G.set k (G.getD k 0 + wt x t a)) (by simp [hG]) fun j hj => by
      rw [List.length_set] at hj
      rw [getD_set _ _ _ _ _ hk, getD_set _ _ _ _ _ hkG]
      by_cases hjk : j = k
      · rw [if_pos hjk, if_pos hjk]
        obtain ⟨f0, g0, r1, r2⟩ := r
        unfold wt
        by_cases h1 : a < x
        · rw [if_pos h1]
          exact ⟨by omega, by omega, fun h => by have := r1 (by omega); omega, fun h => by have := r2 (by omega); omega⟩
        · rw [if_neg h1]
          by_cases h2 : t < a + x
          · rw [if_pos h2]
            have hg : ¬ 1 ≤ G.getD k 0 := fun h => by have := r1 h; omega
            exact ⟨by omega, by omega, fun _ => by omega, fun _ => by omega⟩
          · rw [if_neg h2]
            have hg : ¬ 2 ≤ G.getD k 0 := fun h => by have := r2 h; omega
            refine ⟨by omega, by omega, fun _ => by omega, fun h => ?_⟩
            have := r1 (by omega); omega
      · rw [if_neg hjk, if_neg hjk]; exact hR j hj
    rw [sumL_set hkG] at this
    simp only [List.map_cons, sumL, List.length_set] at this ⊢
    omega

def Sk (x t f g : Int) : Prop := (f = 0 ∧ g = 0) ∨ (x ≤ f ∧ g = wt x t f) ∨ 2 ≤ g
theorem Puts.weight {D : List Int} {m : Nat} {x t : Int} {row load on : List Int} (h : Puts D m row load on) : (∀ i ∈ row, x ≤ dg D i.toNat) → ∃ G : List Int, G.length = m ∧ sumL G = sumL (row.map fun i => wt x t (dg D i.toNat)) ∧ ∀ j, j < m → Sk x t (load.getD j 0) (G.getD j 0) := by
  induction h with
  | nil =>
    intro _
    refine ⟨List.replicate m 0, by simp, ?_, fun j hj => ?_⟩
    · have : ∀ n : Nat, sumL (List.replicate n 0) = 0 := fun n => by induction n with
        | zero => rfl
        | succ n ih => rw [List.replicate_succ]; simp only [sumL, ih]; rfl
      rw [this]; rfl
    · rw [getD_replicate' _ _ _ hj]; exact .inl ⟨rfl, rfl⟩
  | @cons row load on i load' on' hr hi hp ih =>
    intro hall
    obtain ⟨G, g1, g2, g3⟩ := ih fun y hy => hall y (by simp [hy])
    obtain ⟨k, v, hv, hk, rfl, rfl⟩ := hp.ex
    have hl := hr.len.1
    have hxi : x ≤ dg D i := by simpa using hall i (by simp)
    have hkG : k < G.length := by have := hk.1; omega
    refine ⟨G.set k (G.getD k 0 + wt x t (dg D i)), by simpa using g1, ?_, fun j hj => ?_⟩
    · rw [sumL_set hkG, g2, List.map_append, sumL_append]; simp [sumL]; omega
    · rw [getD_set _ _ _ _ _ hk.1, getD_set _ _ _ _ _ hkG]
      by_cases hjk : j = k
      · rw [if_pos hjk, if_pos hjk]
        have hw : 1 ≤ wt x t (dg D i) := by unfold wt; rw [if_neg (by omega)]; split <;> omega
        have h3 := g3 k (by omega)
        rw [hk.2.1] at h3
        rcases h3 with ⟨h4, h5⟩ | ⟨h4, h5⟩ | h4
        · exact .inr (.inl ⟨by omega, by rw [h4, h5]; simp⟩)
        · have : 1 ≤ wt x t v := by unfold wt; rw [if_neg (by omega)]; split <;> omega
          exact .inr (.inr (by omega))
        · exact .inr (.inr (by omega))
      · rw [if_neg hjk, if_neg hjk]; exact g3 j hj

theorem Puts.born {D : List Int} {m : Nat} {row load on : List Int} (h : Puts D m row load on) : ∀ c ∈ load, c = 0 ∨ ∃ (pre post : List Int) (i : Nat) (load0 on0 : List Int) (v : Int), row = pre ++ ((i : Int) :: post) ∧ i < D.length ∧ Puts D m pre load0 on0 ∧ IsMin load0 v ∧ c = v + dg D i := by
  induction h with
  | nil => intro c hc; exact .inl (List.eq_of_mem_replicate hc)
  | @cons row load on i load' on' hr hi hp ih =>
    obtain ⟨k, v, hv, hk, rfl, rfl⟩ := hp.ex
    intro c hc
    rcases mem_set_cases hc with h | rfl
    · rcases ih c h with h | ⟨pre, post, j, l0, o0, u, rfl, h2, h3, h4, h5⟩
      · exact .inl h
      · exact .inr ⟨pre, post ++ [(i : Int)], j, l0, o0, u, by simp, h2, h3, h4, h5⟩
    · exact .inr ⟨row, [], i, load, on, v, rfl, hi, hr, hv, rfl⟩

theorem sumN_list_ (f : Int → Int) (X : List Int) : sumN X.length (fun i => f (dg X i)) = sumL (X.map f) := by
  induction X with
  | nil => rfl
  | cons a X ih =>
    rw [List.length_cons, sumN_head]
    have e : (fun i => f (dg (a :: X) (i + 1))) = fun i => f (dg X i) := rfl
    rw [e, ih]; rfl
theorem Comp.item {L F : List Int} {t : Int} (h : Comp L F t) (hL : ∀ x ∈ L, 0 ≤ x) (hF : ∀ x ∈ F, 0 ≤ x) : ∀ a ∈ L, a ≤ t := by
  induction h with
  | nil => intro a ha; cases ha
  | @put x L F t k hk hc ih =>
    have hLt : ∀ b ∈ L, 0 ≤ b := fun b hb => hL b (by simp [hb])
    have hx := hL x (by simp)
    have hfk := hF _ (getD_mem F 0 hk)
    have hge := hc.ge hLt (F.getD k 0 + x) (by rw [List.mem_iff_getElem?]; exact ⟨k, by simp [hk]⟩)
    intro a ha
    rcases List.mem_cons.1 ha with rfl | ha
    · omega
    · exact ih hLt (fun y hy => by
        rcases mem_set_cases hy with h | rfl
        · exact hF y h
        · omega) a ha

theorem long_bound {D : List Int} {m : Nat} (hm : 1 ≤ m) (hD : ∀ x ∈ D, 0 ≤ x ∧ x ≤ 1000000000) {row load on : List Int} (hp : row.Perm (nums D.length)) (hf : Falls (fun x => dg D x.toNat) row 0 D.length) (h : Puts D m row load on) {c t : Int} (hc : IsMax load c) (ht : Comp D (List.replicate m 0) t) : 3 * (m * c) ≤ 4 * (m * t) - t := by
  have hz : sumL (List.replicate m (0 : Int)) = 0 := by
    have : ∀ n : Nat, sumL (List.replicate n 0) = 0 := fun n => by induction n with
      | zero => rfl
      | succ n ih => rw [List.replicate_succ]; simp only [sumL, ih]; rfl
    exact this m
  have hsum := ht.sum
  rw [hz, List.length_replicate, Int.zero_add] at hsum
  have ht0 : 0 ≤ t := ht.ge (fun x hx => (hD x hx).1) 0 (by simp; omega)
  have hmt : t ≤ m * t := by
    have := Int.mul_le_mul_of_nonneg_right (show (1 : Int) ≤ m by omega) ht0
    omega
  have hle : ∀ e : Int, e ≤ t → 3 * ((m : Int) * e) ≤ 4 * (m * t) - t := fun e he => by
    have := Int.mul_le_mul_of_nonneg_left he (show (0 : Int) ≤ m by omega)
    omega
  rcases h.born c hc.1 with rfl | ⟨pre, post, i, l0, o0, v, hrow, hi, hP, hv, rfl⟩
  · exact hle 0 ht0
  have hrl : row.length = D.length := by rw [hp.length_eq, nums_len]
  have hpw : row.Pairwise (fun a b => dg D b.toNat ≤ dg D a.toNat) := by
    rw [List.pairwise_iff_getElem]
    intro a b ha hb hab
    have := hf a b (by omega) hab (by omega)
    simpa [List.getD_eq_getElem?_getD, ha, hb] using this
  rw [hrow, List.pairwise_append] at hpw
  have hpre : ∀ y ∈ pre, dg D i ≤ dg D y.toNat := fun y hy => by simpa using hpw.2.2 y hy i (by simp)
  have hxD := hD _ (getD_mem D 0 hi)
  have hxi : 0 ≤ dg D i ∧ dg D i ≤ 1000000000 := hxD
  have hnn : ∀ l : List Int, ∀ f : Int → Int, (∀ y ∈ l, 0 ≤ f y) → 0 ≤ sumL (l.map f) := fun l f hl => by
    have := sumL_ge (X := l.map f) (v := 0) fun y hy => by
      obtain ⟨z, hz, rfl⟩ := List.mem_map.1 hy
      exact hl z hz
    simpa using this
  have split : ∀ f : Int → Int, (∀ y : Nat, 0 ≤ f (dg D y)) → sumL (pre.map fun y => f (dg D y.toNat)) + f (dg D i) ≤ sumL (D.map f) := fun f hf0 => by
    have e : sumL (row.map fun y => f (dg D y.toNat)) = sumL (D.map f) := by
      rw [sumL_perm (hp.map _), sumL_nums, ← sumN_list_ f D]; rfl
    rw [← e, hrow, List.map_append, sumL_append]
    simp only [List.map_cons, sumL, Int.toNat_natCast]
    have := hnn post (fun y => f (dg D y.toNat)) fun y _ => hf0 _
    omega
  by_cases h3 : t < 3 * dg D i
  · refine hle _ (Classical.byContradiction fun hno => ?_)
    have hvt : t < v + dg D i := by omega
    have hv0 : 0 < v := by
      refine Classical.byContradiction fun hv0 => ?_
      have h1 : dg D i ≤ t := by
        have hmem : dg D i ∈ D := getD_mem D 0 hi
        exact ht.item (fun x hx => (hD x hx).1) (by simp) _ hmem
      omega
    obtain ⟨G, g1, g2, g3⟩ := hP.weight (t := t) (x := dg D i) hpre
    have hG := sumL_ge (X := G) (v := 2) fun g hg => by
      obtain ⟨j, hj, rfl⟩ := List.getElem_of_mem hg
      have h4 := g3 j (by omega)
      have hjl : j < l0.length := by have := hP.len.1; omega
      have h5 := hv.2 _ (getD_mem l0 0 hjl)
      have e : G.getD j 0 = G[j] := by simp [List.getD_eq_getElem?_getD, hj]
      rw [e] at h4
      rcases h4 with ⟨h6, _⟩ | ⟨h6, h7⟩ | h6
      · omega
      · rw [h7]; unfold wt; rw [if_neg (by omega), if_pos (by omega)]; omega
      · exact h6
    have hw := ht.weight h3 hxi.1 (fun a ha => (hD a ha).1) (List.replicate m 0) rfl fun j hj => by
      simp only [List.length_replicate] at hj
      rw [getD_replicate' _ _ _ hj]
      exact ⟨by omega, by omega, fun h => by omega, fun h => by omega⟩
    rw [hz, List.length_replicate] at hw
    have hs := split (wt (dg D i) t) fun y => by unfold wt; split <;> (try split) <;> omega
    rw [← g2] at hs
    have hwx : 1 ≤ wt (dg D i) t (dg D i) := by unfold wt; rw [if_neg (by omega)]; split <;> omega
    rw [g1] at hG
    omega
  · have hgr := (hP.graham hm hD (by omega)).1
    have hge := sumL_ge hv.2
    rw [hP.len.1, hgr] at hge
    have hs := split (fun a => a) fun y => by
      by_cases hy : y < D.length
      · exact (hD _ (getD_mem D 0 hy)).1
      · simp [dg, List.getD_eq_getElem?_getD, List.getElem?_eq_none (show D.length ≤ y by omega)]
    rw [List.map_id'] at hs
    have h1 : ((m : Int) - 1) * (3 * dg D i) ≤ (m - 1) * t := Int.mul_le_mul_of_nonneg_left (by omega) (by omega)
    rw [Int.sub_mul, Int.sub_mul] at h1
    rw [Int.mul_add]
    have e : (m : Int) * (3 * dg D i) = 3 * (m * dg D i) := by rw [← Int.mul_assoc, Int.mul_comm (m : Int) 3, Int.mul_assoc]
    rw [e] at h1
    omega

theorem Puts.comp {D : List Int} {m : Nat} (hm : 1 ≤ m) (hD : ∀ x ∈ D, 0 ≤ x ∧ x ≤ 1000000000) {row load on : List Int} (hp : row.Perm (nums D.length)) (h : Puts D m row load on) {c : Int} (hc : IsMax load c) : Comp D (List.replicate m 0) c := by
  have hl := h.len
  have hr := (h.bounds hD).2 (by omega)
  refine Comp.of_all D on _ c hl.2 (by simpa using hr) ?_
  rw [addAll_spans hl.2 (by simpa using hr)]
  have : load = Go.Proofs.Ytmdnjnflmijofaa.spans m D on := ext_getD (by rw [spans_len, hl.1]) fun k hk => by
    rw [hl.1] at hk
    rw [spans_at hk, h.loads (hp.symm.nodup_iff.1 (nums_nodup _)) k hk, sumL_perm (hp.map _), sumL_nums]
    rfl
  rw [← this]; exact hc

theorem Long2_k (m : Int) (q : Option Addr) (c : Nat) (D : List Int) (h64 : (D.length : Int) ≤ 9223372036854775807) (w : World) (hDm : Ints .i64 w q D) :
    FnP Try.prog F_list_Long #[.int .i64 m, .slice q D.length c] w fun v w' => Ext w w' ∧ ∃ p n oc t, v = .tuple #[.slice p n oc, .int .i64 t, .int .i64 (errM m D)] ∧ (¬ okM m D → n = 0) ∧ (okM m D → ∃ row load on, row.Perm (nums D.length) ∧ (D.length < 20 → Falls (fun x => dg D x.toNat) row 0 D.length) ∧ Puts D m.toNat row load on ∧ IsMax load t) := by
  refine ok_list_Long m q D.length c w _ fun w0 h0 => ?_
  refine new_one rfl fun p1 w1 e1 c1 hp1 hsz => ⟨_, _, _, c1, fun w5 h5 => ?_⟩
  have hx1 := h0.trans e1
  refine (lcheck_k m q c D h64 w5 (hDm.ext (hx1.trans h5))).mono fun v w6 ⟨e6, hv⟩ => ⟨e6, _, hv, fun hne w8 h8 => ⟨hx1.trans h8, _, _, _, _, rfl, fun _ => rfl, fun hok => absurd (errM_ok.2 hok) hne⟩, fun he => ⟨_, _, _, c1, fun w11 h11 => ?_⟩⟩
  have hok := errM_ok.1 he
  have hok' := hok
  obtain ⟨m0, m1, dl, hD⟩ := hok'
  obtain ⟨M, rfl⟩ : ∃ M : Nat, m = M := ⟨m.toNat, by omega⟩
  refine (lnumbers_k D.length (by omega) w11).mono fun v w12 ⟨e12, r, rc, hv, oR⟩ => ⟨e12, r, _, rc, hv, fun w16 h16 => ?_⟩
  have hx16 := (h11.trans e12).trans h16
  have cm := long_cmps w1 q c D (hDm.ext hx1) p1 c1
  refine (sort_k cm (nums D.length) (fun x hx => nums_mem hx) (by omega) w16 hx16 ((oR.weak h11.size).ext h16)).mono fun v w17 ⟨hv, Y, hY, hfl⟩ => ⟨hv, _, _, _, ext_cell hY.ext c1, fun w21 h21 => ?_⟩
  have hx21 := hx1.trans (hY.ext.trans h21)
  have hYl := hY.len
  have hrun := run_k M (by omega) q c D dl hD r rc Y (fun x hx => nums_mem (hY.perm.mem_iff.1 hx)) (by omega) w21 (hDm.ext hx21) (hY.own.ext h21).cells
  rw [hYl] at hrun
  refine hrun.mono fun v w22 ⟨e22, p, oc, t, load, on, hv, oN, hP, ht⟩ => ⟨e22, _, _, _, _, hv, fun w27 h27 => ⟨(hx21.trans e22).trans h27, _, _, _, _, by rw [he], fun hno => absurd hok hno, fun _ => ⟨Y, load, on, hY.perm, hfl, hP, ht⟩⟩⟩

theorem lLeast2_k (m : Int) (q : Option Addr) (c : Nat) (D : List Int) (hc : D.length ≤ c) (h64 : (D.length : Int) ≤ 9223372036854775807) (w : World) (hDm : Ints .i64 w q D) :
    FnP Try.prog F_list_Least #[.int .i64 m, .slice q D.length c] w fun v w' => Ext w w' ∧ ∃ t e, v = .tuple #[.int .i64 t, .int .i64 e] ∧ (okM m D → 9 < D.length → e = 2) ∧ (okM m D → D.length ≤ 9 → e = 0 ∧ Comp D (List.replicate m.toNat 0) t ∧ ∀ u, Comp D (List.replicate m.toNat 0) u → t ≤ u) := by
  refine ok_list_Least m q D.length c w _ fun w0 h0 => ?_
  refine (lcheck_k m q c D h64 w0 (hDm.ext h0)).mono fun v w1 ⟨e1, hv⟩ => ⟨e1, _, hv, fun hne w3 h3 => ⟨h3, 0, _, rfl, fun h => absurd (errM_ok.2 h) hne, fun h => absurd (errM_ok.2 h) hne⟩, fun he => ⟨fun _ w3 h3 => ⟨h3, 0, 2, rfl, fun _ _ => rfl, fun _ _ => by omega⟩, fun h9 w3 h3 => ?_⟩⟩
  have hok := errM_ok.1 he
  have hok' := hok
  obtain ⟨m0, m1, dl, hD⟩ := hok'
  obtain ⟨M, rfl⟩ : ∃ M : Nat, m = M := ⟨m.toNat, by omega⟩
  refine (Long_k M q c D hok (by omega) w3 (hDm.ext h3)).mono fun v w4 ⟨e4, p, oc, t, row, load, on, hv, hp, _, _, hP, ht⟩ => ⟨e4, _, _, _, _, _, hv, fun w10 h10 => ?_⟩
  refine mk_ints elem_sl_int64 (by omega) (by omega) (by omega) fun w11 o11 e11 => ⟨e11, _, _, _, rfl, fun w15 h15 => ?_⟩
  have hx10 := (h3.trans e4).trans h10
  have hx15 := (hx10.trans e11).trans h15
  have o15 := (o11 w.heap.size hx10.size).ext h15
  simp only [Int.toNat_natCast] at o15 ⊢
  refine (lleast_k D hD q c hc (by omega) w w15 hx15 hDm _ M M (List.replicate M 0) t (by omega) (by omega) (fun x hx => by have := List.eq_of_mem_replicate hx; omega) o15).mono fun v w16 ⟨e16, t2, hv, hB⟩ => ⟨e16, t2, hv, fun w18 h18 => ⟨(hx10.trans e11).trans h18, t2, 0, rfl, fun _ _ => by omega, fun _ _ => ⟨rfl, ?_, hB.all⟩⟩⟩
  rcases hB.is with h | h
  · rw [h]; exact hP.comp (by omega) hD hp ht
  · exact h

theorem core_ListLong (W : World) : ∀ m : Int, InR .i64 m → ∀ d : Option Addr, ∀ dl : Nat, ∀ dc : Nat, SlcArg Try.prog W T_int64 d dl dc →
    FnP Try.prog F_shiftbellkeep_ListLong #[.int .i64 m, .slice d dl dc] W fun v W' => v = .bool true ∧ Ext W W' := by
  intro m hm q dl dc hd
  obtain ⟨D, rfl, _, hD⟩ := hd.ints (k := .i64) (by kernel_rfl) (by kernel_rfl)
  have h64 : (D.length : Int) ≤ 9223372036854775807 := by have := hd.le; have := hd.max; omega
  refine ok_shiftbellkeep_ListLong m q D.length dc W _ fun w0 h0 => ?_
  refine (lists_k w0).mono fun v w1 ⟨e1, hv⟩ => ⟨e1, true, hv, fun h => by simp at h, fun _ w3 h3 => ?_⟩
  refine (Long2_k m q dc D h64 w3 (hD.ext h3)).mono fun v w4 ⟨e4, p, n, oc, t, hv, hb1, hg1⟩ => ⟨e4, p, n, oc, t, _, hv, fun w10 h10 => ?_⟩
  have hx4 := h3.trans e4
  have hx10 := hx4.trans h10
  refine (lLeast2_k m q dc D hd.le h64 w10 (hD.ext hx10)).mono fun v w11 ⟨e11, k, e, hv, hn2, hn3⟩ => ⟨e11, k, e, hv, fun w14 h14 => ?_⟩
  refine run_lit elem_sl_Errno [.int .i64 (errM m D), .int .i64 e] rfl rfl (by intro v hv; simp at hv; rcases hv with rfl | rfl <;> rfl) (by omega) (by omega) fun w15 o15 e15 => ⟨e15, _, _, _, rfl, fun w19 h19 => ?_⟩
  have oG := (o15 0 (Nat.zero_le _)).ext h19
  have hx15 := (hx4.trans h14).trans e15
  refine (good_k (some ⟨w14.heap.size, 0, none⟩) 2 2 [errM m D, e] rfl (by omega) w19 oG.cells).mono fun v w20 ⟨e20, hv⟩ => ⟨e20, _, hv, fun hbad => ?_, fun hgd => ?_⟩
  · intro w22 h22
    refine ⟨b_true ?_, hx15.trans h22⟩
    by_cases hok : okM m D
    · have h0 := errM_ok.2 hok
      by_cases h9 : 9 < D.length
      · have he := hn2 hok h9
        simp [he]; omega
      · have he := (hn3 hok (by omega)).1
        rw [h0, he] at hbad
        simp at hbad
    · have h0 : errM m D ≠ 0 := fun h => hok (errM_ok.1 h)
      simp [h0, hb1 hok]
  · rw [decide_eq_true_iff] at hgd
    have hok : okM m D := errM_ok.1 (hgd (errM m D) (by simp))
    have he : e = 0 := hgd e (by simp)
    have h9 : D.length ≤ 9 := by
      refine Classical.byContradiction fun h => ?_
      have := hn2 hok (by omega); omega
    obtain ⟨_, hC, hmin⟩ := hn3 hok h9
    obtain ⟨row, load, on, hp, hfl, hP, ht⟩ := hg1 hok
    have hok' := hok
    obtain ⟨m0, m1, dl60, hDb⟩ := hok'
    obtain ⟨M, rfl⟩ : ∃ M : Nat, m = M := ⟨m.toNat, by omega⟩
    simp only [Int.toNat_natCast] at hC hmin hP
    have h1 := hmin _ (hP.comp (by omega) hDb hp ht)
    have h2 := long_bound (by omega) hDb hp (hfl (by omega)) hP ht hC
    have hbb := (hP.bounds hDb).1 t ht.1
    have hrl : row.length = D.length := by rw [hp.length_eq, nums_len]
    have hk0 : 0 ≤ k := hC.ge (fun x hx => (hDb x hx).1) 0 (by simp; omega)
    have e1 : (3 * (M : Int)) * t = 3 * (M * t) := Int.mul_assoc ..
    have e2 : (4 * (M : Int) - 1) * k = 4 * (M * k) - k := by rw [Int.sub_mul, Int.mul_assoc]; omega
    have b1 : (M : Int) * t ≤ 20 * 9000000000 := Int.mul_le_mul (by omega) (by omega) (by omega) (by omega)
    have b2 : 0 ≤ (M : Int) * t := Int.mul_nonneg (by omega) (by omega)
    have b3 : (M : Int) * k ≤ 20 * 9000000000 := Int.mul_le_mul (by omega) (by omega) (by omega) (by omega)
    have b4 : 0 ≤ (M : Int) * k := Int.mul_nonneg (by omega) (by omega)
    refine ⟨fun _ => i64 (by omega), fun _ => i64 (by rw [e1]; omega), fun _ => i64 (by omega), fun _ => i64 (by omega), fun _ => i64 (by rw [e2]; omega), fun w22 h22 => ⟨b_true ?_, hx15.trans h22⟩⟩
    rw [Bool.and_eq_true, decide_eq_true_iff, decide_eq_true_iff, e1, e2]
    omega
end Go.Proofs.Ytmdnjnflmijofaa
