/- The law ListGraham. -/
import Derived.Test.YtmdnjnflmijofaaPLa
set_option linter.unusedVariables false
set_option linter.unusedSimpArgs false
namespace Go.Proofs.Ytmdnjnflmijofaa
open Go.Sx Go.RowKit

theorem sumL_map_congr {f g : Int → Int} {l : List Int} (h : ∀ x ∈ l, f x = g x) : sumL (l.map f) = sumL (l.map g) := by
  rw [List.map_congr_left h]
theorem sumL_nums (f : Int → Int) (n : Nat) : sumL ((nums n).map f) = sumN n (fun i => f i) := by
  induction n with
  | zero => rfl
  | succ n ih => rw [nums_succ, List.map_append, sumL_append, ih]; simp [sumL, sumN]
theorem Puts.mem {D : List Int} {m : Nat} {row load on : List Int} (h : Puts D m row load on) : ∀ x ∈ row, ∃ a : Nat, x = a ∧ a < D.length := by
  induction h with
  | nil => intro x hx; cases hx
  | @cons row load on i load' on' hr hi hp ih =>
    intro x hx
    rcases List.mem_append.1 hx with h | h
    · exact ih x h
    · exact ⟨i, by simpa using h, hi⟩
theorem Puts.loads {D : List Int} {m : Nat} {row load on : List Int} (h : Puts D m row load on) (hn : row.Nodup) : ∀ k, k < m → load.getD k 0 = sumL (row.map fun i => if on.getD i.toNat 0 = k then dg D i.toNat else 0) := by
  induction h with
  | nil => intro k hk; rw [getD_replicate' _ _ _ hk]; rfl
  | @cons row load on i load' on' hr hi hp ih =>
    obtain ⟨j, v, hv, hj, rfl, rfl⟩ := hp.ex
    have hl := hr.len
    rw [List.nodup_append] at hn
    have hni : (i : Int) ∉ row := fun hm => hn.2.2 _ hm _ (by simp) rfl
    intro k hk
    rw [List.map_append, sumL_append, getD_set _ _ _ _ _ hj.1]
    have h1 : sumL (row.map fun x => if (on.set i (j : Int)).getD x.toNat 0 = k then dg D x.toNat else 0) = load.getD k 0 := by
      rw [ih hn.1 k hk]
      refine sumL_map_congr fun x hx => ?_
      obtain ⟨a, rfl, ha⟩ := hr.mem x hx
      have hai : a ≠ i := fun h => hni (h ▸ hx)
      rw [Int.toNat_natCast, getD_set _ _ _ _ _ (by omega), if_neg hai]
    rw [h1]
    simp only [List.map_cons, List.map_nil, sumL, Int.toNat_natCast]
    rw [getD_set _ _ _ _ _ (by omega), if_pos rfl]
    by_cases hkj : k = j
    · subst hkj
      rw [if_pos rfl, if_pos rfl, hj.2.1]; omega
    · rw [if_neg hkj, if_neg (by omega)]; omega
theorem nums_nodup (n : Nat) : (nums n).Nodup := by
  unfold nums
  exact List.Pairwise.map _ (fun a b h => by simp; omega) List.nodup_range
theorem Puts.spans {D : List Int} {m : Nat} {load on : List Int} (h : Puts D m (nums D.length) load on) : load = spans m D on :=
  ext_getD (by rw [spans_len, h.len.1]) fun k hk => by
    rw [h.len.1] at hk
    rw [spans_at hk, h.loads (nums_nodup _) k hk, sumL_nums]
    rfl
theorem sumL_eq_sumN (D : List Int) : sumL D = sumN D.length (fun i => dg D i) := by
  have key : ∀ n, n ≤ D.length → sumL (D.take n) = sumN n (fun i => dg D i) := by
    intro n
    induction n with
    | zero => intro _; rfl
    | succ n ih => intro hn; rw [sumL_take_succ _ (by omega), ih (by omega)]; rfl
  have := key D.length (Nat.le_refl _)
  rwa [List.take_of_length_le (Nat.le_refl _)] at this

theorem Puts.two {D load on : List Int} {t : Int} (hD : D = [3, 4]) (h : Puts D 2 (nums 2) load on) (ht : IsMax load t) : t = 4 := by
  have hr : nums 2 = [] ++ [((0 : Nat) : Int)] ++ [((1 : Nat) : Int)] := rfl
  rw [hr] at h
  generalize hrow : [] ++ [((0 : Nat) : Int)] ++ [((1 : Nat) : Int)] = row at h
  cases h with
  | nil => simp at hrow
  | @cons row load on i load' on' h1 hi hp =>
    obtain ⟨rfl, hi1⟩ := List.append_inj' hrow rfl
    simp at hi1
    generalize hrow2 : [] ++ [((0 : Nat) : Int)] = row2 at h1
    cases h1 with
    | nil => simp at hrow2
    | @cons row3 load3 on3 i3 load' on' h3 hi3 hp3 =>
      obtain ⟨rfl, hi2⟩ := List.append_inj' hrow2 rfl
      simp at hi2
      generalize hrow3 : ([] : List Int) = row4 at h3
      cases h3 with
      | cons => simp at hrow3
      | nil =>
        obtain ⟨k, v, hv, hk, rfl, rfl⟩ := hp3.ex
        obtain ⟨k2, v2, hv2, hk2, rfl, rfl⟩ := hp.ex
        subst hD
        have hv0 : v = 0 := by have := hv.1; simp at this; exact this
        subst hv0
        have hk0 : k = 0 := by
          rcases Nat.eq_zero_or_pos k with h | h
          · exact h
          · exact absurd (by rfl) (hk.2.2 0 h)
        subst hk0
        obtain rfl : i3 = 0 := by omega
        obtain rfl : i = 1 := by omega
        have e1 : (List.replicate 2 (0 : Int)).set 0 (0 + dg [3, 4] 0) = [3, 0] := rfl
        rw [e1] at hv2 hk2 ht
        have hv20 : v2 = 0 := by
          have h1 := hv2.1
          have h2 := hv2.2 0 (by simp)
          simp at h1; omega
        subst hv20
        have hk21 : k2 = 1 := by
          have h1 := hk2.1
          have h2 := hk2.2.1
          simp at h1
          rcases Nat.lt_or_ge k2 1 with h | h
          · obtain rfl : k2 = 0 := by omega
            simp at h2
          · omega
        subst hk21
        have e2 : ([3, 0] : List Int).set 1 (0 + dg [3, 4] 1) = [3, 4] := rfl
        rw [e2] at ht
        have h1 := ht.1
        have h2 := ht.2 4 (by simp)
        simp at h1; omega

theorem lists_k (w : World) : FnP Try.prog F_shiftbellkeep_lists #[] w fun v w' => Ext w w' ∧ v = .bool true := by
  refine ok_shiftbellkeep_lists w _ ?_
  intro w0 h0
  refine run_lit elem_sl_int64 [.int .i64 3, .int .i64 4] rfl rfl (by intro v hv; simp at hv; rcases hv with rfl | rfl <;> rfl) (by omega) (by omega) fun w1 o1 e1 => ⟨e1, _, _, _, rfl, fun w5 h5 => ?_⟩
  have o5 := (o1 0 (Nat.zero_le _)).ext h5
  have hI : Ints .i64 w5 (some ⟨w0.heap.size, 0, none⟩) [3, 4] := o5.cells
  have hok : okM 2 [3, 4] := ⟨by omega, by omega, by simp, by intro x hx; simp at hx; omega⟩
  refine (lRun_k 2 _ 2 [3, 4] (by simp) w5 hI).mono fun v w6 ⟨e6, p, n, oc, t, hv, _, hgd⟩ => ⟨e6, p, n, oc, t, _, hv, fun w12 h12 => ⟨((h0.trans e1).trans h5).trans (e6.trans h12), ?_⟩⟩
  obtain ⟨_, load, on, _, hP, ht⟩ := hgd hok
  rw [errM_ok.2 hok, hP.two rfl ht]; rfl

theorem core_ListGraham (W : World) : ∀ m : Int, InR .i64 m → ∀ d : Option Addr, ∀ dl : Nat, ∀ dc : Nat, SlcArg Try.prog W T_int64 d dl dc →
    FnP Try.prog F_shiftbellkeep_ListGraham #[.int .i64 m, .slice d dl dc] W fun v W' => v = .bool true ∧ Ext W W' := by
  intro m hm q dl dc hd
  obtain ⟨D, rfl, _, hD⟩ := hd.ints (k := .i64) (by kernel_rfl) (by kernel_rfl)
  have h64 : (D.length : Int) ≤ 9223372036854775807 := by have := hd.le; have := hd.max; omega
  refine ok_shiftbellkeep_ListGraham _ _ _ _ W _ ?_
  intro w0 h0
  refine (lists_k w0).mono fun v w1 ⟨e1, hv⟩ => ⟨e1, true, hv, fun h => by simp at h, fun _ w3 h3 => ?_⟩
  refine (lRun_k m q dc D h64 w3 (hD.ext h3)).mono fun v w4 ⟨e4, p, n, oc, t, hv, hbad, hgd⟩ => ⟨e4, p, n, oc, t, _, hv, fun hne w10 h10 => ⟨b_true ?_, (h3.trans e4).trans h10⟩, fun he w10 h10 => ?_⟩
  · obtain ⟨rfl, rfl⟩ := hbad fun h => hne (errM_ok.2 h)
    simp
  have hok := errM_ok.1 he
  obtain ⟨rfl, load, on, oN, hP, ht⟩ := hgd hok
  have hok' := hok
  obtain ⟨m0, m1, dl60, hDb⟩ := hok'
  obtain ⟨M, rfl⟩ : ∃ M : Nat, m = M := ⟨m.toNat, by omega⟩
  simp only [Int.toNat_natCast] at hP
  have hx4 := h3.trans e4
  have hx10 := hx4.trans h10
  have lenN := hP.len.2
  have hokOn : okOn M D on := ⟨lenN, (hP.bounds hDb).2 (by omega)⟩
  have hspan := Span_k M q dc D h64 p oc on (by omega) w10 (hD.ext hx10) (oN.ext h10).cells
  rw [lenN] at hspan
  refine hspan.mono fun v w11 ⟨e11, t2, f, hv, _, _, hs⟩ => ⟨e11, t2, f, hv, ?_⟩
  obtain ⟨rfl, ht2⟩ := hs hok hokOn
  simp only [Int.toNat_natCast] at ht2
  rw [← hP.spans] at ht2
  obtain rfl : t = t2 := ht.same ht2
  refine ⟨fun lg k w' => w' = w4 ∧ 0 ≤ k ∧ k ≤ D.length ∧ 0 ≤ lg ∧ (lg = 0 ∨ lg ∈ D) ∧ ∀ j : Nat, (j : Int) < k → dg D j ≤ lg, fun _ k _ => (D.length - k).toNat, ⟨rfl, by omega, by omega, by omega, .inl rfl, fun j hj => by omega⟩, ?_⟩
  rintro lg k w4 ⟨rfl, hk0, hk1, hlg0, hlgm, hlg⟩
  refine ⟨fun hlt => ?_, fun hge => ⟨fun _ => ?_, fun _ w18 h18 => ?_, fun h => ?_⟩⟩
  · have g := Ints.idx (hD.ext hx4) hk0 hlt
    have hm2 := getD_mem D 0 (i := k.toNat) (by omega)
    refine ⟨fun hq => cell_p g (pIdx_none.2 hq), hk0, hlt, _, g, i64 (by omega), ⟨rfl, by omega, by omega, by omega, ?_, fun j hj => ?_⟩, by simp only []; omega⟩
    · rcases Int.le_total lg (D.getD k.toNat 0) with h | h
      · rw [Int.max_eq_right h]; exact .inr hm2
      · rw [Int.max_eq_left h]; exact hlgm
    · by_cases hjk : (j : Int) < k
      · have := hlg j hjk; omega
      · obtain rfl : j = k.toNat := by omega
        simp only [dg]; omega
  all_goals have htb := (hP.bounds hDb).1 t ht.1
  all_goals rw [nums_len] at htb
  · have h1 : (M : Int) * t ≤ 20 * 60000000000 := Int.mul_le_mul (by omega) (by omega) (by omega) (by omega)
    have h2 : 0 ≤ (M : Int) * t := Int.mul_nonneg (by omega) (by omega)
    exact i64 (by omega)
  · obtain rfl : k = D.length := by omega
    have hx18 := hx4.trans h18
    have hDb2 : ∀ x ∈ D, 0 ≤ x ∧ x ≤ 1099511627776 := fun x hx => by have := hDb x hx; omega
    have hDl : ∀ x ∈ D, 0 ≤ x ∧ x ≤ lg := fun x hx => ⟨(hDb x hx).1, by
      obtain ⟨j, hj, rfl⟩ := List.getElem_of_mem hx
      have := hlg j (by omega)
      simpa [dg, List.getD_eq_getElem?_getD, hj] using this⟩
    have hlgb : lg ≤ 1000000000 := by
      rcases hlgm with h | h
      · omega
      · exact (hDb lg h).2
    obtain ⟨g1, g2, g3⟩ := hP.graham (by omega) hDl hlg0
    have hsD : sumL load = sumL D := by
      rw [g1, sumL_nums, sumL_eq_sumN]; rfl
    rw [hsD] at g2
    have hsb := sumL_bounds hDb
    have h1 : (M : Int) * t ≤ 20 * 60000000000 := Int.mul_le_mul (by omega) (by omega) (by omega) (by omega)
    have h2 : 0 ≤ (M : Int) * t := Int.mul_nonneg (by omega) (by omega)
    have h3' : 0 ≤ ((M : Int) - 1) * lg := Int.mul_nonneg (by omega) hlg0
    have h4' : ((M : Int) - 1) * lg ≤ 20 * 1000000000 := Int.mul_le_mul (by omega) hlgb hlg0 (by omega)
    have hle := sumL_le ht.2
    rw [hP.len.1, hsD] at hle
    have hlong : lg ≤ t := by
      rcases hlgm with h | h
      · have := htb; omega
      · obtain ⟨j, hj, hjv⟩ := List.getElem_of_mem h
        obtain ⟨x, hx, hxl⟩ := g3 (j : Int) (by
          simp only [nums, List.mem_map, List.mem_range]
          exact ⟨j, hj, rfl⟩)
        have := ht.2 x hx
        rw [← hjv]
        have : dg D ((j : Int)).toNat = D[j] := by simp [dg, List.getD_eq_getElem?_getD, hj]
        omega
    refine (sum_k q dc D (by omega) hDb2 w18 (hD.ext hx18)).mono fun v w19 ⟨e19, hv⟩ => ⟨e19, _, hv, i64 (by omega), i64 (by omega), i64 (by omega), fun _ => i64 (by omega), fun _ w21 h21 => ?_, fun hbad => ?_⟩
    · refine (sum_k q dc D (by omega) hDb2 w21 (hD.ext (hx4.trans h21))).mono fun v w22 ⟨e22, hv⟩ => ⟨e22, _, hv, fun w24 h24 => ⟨b_true (by simpa using hle), hx4.trans h24⟩⟩
    · have := g2 t ht.1
      omega
  · omega
end Go.Proofs.Ytmdnjnflmijofaa
