/- First fit; the greatest ones first; the law PackHalf. -/
import Derived.Test.YtmdnjnflmijofaaPLd
import Derived.Test.YtmdnjnflmijofaaPLf
import Derived.Test.YtmdnjnflmijofaaPLg
set_option linter.unusedVariables false
set_option linter.unusedSimpArgs false
namespace Go.Proofs.Ytmdnjnflmijofaa
open Go.Sx Go.RowKit

open Classical in
noncomputable def errP (s : Int) (L : List Int) : Int := if 100 < L.length then 2 else if ¬ (1 ≤ s ∧ s ≤ 1099511627776) then 1 else if ∀ x ∈ L, 1 ≤ x ∧ x ≤ s then 0 else 4
theorem errP_ok {s : Int} {L : List Int} : errP s L = 0 ↔ okP s L := by
  unfold errP okP
  by_cases h2 : 100 < L.length
  · rw [if_pos h2]; constructor <;> intro h' <;> omega
  · rw [if_neg h2]
    by_cases h1 : 1 ≤ s ∧ s ≤ 1099511627776
    · rw [if_neg (by simpa using h1)]
      by_cases h3 : ∀ x ∈ L, 1 ≤ x ∧ x ≤ s
      · rw [if_pos h3]; exact ⟨fun _ => ⟨by omega, h1, h3⟩, fun _ => rfl⟩
      · rw [if_neg h3]; exact ⟨fun h' => by omega, fun h' => absurd h'.2.2 h3⟩
    · rw [if_pos h1]; constructor <;> intro h' <;> omega

theorem pcheck2_k (s : Int) (q : Option Addr) (c : Nat) (L : List Int) (h64 : (L.length : Int) ≤ 9223372036854775807) (w : World) (hL : Ints .i64 w q L) : FnP Try.prog F_pack_Check #[.slice q L.length c, .int .i64 s] w fun v w' => Ext w w' ∧ v = .int .i64 (errP s L) := by
  refine ok_pack_Check q L.length c s w _ ⟨fun h w0 h0 => ⟨h0, by unfold errP; rw [if_pos (by omega)]⟩, fun h1 => ⟨fun h w0 h0 => ⟨h0, by unfold errP; rw [if_neg (by omega), if_pos (by omega)]⟩, fun h2 => ?_⟩⟩
  refine ⟨fun k w' => w' = w ∧ 0 ≤ k ∧ k ≤ L.length ∧ ∀ j : Nat, (j : Int) < k → 1 ≤ dg L j ∧ dg L j ≤ s, fun k _ => (L.length - k).toNat, ⟨rfl, by omega, by omega, fun j hj => by omega⟩, ?_⟩
  rintro k w ⟨rfl, hk0, hk1, hall⟩
  refine ⟨fun hlt => ?_, fun hge w3 h3 => ⟨h3, ?_⟩⟩
  · have g := Ints.idx hL hk0 hlt
    refine ⟨fun hq => cell_p g (pIdx_none.2 hq), hk0, hlt, _, g, fun hbad w4 h4 => ⟨h4, ?_⟩, fun hgd => ⟨i64 (by omega), ⟨rfl, by omega, by omega, fun j hj => ?_⟩, by simp only []; omega⟩⟩
    · unfold errP
      rw [if_neg (by omega), if_neg (by omega), if_neg (fun h => ?_)]
      have := h _ (getD_mem L 0 (i := k.toNat) (by omega)); omega
    · by_cases hjk : (j : Int) < k
      · exact hall j hjk
      · obtain rfl : j = k.toNat := by omega
        exact hgd
  · congr 1; symm
    rw [errP_ok]
    refine ⟨by omega, h2, fun x hx => ?_⟩
    obtain ⟨j, hj, rfl⟩ := List.getElem_of_mem hx
    have := hall j (by omega)
    simpa [dg, List.getD_eq_getElem?_getD, hj] using this

/-- One thing more, into the first box that has room for it. -/
structure FStep (s : Int) (L F on : List Int) (i : Nat) (F' on' : List Int) : Prop where
  ex : ∃ k, (∀ j, j < k → s < F.getD j 0 + dg L i) ∧ ((k < F.length ∧ F.getD k 0 + dg L i ≤ s ∧ F' = F.set k (F.getD k 0 + dg L i)) ∨ (k = F.length ∧ F' = F ++ [dg L i])) ∧ on' = on.set i k
inductive FF (s : Int) (L : List Int) : List Int → List Int → List Int → Prop
  | nil : FF s L [] [] (List.replicate L.length 0)
  | cons {row F on : List Int} {i : Nat} {F' on' : List Int} : FF s L row F on → i < L.length → FStep s L F on i F' on' → FF s L (row ++ [(i : Int)]) F' on'

theorem FF.len {s : Int} {L row F on : List Int} (h : FF s L row F on) : F.length ≤ row.length ∧ on.length = L.length := by
  induction h with
  | nil => simp
  | cons _ _ hs ih =>
    obtain ⟨k, _, h, rfl⟩ := hs.ex
    rcases h with ⟨_, _, rfl⟩ | ⟨_, rfl⟩ <;> simp <;> omega
theorem FF.ok {s : Int} {L : List Int} (hL : ∀ x ∈ L, 1 ≤ x ∧ x ≤ s) {row F on : List Int} (h : FF s L row F on) : (∀ x ∈ F, 1 ≤ x ∧ x ≤ s) ∧ sumL F = sumL (row.map fun i => dg L i.toNat) ∧ ∀ i j, i < j → j < F.length → s < F.getD i 0 + F.getD j 0 := by
  induction h with
  | nil => exact ⟨by simp, rfl, fun i j _ h => by simp at h⟩
  | @cons row F on i F' on' hr hi hs ih =>
    obtain ⟨i1, i2, i3⟩ := ih
    obtain ⟨k, hk, h, rfl⟩ := hs.ex
    have hd := hL _ (getD_mem L 0 hi)
    rcases h with ⟨hkl, hle, rfl⟩ | ⟨rfl, rfl⟩
    · have hfk := i1 _ (getD_mem F 0 hkl)
      refine ⟨fun x hx => ?_, ?_, fun a b hab hb => ?_⟩
      · rcases mem_set_cases hx with h | rfl
        · exact i1 x h
        · simp only [dg] at hle ⊢; omega
      · rw [sumL_set hkl, i2, List.map_append, sumL_append]; simp [sumL]; omega
      · rw [List.length_set] at hb
        have := i3 a b hab hb
        rw [getD_set _ _ _ _ _ hkl, getD_set _ _ _ _ _ hkl]
        have up : ∀ c, F.getD c 0 ≤ if c = k then F.getD k 0 + dg L i else F.getD c 0 := fun c => by
          by_cases h : c = k
          · rw [if_pos h, h]; simp only [dg]; omega
          · rw [if_neg h]; omega
        have := up a
        have := up b
        omega
    · refine ⟨fun x hx => ?_, ?_, fun a b hab hb => ?_⟩
      · rcases List.mem_append.1 hx with h | h
        · exact i1 x h
        · simp at h; subst h; exact hd
      · rw [sumL_append, i2, List.map_append, sumL_append]; simp [sumL]
      · simp only [List.length_append, List.length_cons, List.length_nil] at hb
        by_cases hbF : b < F.length
        · have := i3 a b hab hbF
          simpa [List.getD_eq_getElem?_getD, List.getElem?_append_left hbF, List.getElem?_append_left (show a < F.length by omega)] using this
        · obtain rfl : b = F.length := by omega
          have := hk a hab
          simpa [List.getD_eq_getElem?_getD, List.getElem?_append_left hab] using this

theorem first_k (s : Int) (q : Option Addr) (c : Nat) (L : List Int) (hok : okP s L) (r : Option Addr) (rc : Nat) (R : List Int) (hR : ∀ x ∈ R, 0 ≤ x ∧ x < L.length) (hRl : R.length ≤ 100) (w : World) (hLm : Ints .i64 w q L) (hRm : Ints .i64 w r R) :
    FnP Try.prog F_pack_first #[.slice q L.length c, .int .i64 s, .slice r R.length rc] w fun v w' => Ext w w' ∧ ∃ p oc F on, v = .tuple #[.slice p L.length oc, .int .i64 F.length] ∧ Own w.heap.size w' T_int 1 p L.length oc (on.map (.int .i64)) ∧ FF s L R F on := by
  obtain ⟨hl, hs, hLb⟩ := hok
  refine ok_pack_first q L.length c s r R.length rc w _ fun w0 h0 => ?_
  refine mk_ints elem_sl_int (by omega) (by omega) (by omega) fun w1 o1 e1 => ⟨e1, _, _, _, rfl, ?_⟩
  have hx1 := h0.trans e1
  have o1 := o1 w.heap.size h0.size
  simp only [Int.toNat_natCast] at o1 ⊢
  generalize (some ⟨w0.heap.size, 0, none⟩ : Option Addr) = t2 at o1 ⊢
  refine ⟨fun f n d k w' => Ext w w' ∧ 0 ≤ k ∧ k ≤ R.length ∧ ∃ F on, Own w.heap.size w' T_int64 1 f n d (F.map (.int .i64)) ∧ Own w.heap.size w' T_int 1 t2 L.length L.length (on.map (.int .i64)) ∧ Apart t2 f ∧ FF s L (R.take k.toNat) F on, fun _ _ _ k _ => (R.length - k).toNat, ⟨hx1, by omega, by omega, [], _, Own.nil, o1, Apart.nil, .nil⟩, ?_⟩
  rintro f n d k w8 ⟨hx, hk0, hk1, F, on, oF, oN, hap, hP⟩
  have hFn := oF.leni
  have hFl := hP.len
  refine ⟨fun hlt => ?_, fun hge w9 h9 => ⟨hx.trans h9, t2, _, F, on, by rw [hFn], oN.ext h9, ?_⟩⟩
  · have gR := Ints.idx (hRm.ext hx) hk0 hlt
    have hxm := hR _ (getD_mem R 0 (i := k.toNat) (by omega))
    generalize hxv : R.getD k.toNat 0 = x at *
    have gL := Ints.idx (hLm.ext hx) hxm.1 hxm.2
    have hLx := hLb _ (getD_mem L 0 (i := x.toNat) (by omega))
    have hq : q ≠ none := fun hq => cell_p gL (pIdx_none.2 hq)
    have hok := hP.ok hLb
    have hFk : F.length ≤ 100 := by have := hFl.1; rw [List.length_take] at this; omega
    have htake : R.take (k + 1).toNat = R.take k.toNat ++ [((x.toNat : Nat) : Int)] := by
      rw [show (k + 1).toNat = k.toNat + 1 by omega, List.take_add_one, getElem?_getD R 0 (by omega), hxv, Int.toNat_of_nonneg hxm.1]; rfl
    have ht2 : t2 ≠ none := oN.ne1 (by omega) (by omega)
    refine ⟨fun hq => cell_p gR (pIdx_none.2 hq), hk0, hlt, x, gR, fun j w' => w' = w8 ∧ 0 ≤ j ∧ j ≤ n ∧ ∀ a : Nat, (a : Int) < j → s < F.getD a 0 + dg L x.toNat, fun j _ => (n - j).toNat, ⟨rfl, by omega, by omega, fun a ha => by omega⟩, ?_⟩
    rintro j w12 ⟨rfl, hj0, hj1, hno⟩
    refine ⟨fun h => oF.ne1 (by omega) (by omega), fun _ => hj0, fun h => h, fun hlt2 => ?_, fun hge => ⟨fun _ => ?_, fun h => by omega⟩⟩
    · have gF := oF.int_at hj0 (by omega)
      have hF1 := hok.1 _ (getD_mem F 0 (i := j.toNat) (by omega))
      refine ⟨_, gF, hq, hxm.1, hxm.2, _, gL, i64 (by omega), fun hbig => ⟨i64 (by omega), ⟨rfl, by omega, by omega, fun a ha => ?_⟩, by simp only []; omega⟩, fun hfit => ⟨fun h => by omega, fun _ => ?_⟩⟩
      · by_cases haj : (a : Int) < j
        · exact hno a haj
        · obtain rfl : a = j.toNat := by omega
          exact hbig
      · have hf : f ≠ none := oF.ne1 (by omega) (by omega)
        refine ⟨hf, hj0, hlt2, _, gF, hq, hxm.1, hxm.2, _, gL, i64 (by omega), hf, hj0, hlt2, ?_⟩
        refine store_int oF hj0 (by omega) (by simp) fun w17 o17 g17 => ⟨ht2, hxm.1, hxm.2, ?_⟩
        refine store_int (oN.st hap g17) hxm.1 (by omega) (by simp) fun w18 o18 g18 => ⟨i64 (by omega), ⟨g18.ext (g17.ext hx oF) (oN.st hap g17), by omega, by omega, _, _, o17.st hap.symm g18, o18, hap, ?_⟩, by simp only []; omega⟩
        rw [htake]
        exact .cons hP (by omega) ⟨j.toNat, fun a ha => hno a (by omega), .inl ⟨by omega, hfit, rfl⟩, by rw [Int.toNat_of_nonneg hj0]⟩
    · obtain rfl : j = n := by omega
      refine push_int elem_sl_int64 oF hx.size (by omega) (by omega) fun p2 c2 w19 o19 g19 hp2 => ?_
      have hx19 := g19.ext hx oF
      have g0 := o19.int_at (i := (n : Int)) (by omega) (by simp; omega)
      have hap2 := hap.grew oN g19
      have gL2 := Ints.idx (hLm.ext hx19) hxm.1 hxm.2
      have hz : (F ++ [(0 : Int)]).getD ((n : Int).toNat) 0 = 0 := by
        rw [Int.toNat_natCast, ← hFn]; simp [List.getD_eq_getElem?_getD]
      rw [hz] at g0
      refine ⟨hp2, by omega, by omega, _, g0, hq, hxm.1, hxm.2, _, gL2, i64 (by omega), hp2, by omega, by omega, ?_⟩
      refine store_int o19 (by omega) (by simp; omega) (by simp) fun w27 o27 g27 => ⟨ht2, hxm.1, hxm.2, ?_⟩
      have oN27 := (oN.st hap g19).st hap2 g27
      refine store_int oN27 hxm.1 (by omega) (by simp) fun w28 o28 g28 => ⟨i64 (by omega), ⟨g28.ext (g27.ext hx19 o19) oN27, by omega, by omega, F ++ [dg L x.toNat], _, ?_, o28, hap2, ?_⟩, by simp only []; omega⟩
      · have := o27.st hap2.symm g28
        have e : (F ++ [(0 : Int)]).set (n : Int).toNat (0 + L.getD x.toNat 0) = F ++ [dg L x.toNat] := by
          rw [Int.toNat_natCast, ← hFn, List.set_append_right _ _ (Nat.le_refl _)]; simp [dg]
        rw [e] at this
        exact this
      · rw [htake]
        exact .cons hP (by omega) ⟨n, fun a ha => hno a (by omega), .inr ⟨hFn.symm, rfl⟩, rfl⟩
  · obtain rfl : k = R.length := by omega
    simpa using hP

theorem First_k (s : Int) (q : Option Addr) (c : Nat) (L : List Int) (h64 : (L.length : Int) ≤ 9223372036854775807) (w : World) (hL : Ints .i64 w q L) : FnP Try.prog F_pack_First #[.slice q L.length c, .int .i64 s] w fun v w' => Ext w w' ∧ ∃ p n oc t, v = .tuple #[.slice p n oc, .int .i64 t, .int .i64 (errP s L)] ∧ (¬ okP s L → n = 0 ∧ t = 0) ∧ (okP s L → n = L.length ∧ ∃ F on, t = F.length ∧ Own w.heap.size w' T_int 1 p L.length oc (on.map (.int .i64)) ∧ FF s L (nums L.length) F on) := by
  refine ok_pack_First q L.length c s w _ fun w0 h0 => ?_
  refine (pcheck2_k s q c L h64 w0 (hL.ext h0)).mono fun v w1 ⟨e1, hv⟩ => ⟨e1, _, hv, fun hne w3 h3 => ⟨h3, _, _, _, _, rfl, fun _ => ⟨rfl, rfl⟩, fun hok => absurd (errP_ok.2 hok) hne⟩, fun he w3 h3 => ?_⟩
  have hok := errP_ok.1 he
  have hl100 := hok.1
  refine (pnumbers_k L.length (by omega) w3).mono fun v w4 ⟨e4, r, rc, hv, oR⟩ => ⟨e4, r, _, rc, hv, fun w8 h8 => ?_⟩
  have hx8 := (h3.trans e4).trans h8
  have hrun := first_k s q c L hok r rc (nums L.length) (fun x hx => nums_mem hx) (by rw [nums_len]; omega) w8 (hL.ext hx8) (oR.ext h8).cells
  rw [nums_len] at hrun
  refine hrun.mono fun v w9 ⟨e9, p, oc, F, on, hv, oN, hP⟩ => ⟨e9, _, _, _, _, hv, fun w14 h14 => ⟨(hx8.trans e9).trans h14, _, _, _, _, by rw [he], fun hno => absurd hok hno, fun _ => ⟨rfl, F, on, rfl, (oN.weak hx8.size).ext h14, hP⟩⟩⟩

theorem down_cmps (B0 : World) (q : Option Addr) (c : Nat) (D : List Int) (hD : Ints .i64 B0 q D) (p1 : Option Addr) (hc : cell B0 p1 0 = some (.slice q D.length c)) : Cmps B0 (fun x => 0 ≤ x ∧ x < D.length) (fun x => dg D x.toNat) (.func (.func F_pack_Down_1) #[] #[.pointer p1]) := by
  intro x y w hx hSx hSy
  have gx := Ints.idx (hD.ext hx) hSx.1 hSx.2
  have gy := Ints.idx (hD.ext hx) hSy.1 hSy.2
  have hq : q ≠ none := fun hq => cell_p gx (pIdx_none.2 hq)
  refine ⟨F_pack_Down_1, #[.pointer p1], rfl, (ok_pack_Down_1 x y p1 w _ ⟨_, _, _, ext_cell hx hc, hq, hSy.1, hSy.2, _, gy, _, _, _, ext_cell hx hc, hq, hSx.1, hSx.2, _, gx, fun w8 h8 => ?_⟩ : FnP Try.prog F_pack_Down_1 #[.int .i64 x, .int .i64 y, .pointer p1] w _)⟩
  exact (compare_k _ _ w8).mono fun v w9 ⟨e9, t, hv, ht⟩ => ⟨e9, t, hv, fun w11 h11 => ⟨h11, t, rfl, ht⟩⟩

theorem Down_k (s : Int) (q : Option Addr) (c : Nat) (L : List Int) (h64 : (L.length : Int) ≤ 9223372036854775807) (w : World) (hL : Ints .i64 w q L) : FnP Try.prog F_pack_Down #[.slice q L.length c, .int .i64 s] w fun v w' => Ext w w' ∧ ∃ p n oc t, v = .tuple #[.slice p n oc, .int .i64 t, .int .i64 (errP s L)] ∧ (¬ okP s L → n = 0 ∧ t = 0) ∧ (okP s L → n = L.length ∧ ∃ row F on, t = F.length ∧ row.Perm (nums L.length) ∧ (L.length < 20 → Falls (fun x => dg L x.toNat) row 0 L.length) ∧ Own w.heap.size w' T_int 1 p L.length oc (on.map (.int .i64)) ∧ FF s L row F on) := by
  refine ok_pack_Down q L.length c s w _ fun w0 h0 => ?_
  refine new_one rfl fun p1 w1 e1 c1 hp1 hsz => ⟨_, _, _, c1, fun w5 h5 => ?_⟩
  have hx1 := h0.trans e1
  refine (pcheck2_k s q c L h64 w5 (hL.ext (hx1.trans h5))).mono fun v w6 ⟨e6, hv⟩ => ⟨e6, _, hv, fun hne w8 h8 => ⟨hx1.trans h8, _, _, _, _, rfl, fun _ => ⟨rfl, rfl⟩, fun hok => absurd (errP_ok.2 hok) hne⟩, fun he => ⟨_, _, _, c1, fun w11 h11 => ?_⟩⟩
  have hok := errP_ok.1 he
  have hl100 := hok.1
  refine (pnumbers_k L.length (by omega) w11).mono fun v w12 ⟨e12, r, rc, hv, oR⟩ => ⟨e12, r, _, rc, hv, fun w16 h16 => ?_⟩
  have hx16 := (h11.trans e12).trans h16
  have cm := down_cmps w1 q c L (hL.ext hx1) p1 c1
  refine (sort_k cm (nums L.length) (fun x hx => nums_mem hx) (by omega) w16 hx16 ((oR.weak h11.size).ext h16)).mono fun v w17 ⟨hv, Y, hY, hfl⟩ => ⟨hv, _, _, _, ext_cell hY.ext c1, fun w21 h21 => ?_⟩
  have hx21 := hx1.trans (hY.ext.trans h21)
  have hYl := hY.len
  have hrun := first_k s q c L hok r rc Y (fun x hx => nums_mem (hY.perm.mem_iff.1 hx)) (by omega) w21 (hL.ext hx21) (hY.own.ext h21).cells
  rw [hYl] at hrun
  refine hrun.mono fun v w22 ⟨e22, p, oc, F, on, hv, oN, hP⟩ => ⟨e22, _, _, _, _, hv, fun w27 h27 => ⟨(hx21.trans e22).trans h27, _, _, _, _, by rw [he], fun hno => absurd hok hno, fun _ => ⟨rfl, Y, F, on, rfl, hY.perm, hfl, (oN.weak hx21.size).ext h27, hP⟩⟩⟩

theorem half_sum {s : Int} (hs : 1 ≤ s) : ∀ (F : List Int), (∀ x ∈ F, 1 ≤ x) → (∀ i j, i < j → j < F.length → s < F.getD i 0 + F.getD j 0) → (F.length - 1) * s < 2 * sumL F
  | [], _, _ => by simp [sumL]; omega
  | [a], h, _ => by have := h a (by simp); simp [sumL]; omega
  | a :: b :: r, h, hp => by
    have h1 := hp 0 1 (by omega) (by simp)
    have h2 := half_sum hs r (fun x hx => h x (by simp [hx])) (fun i j hij hj => by
      have := hp (i + 2) (j + 2) (by omega) (by simp; omega)
      simpa using this)
    simp only [List.getD_cons_zero, List.getD_cons_succ] at h1
    simp only [sumL, List.length_cons, Int.natCast_add, Int.sub_mul, Int.add_mul] at h2 ⊢
    omega

theorem rowsum {L row : List Int} (h : row.Perm (nums L.length)) : sumL (row.map fun i => dg L i.toNat) = sumL L := by
  rw [sumL_perm (h.map _), sumL_nums, sumL_eq_sumN]; rfl

theorem core_PackHalf (W : World) : ∀ l : Option Addr, ∀ ll : Nat, ∀ lc : Nat, SlcArg Try.prog W T_int64 l ll lc → ∀ size : Int, InR .i64 size →
    FnP Try.prog F_shiftbellkeep_PackHalf #[.slice l ll lc, .int .i64 size] W fun v W' => v = .bool true ∧ Ext W W' := by
  intro q ll lc hl s hsr
  obtain ⟨L, rfl, _, hL⟩ := hl.ints (k := .i64) (by kernel_rfl) (by kernel_rfl)
  have h64 : (L.length : Int) ≤ 9223372036854775807 := by have := hl.le; have := hl.max; omega
  refine ok_shiftbellkeep_PackHalf q L.length lc s W _ fun w0 h0 => ?_
  refine (packs_k w0).mono fun v w1 ⟨e1, hv⟩ => ⟨e1, true, hv, fun h => by simp at h, fun _ w3 h3 => ?_⟩
  refine (First_k s q lc L h64 w3 (hL.ext h3)).mono fun v w4 ⟨e4, p, n, oc, t, hv, hb1, hg1⟩ => ⟨e4, p, n, oc, t, _, hv, fun w10 h10 => ?_⟩
  have hx10 := (h3.trans e4).trans h10
  refine (Down_k s q lc L h64 w10 (hL.ext hx10)).mono fun v w11 ⟨e11, p2, n2, oc2, t2, hv, hb2, hg2⟩ => ⟨e11, p2, n2, oc2, t2, _, hv, ?_, ?_⟩
  all_goals have hx11 := hx10.trans e11
  · intro hor w17 h17
    refine ⟨b_true ?_, hx11.trans h17⟩
    by_cases hok : okP s L
    · have hl0 : L.length = 0 := by
        rcases hor with h | h
        · exact absurd (errP_ok.2 hok) h
        · omega
      obtain ⟨_, F, on, rfl, _, hP⟩ := hg1 hok
      obtain ⟨_, row, F2, on2, rfl, hp, _, _, hP2⟩ := hg2 hok
      have h1 := hP.len.1
      have h2 := hP2.len.1
      rw [nums_len] at h1
      rw [hp.length_eq, nums_len] at h2
      rw [List.eq_nil_of_length_eq_zero (show F.length = 0 by omega), List.eq_nil_of_length_eq_zero (show F2.length = 0 by omega)]
      rfl
    · simp [(hb1 hok).2, (hb2 hok).2]
  · intro ⟨he, hl0⟩
    have hok := errP_ok.1 he
    obtain ⟨_, F, on, rfl, _, hP⟩ := hg1 hok
    obtain ⟨_, row, F2, on2, rfl, hp, _, _, hP2⟩ := hg2 hok
    have hok' := hok
    obtain ⟨hl100, hs, hLb⟩ := hok'
    have o1 := hP.ok hLb
    have o2 := hP2.ok hLb
    have l1 := hP.len.1
    have l2 := hP2.len.1
    rw [nums_len] at l1
    rw [hp.length_eq, nums_len] at l2
    have s1 := half_sum hs.1 F (fun x hx => (o1.1 x hx).1) o1.2.2
    have s2 := half_sum hs.1 F2 (fun x hx => (o2.1 x hx).1) o2.2.2
    rw [o1.2.1, rowsum (.refl _)] at s1
    rw [o2.2.1, rowsum hp] at s2
    have hup := sumL_le (X := F) (v := s) fun x hx => (o1.1 x hx).2
    rw [o1.2.1, rowsum (.refl _)] at hup
    have hsb := sumL_le (X := L) (v := s) fun x hx => (hLb x hx).2
    have hs0 := sumL_ge (X := L) (v := 0) fun x hx => by have := hLb x hx; omega
    have hsm : ∀ x : Nat, x ≤ 100 → 0 ≤ (x : Int) * s ∧ (x : Int) * s ≤ 100 * 1099511627776 := fun x hx => ⟨Int.mul_nonneg (by omega) (by omega), Int.mul_le_mul (by omega) (by omega) (by omega) (by omega)⟩
    have b1 := hsm F.length (by omega)
    have b2 := hsm F2.length (by omega)
    have b3 := hsm L.length (by omega)
    have hsum : ∀ w', Ext w11 w' → FnP Try.prog F_shiftbellkeep_sum #[.slice q L.length lc] w' fun v w'' => Ext w' w'' ∧ v = .int .i64 (sumL L) := fun w' hw' => sum_k q lc L (by omega) (fun x hx => by have := hLb x hx; omega) w' (hL.ext (hx11.trans hw'))
    rw [Int.sub_mul] at s1 s2
    refine ⟨fun _ w17 h17 => (hsum w17 h17).mono fun v w18 ⟨e18, hv⟩ => ⟨e18, _, hv, i64 (by omega), i64 (by omega), i64 (by rw [Int.sub_mul]; omega), fun _ w20 h20 => (hsum w20 h20).mono fun v w21 ⟨e21, hv⟩ => ⟨e21, _, hv, i64 (by omega), i64 (by omega), i64 (by rw [Int.sub_mul]; omega), fun _ => i64 (by omega), fun _ w23 h23 => (hsum w23 h23).mono fun v w24 ⟨e24, hv⟩ => ⟨e24, _, hv, fun w26 h26 => ⟨b_true (by simpa using hup), hx11.trans h26⟩⟩, fun hbad => ?_⟩, fun hbad => ?_⟩, fun hne => absurd he hne⟩
    · rw [Int.sub_mul] at hbad; omega
    · rw [Int.sub_mul] at hbad; omega
end Go.Proofs.Ytmdnjnflmijofaa
