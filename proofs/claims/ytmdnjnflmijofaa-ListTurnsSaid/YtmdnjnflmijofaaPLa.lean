/- Work for several hands: the run of jobs, its loads; the law ListGraham. -/
import Derived.Test.YtmdnjnflmijofaaGood
set_option linter.unusedVariables false
set_option linter.unusedSimpArgs false
namespace Go.Proofs.Ytmdnjnflmijofaa
open Go.Sx Go.RowKit

abbrev dg (D : List Int) (i : Nat) : Int := D.getD i 0
def okM (m : Int) (D : List Int) : Prop := 1 ≤ m ∧ m ≤ 20 ∧ D.length ≤ 60 ∧ ∀ x ∈ D, 0 ≤ x ∧ x ≤ 1000000000
open Classical in
noncomputable def errM (m : Int) (D : List Int) : Int := if ¬ (1 ≤ m ∧ m ≤ 20) then 1 else if 60 < D.length then 2 else if (∀ x ∈ D, 0 ≤ x ∧ x ≤ 1000000000) then 0 else 4
theorem errM_ok {m : Int} {D : List Int} : errM m D = 0 ↔ okM m D := by
  unfold errM okM
  by_cases h1 : 1 ≤ m ∧ m ≤ 20
  · rw [if_neg (by simpa using h1)]
    by_cases h2 : 60 < D.length
    · rw [if_pos h2]; constructor <;> intro h' <;> omega
    · rw [if_neg h2]
      by_cases h3 : ∀ x ∈ D, 0 ≤ x ∧ x ≤ 1000000000
      · rw [if_pos h3]; exact ⟨fun _ => ⟨h1.1, h1.2, by omega, h3⟩, fun _ => rfl⟩
      · rw [if_neg h3]; exact ⟨fun h' => by omega, fun h' => absurd h'.2.2.2 h3⟩
  · rw [if_pos h1]; constructor <;> intro h' <;> omega

theorem lcheck_k (m : Int) (q : Option Addr) (c : Nat) (D : List Int) (h64 : (D.length : Int) ≤ 9223372036854775807) (w : World) (hD : Ints .i64 w q D) : FnP Try.prog F_list_check #[.int .i64 m, .slice q D.length c] w fun v w' => Ext w w' ∧ v = .int .i64 (errM m D) := by
  refine ok_list_check m q D.length c w _ ⟨fun h w0 h0 => ⟨h0, ?_⟩, fun h1 => ⟨fun h w0 h0 => ⟨h0, ?_⟩, fun h2 => ?_⟩⟩
  · unfold errM; rw [if_pos (by omega)]
  · unfold errM; rw [if_neg (by omega), if_pos (by omega)]
  refine ⟨fun k w' => w' = w ∧ 0 ≤ k ∧ k ≤ D.length ∧ ∀ j : Nat, (j : Int) < k → 0 ≤ dg D j ∧ dg D j ≤ 1000000000, fun k _ => (D.length - k).toNat, ⟨rfl, by omega, by omega, fun j hj => by omega⟩, ?_⟩
  rintro k w ⟨rfl, hk0, hk1, hall⟩
  refine ⟨fun hlt => ?_, fun hge w3 h3 => ⟨h3, ?_⟩⟩
  · have g := Ints.idx hD hk0 hlt
    refine ⟨fun hq => cell_p g (pIdx_none.2 hq), hk0, hlt, _, g, fun hbad w4 h4 => ⟨h4, ?_⟩, fun hgd => ⟨i64 (by omega), ⟨rfl, by omega, by omega, fun j hj => ?_⟩, by simp only []; omega⟩⟩
    · unfold errM
      rw [if_neg (by omega), if_neg (by omega), if_neg (fun h => ?_)]
      have := h _ (getD_mem D 0 (i := k.toNat) (by omega)); omega
    · by_cases hjk : (j : Int) < k
      · exact hall j hjk
      · obtain rfl : j = k.toNat := by omega
        exact hgd
  · congr 1; symm
    rw [errM_ok]
    refine ⟨h1.1, h1.2, by omega, fun x hx => ?_⟩
    obtain ⟨j, hj, rfl⟩ := List.getElem_of_mem hx
    have := hall j (by omega)
    simpa [dg, List.getD_eq_getElem?_getD, hj] using this

def IsMax (X : List Int) (v : Int) : Prop := v ∈ X ∧ ∀ x ∈ X, x ≤ v
def IsMin (X : List Int) (v : Int) : Prop := v ∈ X ∧ ∀ x ∈ X, v ≤ x
theorem IsMax.same {X : List Int} {u v : Int} (h : IsMax X u) (k : IsMax X v) : u = v := by
  have := h.2 v k.1; have := k.2 u h.1; omega

theorem Max_k (q : Option Addr) (c : Nat) (X : List Int) (h0 : 0 < X.length) (h64 : (X.length : Int) ≤ 9223372036854775807) (w : World) (h : Ints .i64 w q X) : FnP Try.prog F_slices_Max_int64_int64 #[.slice q X.length c] w fun v w' => Ext w w' ∧ ∃ t, v = .int .i64 t ∧ IsMax X t := by
  refine ok_slices_Max_int64_int64 q X.length c w _ ⟨fun h => by omega, fun _ => ?_⟩
  have g0 := Ints.idx h (i := 0) (by omega) (by omega)
  have hq : q ≠ none := fun hq => cell_p g0 (pIdx_none.2 hq)
  refine ⟨hq, by omega, by omega, _, g0, fun v k w' => w' = w ∧ 1 ≤ k ∧ k ≤ X.length ∧ v ∈ X ∧ ∀ j : Nat, (j : Int) < k → X.getD j 0 ≤ v, fun _ k _ => (X.length - k).toNat, ⟨rfl, by omega, by omega, getD_mem X 0 h0, fun j hj => by have h0 : j = 0 := (by omega); subst h0; exact Int.le_refl _⟩, ?_⟩
  rintro v k w ⟨rfl, hk0, hk1, hv, hall⟩
  refine ⟨fun hlt => ?_, fun hge w5 h5 => ⟨h5, v, rfl, hv, fun x hx => ?_⟩⟩
  · have g := Ints.idx h (i := k) (by omega) hlt
    have hm := getD_mem X 0 (i := k.toNat) (by omega)
    refine ⟨hq, by omega, hlt, _, g, i64 (by omega), ⟨rfl, by omega, by omega, ?_, fun j hj => ?_⟩, by simp only []; omega⟩
    · rcases Int.le_total v (X.getD k.toNat 0) with h | h
      · rw [Int.max_eq_right h]; exact hm
      · rw [Int.max_eq_left h]; exact hv
    · by_cases hjk : (j : Int) < k
      · have := hall j hjk; omega
      · obtain rfl : j = k.toNat := by omega
        omega
  · obtain ⟨j, hj, rfl⟩ := List.getElem_of_mem hx
    have := hall j (by omega)
    simpa [List.getD_eq_getElem?_getD, hj] using this

theorem Min_k (q : Option Addr) (c : Nat) (X : List Int) (h0 : 0 < X.length) (h64 : (X.length : Int) ≤ 9223372036854775807) (w : World) (h : Ints .i64 w q X) : FnP Try.prog F_slices_Min_int64_int64 #[.slice q X.length c] w fun v w' => Ext w w' ∧ ∃ t, v = .int .i64 t ∧ IsMin X t := by
  refine ok_slices_Min_int64_int64 q X.length c w _ ⟨fun h => by omega, fun _ => ?_⟩
  have g0 := Ints.idx h (i := 0) (by omega) (by omega)
  have hq : q ≠ none := fun hq => cell_p g0 (pIdx_none.2 hq)
  refine ⟨hq, by omega, by omega, _, g0, fun v k w' => w' = w ∧ 1 ≤ k ∧ k ≤ X.length ∧ v ∈ X ∧ ∀ j : Nat, (j : Int) < k → v ≤ X.getD j 0, fun _ k _ => (X.length - k).toNat, ⟨rfl, by omega, by omega, getD_mem X 0 h0, fun j hj => by have h0 : j = 0 := (by omega); subst h0; exact Int.le_refl _⟩, ?_⟩
  rintro v k w ⟨rfl, hk0, hk1, hv, hall⟩
  refine ⟨fun hlt => ?_, fun hge w5 h5 => ⟨h5, v, rfl, hv, fun x hx => ?_⟩⟩
  · have g := Ints.idx h (i := k) (by omega) hlt
    have hm := getD_mem X 0 (i := k.toNat) (by omega)
    refine ⟨hq, by omega, hlt, _, g, i64 (by omega), ⟨rfl, by omega, by omega, ?_, fun j hj => ?_⟩, by simp only []; omega⟩
    · rcases Int.le_total v (X.getD k.toNat 0) with h | h
      · rw [Int.min_eq_left h]; exact hv
      · rw [Int.min_eq_right h]; exact hm
    · by_cases hjk : (j : Int) < k
      · have := hall j hjk; omega
      · obtain rfl : j = k.toNat := by omega
        omega
  · obtain ⟨j, hj, rfl⟩ := List.getElem_of_mem hx
    have := hall j (by omega)
    simpa [List.getD_eq_getElem?_getD, hj] using this

/-- The first place of a value. -/
def At (X : List Int) (x : Int) (k : Nat) : Prop := k < X.length ∧ X.getD k 0 = x ∧ ∀ j, j < k → X.getD j 0 ≠ x
theorem Index64_k (p : Option Addr) (c : Nat) (X : List Int) (h63 : (X.length : Int) ≤ 9223372036854775807) (x : Int) (w : World) (h : Ints .i64 w p X) :
    FnP Try.prog F_slices_Index_int64_int64 #[.slice p X.length c, .int .i64 x] w fun v w' => Ext w w' ∧ ((x ∉ X ∧ v = .int .i64 (-1)) ∨ ∃ k : Nat, v = .int .i64 k ∧ At X x k) := by
  refine ok_slices_Index_int64_int64 p X.length c x w _ ?_
  refine ⟨fun k w' => w' = w ∧ 0 ≤ k ∧ k ≤ X.length ∧ ∀ j : Nat, (j : Int) < k → X.getD j 0 ≠ x, fun k _ => (X.length - k).toNat, ⟨rfl, by omega, by omega, fun j hj => by omega⟩, ?_⟩
  rintro k w ⟨rfl, hk0, hk1, hno⟩
  refine ⟨fun hlt => ?_, fun hge w4 h4 => ⟨h4, .inl ⟨fun hx => ?_, rfl⟩⟩⟩
  · have hget := Ints.idx h hk0 hlt
    refine ⟨fun hq => cell_p hget (pIdx_none.2 hq), hk0, hlt, _, hget, fun hyes w9 h9 => ⟨h9, .inr ⟨k.toNat, by rw [Int.toNat_of_nonneg hk0], by omega, hyes.symm, fun j hj => hno j (by omega)⟩⟩, fun hn => ⟨i64 (by omega), ⟨rfl, by omega, by omega, fun j hj => ?_⟩, by simp only []; omega⟩⟩
    by_cases hjk : (j : Int) < k
    · exact hno j hjk
    · obtain rfl : j = k.toNat := by omega
      exact fun h => hn h.symm
  · obtain ⟨j, hj, rfl⟩ := List.getElem_of_mem hx
    exact absurd (by simp [List.getD_eq_getElem?_getD, hj]) (hno j (by omega))

def nums (n : Nat) : List Int := (List.range n).map Int.ofNat
theorem nums_succ (n : Nat) : nums (n + 1) = nums n ++ [(n : Int)] := by simp [nums, List.range_succ]
theorem nums_len (n : Nat) : (nums n).length = n := by simp [nums]
theorem nums_at {n i : Nat} (h : i < n) : (nums n).getD i 0 = i := by simp [nums, List.getD_eq_getElem?_getD, h]
theorem lnumbers_k (n : Nat) (hn : n ≤ 100000) (w : World) : FnP Try.prog F_list_numbers #[.int .i64 n] w fun v w' => Ext w w' ∧ ∃ q c, v = .slice q n c ∧ Own w.heap.size w' T_int 1 q n c ((nums n).map (.int .i64)) := by
  refine ok_list_numbers n w _ ⟨fun q m c k w' => Ext w w' ∧ 0 ≤ k ∧ k ≤ n ∧ (m : Int) = k ∧ Own w.heap.size w' T_int 1 q m c ((nums k.toNat).map (.int .i64)), fun _ _ _ k _ => (n - k).toNat, ⟨Ext.refl _, by omega, by omega, by omega, Own.nil⟩, ?_⟩
  rintro q m c k w3 ⟨hw, hk0, hk1, hm, o⟩
  refine ⟨fun hlt => ?_, fun hge w4 h4 => ⟨hw.trans h4, q, c, ?_, ?_⟩⟩
  · refine push_int elem_sl_int o hw.size (by omega) (by omega) fun p' c' w' o' g hne => ⟨i64 (by omega), ⟨g.ext hw o, by omega, by omega, by omega, ?_⟩, by simp only []; omega⟩
    rw [show (k + 1).toNat = k.toNat + 1 by omega, nums_succ]
    rwa [Int.toNat_of_nonneg hk0]
  · rw [show m = n by omega]
  · obtain rfl : m = n := by omega
    rw [show k.toNat = m by omega] at o
    exact o.ext h4

/-- One job more: to the first of the hands that have the least to do. -/
structure PutOne (D load on : List Int) (i : Nat) (load' on' : List Int) : Prop where
  ex : ∃ k v, IsMin load v ∧ At load v k ∧ load' = load.set k (v + dg D i) ∧ on' = on.set i k
/-- Jobs of a row, one behind the other. -/
inductive Puts (D : List Int) (m : Nat) : List Int → List Int → List Int → Prop
  | nil : Puts D m [] (List.replicate m 0) (List.replicate D.length 0)
  | cons {row load on : List Int} {i : Nat} {load' on' : List Int} : Puts D m row load on → i < D.length → PutOne D load on i load' on' → Puts D m (row ++ [(i : Int)]) load' on'

theorem Puts.len {D : List Int} {m : Nat} {row load on : List Int} (h : Puts D m row load on) : load.length = m ∧ on.length = D.length := by
  induction h with
  | nil => simp
  | cons _ _ hp ih => obtain ⟨k, v, _, _, rfl, rfl⟩ := hp.ex; simpa using ih
theorem mem_set_cases {X : List Int} {k : Nat} {v x : Int} (h : x ∈ X.set k v) : x ∈ X ∨ x = v := List.mem_or_eq_of_mem_set h
theorem Puts.bounds {D : List Int} {m : Nat} (hD : ∀ x ∈ D, 0 ≤ x ∧ x ≤ 1000000000) {row load on : List Int} (h : Puts D m row load on) : (∀ x ∈ load, 0 ≤ x ∧ x ≤ row.length * 1000000000) ∧ (0 < m → ∀ x ∈ on, 0 ≤ x ∧ x < m) := by
  induction h with
  | nil => exact ⟨fun x hx => by have := List.eq_of_mem_replicate hx; subst this; simp, fun hm x hx => by have := List.eq_of_mem_replicate hx; subst this; omega⟩
  | @cons row load on i load' on' hr hi hp ih =>
    obtain ⟨k, v, hv, hk, rfl, rfl⟩ := hp.ex
    have hl := hr.len.1
    have hd := hD _ (getD_mem D 0 hi)
    refine ⟨fun x hx => ?_, fun hm x hx => ?_⟩
    · simp only [List.length_append, List.length_cons, List.length_nil]
      rcases mem_set_cases hx with h | rfl
      · have := ih.1 x h; omega
      · have := ih.1 v hv.1; simp only [dg]; omega
    · rcases mem_set_cases hx with h | rfl
      · exact ih.2 hm x h
      · have := hk.1; omega

theorem Puts.nonneg {D : List Int} {m : Nat} (hD : ∀ x ∈ D, 0 ≤ x) {row load on : List Int} (h : Puts D m row load on) : ∀ x ∈ load, 0 ≤ x := by
  induction h with
  | nil => exact fun x hx => by have := List.eq_of_mem_replicate hx; omega
  | @cons row load on i load' on' hr hi hp ih =>
    obtain ⟨k, v, hv, hk, rfl, rfl⟩ := hp.ex
    have hd := hD _ (getD_mem D 0 hi)
    intro x hx
    rcases mem_set_cases hx with h | rfl
    · exact ih x h
    · have := ih v hv.1; simp only [dg]; omega

theorem run_k (m : Nat) (hm : 1 ≤ m ∧ m ≤ 20) (q : Option Addr) (c : Nat) (D : List Int) (hl : D.length ≤ 60) (hD : ∀ x ∈ D, 0 ≤ x ∧ x ≤ 1000000000) (r : Option Addr) (rc : Nat) (R : List Int) (hR : ∀ x ∈ R, 0 ≤ x ∧ x < D.length) (hRl : R.length ≤ 60) (w : World) (hDm : Ints .i64 w q D) (hRm : Ints .i64 w r R) :
    FnP Try.prog F_list_run #[.int .i64 m, .slice q D.length c, .slice r R.length rc] w fun v w' => Ext w w' ∧ ∃ p oc t load on, v = .tuple #[.slice p D.length oc, .int .i64 t] ∧ Own w.heap.size w' T_int 1 p D.length oc (on.map (.int .i64)) ∧ Puts D m R load on ∧ IsMax load t := by
  refine ok_list_run m q D.length c r R.length rc w _ ?_
  intro w0 h0
  refine mk_ints elem_sl_int64 (by omega) (by omega) (by omega) fun w1 o1 e1 => ⟨e1, _, _, _, rfl, fun w5 h5 => ?_⟩
  have o1 := ((o1 w.heap.size h0.size).ext h5)
  simp only [Int.toNat_natCast] at o1 ⊢
  have hlt1 : w0.heap.size < w5.heap.size := o1.size_lt
  refine mk_ints elem_sl_int (by omega) (by omega) (by omega) fun w6 o6 e6 => ⟨e6, _, _, _, rfl, ?_⟩
  have o6 := o6 w.heap.size (by have := h0.size; have := e1.size; have := h5.size; omega)
  have o1 := o1.ext e6
  simp only [Int.toNat_natCast] at o6 ⊢
  have hap : Apart (some (⟨w0.heap.size, 0, none⟩ : Addr)) (some ⟨w5.heap.size, 0, none⟩) := apart_fresh hlt1
  have hx6 := ((h0.trans e1).trans h5).trans e6
  have hn1 : (some (⟨w0.heap.size, 0, none⟩ : Addr)) ≠ none := by simp
  have hn2 : (some (⟨w5.heap.size, 0, none⟩ : Addr)) ≠ none := by simp
  revert o1 o6 hap hn1 hn2
  generalize (some (⟨w0.heap.size, 0, none⟩ : Addr)) = p1
  generalize (some (⟨w5.heap.size, 0, none⟩ : Addr)) = p2
  intro o6 o1 hap hn1 hn2
  refine ⟨fun k w' => ∃ load on : List Int, Ext w w' ∧ 0 ≤ k ∧ k ≤ R.length ∧ Own w.heap.size w' T_int64 1 p1 m m (load.map (.int .i64)) ∧ Own w.heap.size w' T_int 1 p2 D.length D.length (on.map (.int .i64)) ∧ Puts D m (R.take k.toNat) load on, fun k _ => (R.length - k).toNat,
    ⟨_, _, hx6, by omega, by omega, o1, o6, Puts.nil⟩, ?_⟩
  rintro k w12 ⟨load, on, hw, hk0, hk1, oL, oN, hP⟩
  have hb := hP.bounds hD
  obtain ⟨lenL, lenN⟩ := hP.len
  rw [List.length_take] at hb
  subst lenL
  refine ⟨fun hlt => ?_, fun hge w13 h13 => ?_⟩
  · have gR := Ints.idx (hRm.ext hw) hk0 hlt
    obtain ⟨x0, x1⟩ := hR _ (getD_mem R 0 (i := k.toNat) (by omega))
    generalize hxv : R.getD k.toNat 0 = x at gR x0 x1
    refine ⟨fun hq => cell_p gR (pIdx_none.2 hq), hk0, hlt, x, gR, fun w14 h14 => ?_⟩
    refine (Min_k p1 load.length load (by omega) (by omega) w14 (oL.ext h14).cells).mono fun v w15 ⟨e15, t, hv, ht⟩ => ⟨e15, t, hv, fun w17 h17 => ?_⟩
    refine (Index64_k p1 load.length load (by omega) t w17 (oL.ext h17).cells).mono fun v w18 ⟨e18, hcase⟩ => ⟨e18, ?_⟩
    rcases hcase with ⟨hno, _⟩ | ⟨j, hv, hj⟩
    · exact absurd ht.1 hno
    refine ⟨(j : Int), hv, hn2, x0, x1, ?_⟩
    refine store_int oN x0 (by omega) (by simp) fun w20 oN' g20 => ?_
    have oL' := oL.grew (B' := w.heap.size) hap g20
    have hx20 := g20.ext hw oN
    have gL := oL'.int_at (i := (j : Int)) (by omega) (by have := hj.1; omega)
    have gD := Ints.idx (hDm.ext hx20) x0 x1
    have hjl := hj.1
    have hbt := hb.1 t ht.1
    have hdx := hD _ (getD_mem D 0 (i := x.toNat) (by omega))
    have htv : load.getD j 0 = t := hj.2.1
    simp only [Int.toNat_natCast, htv] at gL
    refine ⟨hn1, by omega, by omega, _, gL, fun hq => cell_p gD (pIdx_none.2 hq), x0, x1, _, gD, i64 (by omega), hn1, by omega, by omega, ?_⟩
    refine store_int oL' (by omega) (by omega) (by simp) fun w23 oL2 g23 => ⟨i64 (by omega), ⟨_, _, g23.ext hx20 oL', by omega, by omega, oL2, oN'.grew (B' := w.heap.size) hap.symm g23, ?_⟩, by simp only []; omega⟩
    rw [show (k + 1).toNat = k.toNat + 1 by omega, List.take_add_one, getElem?_getD R 0 (by omega), hxv]
    have := Puts.cons hP (i := x.toNat) (by omega) ⟨j, t, ht, hj, rfl, rfl⟩
    simpa [Int.toNat_of_nonneg x0, dg] using this
  · obtain rfl : k = R.length := by omega
    refine (Max_k p1 load.length load (by omega) (by omega) w13 (oL.ext h13).cells).mono fun v w14 ⟨e14, t, hv, ht⟩ => ⟨e14, t, hv, fun w16 h16 => ⟨hw.trans h16, p2, _, t, load, on, rfl, oN.ext h16, by simpa using hP, ht⟩⟩

/-- What each hand has to do. -/
def loadOf (D on : List Int) (n : Nat) (k : Nat) : Int := sumN n fun i => if on.getD i 0 = k then dg D i else 0
def spans (m : Nat) (D on : List Int) : List Int := (List.range m).map fun k => loadOf D on D.length k
theorem spans_len (m : Nat) (D on : List Int) : (spans m D on).length = m := by simp [spans]
theorem spans_at {m : Nat} {D on : List Int} {k : Nat} (h : k < m) : (spans m D on).getD k 0 = loadOf D on D.length k := by simp [spans, List.getD_eq_getElem?_getD, h]
def okOn (m : Int) (D on : List Int) : Prop := on.length = D.length ∧ ∀ x ∈ on, 0 ≤ x ∧ x < m

theorem ext_getD {X Y : List Int} (hl : X.length = Y.length) (h : ∀ i, i < X.length → X.getD i 0 = Y.getD i 0) : X = Y := by
  apply List.ext_getElem hl
  intro i h1 h2
  have := h i h1
  simpa [List.getD_eq_getElem?_getD, h1, h2] using this

theorem loadOf_bounds {D on : List Int} (hD : ∀ x ∈ D, 0 ≤ x ∧ x ≤ 1000000000) (k : Nat) : ∀ n, n ≤ D.length → 0 ≤ loadOf D on n k ∧ loadOf D on n k ≤ n * 1000000000 := by
  intro n
  induction n with
  | zero => intro _; simp [loadOf, sumN]
  | succ n ih =>
    intro hn
    have := ih (by omega)
    have hd := hD _ (getD_mem D 0 (i := n) (by omega))
    have hst : loadOf D on (n + 1) k = loadOf D on n k + if on.getD n 0 = k then dg D n else 0 := rfl
    rw [hst]
    simp only [dg]
    split <;> omega

theorem Span_k (m : Int) (q : Option Addr) (c : Nat) (D : List Int) (h64 : (D.length : Int) ≤ 9223372036854775807) (r : Option Addr) (rc : Nat) (on : List Int) (h65 : (on.length : Int) ≤ 9223372036854775807) (w : World) (hDm : Ints .i64 w q D) (hNm : Ints .i64 w r on) :
    FnP Try.prog F_list_Span #[.int .i64 m, .slice q D.length c, .slice r on.length rc] w fun v w' => Ext w w' ∧ ∃ t e, v = .tuple #[.int .i64 t, .int .i64 e] ∧ (¬ okM m D → e = errM m D ∧ t = 0) ∧ (okM m D → ¬ okOn m D on → e = 1 ∧ t = 0) ∧ (okM m D → okOn m D on → e = 0 ∧ IsMax (spans m.toNat D on) t) := by
  refine ok_list_Span m q D.length c r on.length rc w _ ?_
  intro w0 h0
  refine (lcheck_k m q c D h64 w0 (hDm.ext h0)).mono fun v w1 ⟨e1, hv⟩ => ⟨e1, _, hv, fun hne w3 h3 => ⟨h3, _, _, rfl, fun _ => ⟨rfl, rfl⟩, fun hok => absurd (errM_ok.2 hok) hne, fun hok => absurd (errM_ok.2 hok) hne⟩, fun he => ?_⟩
  have hok := errM_ok.1 he
  have hok' := hok
  obtain ⟨m0, m1, dl, hD⟩ := hok'
  obtain ⟨M, rfl⟩ : ∃ M : Nat, m = M := ⟨m.toNat, by omega⟩
  simp only [Int.toNat_natCast]
  refine ⟨fun hne w3 h3 => ⟨h3, _, _, rfl, fun hno => absurd hok hno, fun _ _ => ⟨rfl, rfl⟩, fun _ h => absurd h.1 (by omega)⟩, fun heq w3 h3 => ?_⟩
  refine mk_ints elem_sl_int64 (by omega) (by omega) (by omega) fun w4 o4 e4 => ⟨e4, _, _, _, rfl, ?_⟩
  have o4 := o4 w.heap.size h3.size
  have hn1 : (some (⟨w3.heap.size, 0, none⟩ : Addr)) ≠ none := by simp
  simp only [Int.toNat_natCast] at o4 ⊢
  revert o4 hn1
  generalize (some (⟨w3.heap.size, 0, none⟩ : Addr)) = p1
  intro o4 hn1
  have hx4 := h3.trans e4
  refine ⟨fun k w' => ∃ Y : List Int, Ext w w' ∧ 0 ≤ k ∧ k ≤ on.length ∧ Own w.heap.size w' T_int64 1 p1 M M (Y.map (.int .i64)) ∧ (∀ j : Nat, j < M → Y.getD j 0 = loadOf D on k.toNat j) ∧ ∀ i : Nat, (i : Int) < k → 0 ≤ on.getD i 0 ∧ on.getD i 0 < M, fun k _ => (on.length - k).toNat,
    ⟨_, hx4, by omega, by omega, o4, fun j hj => by rw [getD_replicate' _ _ _ hj]; rfl, fun i hi => by omega⟩, ?_⟩
  rintro k w10 ⟨Y, hw, hk0, hk1, oY, hY, hon⟩
  have lenY := oY.leni
  subst lenY
  refine ⟨fun hlt => ?_, fun hge w11 h11 => ?_⟩
  · have gN := Ints.idx (hNm.ext hw) hk0 hlt
    have hm := getD_mem on 0 (i := k.toNat) (by omega)
    generalize hxv : on.getD k.toNat 0 = x at gN hm
    refine ⟨fun hq => cell_p gN (pIdx_none.2 hq), hk0, hlt, x, gN, fun hbad w12 h12 => ⟨hw.trans h12, _, _, rfl, fun hno => absurd hok hno, fun _ _ => ⟨rfl, rfl⟩, fun _ h => ?_⟩, fun hgd => ?_⟩
    · have := h.2 x hm; omega
    · have gY := oY.int_at (i := x) (by omega) (by omega)
      have gD := Ints.idx (hDm.ext hw) hk0 (show k < D.length by omega)
      rw [hY x.toNat (by omega)] at gY
      have hb := loadOf_bounds (on := on) hD x.toNat k.toNat (by omega)
      have hdk := hD _ (getD_mem D 0 (i := k.toNat) (by omega))
      refine ⟨hn1, by omega, by omega, _, gY, fun hq => cell_p gD (pIdx_none.2 hq), hk0, by omega, _, gD, i64 (by omega), hn1, by omega, by omega, ?_⟩
      refine store_int oY (by omega) (by omega) (by simp) fun w14 oY' g14 => ⟨i64 (by omega), ⟨_, g14.ext hw oY, by omega, by omega, oY', fun j hj => ?_, fun i hi => ?_⟩, by simp only []; omega⟩
      · rw [getD_set _ _ _ _ _ (by omega), show (k + 1).toNat = k.toNat + 1 by omega]
        have hst : loadOf D on (k.toNat + 1) j = loadOf D on k.toNat j + if on.getD k.toNat 0 = j then dg D k.toNat else 0 := rfl
        rw [hst, hxv]
        by_cases hjx : j = x.toNat
        · rw [if_pos hjx, if_pos (by omega), hjx]
        · rw [if_neg hjx, if_neg (by omega), hY j hj]; omega
      · by_cases hik : (i : Int) < k
        · exact hon i hik
        · obtain rfl : i = k.toNat := by omega
          rw [hxv]; exact hgd
  · obtain rfl : k = on.length := by omega
    have hYs : Y = spans Y.length D on := ext_getD (by rw [spans_len]) fun j hj => by
      rw [spans_at hj, hY j hj]; congr 1; omega
    refine (Max_k p1 Y.length Y (by omega) (by omega) w11 (oY.ext h11).cells).mono fun v w12 ⟨e12, t, hv, ht⟩ => ⟨e12, t, hv, fun w14 h14 => ⟨hw.trans h14, t, 0, rfl, fun hno => absurd hok hno, fun _ hno => absurd ⟨by omega, fun x hx => ?_⟩ hno, fun _ _ => ⟨rfl, by rwa [← hYs]⟩⟩⟩
    obtain ⟨j, hj, rfl⟩ := List.getElem_of_mem hx
    have := hon j (by omega)
    simpa [List.getD_eq_getElem?_getD, hj] using this

theorem lRun_k (m : Int) (q : Option Addr) (c : Nat) (D : List Int) (h64 : (D.length : Int) ≤ 9223372036854775807) (w : World) (hDm : Ints .i64 w q D) :
    FnP Try.prog F_list_Run #[.int .i64 m, .slice q D.length c] w fun v w' => Ext w w' ∧ ∃ p n oc t, v = .tuple #[.slice p n oc, .int .i64 t, .int .i64 (errM m D)] ∧ (¬ okM m D → n = 0 ∧ t = 0) ∧ (okM m D → n = D.length ∧ ∃ load on, Own w.heap.size w' T_int 1 p D.length oc (on.map (.int .i64)) ∧ Puts D m.toNat (nums D.length) load on ∧ IsMax load t) := by
  refine ok_list_Run m q D.length c w _ ?_
  intro w0 h0
  refine (lcheck_k m q c D h64 w0 (hDm.ext h0)).mono fun v w1 ⟨e1, hv⟩ => ⟨e1, _, hv, fun hne w3 h3 => ⟨h3, _, _, _, _, rfl, fun _ => ⟨rfl, rfl⟩, fun hok => absurd (errM_ok.2 hok) hne⟩, fun he w3 h3 => ?_⟩
  have hok := errM_ok.1 he
  have hok' := hok
  obtain ⟨m0, m1, dl, hD⟩ := hok'
  obtain ⟨M, rfl⟩ : ∃ M : Nat, m = M := ⟨m.toNat, by omega⟩
  refine (lnumbers_k D.length (by omega) w3).mono fun v w4 ⟨e4, r, rc, hv, oR⟩ => ⟨e4, r, _, rc, hv, fun w8 h8 => ?_⟩
  have hx8 := (h3.trans e4).trans h8
  have hrun := run_k M (by omega) q c D dl hD r rc (nums D.length) (fun x hx => by
    simp only [nums, List.mem_map, List.mem_range] at hx
    obtain ⟨a, ha, rfl⟩ := hx
    simp; omega) (by rw [nums_len]; omega) w8 (hDm.ext hx8) (oR.ext h8).cells
  rw [nums_len] at hrun
  refine hrun.mono fun v w9 ⟨e9, p, oc, t, load, on, hv, oN, hP, ht⟩ => ⟨e9, _, _, _, _, hv, fun w14 h14 => ⟨(hx8.trans e9).trans h14, _, _, _, _, by rw [he], fun hno => absurd hok hno, fun _ => ⟨rfl, load, on, (oN.weak hx8.size).ext h14, hP, ht⟩⟩⟩

theorem sum_k (q : Option Addr) (c : Nat) (D : List Int) (hl : D.length ≤ 1000) (hD : ∀ x ∈ D, 0 ≤ x ∧ x ≤ 1099511627776) (w : World) (h : Ints .i64 w q D) : FnP Try.prog F_shiftbellkeep_sum #[.slice q D.length c] w fun v w' => Ext w w' ∧ v = .int .i64 (sumL D) := by
  refine ok_shiftbellkeep_sum q D.length c w _ ⟨fun n k w' => w' = w ∧ 0 ≤ k ∧ k ≤ D.length ∧ n = sumL (D.take k.toNat), fun _ k _ => (D.length - k).toNat, ⟨rfl, by omega, by omega, by simp [sumL]⟩, ?_⟩
  rintro n k w ⟨rfl, hk0, hk1, rfl⟩
  refine ⟨fun hlt => ?_, fun hge w4 h4 => ⟨h4, ?_⟩⟩
  · have g := Ints.idx h hk0 hlt
    have hb := sumL_take_bounds hD (by omega) k.toNat
    have hm := hD _ (getD_mem D 0 (i := k.toNat) (by omega))
    refine ⟨fun hq => cell_p g (pIdx_none.2 hq), hk0, hlt, _, g, i64 (by omega), i64 (by omega), ⟨rfl, by omega, by omega, ?_⟩, by simp only []; omega⟩
    rw [show (k + 1).toNat = k.toNat + 1 by omega, sumL_take_succ _ (by omega)]
  · rw [List.take_of_length_le (by omega)]

/-! ### GRAHAM -/

theorem sumL_set {X : List Int} {k : Nat} (h : k < X.length) (v : Int) : sumL (X.set k v) = sumL X - X.getD k 0 + v := by
  induction X generalizing k with
  | nil => simp at h
  | cons a r ih =>
    cases k with
    | zero => simp [sumL]; omega
    | succ k =>
      have := ih (k := k) (by simpa using h)
      simp only [List.set_cons_succ, sumL, this, List.getD_cons_succ]; omega
theorem sumL_ge {X : List Int} {v : Int} (h : ∀ x ∈ X, v ≤ x) : X.length * v ≤ sumL X := by
  induction X with
  | nil => simp [sumL]
  | cons a r ih =>
    have h1 := h a (by simp)
    have h2 := ih fun x hx => h x (by simp [hx])
    simp only [List.length_cons, sumL, Int.natCast_add, Int.add_mul]; omega
theorem sumL_le {X : List Int} {v : Int} (h : ∀ x ∈ X, x ≤ v) : sumL X ≤ X.length * v := by
  induction X with
  | nil => simp [sumL]
  | cons a r ih =>
    have h1 := h a (by simp)
    have h2 := ih fun x hx => h x (by simp [hx])
    simp only [List.length_cons, sumL, Int.natCast_add, Int.add_mul]; omega

theorem Puts.graham {D : List Int} {m : Nat} (hm : 1 ≤ m) {L : Int} (hD : ∀ x ∈ D, 0 ≤ x ∧ x ≤ L) (hL : 0 ≤ L) {row load on : List Int} (h : Puts D m row load on) :
    sumL load = sumL (row.map fun i => dg D i.toNat) ∧ (∀ x ∈ load, m * x ≤ sumL load + (m - 1) * L) ∧ ∀ i ∈ row, ∃ x ∈ load, dg D i.toNat ≤ x := by
  have h0 : (0 : Int) ≤ (m - 1) * L := Int.mul_nonneg (by omega) hL
  induction h with
  | nil =>
    have hz : ∀ n : Nat, sumL (List.replicate n 0) = 0 := fun n => by induction n with
      | zero => rfl
      | succ n ih => rw [List.replicate_succ]; simp only [sumL, ih]; rfl
    refine ⟨by rw [hz]; rfl, fun x hx => ?_, fun i hi => by cases hi⟩
    have := List.eq_of_mem_replicate hx
    subst this
    rw [hz]; omega
  | @cons row load on i load' on' hr hi hp ih =>
    obtain ⟨k, v, hv, hk, rfl, rfl⟩ := hp.ex
    obtain ⟨i1, i2, i3⟩ := ih
    have hl := hr.len.1
    have hd := hD _ (getD_mem D 0 hi)
    have hs := sumL_set hk.1 (v + dg D i)
    rw [hk.2.1] at hs
    have hge := sumL_ge hv.2
    rw [hl] at hge
    refine ⟨?_, fun x hx => ?_, fun j hj => ?_⟩
    · rw [hs, i1, List.map_append, sumL_append]
      simp [sumL]; omega
    · rcases mem_set_cases hx with h | rfl
      · have := i2 x h
        rw [hs]; simp only [dg]; omega
      · rw [hs, Int.mul_add]
        have e1 : (m : Int) * dg D i = dg D i + (m - 1) * dg D i := by
          rw [Int.sub_mul]; omega
        have e2 : ((m : Int) - 1) * dg D i ≤ (m - 1) * L := Int.mul_le_mul_of_nonneg_left hd.2 (by omega)
        omega
    · have hin : v + dg D i ∈ load.set k (v + dg D i) := by
        rw [List.mem_iff_getElem?]
        exact ⟨k, by simp [hk.1]⟩
      rcases List.mem_append.1 hj with h | h
      · obtain ⟨x, hx, hle⟩ := i3 j h
        obtain ⟨p, hpl, rfl⟩ := List.getElem_of_mem hx
        by_cases hpk : p = k
        · refine ⟨_, hin, ?_⟩
          subst hpk
          have := hk.2.1
          rw [List.getD_eq_getElem?_getD, List.getElem?_eq_getElem hpl] at this
          simp at this
          simp only [dg] at *; omega
        · refine ⟨load[p], ?_, hle⟩
          rw [List.mem_iff_getElem?]
          exact ⟨p, by rw [List.getElem?_set_ne (Ne.symm hpk)]; simp [hpl]⟩
      · simp at h
        have hv0 : 0 ≤ v := by
          have := (hr.nonneg (fun x hx => (hD x hx).1)) v hv.1
          exact this
        refine ⟨_, hin, ?_⟩
        rw [h]; simp only [Int.toNat_natCast]; omega
end Go.Proofs.Ytmdnjnflmijofaa
