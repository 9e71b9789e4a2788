/- Assignment: the laws AssignTurned, AssignMoved. -/
import Derived.Test.YtlacdincnpbpdaaAsO
set_option linter.unusedVariables false
set_option linter.unusedSimpArgs false
namespace Go.Proofs.Ytlacdincnpbpdaa
open Go.Sx Go.RowKit

def cel (C : List (List Int)) (i k : Nat) : Int := (C.getD i []).getD k 0
theorem costN_cel (C : List (List Int)) (X : List Int) : costN C X = sumN C.length fun i => cel C i (X.getD i 0).toNat := rfl
theorem okTo.at {n : Nat} {X : List Int} (h : okTo n X) {i : Nat} (hi : i < n) : 0 ≤ X.getD i 0 ∧ X.getD i 0 < n := h.2.1 _ (getD_mem X 0 (by have := h.1; omega))
theorem okTo.inj {n : Nat} {X : List Int} (h : okTo n X) {i k : Nat} (hi : i < n) (hk : k < n) (he : X.getD i 0 = X.getD k 0) : i = k := by
  have hl := h.1
  have hn := h.2.2
  rw [List.nodup_iff_pairwise_ne, List.pairwise_iff_getElem] at hn
  have e1 : X.getD i 0 = X[i]'(by omega) := by simp [List.getD_eq_getElem?_getD, show i < X.length by omega]
  have e2 : X.getD k 0 = X[k]'(by omega) := by simp [List.getD_eq_getElem?_getD, show k < X.length by omega]
  rw [e1, e2] at he
  rcases Nat.lt_trichotomy i k with h' | h' | h'
  · exact absurd he (hn i k (by omega) (by omega) h')
  · exact h'
  · exact absurd he.symm (hn k i (by omega) (by omega) h')
/-- The row turned round. -/
theorem okTo.inv {n : Nat} {X : List Int} (h : okTo n X) : ∃ Y, okTo n Y ∧ (∀ x, x < n → Y.getD (X.getD x 0).toNat 0 = x) ∧ ∀ y, y < n → X.getD (Y.getD y 0).toNat 0 = y := by
  have hsur : ∀ y : Nat, ∃ x : Nat, y < n → x < n ∧ X.getD x 0 = y := fun y => by
    by_cases hy : y < n
    · have hin : (y : Int) ∈ X := by
        apply Classical.byContradiction
        intro hno
        have := nodup_sub (l := (y : Int) :: X) (m := rng 0 n) (List.nodup_cons.2 ⟨hno, h.2.2⟩) (fun x hx => by
          rw [rng_mem]
          rcases List.mem_cons.1 hx with rfl | hx
          · omega
          · have := h.2.1 x hx; omega)
        rw [rng_len, List.length_cons, h.1] at this; omega
      obtain ⟨x, hx, hv⟩ := List.getElem_of_mem hin
      exact ⟨x, fun _ => ⟨by have := h.1; omega, by simp [List.getD_eq_getElem?_getD, hx, hv]⟩⟩
    · exact ⟨0, fun h => absurd h hy⟩
  let g : Nat → Nat := fun y => (hsur y).choose
  have hg : ∀ y, y < n → g y < n ∧ X.getD (g y) 0 = y := fun y hy => (hsur y).choose_spec hy
  have hY : ∀ y, y < n → ((List.range n).map fun y => ((g y : Nat) : Int)).getD y 0 = g y := fun y hy => by simp [List.getD_eq_getElem?_getD, hy]
  refine ⟨(List.range n).map fun y => ((g y : Nat) : Int), ⟨by simp, fun x hx => ?_, ?_⟩, fun x hx => ?_, fun y hy => ?_⟩
  · simp only [List.mem_map, List.mem_range] at hx
    obtain ⟨y, hy, rfl⟩ := hx
    have := (hg y hy).1; omega
  · refine List.pairwise_map.2 (List.Pairwise.imp_of_mem ?_ List.nodup_range)
    intro a b ha hb hab he
    simp at ha hb
    have h1 := (hg a ha).2
    have h2 := (hg b hb).2
    rw [show g a = g b by omega, h2] at h1
    omega
  · have hx2 := h.at hx
    rw [hY _ (by omega)]
    have := (hg (X.getD x 0).toNat (by omega))
    have := h.inj this.1 hx (by rw [this.2]; omega)
    omega
  · rw [hY y hy, Int.toNat_natCast]; exact (hg y hy).2

/-- Costs that are each other turned. -/
def Trp (C D : List (List Int)) : Prop := D.length = C.length ∧ ∀ i k, i < C.length → k < C.length → cel D i k = cel C k i
theorem Trp.cost {C D : List (List Int)} (h : Trp C D) {X Y : List Int} (hX : okTo C.length X) (hY : okTo C.length Y) (h2 : ∀ x, x < C.length → Y.getD (X.getD x 0).toNat 0 = x) : costN D Y = costN C X := by
  have := hX.perm (fun y => cel D y.toNat (Y.getD y.toNat 0).toNat)
  rw [costN_cel, costN_cel, h.1]
  refine Eq.trans (sumN_congr fun i hi => ?_) (this.symm.trans (sumN_congr fun x hx => ?_))
  · simp
  · have hx2 := hX.at hx
    have hy := h2 x hx
    rw [hy, Int.toNat_natCast, h.2 _ x (by omega) hx]
theorem Trp.least {C D : List (List Int)} (h : Trp C D) {t : Int} (hL : IsLeast C t) : IsLeast D t := by
  obtain ⟨⟨X, hX, rfl⟩, h2⟩ := hL
  obtain ⟨Y, hY, h3, h4⟩ := hX.inv
  refine ⟨⟨Y, by rw [h.1]; exact hY, h.cost hX hY h3⟩, fun Z hZ => ?_⟩
  rw [h.1] at hZ
  obtain ⟨V, hV, h5, h6⟩ := hZ.inv
  rw [h.cost (X := V) (Y := Z) hV hZ h6]
  exact h2 V hV

theorem cel_of {C : List (List Int)} {i : Nat} {x : List Int} (h : C[i]? = some x) (k : Nat) : cel C i k = x.getD k 0 := by
  unfold cel; rw [show C.getD i [] = x by rw [List.getD_eq_getElem?_getD, h]; rfl]

def trow (C : List (List Int)) (i n : Nat) : List Int := (List.range n).map fun k => cel C k i
theorem trow_succ (C : List (List Int)) (i n : Nat) : trow C i (n + 1) = trow C i n ++ [cel C n i] := by simp [trow, List.range_succ]
def trp (C : List (List Int)) : List (List Int) := (List.range C.length).map fun i => trow C i C.length
theorem trp_at (C : List (List Int)) {i : Nat} (hi : i < C.length) : (trp C)[i]? = some (trow C i C.length) := by simp [trp, hi]
theorem trp_trp (C : List (List Int)) : Trp C (trp C) := by
  refine ⟨by simp [trp], fun i k hi hk => ?_⟩
  rw [cel_of (trp_at C hi)]
  simp [trow, List.getD_eq_getElem?_getD, hk]
theorem trp_sq {C : List (List Int)} (hs : sq C) : sq (trp C) := by
  have hl : (trp C).length = C.length := by simp [trp]
  refine ⟨by rw [hl]; exact hs.1, fun x hx => ?_, fun x hx y hy => ?_⟩
  · simp only [trp, List.mem_map, List.mem_range] at hx
    obtain ⟨i, hi, rfl⟩ := hx
    rw [hl]; simp [trow]
  · simp only [trp, List.mem_map, List.mem_range] at hx
    obtain ⟨i, hi, rfl⟩ := hx
    simp only [trow, List.mem_map, List.mem_range] at hy
    obtain ⟨k, hk, rfl⟩ := hy
    have hm := getC_mem (C := C) hk
    exact hs.2.2 _ hm _ (getD_mem _ 0 (by rw [hs.2.1 _ hm]; exact hi))

structure RowsT (w : World) (t : Option Addr) (C : List (List Int)) (vs : List Value) : Prop where
  row : ∀ (i : Nat) (v : Value), vs[i]? = some v → ∃ p d, v = .slice p C.length d ∧ Ints .i64 w p (trow C i C.length) ∧ Apart p t ∧ ∀ a, p = some a → a.block < w.heap.size

set_option maxHeartbeats 1000000 in
theorem core_AssignTurned (W : World) : ∀ c : Option Addr, ∀ cl : Nat, ∀ cc : Nat, SlcArg Try.prog W T_sl_int64 c cl cc →
    FnP Try.prog F_shiftbellkeep_AssignTurned #[.slice c cl cc] W fun v W' => v = .bool true ∧ Ext W W' := by
  intro pc cl cc hc
  obtain ⟨C, rfl, h63, hR, _⟩ := rows_open hc
  refine ok_shiftbellkeep_AssignTurned _ _ _ W _ ?_
  intro w0 h0
  refine (assigns_k w0).mono fun v w1 ⟨e1, hv⟩ => ⟨e1, true, hv, fun h => by simp at h, fun _ w3 h3 => ?_⟩
  refine (aLeast_k pc cc C h63 w3 (hR.ext h3)).mono fun v w4 ⟨e4, r, n, rc, t, hv, hbad, hgd⟩ => ⟨e4, r, n, rc, t, _, hv, fun hne w10 h10 => ⟨b_true ?_, (h3.trans e4).trans h10⟩, fun he => ?_⟩
  · obtain ⟨_, rfl⟩ := hbad fun h => hne (errA_ok.2 h)
    simp
  have hok := errA_ok.1 he
  have h12 := hok.1
  obtain ⟨_, hL, _⟩ := hgd hok
  have hx4 := h3.trans e4
  have hrl : ∀ k : Nat, k < C.length → (C.getD k []).length = C.length := fun k hk => hok.2.1 _ (getC_mem hk)
  refine ⟨fun q m d k w' => ∃ vs : List Value, Ext w4 w' ∧ 0 ≤ k ∧ k ≤ C.length ∧ (m : Int) = k ∧ Own w4.heap.size w' T_sl_int64 1 q m d vs ∧ RowsT w' q C vs, fun _ _ _ k _ => (C.length - k).toNat, ⟨[], Ext.refl _, by omega, by omega, by omega, Own.nil, ⟨fun i v hv => by simp at hv⟩⟩, ?_⟩
  rintro q m d k w13 ⟨vs, hx13, hk0, hk1, hm, oT, hT⟩
  have lenT : vs.length = m := by have := oT.len; omega
  have hW13 := hx4.trans hx13
  refine ⟨fun hlt => ?_, fun hge w14 h14 => ?_⟩
  · refine ⟨fun a n' c' j w' => Ext w13 w' ∧ 0 ≤ j ∧ j ≤ C.length ∧ (n' : Int) = j ∧ Own w13.heap.size w' T_int64 1 a n' c' ((trow C k.toNat j.toNat).map (.int .i64)), fun _ _ _ j _ => (C.length - j).toNat, ⟨Ext.refl _, by omega, by omega, by omega, Own.nil⟩, ?_⟩
    rintro a n' c' j w17 ⟨hx17, hj0, hj1, hn', oR⟩
    refine ⟨fun hjl => ?_, fun hjg w18 h18 => ?_⟩
    · obtain ⟨g1, p, d2, g2, g3, g4⟩ := (hR.ext (hW13.trans hx17)).at hj0 hjl
      have hl := hrl j.toNat (by omega)
      have gC := Ints.idx g3 (i := k) hk0 (by omega)
      refine ⟨g1, hj0, hjl, p, _, d2, g2, fun hq => cell_p gC (pIdx_none.2 hq), hk0, by omega, _, gC, ?_⟩
      refine push_int elem_sl_int64 oR hx17.size (by omega) (by omega) fun a' c2 w' o' g hne => ⟨i64 (by omega), ⟨g.ext hx17 oR, by omega, by omega, by omega, ?_⟩, by simp only []; omega⟩
      rw [show (j + 1).toNat = j.toNat + 1 by omega, trow_succ]
      exact o'
    · obtain rfl : j = C.length := by omega
      obtain rfl : n' = C.length := by omega
      simp only [Int.toNat_natCast] at oR
      have oT17 := oT.ext hx17
      refine push elem_sl_sl_int64 (by omega) oT17 (hx13.trans hx17).size (by rfl) (by intro u hu; simp [Value.cells] at hu; subst hu; rfl) (by omega) (by omega) (by omega) (fun q' d' w' o' g hne => ⟨i64 (by omega), ⟨_, g.ext (hx13.trans hx17) oT17, by omega, by omega, by omega, o', ⟨fun i v hv => ?_⟩⟩, by simp only []; omega⟩) w18 h18
      have bA : ∀ x, a = some x → x.block < w17.heap.size := fun x hx => (oR.lt x hx).2
      have apA : Apart a q := fun x y hx hy he => by
        have a1 := (oR.lt x hx).1
        have a2 := (oT.lt y hy).2
        omega
      by_cases hi : i < vs.length
      · rw [List.getElem?_append_left hi] at hv
        obtain ⟨p, d2, rfl, hI, hap, hbl⟩ := hT.row i v hv
        have hbl17 : ∀ x, p = some x → x.block < w17.heap.size := fun x hx => Nat.lt_of_lt_of_le (hbl x hx) hx17.size
        exact ⟨p, d2, rfl, (hI.ext hx17).grew hap g, hap.grewC hbl17 g, fun x hx => Nat.lt_of_lt_of_le (hbl17 x hx) g.size⟩
      · have hi2 := (List.getElem?_eq_some_iff.1 hv).1
        simp [Value.cells] at hi2
        obtain rfl : i = vs.length := by omega
        rw [List.getElem?_append_right (Nat.le_refl _)] at hv
        simp [Value.cells] at hv
        subst hv
        refine ⟨a, c', rfl, ?_, apA.grewC bA g, fun x hx => Nat.lt_of_lt_of_le (bA x hx) g.size⟩
        rw [show vs.length = k.toNat by omega]
        exact (oR.cells : Ints .i64 w17 a _).grew apA g
  · obtain rfl : k = C.length := by omega
    obtain rfl : m = C.length := by omega
    have hRt : RowsR w14 q (trp C) := rows_of (oT.ext h14) (by simp [trp]; omega) fun i x hx => by
      have hi := (List.getElem?_eq_some_iff.1 hx).1
      simp [trp] at hi
      rw [trp_at C hi] at hx
      obtain rfl := Option.some.inj hx
      obtain ⟨p, d2, hv2, hI, _, _⟩ := hT.row i (vs[i]'(by omega)) (by simp [show i < vs.length by omega])
      have hlr : (trow C i C.length).length = C.length := by simp [trow]
      exact ⟨by omega, p, d2, by rw [hlr, List.getElem?_eq_getElem (by omega), hv2], hI.ext h14⟩
    have hll : (trp C).length = C.length := by simp [trp]
    have hle := aLeast_k q d (trp C) (by omega) w14 hRt
    rw [hll] at hle
    refine hle.mono fun v w15 ⟨e15, r2, n2, rc2, t2, hv, _, hgd2⟩ => ⟨e15, r2, n2, rc2, t2, _, hv, fun w21 h21 => ⟨b_true ?_, ((hW13.trans h14).trans e15).trans h21⟩⟩
    obtain ⟨_, hL2, _⟩ := hgd2 (trp_sq hok)
    have := hL2.same ((trp_trp C).least hL)
    simp [this, errA_ok.2 (trp_sq hok)]

theorem CloneI_k (q : Option Addr) (c : Nat) (D : List Int) (h60 : D.length ≤ 1000) (w : World) (hD : Ints .i64 w q D) :
    FnP Try.prog F_slices_Clone_int64_int64 #[.slice q D.length c] w fun v w' => Ext w w' ∧ ∃ p' c', v = .slice p' D.length c' ∧ Own w.heap.size w' T_int64 1 p' D.length c' (D.map (.int .i64)) := by
  refine ok_slices_Clone_int64_int64 q D.length c w _ ⟨fun hn w0 h0 => ?_, fun hn => ?_⟩
  · cases D with
    | nil => exact ⟨h0, none, 0, rfl, Own.nil⟩
    | cons x r => exact absurd hn fun hq => cell_p (Ints.idx hD (i := 0) (by omega) (by simp)) (pIdx_none.2 hq)
  · exact clone_txt (Q := fun v w' => Ext w w' ∧ ∃ p' c', v = .slice p' D.length c' ∧ Own w.heap.size w' T_int64 1 p' D.length c' (D.map (.int .i64))) elem_sl_int64 (by omega) hD (by simp) (by intro u hu; obtain ⟨x, _, rfl⟩ := List.mem_map.1 hu; rfl) (by omega) (by omega) hn fun p' c' w' hx o => ⟨hx, p', c', rfl, o⟩

theorem vals {w : World} {pc : Option Addr} {C : List (List Int)} (h : RowsR w pc C) : ∃ vs : List Value, vs.length = C.length ∧ Cells w pc vs ∧ (∀ u ∈ vs, u.oneCell' = true) ∧ ∀ (i : Nat) (x : List Int), C[i]? = some x → x.length ≤ 9223372036854775807 ∧ ∃ q d, vs[i]? = some (.slice q x.length d) ∧ Ints .i64 w q x := by
  have hch : ∀ i : Nat, ∃ v : Value, v.oneCell' = true ∧ ∀ x, C[i]? = some x → cell w pc i = some v ∧ x.length ≤ 9223372036854775807 ∧ ∃ q d, v = .slice q x.length d ∧ Ints .i64 w q x := fun i => by
    cases hx : C[i]? with
    | none => exact ⟨.bool true, rfl, fun x h => by cases h⟩
    | some x =>
      obtain ⟨h1, p, d, h2, h3⟩ := h.row i x hx
      exact ⟨.slice p x.length d, rfl, fun y hy => by obtain rfl := Option.some.inj hy; exact ⟨h2, h1, p, d, rfl, h3⟩⟩
  let g : Nat → Value := fun i => (hch i).choose
  have hg := fun i => (hch i).choose_spec
  have hat : ∀ i, i < C.length → ((List.range C.length).map g)[i]? = some (g i) := fun i hi => by simp [hi]
  refine ⟨(List.range C.length).map g, by simp, fun i v hv => ?_, fun u hu => ?_, fun i x hx => ?_⟩
  · have hi := (List.getElem?_eq_some_iff.1 hv).1
    simp at hi
    rw [hat i hi] at hv
    obtain rfl := Option.some.inj hv
    exact ((hg i).2 _ (List.getElem?_eq_getElem hi)).1
  · obtain ⟨i, _, rfl⟩ := List.mem_map.1 hu
    exact (hg i).1
  · have hi := (List.getElem?_eq_some_iff.1 hx).1
    obtain ⟨_, h2, q, d, h3, h4⟩ := (hg i).2 x hx
    exact ⟨h2, q, d, by rw [hat i hi]; exact congrArg some h3, h4⟩

theorem CloneR_k (pc : Option Addr) (cc : Nat) (C : List (List Int)) (h12 : C.length ≤ 1000) (w : World) (h : RowsR w pc C) :
    FnP Try.prog F_slices_Clone_SS_int64_int64 #[.slice pc C.length cc] w fun v w' => Ext w w' ∧ ∃ p' c' vs, v = .slice p' C.length c' ∧ Own w.heap.size w' T_sl_int64 1 p' C.length c' vs ∧ vs.length = C.length ∧ Cells w pc vs ∧ ∀ (i : Nat) (x : List Int), C[i]? = some x → x.length ≤ 9223372036854775807 ∧ ∃ q d, vs[i]? = some (.slice q x.length d) ∧ Ints .i64 w q x := by
  obtain ⟨vs, h1, h2, h3, h4⟩ := vals h
  refine ok_slices_Clone_SS_int64_int64 pc C.length cc w _ ⟨fun hn w0 h0 => ?_, fun hn => ?_⟩
  · cases C with
    | nil => exact ⟨h0, none, 0, [], rfl, Own.nil, rfl, Cells.nil, fun i x hx => by simp at hx⟩
    | cons x r => exact absurd hn (h.at (k := 0) (by omega) (by simp)).1
  · exact clone_txt (Q := fun v w' => Ext w w' ∧ ∃ p' c' vs, v = .slice p' C.length c' ∧ Own w.heap.size w' T_sl_int64 1 p' C.length c' vs ∧ vs.length = C.length ∧ Cells w pc vs ∧ ∀ (i : Nat) (x : List Int), C[i]? = some x → x.length ≤ 9223372036854775807 ∧ ∃ q d, vs[i]? = some (.slice q x.length d) ∧ Ints .i64 w q x)
      elem_sl_sl_int64 (by omega) h2 (by omega) h3 (by omega) (by omega) hn fun p' c' w' hx o => ⟨hx, p', c', vs, rfl, o, h1, h2, h4⟩

def addTo (by_ : Int) (X : List Int) (k : Nat) : List Int := (X.take k).map (· + by_) ++ X.drop k
theorem addTo_len (b : Int) (X : List Int) (k : Nat) : (addTo b X k).length = X.length := by simp [addTo]; omega
theorem addTo_at (b : Int) (X : List Int) (k i : Nat) (hi : i < X.length) : (addTo b X k).getD i 0 = if i < k then X.getD i 0 + b else X.getD i 0 := by
  unfold addTo
  rw [List.getD_eq_getElem?_getD]
  by_cases h : i < k
  · rw [List.getElem?_append_left (by simp; omega), if_pos h, List.getElem?_map, List.getElem?_take, if_pos h]
    simp [List.getD_eq_getElem?_getD, hi]
  · rw [List.getElem?_append_right (by simp; omega), if_neg h, List.getElem?_drop]
    simp only [List.length_map, List.length_take, List.getD_eq_getElem?_getD]
    congr 2; omega
theorem addTo_set (b : Int) (X : List Int) (k : Nat) (hk : k < X.length) : (addTo b X k).set k (X.getD k 0 + b) = addTo b X (k + 1) := by
  apply List.ext_getElem
  · simp [addTo_len]
  · intro i h1 h2
    have e1 := addTo_at b X k i (by simpa [addTo_len] using h1)
    have e2 := addTo_at b X (k + 1) i (by simpa [addTo_len] using h1)
    rw [List.getD_eq_getElem?_getD, List.getElem?_eq_getElem h2] at e2
    rw [List.getD_eq_getElem?_getD, List.getElem?_eq_getElem (by simpa using h1)] at e1
    simp only [Option.getD_some] at e1 e2
    rw [e2, List.getElem_set, e1]
    by_cases hik : k = i
    · subst hik; rw [if_pos rfl, if_pos (by omega)]
    · rw [if_neg hik]
      by_cases h : i < k
      · rw [if_pos h, if_pos (by omega)]
      · rw [if_neg h, if_neg (by omega)]

theorem moved_cost {C : List (List Int)} (hs : sq C) {i : Nat} (hi : i < C.length) {b : Int} {X : List Int} (hX : okTo C.length X) : costN (C.set i (addTo b (C.getD i []) C.length)) X = costN C X + b := by
  have hl : (C.set i (addTo b (C.getD i []) C.length)).length = C.length := by simp
  rw [costN_cel, costN_cel, hl]
  have e : sumN C.length (fun j => cel (C.set i (addTo b (C.getD i []) C.length)) j (X.getD j 0).toNat) = sumN C.length (fun j => cel C j (X.getD j 0).toNat + if j = i then b else 0) := by
    refine sumN_congr fun j hj => ?_
    have hx := hX.at hj
    unfold cel
    rw [getD_set _ _ _ _ _ hi]
    by_cases hji : j = i
    · subst hji
      rw [if_pos rfl, if_pos rfl, addTo_at _ _ _ _ (by rw [hs.2.1 _ (getC_mem hi)]; omega), if_pos (by omega)]
    · rw [if_neg hji, if_neg hji]; omega
  rw [e, sumN_add, sumN_single, if_pos hi]

set_option maxHeartbeats 1000000 in
theorem core_AssignMoved (W : World) : ∀ c : Option Addr, ∀ cl : Nat, ∀ cc : Nat, SlcArg Try.prog W T_sl_int64 c cl cc → ∀ i : Int, InR .i64 i → ∀ by_v : Int, InR .i64 by_v →
    FnP Try.prog F_shiftbellkeep_AssignMoved #[.slice c cl cc, .int .i64 i, .int .i64 by_v] W fun v W' => v = .bool true ∧ Ext W W' := by
  intro pc cl cc hc i hi b hb
  obtain ⟨C, rfl, h63, hR, _⟩ := rows_open hc
  refine ok_shiftbellkeep_AssignMoved _ _ _ _ _ W _ ?_
  intro w0 h0
  refine (assigns_k w0).mono fun v w1 ⟨e1, hv⟩ => ⟨e1, true, hv, fun h => by simp at h, fun _ w3 h3 => ?_⟩
  refine (aLeast_k pc cc C h63 w3 (hR.ext h3)).mono fun v w4 ⟨e4, r, n, rc, t, hv, hbad, hgd⟩ => ⟨e4, r, n, rc, t, _, hv, fun hno w10 h10 => ⟨b_true ?_, (h3.trans e4).trans h10⟩, fun hyes w10 h10 => ?_⟩
  · by_cases he : errA C = 0
    · simp [he]
    · simp [(hbad fun h => he (errA_ok.2 h)).2]
  obtain ⟨⟨⟨⟨he, hi0⟩, hi1⟩, hb0⟩, hb1⟩ := hyes
  have hok := errA_ok.1 he
  have h12 := hok.1
  obtain ⟨_, hL, _⟩ := hgd hok
  have hx10 := (h3.trans e4).trans h10
  obtain ⟨a, rfl⟩ : ∃ a : Nat, i = a := ⟨i.toNat, by omega⟩
  have hal : a < C.length := by omega
  have hrl := hok.2.1 _ (getC_mem (C := C) hal)
  refine (CloneR_k pc cc C (by omega) w10 (hR.ext hx10)).mono fun v w11 ⟨e11, m, mc, vs, hv, oM, lv, hcv, hvs⟩ => ⟨e11, m, _, mc, hv, ?_⟩
  have hx11 := hx10.trans e11
  obtain ⟨g1, p, d, g2, g3, g4⟩ := (hR.ext hx11).at hi0 hi1
  simp only [Int.toNat_natCast] at g2 g3 g4
  refine ⟨g1, hi0, hi1, p, _, d, g2, fun w18 h18 => ?_⟩
  have hx18 := hx11.trans h18
  refine (CloneI_k p d (C.getD a []) (by omega) w18 (g3.ext h18)).mono fun v w19 ⟨e19, q, qc, hv, oQ⟩ => ⟨e19, q, _, qc, hv, oM.ne1 (by omega) (by omega), hi0, by omega, ?_⟩
  have oM19 := (oM.ext h18).ext e19
  have hmn : m ≠ none := oM.ne1 (by omega) (by omega)
  have hqn : q ≠ none := oQ.ne1 (by omega) (by omega)
  have hap : Apart q m := fun x y hx hy he => by
    have a1 := (oQ.lt x hx).1
    have a2 := ((oM.ext h18).lt y hy).2
    omega
  refine store_own (off := a) oM19 (by rw [pIdx_map]; simp) (by simp [lv]; omega) (by simp) (by intro v hv; simp at hv; subst hv; rfl) (by simp) fun w23 oM23 g23 => ?_
  have hx19 : Ext W w19 := hx18.trans e19
  have hx23 : Ext W w23 := g23.ext hx19 (oM19.weak hx10.size)
  have oQ23 := oQ.st hap g23
  have hset : setAt vs a [Value.slice q (C.getD a []).length qc] = vs.set a (.slice q (C.getD a []).length qc) := rfl
  rw [hset] at oM23
  have c23 : ∀ {w' : World} {B : Nat}, Own B w' T_sl_int64 1 m C.length mc (vs.set a (.slice q (C.getD a []).length qc)) → cell w' (pIdx m (a : Int) 1) 0 = some (.slice q (C.getD a []).length qc) := fun o => by
    have := o.cells a (.slice q (C.getD a []).length qc) (by simp [lv, hal])
    rw [cell_pIdx]; simpa using this
  refine ⟨hmn, hi0, hi1, q, _, qc, c23 oM23, ?_⟩
  refine ⟨fun k w' => Ext W w' ∧ 0 ≤ k ∧ k ≤ (C.getD a []).length ∧ Own W.heap.size w' T_sl_int64 1 m C.length mc (vs.set a (.slice q (C.getD a []).length qc)) ∧ Own W.heap.size w' T_int64 1 q (C.getD a []).length qc ((addTo b (C.getD a []) k.toNat).map (.int .i64)), fun k _ => ((C.getD a []).length - k).toNat,
    ⟨hx23, by omega, by omega, oM23.weak hx10.size, by simpa [addTo] using oQ23.weak hx18.size⟩, ?_⟩
  rintro k w29 ⟨hx29, hk0, hk1, oM29, oQ29⟩
  refine ⟨fun hlt => ?_, fun hge w30 h30 => ?_⟩
  · have gQ := oQ29.int_at hk0 (by rw [addTo_len]; exact hlt)
    rw [addTo_at _ _ _ _ (by omega), if_neg (by omega)] at gQ
    have hbc := hok.2.2 _ (getC_mem (C := C) hal) _ (getD_mem _ 0 (i := k.toNat) (by omega))
    unfold bnd at hbc
    refine ⟨hmn, hi0, hi1, q, _, qc, c23 oM29, hqn, hk0, hlt, _, gQ, i64 (by omega), hqn, hk0, hlt, ?_⟩
    refine store_int oQ29 hk0 (by rw [addTo_len]; exact hlt) (by simp) fun w34 o34 g34 => ⟨i64 (by omega), ⟨g34.ext hx29 oQ29, by omega, by omega, oM29.st hap.symm g34, ?_⟩, by simp only []; omega⟩
    rw [addTo_set _ _ _ (by omega)] at o34
    rwa [show (k + 1).toNat = k.toNat + 1 by omega]
  · obtain rfl : k = C.length := by omega
    rw [Int.toNat_natCast] at oQ29
    have hx30 := hx29.trans h30
    have hll : (C.set a (addTo b (C.getD a []) C.length)).length = C.length := by simp
    have hR2 : RowsR w30 m (C.set a (addTo b (C.getD a []) C.length)) := rows_of (oM29.ext h30) (by simp [lv]) fun j x hx => by
      by_cases hja : j = a
      · subst hja
        rw [List.getElem?_set_self hal] at hx
        obtain rfl := Option.some.inj hx
        refine ⟨by rw [addTo_len]; omega, q, qc, ?_, (oQ29.ext h30).cells⟩
        rw [List.getElem?_set_self (by omega), addTo_len]
      · rw [List.getElem?_set_ne (Ne.symm hja)] at hx
        obtain ⟨b1, q2, d2, b2, b3⟩ := hvs j x hx
        refine ⟨b1, q2, d2, by rw [List.getElem?_set_ne (Ne.symm hja)]; exact b2, ?_⟩
        -- it is a row that came in
        obtain ⟨_, p3, d3, b4, b5⟩ := hR.row j x hx
        have h1 := hcv j _ b2
        rw [ext_cell hx10 b4] at h1
        simp at h1
        rw [← h1.1]
        exact b5.ext hx30
    have hle := aLeast_k m mc _ (by rw [hll]; exact h63) w30 hR2
    rw [hll] at hle
    refine hle.mono fun v w31 ⟨e31, r2, n2, rc2, t2, hv, _, hgd2⟩ => ⟨e31, r2, n2, rc2, t2, _, hv, fun _ h0 => ?_, fun w37 h37 => ⟨b_true ?_, (hx30.trans e31).trans h37⟩⟩
    · obtain ⟨⟨X, hX, rfl⟩, _⟩ := hL
      have hcb : ∀ n, n ≤ C.length → -(n * 1000000000) ≤ sumN n (fun i => cel C i (X.getD i 0).toNat) ∧ sumN n (fun i => cel C i (X.getD i 0).toNat) ≤ n * 1000000000 := by
        intro n
        induction n with
        | zero => intro _; simp [sumN]
        | succ n ih =>
          intro hn
          have h1 := ih (by omega)
          have hx := hX.at (i := n) (by omega)
          have h2 := hok.2.2 _ (getC_mem (C := C) (i := n) (by omega)) _ (getD_mem _ 0 (i := (X.getD n 0).toNat) (by rw [hok.2.1 _ (getC_mem (C := C) (i := n) (by omega))]; omega))
          unfold bnd at h2
          simp only [sumN, cel] at h1 ⊢
          omega
      have := hcb C.length (Nat.le_refl _)
      rw [← costN_cel] at this
      exact i64 (by omega)
    · by_cases hok2 : sq (C.set a (addTo b (C.getD a []) C.length))
      · obtain ⟨_, hL2, _⟩ := hgd2 hok2
        have : IsLeast (C.set a (addTo b (C.getD a []) C.length)) (t + b) := by
          obtain ⟨⟨X, hX, rfl⟩, h2⟩ := hL
          refine ⟨⟨X, by rw [hll]; exact hX, moved_cost hok hal hX⟩, fun Z hZ => ?_⟩
          rw [hll] at hZ
          rw [moved_cost hok hal hZ]
          have := h2 Z hZ; omega
        have := hL2.same this
        rw [errA_ok.2 hok2]
        simp [this]
      · have h4 : errA (C.set a (addTo b (C.getD a []) C.length)) = 4 := by
          have hlen : ∀ x ∈ C.set a (addTo b (C.getD a []) C.length), x.length = (C.set a (addTo b (C.getD a []) C.length)).length := fun x hx => by
            rw [hll]
            rcases List.mem_or_eq_of_mem_set hx with h | rfl
            · exact hok.2.1 x h
            · rw [addTo_len, hrl]
          unfold errA
          rw [if_neg (by rw [hll]; omega), if_pos hlen, if_neg (fun h => hok2 ⟨by rw [hll]; exact h12, hlen, h⟩)]
        rw [h4]
        simp
end Go.Proofs.Ytlacdincnpbpdaa
