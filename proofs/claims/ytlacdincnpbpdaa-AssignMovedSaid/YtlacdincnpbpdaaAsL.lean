/- Assignment: what is asked of costs; the least one; prices. -/
import Derived.Test.YtlacdincnpbpdaaAsW
set_option linter.unusedVariables false
set_option linter.unusedSimpArgs false
namespace Go.Proofs.Ytlacdincnpbpdaa
open Go.Sx Go.RowKit

structure RowsR (w : World) (pc : Option Addr) (C : List (List Int)) : Prop where
  row : ∀ (i : Nat) (x : List Int), C[i]? = some x → x.length ≤ 9223372036854775807 ∧ ∃ p d, cell w pc i = some (.slice p x.length d) ∧ Ints .i64 w p x
theorem RowsR.ext {w w' : World} {pc : Option Addr} {C : List (List Int)} (h : RowsR w pc C) (he : Ext w w') : RowsR w' pc C :=
  ⟨fun i x hx => by obtain ⟨h1, p, d, h2, h3⟩ := h.row i x hx; exact ⟨h1, p, d, ext_cell he h2, h3.ext he⟩⟩
theorem RowsR.at {w : World} {pc : Option Addr} {C : List (List Int)} (h : RowsR w pc C) {k : Int} (h0 : 0 ≤ k) (hk : k < C.length) : pc ≠ none ∧ ∃ p d, cell w (pIdx pc k 1) 0 = some (.slice p (C.getD k.toNat []).length d) ∧ Ints .i64 w p (C.getD k.toNat []) ∧ (C.getD k.toNat []).length ≤ 9223372036854775807 := by
  obtain ⟨h1, p, d, h2, h3⟩ := h.row k.toNat _ (getElem?_getD C [] (by omega))
  refine ⟨cell_p h2, p, d, ?_, h3, h1⟩
  rw [cell_pIdx]; simpa using h2

def bnd (x : Int) : Prop := -1000000000 ≤ x ∧ x ≤ 1000000000
def sq (C : List (List Int)) : Prop := C.length ≤ 12 ∧ (∀ x ∈ C, x.length = C.length) ∧ ∀ x ∈ C, ∀ y ∈ x, bnd y
open Classical in
noncomputable def errA (C : List (List Int)) : Int := if 12 < C.length then 2 else if ∀ x ∈ C, x.length = C.length then (if ∀ x ∈ C, ∀ y ∈ x, bnd y then 0 else 4) else 1
theorem errA_ok {C : List (List Int)} : errA C = 0 ↔ sq C := by
  unfold errA sq
  by_cases h1 : 12 < C.length
  · rw [if_pos h1]; constructor <;> intro h <;> omega
  · rw [if_neg h1]
    by_cases h2 : ∀ x ∈ C, x.length = C.length
    · rw [if_pos h2]
      by_cases h3 : ∀ x ∈ C, ∀ y ∈ x, bnd y
      · rw [if_pos h3]; exact ⟨fun _ => ⟨by omega, h2, h3⟩, fun _ => rfl⟩
      · rw [if_neg h3]; exact ⟨fun h => by omega, fun h => absurd h.2.2 h3⟩
    · rw [if_neg h2]; exact ⟨fun h => by omega, fun h => absurd h.2.1 h2⟩

theorem getC_mem {C : List (List Int)} {i : Nat} (h : i < C.length) : C.getD i [] ∈ C := getD_mem C [] h
theorem aCheck_k (pc : Option Addr) (cc : Nat) (C : List (List Int)) (h63 : (C.length : Int) ≤ 9223372036854775807) (w : World) (h : RowsR w pc C) : FnP Try.prog F_assign_Check #[.slice pc C.length cc] w fun v w' => Ext w w' ∧ v = .int .i64 (errA C) := by
  refine ok_assign_Check pc C.length cc w _ ⟨fun hgt w0 h0 => ⟨h0, ?_⟩, fun hle => ?_⟩
  · unfold errA; rw [if_pos (by omega)]
  refine ⟨fun k w' => w' = w ∧ 0 ≤ k ∧ k ≤ C.length ∧ ∀ j : Nat, (j : Int) < k → (C.getD j []).length = C.length, fun k _ => (C.length - k).toNat, ⟨rfl, by omega, by omega, fun j hj => by omega⟩, ?_⟩
  rintro k w ⟨rfl, hk0, hk1, hall⟩
  refine ⟨fun hlt => ?_, fun hge => ?_⟩
  · obtain ⟨g1, p, d, g2, g3, g4⟩ := h.at hk0 hlt
    refine ⟨g1, hk0, hlt, p, _, d, g2, fun hne w6 h6 => ⟨h6, ?_⟩, fun heq => ⟨i64 (by omega), ⟨rfl, by omega, by omega, fun j hj => ?_⟩, by simp only []; omega⟩⟩
    · unfold errA
      rw [if_neg (by omega), if_neg (fun hh => hne (by have := hh _ (getC_mem (i := k.toNat) (by omega)); omega))]
    · by_cases hjk : (j : Int) < k
      · exact hall j hjk
      · obtain rfl : j = k.toNat := by omega
        omega
  have hsq : ∀ x ∈ C, x.length = C.length := fun x hx => by
    obtain ⟨j, hj, rfl⟩ := List.getElem_of_mem hx
    have := hall j (by omega)
    simpa [List.getD_eq_getElem?_getD, hj] using this
  clear hall
  refine ⟨fun k w' => w' = w ∧ 0 ≤ k ∧ k ≤ C.length ∧ ∀ j : Nat, (j : Int) < k → ∀ y ∈ C.getD j [], bnd y, fun k _ => (C.length - k).toNat, ⟨rfl, by omega, by omega, fun j hj => by omega⟩, ?_⟩
  rintro k w ⟨rfl, hk0, hk1, hall⟩
  refine ⟨fun hlt => ?_, fun hge w6 h6 => ⟨h6, ?_⟩⟩
  · obtain ⟨g1, p, d, g2, g3, g4⟩ := h.at hk0 hlt
    refine ⟨g1, hk0, hlt, p, _, d, g2, ?_⟩
    generalize hX : C.getD k.toNat [] = X at g2 g3 g4
    refine ⟨fun j w' => w' = w ∧ 0 ≤ j ∧ j ≤ X.length ∧ ∀ m : Nat, (m : Int) < j → bnd (X.getD m 0), fun j _ => (X.length - j).toNat, ⟨rfl, by omega, by omega, fun j hj => by omega⟩, ?_⟩
    rintro j w ⟨rfl, hj0, hj1, hrow⟩
    refine ⟨fun hjl => ?_, fun hjg => ⟨i64 (by omega), ⟨rfl, by omega, by omega, fun m hm => ?_⟩, by simp only []; omega⟩⟩
    · have g := Ints.idx g3 hj0 hjl
      refine ⟨fun hq => cell_p g (pIdx_none.2 hq), hj0, hjl, _, g, fun hbad w13 h13 => ⟨h13, ?_⟩, fun hgd => ⟨i64 (by omega), ⟨rfl, by omega, by omega, fun m hm => ?_⟩, by simp only []; omega⟩⟩
      · unfold errA
        rw [if_neg (by omega), if_pos hsq, if_neg (fun hh => ?_)]
        have := hh _ (getC_mem (C := C) (i := k.toNat) (by omega)) (X.getD j.toNat 0) (by rw [hX]; exact getD_mem X 0 (by omega))
        unfold bnd at this; omega
      · by_cases hmj : (m : Int) < j
        · exact hrow m hmj
        · obtain rfl : m = j.toNat := by omega
          exact hgd
    · by_cases hmk : (m : Int) < k
      · exact hall m hmk
      · obtain rfl : m = k.toNat := by omega
        rw [hX]
        intro y hy
        obtain ⟨a, ha, rfl⟩ := List.getElem_of_mem hy
        have := hrow a (by omega)
        simpa [List.getD_eq_getElem?_getD, ha] using this
  · congr 1; symm
    rw [errA_ok]
    refine ⟨by omega, hsq, fun x hx => ?_⟩
    obtain ⟨j, hj, rfl⟩ := List.getElem_of_mem hx
    have := hall j (by omega)
    simpa [List.getD_eq_getElem?_getD, hj] using this

theorem RowsR.two {w : World} {pc : Option Addr} {C : List (List Int)} (h : RowsR w pc C) (hs : sq C) : Rows2 w pc C.length C :=
  ⟨rfl, fun i hi => by
    have hl := hs.2.1 _ (getC_mem hi)
    obtain ⟨_, p, d, h2, h3⟩ := h.row i _ (getElem?_getD C [] hi)
    rw [hl] at h2
    exact ⟨hl, p, d, h2, h3⟩⟩
theorem sq_okC {C : List (List Int)} (hs : sq C) : okC C.length C :=
  ⟨hs.1, fun r k r1 r2 k1 k2 => hs.2.2 _ (getC_mem (i := (r - 1).toNat) (by omega)) _ (getD_mem _ 0 (by have := hs.2.1 _ (getC_mem (C := C) (i := (r - 1).toNat) (by omega)); omega))⟩

/-- A row of jobs: each one once. -/
def okTo (n : Nat) (X : List Int) : Prop := X.length = n ∧ (∀ x ∈ X, 0 ≤ x ∧ x < n) ∧ X.Nodup
def costN (C : List (List Int)) (X : List Int) : Int := sumN C.length fun i => (C.getD i []).getD (X.getD i 0).toNat 0

theorem aCost_k (pc : Option Addr) (cc : Nat) (C : List (List Int)) (h63 : (C.length : Int) ≤ 9223372036854775807) (q : Option Addr) (qc : Nat) (X : List Int) (h64 : (X.length : Int) ≤ 9223372036854775807) (w : World) (h : RowsR w pc C) (hX : Ints .i64 w q X) :
    FnP Try.prog F_assign_Cost #[.slice pc C.length cc, .slice q X.length qc] w fun v w' => Ext w w' ∧ ∃ t e, v = .tuple #[.int .i64 t, .int .i64 e] ∧ (¬ sq C → e = errA C ∧ t = 0) ∧ (sq C → ¬ okTo C.length X → e = 1 ∧ t = 0) ∧ (sq C → okTo C.length X → e = 0 ∧ t = costN C X) := by
  refine ok_assign_Cost pc C.length cc q X.length qc w _ ?_
  intro w0 h0
  refine (aCheck_k pc cc C h63 w0 (h.ext h0)).mono fun v w1 ⟨e1, hv⟩ => ⟨e1, _, hv, fun hne w3 h3 => ⟨h3, _, _, rfl, fun _ => ⟨rfl, rfl⟩, fun hok => absurd (errA_ok.2 hok) hne, fun hok => absurd (errA_ok.2 hok) hne⟩, fun he => ?_⟩
  have hok := errA_ok.1 he
  have h12 := hok.1
  refine ⟨fun hne w3 h3 => ⟨h3, _, _, rfl, fun hno => absurd hok hno, fun _ _ => ⟨rfl, rfl⟩, fun _ h => absurd h.1 (by omega)⟩, fun heq w3 h3 => ?_⟩
  refine mk_bools elem_sl_bool (by omega) (by omega) (by omega) fun w4 o4 e4 => ⟨e4, _, _, _, rfl, ?_⟩
  have o4 := o4 w.heap.size h3.size
  have hn1 : (some (⟨w3.heap.size, 0, none⟩ : Addr)) ≠ none := by simp
  simp only [Int.toNat_natCast] at o4 ⊢
  revert o4 hn1
  generalize (some (⟨w3.heap.size, 0, none⟩ : Addr)) = p1
  intro o4 hn1
  have hx4 := h3.trans e4
  have fail : ∀ w' : World, Ext w w' → ¬ okTo C.length X → (Ext w w' ∧ ∃ t e, Value.tuple #[.int .i64 0, .int .i64 1] = .tuple #[.int .i64 t, .int .i64 e] ∧ (¬ sq C → e = errA C ∧ t = 0) ∧ (sq C → ¬ okTo C.length X → e = 1 ∧ t = 0) ∧ (sq C → okTo C.length X → e = 0 ∧ t = costN C X)) :=
    fun w' hw hno => ⟨hw, _, _, rfl, fun h => absurd hok h, fun _ _ => ⟨rfl, rfl⟩, fun _ h => absurd h hno⟩
  refine ⟨fun sm k w' => ∃ Y : List Bool, Ext w w' ∧ 0 ≤ k ∧ k ≤ X.length ∧ Own w.heap.size w' T_bool 1 p1 C.length C.length (Y.map .bool) ∧ (∀ j : Nat, j < C.length → (Y.getD j false = true ↔ (j : Int) ∈ X.take k.toNat)) ∧ (∀ x ∈ X.take k.toNat, 0 ≤ x ∧ x < C.length) ∧ (X.take k.toNat).Nodup ∧
      sm = sumN k.toNat (fun i => (C.getD i []).getD (X.getD i 0).toNat 0) ∧ -(k * 1000000000) ≤ sm ∧ sm ≤ k * 1000000000, fun _ k _ => (X.length - k).toNat,
    ⟨_, hx4, by omega, by omega, o4, fun j hj => by rw [getD_replicate' _ _ _ hj]; simp, by simp, by simp, rfl, by omega, by omega⟩, ?_⟩
  rintro sm k w10 ⟨Y, hw, hk0, hk1, oY, hY, hR, hN, rfl, hb1, hb2⟩
  have lenY := oY.leni
  refine ⟨fun hlt => ?_, fun hge w12 h12 => ⟨hw.trans h12, _, _, rfl, fun hno => absurd hok hno, fun _ hno => absurd ?_ hno, fun _ _ => ⟨rfl, ?_⟩⟩⟩
  · have gX := Ints.idx (hX.ext hw) hk0 hlt
    have hmem := getD_mem X 0 (i := k.toNat) (by omega)
    have htake : X.take (k + 1).toNat = X.take k.toNat ++ [X.getD k.toNat 0] := by
      rw [show (k + 1).toNat = k.toNat + 1 by omega, List.take_add_one, getElem?_getD X 0 (by omega)]; rfl
    generalize hxv : X.getD k.toNat 0 = x at gX hmem htake
    refine ⟨fun hq => cell_p gX (pIdx_none.2 hq), hk0, hlt, x, gX, fun _ => hn1, fun h => h.1, fun h => by omega, fun hbad w13 h13 => fail w13 (hw.trans h13) fun h => ?_, fun hgd => ?_⟩
    · have := h.2.1 x hmem; omega
    · have gY := oY.bool_at (i := x) hgd.1 (by omega)
      refine ⟨_, gY, fun ht w14 h14 => fail w14 (hw.trans h14) fun h => ?_, fun hf => ?_⟩
      · have hin := (hY x.toNat (by omega)).1 ht
        rw [Int.toNat_of_nonneg hgd.1] at hin
        have hnd : (X.take (k + 1).toNat).Nodup := List.Sublist.nodup (List.take_sublist ..) h.2.2
        rw [htake, List.nodup_append] at hnd
        exact hnd.2.2 x hin x (by simp) rfl
      · refine ⟨hn1, hgd.1, by omega, ?_⟩
        refine store_bool oY hgd.1 (by omega) (by simp) fun w14 oY' g14 => ?_
        have hw14 := g14.ext hw oY
        obtain ⟨c1, p, d, c2, c3, c4⟩ := (h.ext hw14).at hk0 (show k < C.length by omega)
        have hrl := hok.2.1 _ (getC_mem (C := C) (i := k.toNat) (by omega))
        have gC := Ints.idx c3 (i := x) hgd.1 (by omega)
        have hbc := hok.2.2 _ (getC_mem (C := C) (i := k.toNat) (by omega)) _ (getD_mem _ 0 (i := x.toNat) (by omega))
        unfold bnd at hbc
        refine ⟨c1, hk0, by omega, p, _, d, c2, fun hq => cell_p gC (pIdx_none.2 hq), hgd.1, by omega, _, gC, i64 (by omega), i64 (by omega), ⟨_, hw14, by omega, by omega, oY', fun j hj => ?_, fun y hy => ?_, ?_, ?_, by omega, by omega⟩, by simp only []; omega⟩
        · rw [getD_set _ _ _ _ _ (by omega), htake]
          by_cases hjx : j = x.toNat
          · rw [if_pos hjx]; simp; right; omega
          · rw [if_neg hjx, hY j hj]; simp; omega
        · rw [htake] at hy
          rcases List.mem_append.1 hy with h | h
          · exact hR y h
          · simp at h; omega
        · rw [htake, List.nodup_append]
          refine ⟨hN, by simp, fun a ha b hb => ?_⟩
          simp at hb; subst hb
          intro hab; subst hab
          have := (hY a.toNat (by omega)).2 (by rw [Int.toNat_of_nonneg hgd.1]; exact ha)
          rw [this] at hf; cases hf
        · rw [show (k + 1).toNat = k.toNat + 1 by omega]
          simp only [sumN]; rw [hxv]
  · obtain rfl : k = X.length := by omega
    rw [List.take_of_length_le (by omega)] at hR hN
    exact ⟨by omega, hR, hN⟩
  · unfold costN
    congr 1; omega

/-- The least cost. -/
def IsLeast (C : List (List Int)) (t : Int) : Prop := (∃ X, okTo C.length X ∧ costN C X = t) ∧ ∀ X, okTo C.length X → t ≤ costN C X
theorem IsLeast.same {C : List (List Int)} {s t : Int} (h : IsLeast C s) (k : IsLeast C t) : s = t := by
  obtain ⟨⟨X, hX, rfl⟩, h2⟩ := h
  obtain ⟨⟨Y, hY, rfl⟩, k2⟩ := k
  have := h2 Y hY; have := k2 X hX; omega

def nums (n : Nat) : List Int := (List.range n).map Int.ofNat
theorem sumL_perm {l m : List Int} (h : l.Perm m) : sumL l = sumL m := by
  induction h with
  | nil => rfl
  | cons x _ ih => simp only [sumL, ih]
  | swap x y l => simp only [sumL]; omega
  | trans _ _ a b => exact a.trans b
theorem sumN_list (f : Int → Int) (X : List Int) : sumN X.length (fun i => f (X.getD i 0)) = sumL (X.map f) := by
  have key : ∀ m, m ≤ X.length → sumN m (fun i => f (X.getD i 0)) = sumL ((X.take m).map f) := by
    intro m
    induction m with
    | zero => intro _; rfl
    | succ m ih =>
      intro hm
      rw [List.take_add_one, getElem?_getD X 0 (by omega), List.map_append, sumL_append, ← ih (by omega)]
      simp [sumN, sumL]
  have := key X.length (Nat.le_refl _)
  rwa [List.take_of_length_le (Nat.le_refl _)] at this
theorem okTo.perm {n : Nat} {X : List Int} (h : okTo n X) (f : Int → Int) : sumN n (fun i => f (X.getD i 0)) = sumN n (fun i => f i) := by
  have hn : (nums n).Nodup := by unfold nums; exact List.Pairwise.map _ (fun a b h => by simp; omega) List.nodup_range
  have hl : (nums n).length = n := by simp [nums]
  have hm : ∀ x, x ∈ nums n ↔ 0 ≤ x ∧ x < n := fun x => by
    unfold nums
    simp only [List.mem_map, List.mem_range, Int.ofNat_eq_natCast]
    exact ⟨fun ⟨a, h1, h2⟩ => by omega, fun h => ⟨x.toNat, by omega, by omega⟩⟩
  have hsub : ∀ x ∈ X, x ∈ nums n := fun x hx => (hm x).2 (h.2.1 x hx)
  have hp : X.Perm (nums n) := by
    refine (List.perm_ext_iff_of_nodup h.2.2 hn).2 fun a => ⟨hsub a, fun ha => ?_⟩
    apply Classical.byContradiction
    intro hno
    have := nodup_sub (l := a :: X) (m := nums n) (List.nodup_cons.2 ⟨hno, h.2.2⟩) (fun x hx => by
      rcases List.mem_cons.1 hx with rfl | hx
      · exact ha
      · exact hsub x hx)
    simp only [List.length_cons, h.1, hl] at this; omega
  have e1 := sumN_list f X
  rw [h.1] at e1
  have e2 := sumN_list f (nums n)
  rw [hl] at e2
  rw [e1, sumL_perm (hp.map f), ← e2]
  refine sumN_congr fun i hi => ?_
  congr 1
  simp [nums, List.getD_eq_getElem?_getD, hi]

/-- EGERVARY: prices at which each pair costs no less, and those of a row just as much. -/
theorem pot_least {C : List (List Int)} (hs : sq C) {u v b : Int → Int} (hp : Pot C.length C.length (cst C) u v b) : IsLeast C (sumN C.length (fun x => u (x + 1)) + sumN C.length (fun x => v (x + 1))) ∧
    ∀ X, X.length = C.length → (∀ j : Int, 1 ≤ j → j ≤ C.length → g0 X (b j - 1) = j - 1) → okTo C.length X ∧ costN C X = sumN C.length (fun x => u (x + 1)) + sumN C.length (fun x => v (x + 1)) := by
  have low : ∀ X, okTo C.length X → sumN C.length (fun x => u (x + 1)) + sumN C.length (fun x => v (x + 1)) ≤ costN C X := by
    intro X hX
    have := hX.perm (fun y => v (y + 1))
    rw [← this, ← sumN_add]
    refine sumN_le fun i hi => ?_
    have hx := hX.2.1 _ (getD_mem X 0 (i := i) (by have := hX.1; omega))
    have := hp.fea (i + 1) (X.getD i 0 + 1) (by omega) (by omega) (by omega) (by omega)
    unfold cst at this
    rw [show ((i : Int) + 1 - 1).toNat = i by omega, show X.getD i 0 + 1 - 1 = X.getD i 0 by omega] at this
    exact this
  have made : ∀ X, X.length = C.length → (∀ j : Int, 1 ≤ j → j ≤ C.length → g0 X (b j - 1) = j - 1) → okTo C.length X ∧ costN C X = sumN C.length (fun x => u (x + 1)) + sumN C.length (fun x => v (x + 1)) := by
    intro X hl hX
    have at_ : ∀ x : Nat, x < C.length → ∃ j : Int, 1 ≤ j ∧ j ≤ C.length ∧ b j = x + 1 ∧ X.getD x 0 = j - 1 := fun x hx => by
      obtain ⟨j, j1, j2, j3⟩ := hp.sur (x + 1) (by omega) (by omega)
      refine ⟨j, j1, j2, j3, ?_⟩
      have := hX j j1 j2
      unfold g0 at this
      rwa [j3, show ((x : Int) + 1 - 1).toNat = x by omega] at this
    have hok : okTo C.length X := by
      refine ⟨hl, fun x hx => ?_, ?_⟩
      · obtain ⟨a, ha, rfl⟩ := List.getElem_of_mem hx
        obtain ⟨j, j1, j2, _, j4⟩ := at_ a (by omega)
        have e : X.getD a 0 = X[a] := by simp [List.getD_eq_getElem?_getD, ha]
        rw [e] at j4; omega
      · rw [List.nodup_iff_pairwise_ne, List.pairwise_iff_getElem]
        intro x y hx hy hxy he
        obtain ⟨j, j1, j2, j3, j4⟩ := at_ x (by omega)
        obtain ⟨k, k1, k2, k3, k4⟩ := at_ y (by omega)
        have e1 : X.getD x 0 = X[x] := by simp [List.getD_eq_getElem?_getD, hx]
        have e2 : X.getD y 0 = X[y] := by simp [List.getD_eq_getElem?_getD, hy]
        rw [e1] at j4; rw [e2] at k4
        have : j = k := by omega
        subst this; omega
    refine ⟨hok, ?_⟩
    have := hok.perm (fun y => v (y + 1))
    rw [← this, ← sumN_add]
    unfold costN
    refine sumN_congr fun i hi => ?_
    obtain ⟨j, j1, j2, j3, j4⟩ := at_ i hi
    have ht := hp.tight j j1 j2 (by omega)
    rw [j3] at ht
    unfold cst at ht
    rw [show ((i : Int) + 1 - 1).toNat = i by omega] at ht
    rw [j4, show j - 1 + 1 = j by omega, ht]
  refine ⟨⟨?_, low⟩, made⟩
  -- such a row there is
  have hch : ∀ x : Nat, ∃ j : Int, x < C.length → 1 ≤ j ∧ j ≤ C.length ∧ b j = x + 1 := fun x => by
    by_cases hx : x < C.length
    · obtain ⟨j, h⟩ := hp.sur (x + 1) (by omega) (by omega)
      exact ⟨j, fun _ => h⟩
    · exact ⟨0, fun h => absurd h hx⟩
  let g : Nat → Int := fun x => (hch x).choose
  have hg : ∀ x : Nat, x < C.length → 1 ≤ g x ∧ g x ≤ C.length ∧ b (g x) = x + 1 := fun x hx => (hch x).choose_spec hx
  refine ⟨(List.range C.length).map fun x => g x - 1, made _ (by simp) fun j j1 j2 => ?_⟩
  have hbj := hp.bR j j1 j2
  have hbz : b j ≠ 0 := by
    intro hz
    -- all have a job: none is free
    have := pigeon (n := C.length) (m := C.length - 1) (f := fun r => if g (r - 1).toNat < j then g (r - 1).toNat else g (r - 1).toNat - 1) (fun k k1 k2 => by
      have h := hg (k - 1).toNat (by omega)
      have hne : g (k - 1).toNat ≠ j := fun he => by rw [he, hz] at h; omega
      split <;> omega) (fun k l k1 k2 l1 l2 he => by
      have h := hg (k - 1).toNat (by omega)
      have h' := hg (l - 1).toNat (by omega)
      have hne : g (k - 1).toNat ≠ j := fun he => by rw [he, hz] at h; omega
      have hne' : g (l - 1).toNat ≠ j := fun he => by rw [he, hz] at h'; omega
      have : g (k - 1).toNat = g (l - 1).toNat := by
        split at he <;> split at he <;> omega
      rw [this] at h
      omega)
    omega
  unfold g0
  have hx : (b j - 1).toNat < C.length := by omega
  simp only [List.getD_eq_getElem?_getD, List.getElem?_map, List.getElem?_range hx, Option.map_some, Option.getD_some]
  have h := hg (b j - 1).toNat hx
  have : g (b j - 1).toNat = j := hp.inj _ _ h.1 h.2.1 j1 j2 (by omega) (by omega)
  omega
end Go.Proofs.Ytlacdincnpbpdaa
