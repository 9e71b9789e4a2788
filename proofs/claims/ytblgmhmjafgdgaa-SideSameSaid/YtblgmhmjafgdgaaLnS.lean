/- The stable sort of a row of numbers by a closure that compares: it falls by the keys, and keeps what it holds. -/
import Derived.Test.YtblgmhmjafgdgaaGood
set_option linter.unusedVariables false
set_option linter.unusedSimpArgs false
namespace Go.Proofs.Ytblgmhmjafgdgaa
open Go.Sx Go.RowKit
theorem ru64 {x : Int} (h : 0 ≤ x ∧ x ≤ 18446744073709551615) : InR .u64 x := h

def nth (Y : List Int) (x : Int) : Int := Y.getD x.toNat 0
theorem nth_eq {Y : List Int} {a b : Int} (h : a = b) : nth Y a = nth Y b := by rw [h]
def sw (X : List Int) (i j : Nat) : List Int := (X.set i (X.getD j 0)).set j (X.getD i 0)
theorem sw_len (X : List Int) (i j : Nat) : (sw X i j).length = X.length := by simp [sw]
theorem sw_perm (X : List Int) {i j : Nat} (hi : i < X.length) (hj : j < X.length) : (sw X i j).Perm X := by
  unfold sw
  rw [List.getD_eq_getElem?_getD, List.getD_eq_getElem?_getD, List.getElem?_eq_getElem hi, List.getElem?_eq_getElem hj]
  exact List.set_set_perm hi hj
theorem sw_nth (X : List Int) {i j k : Int} (i0 : 0 ≤ i) (hi : i < X.length) (j0 : 0 ≤ j) (hj : j < X.length) (k0 : 0 ≤ k) : nth (sw X i.toNat j.toNat) k = if k = j then nth X i else if k = i then nth X j else nth X k := by
  unfold sw nth
  rw [getD_set _ _ _ _ _ (by simp; omega), getD_set _ _ _ _ _ (by omega)]
  by_cases h1 : k = j
  · rw [if_pos (by omega), if_pos h1]
  · rw [if_neg (by omega), if_neg h1]
    by_cases h2 : k = i
    · rw [if_pos (by omega), if_pos h2]
    · rw [if_neg (by omega), if_neg h2]

/-- What the closure answers, in any world that the sort passes through: is y's key the lesser one? -/
def Cmps (G : World → Prop) (S : Int → Prop) (key : Int → Int) (f : Value) : Prop :=
  ∀ x y w, G w → S x → S y → FnVP Try.prog f [.int .i64 x, .int .i64 y] w fun v w' => Ext w w' ∧ ∃ t : Int, v = .int .i64 t ∧ (t < 0 ↔ key y < key x)
/-- Falling by key, from a on, up to b. -/
def Falls (key : Int → Int) (Y : List Int) (a b : Int) : Prop := ∀ u v : Int, a ≤ u → u < v → v < b → key (nth Y v) ≤ key (nth Y u)
/-- Outside of a .. b nothing has turned. -/
def Out (X Y : List Int) (a b : Int) : Prop := ∀ x : Int, 0 ≤ x → ¬ (a ≤ x ∧ x < b) → nth Y x = nth X x
def Seg (X Y : List Int) (a b : Int) : Prop := Out X Y a b ∧ ∀ x : Int, a ≤ x → x < b → ∃ y : Int, a ≤ y ∧ y < b ∧ nth Y x = nth X y
/-- Two pieces have changed places. -/
def Sw (X Y : List Int) (a b k : Int) : Prop := (∀ x : Int, 0 ≤ x → ¬ (a ≤ x ∧ x < a + k) → ¬ (b ≤ x ∧ x < b + k) → nth Y x = nth X x) ∧ (∀ x : Int, a ≤ x → x < a + k → nth Y x = nth X (x - a + b)) ∧ (∀ x : Int, b ≤ x → x < b + k → nth Y x = nth X (x - b + a))
/-- a .. m and m .. b have changed places. -/
def Rot (X Y : List Int) (a m b : Int) : Prop := Out X Y a b ∧ (∀ x : Int, a ≤ x → x < a + b - m → nth Y x = nth X (x - a + m)) ∧ (∀ x : Int, a + b - m ≤ x → x < b → nth Y x = nth X (x - b + m))

theorem rot_a {Y Y' T : List Int} {m i j : Int} (h0 : 0 ≤ m - i) (hj : 0 < j) (hij : j < i) (S : Sw Y Y' (m - i) m j) (R : Rot Y' T (m - (i - j)) m (m + j)) : Rot Y T (m - i) m (m + j) := by
  refine ⟨fun x x0 hx => (R.1 x x0 (by omega)).trans (S.1 x x0 (by omega) (by omega)), fun x h1 h2 => (R.1 x (by omega) (by omega)).trans (S.2.1 x (by omega) (by omega)), fun x h1 h2 => ?_⟩
  by_cases hx : x < m - i + 2 * j
  · exact (R.2.1 x (by omega) (by omega)).trans ((S.2.2 _ (by omega) (by omega)).trans (nth_eq (by omega)))
  · exact (R.2.2 x (by omega) (by omega)).trans ((S.1 _ (by omega) (by omega) (by omega)).trans (nth_eq (by omega)))
theorem rot_b {Y Y' T : List Int} {m i j : Int} (h0 : 0 ≤ m - i) (hi : 0 < i) (hij : i < j) (S : Sw Y Y' (m - i) (m + j - i) i) (R : Rot Y' T (m - i) m (m + (j - i))) : Rot Y T (m - i) m (m + j) := by
  refine ⟨fun x x0 hx => (R.1 x x0 (by omega)).trans (S.1 x x0 (by omega) (by omega)), fun x h1 h2 => ?_, fun x h1 h2 => (R.1 x (by omega) (by omega)).trans ((S.2.2 x (by omega) (by omega)).trans (nth_eq (by omega)))⟩
  by_cases hx : x < m + j - 2 * i
  · exact (R.2.1 x (by omega) (by omega)).trans ((S.1 _ (by omega) (by omega) (by omega)).trans (nth_eq (by omega)))
  · exact (R.2.2 x (by omega) (by omega)).trans ((S.2.1 _ (by omega) (by omega)).trans (nth_eq (by omega)))
theorem rot_c {Y Y' : List Int} {m i : Int} (S : Sw Y Y' (m - i) m i) : Rot Y Y' (m - i) m (m + i) :=
  ⟨fun x x0 hx => S.1 x x0 (by omega) (by omega), fun x h1 h2 => S.2.1 x (by omega) (by omega), fun x h1 h2 => (S.2.2 x (by omega) (by omega)).trans (nth_eq (by omega))⟩

section merge
variable {key : Int → Int} {X R Z U : List Int} {a s m e b mid : Int}
theorem Out.refl : Out X X a b := fun _ _ _ => rfl
theorem Out.trans (h : Out X Z a b) (k : Out Z U a b) : Out X U a b := fun x x0 hx => (k x x0 hx).trans (h x x0 hx)
theorem Out.wide {a' b' : Int} (h : Out X Z a' b') (ha : a ≤ a') (hb : b' ≤ b) : Out X Z a b := fun x x0 hx => h x x0 (by omega)
theorem Seg.refl : Seg X X a b := ⟨Out.refl, fun x h1 h2 => ⟨x, h1, h2, rfl⟩⟩
theorem Falls.out {a' b' : Int} (h : Falls key X a b) (o : Out X Z a' b') (a0 : 0 ≤ a) (hd : b ≤ a' ∨ b' ≤ a) : Falls key Z a b := fun u v h1 h2 h3 => by
  rw [o v (by omega) (by omega), o u (by omega) (by omega)]; exact h u v h1 h2 h3
theorem Falls.part {a' b' : Int} (h : Falls key X a b) (ha : a ≤ a') (hb : b' ≤ b) : Falls key X a' b' := fun u v h1 h2 h3 => h u v (by omega) h2 (by omega)
theorem Falls.le (h : Falls key X a b) {u v : Int} (h1 : a ≤ u) (h2 : u ≤ v) (h3 : v < b) : key (nth X v) ≤ key (nth X u) := by
  rcases Int.lt_or_eq_of_le h2 with h4 | h4
  · exact h u v h1 h4 h3
  · rw [h4]; exact Int.le_refl _

theorem rot_seg (h : Rot X R s m e) (a0 : 0 ≤ a) (has : a ≤ s) (hsm : s ≤ m) (hme : m ≤ e) (heb : e ≤ b) : Seg X R a b :=
  ⟨h.1.wide has heb, fun x h1 h2 => by
    by_cases hx : s ≤ x ∧ x < e
    · by_cases hx2 : x < s + e - m
      · exact ⟨_, by omega, by omega, h.2.1 x hx.1 hx2⟩
      · exact ⟨_, by omega, by omega, h.2.2 x (by omega) hx.2⟩
    · exact ⟨x, h1, h2, h.1 x (by omega) hx⟩⟩
/-- The four pieces behind the turn: each falls; and none of the first two stands behind one of the others. -/
theorem rot_runs (h : Rot X R s m e) (hse : s + e = mid + m) (a0 : 0 ≤ a) (has : a ≤ s) (hsm : s ≤ m) (hme : m ≤ e) (heb : e ≤ b) (hsd : s ≤ mid) (hde : mid ≤ e) (f1 : Falls key X a m) (f2 : Falls key X m b)
    (c1 : s = a ∨ e = b ∨ key (nth X e) ≤ key (nth X (s - 1))) (c2 : s = m ∨ e = m ∨ key (nth X s) ≤ key (nth X (e - 1))) :
    Falls key R a s ∧ Falls key R s mid ∧ Falls key R mid e ∧ Falls key R e b ∧ ∀ x y : Int, a ≤ x → x < mid → mid ≤ y → y < b → key (nth R y) ≤ key (nth R x) := by
  refine ⟨fun u v h1 h2 h3 => ?_, fun u v h1 h2 h3 => ?_, fun u v h1 h2 h3 => ?_, fun u v h1 h2 h3 => ?_, fun x y h1 h2 h3 h4 => ?_⟩
  · rw [h.1 v (by omega) (by omega), h.1 u (by omega) (by omega)]; exact f1 u v h1 h2 (by omega)
  · rw [h.2.1 v (by omega) (by omega), h.2.1 u (by omega) (by omega)]; exact f2 _ _ (by omega) (by omega) (by omega)
  · rw [h.2.2 v (by omega) (by omega), h.2.2 u (by omega) (by omega)]; exact f1 _ _ (by omega) (by omega) (by omega)
  · rw [h.1 v (by omega) (by omega), h.1 u (by omega) (by omega)]; exact f2 u v (by omega) h2 h3
  · by_cases hx : x < s
    · rw [h.1 x (by omega) (by omega)]
      by_cases hy : y < e
      · rw [h.2.2 y (by omega) hy]
        exact f1.le h1 (by omega) (by omega)
      · rw [h.1 y (by omega) (by omega)]
        have h5 := f1.le (u := x) (v := s - 1) h1 (by omega) (by omega)
        have h6 := f2.le (u := e) (v := y) (by omega) (by omega) h4
        rcases c1 with c1 | c1 | c1
        · omega
        · omega
        · omega
    · rw [h.2.1 x (by omega) (by omega)]
      by_cases hy : y < e
      · rw [h.2.2 y (by omega) hy]
        have h5 := f1.le (u := s) (v := y - e + m) (by omega) (by omega) (by omega)
        have h6 := f2.le (u := x - s + m) (v := e - 1) (by omega) (by omega) (by omega)
        rcases c2 with c2 | c2 | c2
        · omega
        · omega
        · omega
      · rw [h.1 y (by omega) (by omega)]
        exact f2.le (by omega) (by omega) h4
/-- Both halves in order, and nothing of the second one ahead of the first one: all is in order. -/
theorem join_runs (hX : Seg X R a b) (a0 : 0 ≤ a) (had : a ≤ mid) (hdb : mid ≤ b) (hc : ∀ x y : Int, a ≤ x → x < mid → mid ≤ y → y < b → key (nth R y) ≤ key (nth R x)) (h1 : Seg R Z a mid) (f1 : Falls key Z a mid) (h2 : Seg Z U mid b) (f2 : Falls key U mid b) : Falls key U a b ∧ Seg X U a b := by
  have up : ∀ x : Int, a ≤ x → x < mid → ∃ y : Int, a ≤ y ∧ y < mid ∧ nth U x = nth R y := fun x h3 h4 => by
    obtain ⟨y, y1, y2, hy⟩ := h1.2 x h3 h4
    exact ⟨y, y1, y2, (h2.1 x (by omega) (by omega)).trans hy⟩
  have dn : ∀ x : Int, mid ≤ x → x < b → ∃ y : Int, mid ≤ y ∧ y < b ∧ nth U x = nth R y := fun x h3 h4 => by
    obtain ⟨y, y1, y2, hy⟩ := h2.2 x h3 h4
    exact ⟨y, y1, y2, hy.trans (h1.1 y (by omega) (by omega))⟩
  refine ⟨fun u v h3 h4 h5 => ?_, fun x x0 hx => ?_, fun x h3 h4 => ?_⟩
  · by_cases hv : v < mid
    · rw [h2.1 v (by omega) (by omega), h2.1 u (by omega) (by omega)]; exact f1 u v h3 h4 hv
    · by_cases hu : u < mid
      · obtain ⟨x, x1, x2, hx⟩ := up u h3 hu
        obtain ⟨y, y1, y2, hy⟩ := dn v (by omega) h5
        rw [hx, hy]; exact hc x y x1 x2 y1 y2
      · exact f2 u v (by omega) h4 h5
  · exact (h2.1 x x0 (by omega)).trans ((h1.1 x x0 (by omega)).trans (hX.1 x x0 hx))
  · by_cases hx : x < mid
    · obtain ⟨y, y1, y2, hy⟩ := up x h3 hx
      obtain ⟨z, z1, z2, hz⟩ := hX.2 y y1 (by omega)
      exact ⟨z, z1, z2, hy.trans hz⟩
    · obtain ⟨y, y1, y2, hy⟩ := dn x (by omega) h4
      obtain ⟨z, z1, z2, hz⟩ := hX.2 y (by omega) y2
      exact ⟨z, z1, z2, hy.trans hz⟩
end merge

theorem gext {u v : World} {p : Option Addr} (h : Ext u v) : Grew u v p p := ⟨⟨h.os, h.tape, h.output, h.size, fun k hk _ => h.block k hk⟩, .inl rfl⟩
/-- What is said of a world stays so, whatever is done to the row. -/
def Keeps (G : World → Prop) (p : Option Addr) : Prop := ∀ w w', G w → Grew w w' p p → G w'
/-- The row's things have changed places, and nothing else has turned. -/
structure Sh (B0 : World) (G : World → Prop) (p : Option Addr) (n c : Nat) (X : List Int) (w : World) (Y : List Int) (w' : World) : Prop where
  ext : Ext B0 w'
  g : G w'
  grew : Grew w w' p p
  own : Own B0.heap.size w' T_int 1 p n c (Y.map (.int .i64))
  perm : Y.Perm X
section
variable {B0 : World} {G : World → Prop} {p : Option Addr} {n c : Nat}
theorem Sh.refl {X : List Int} {w : World} (hx : Ext B0 w) (g : G w) (o : Own B0.heap.size w T_int 1 p n c (X.map (.int .i64))) : Sh B0 G p n c X w X w := ⟨hx, g, gext (Ext.refl _), o, .refl _⟩
theorem Sh.trans {X Y Z : List Int} {w w' w'' : World} (h : Sh B0 G p n c X w Y w') (k : Sh B0 G p n c Y w' Z w'') : Sh B0 G p n c X w Z w'' := ⟨k.ext, k.g, h.grew.then_ k.grew, k.own, k.perm.trans h.perm⟩
theorem Sh.go (hG : Keeps G p) {X Y : List Int} {w w' w'' : World} (h : Sh B0 G p n c X w Y w') (k : Ext w' w'') : Sh B0 G p n c X w Y w'' := ⟨h.ext.trans k, hG _ _ h.g (gext k), h.grew.then_ (gext k), h.own.ext k, h.perm⟩
theorem Sh.come {X Y : List Int} {w w' w'' : World} (k : Ext w w') (h : Sh B0 G p n c X w' Y w'') : Sh B0 G p n c X w Y w'' := ⟨h.ext, h.g, (gext k).then_ h.grew, h.own, h.perm⟩
theorem Sh.len {X Y : List Int} {w w' : World} (h : Sh B0 G p n c X w Y w') : Y.length = n := h.own.leni
theorem Sh.ne {X Y : List Int} {w w' : World} (h : Sh B0 G p n c X w Y w') (hn : 0 < n) : p ≠ none := h.own.ne1 hn (by omega)
theorem Sh.all {X Y : List Int} {w w' : World} {S : Int → Prop} (h : Sh B0 G p n c X w Y w') (hS : ∀ x ∈ X, S x) : ∀ x ∈ Y, S x := fun x hx => hS x (h.perm.mem_iff.1 hx)
theorem Sh.at {X Y : List Int} {w w' : World} (h : Sh B0 G p n c X w Y w') {i : Int} (h0 : 0 ≤ i) (hi : i < n) : cell w' (pIdx p i 1) 0 = some (.int .i64 (nth Y i)) := h.own.int_at h0 (by have := h.len; omega)
theorem Sh.sat {X Y : List Int} {w w' : World} {S : Int → Prop} (h : Sh B0 G p n c X w Y w') (hS : ∀ x ∈ X, S x) {i : Int} (h0 : 0 ≤ i) (hi : i < n) : S (nth Y i) := h.all hS _ (getD_mem Y 0 (by have := h.len; omega))
/-- Two of the things change places. -/
theorem Sh.swap (hG : Keeps G p) {X Y : List Int} {w w' : World} {K : World → Prop} (h : Sh B0 G p n c X w Y w') {i j : Int} (i0 : 0 ≤ i) (hi : i < n) (j0 : 0 ≤ j) (hj : j < n) (hk : ∀ w'', Sh B0 G p n c X w (sw Y i.toNat j.toNat) w'' → K w'') :
    Store w' (pIdx p i 1) [.int .i64 (nth Y j)] [] fun w9 => p ≠ none ∧ (0 : Int) ≤ j ∧ j < (n : Int) ∧ Store w9 (pIdx p j 1) [.int .i64 (nth Y i)] [] K := by
  have hl := h.len
  refine store_int h.own i0 (by omega) (by simp) fun w9 o9 g9 => ⟨h.ne (by omega), j0, hj, ?_⟩
  refine store_int o9 j0 (by simp; omega) (by simp) fun w10 o10 g10 => hk w10 ⟨?_, hG _ _ (hG _ _ h.g g9) g10, (h.grew.then_ g9).then_ g10, o10, (sw_perm Y (by omega) (by omega)).trans h.perm⟩
  exact g10.ext (g9.ext h.ext h.own) o9

theorem swapRange_k (hG : Keeps G p) (f : Value) (X : List Int) (a b k : Int) (a0 : 0 ≤ a) (k0 : 0 ≤ k) (hab : a + k ≤ b) (hb : b + k ≤ n) (hn : n ≤ 1000) (w : World) (hx : Ext B0 w) (g : G w) (o : Own B0.heap.size w T_int 1 p n c (X.map (.int .i64))) :
    FnP Try.prog F_slices_swapRangeCmpFunc_int #[.slice p n c, .int .i64 a, .int .i64 b, .int .i64 k, f] w fun v w' => v = .tuple #[] ∧ ∃ Y, Sh B0 G p n c X w Y w' ∧ Sw X Y a b k := by
  refine ok_slices_swapRangeCmpFunc_int p n c a b k f w _ ⟨fun i w' => 0 ≤ i ∧ i ≤ k ∧ ∃ Y, Sh B0 G p n c X w Y w' ∧ Sw X Y a b i, fun i _ => (k - i).toNat, ⟨by omega, by omega, X, Sh.refl hx g o, fun _ _ _ _ => rfl, fun x h1 h2 => by omega, fun x h1 h2 => by omega⟩, ?_⟩
  rintro i w2 ⟨hi0, hi1, Y, h, hs⟩
  refine ⟨fun hlt => ?_, fun _ w3 h3 => ⟨rfl, Y, h.go hG h3, ?_⟩⟩
  · have hp := h.ne (by omega)
    have hl := h.len
    refine ⟨i64 (by omega), i64 (by omega), i64 (by omega), hp, by omega, by omega, _, h.at (by omega) (by omega), i64 (by omega), hp, by omega, by omega, _, h.at (by omega) (by omega), hp, by omega, by omega, ?_⟩
    refine h.swap hG (by omega) (by omega) (by omega) (by omega) fun w'' hZ => ⟨i64 (by omega), ⟨by omega, by omega, _, hZ, fun x x0 h1 h2 => ?_, fun x h1 h2 => ?_, fun x h1 h2 => ?_⟩, by simp only []; omega⟩
    · rw [sw_nth Y (by omega) (by omega) (by omega) (by omega) x0, if_neg (by omega), if_neg (by omega)]
      exact hs.1 x x0 (by omega) (by omega)
    · rw [sw_nth Y (by omega) (by omega) (by omega) (by omega) (by omega), if_neg (by omega)]
      by_cases hxi : x = a + i
      · rw [if_pos hxi, hs.1 _ (by omega) (by omega) (by omega)]; exact nth_eq (by omega)
      · rw [if_neg hxi]; exact hs.2.1 x h1 (by omega)
    · rw [sw_nth Y (by omega) (by omega) (by omega) (by omega) (by omega)]
      by_cases hxi : x = b + i
      · rw [if_pos hxi, hs.1 _ (by omega) (by omega) (by omega)]; exact nth_eq (by omega)
      · rw [if_neg hxi, if_neg (by omega)]; exact hs.2.2 x h1 (by omega)
  · obtain rfl : i = k := by omega
    exact hs

theorem rotate_k (hG : Keeps G p) (f : Value) (X : List Int) (a m b : Int) (a0 : 0 ≤ a) (ha : a < m) (hm : m < b) (hb : b ≤ n) (hn : n ≤ 1000) (w : World) (hx : Ext B0 w) (g : G w) (o : Own B0.heap.size w T_int 1 p n c (X.map (.int .i64))) :
    FnP Try.prog F_slices_rotateCmpFunc_int #[.slice p n c, .int .i64 a, .int .i64 m, .int .i64 b, f] w fun v w' => v = .tuple #[] ∧ ∃ Y, Sh B0 G p n c X w Y w' ∧ Rot X Y a m b := by
  refine ok_slices_rotateCmpFunc_int p n c a m b f w _ ⟨i64 (by omega), i64 (by omega), fun i j w' => 0 < i ∧ i ≤ m - a ∧ 0 < j ∧ j ≤ b - m ∧ ∃ Y, Sh B0 G p n c X w Y w' ∧ ∀ T, Rot Y T (m - i) m (m + j) → Rot X T a m b, fun i j _ => (i + j).toNat, ⟨by omega, by omega, by omega, by omega, X, Sh.refl hx g o, fun T hT => by
    rw [show m - (m - a) = a by omega, show m + (b - m) = b by omega] at hT; exact hT⟩, ?_⟩
  rintro i j w3 ⟨hi0, hi1, hj0, hj1, Y, h, hT⟩
  refine ⟨fun hne => ⟨fun hlt => ⟨i64 (by omega), fun w4 h4 => ?_⟩, fun hle => ⟨i64 (by omega), i64 (by omega), i64 (by omega), fun w4 h4 => ?_⟩⟩, fun he => ⟨i64 (by omega), fun w4 h4 => ?_⟩⟩
  · have h' := h.go hG h4
    exact (swapRange_k hG f Y (m - i) m j (by omega) (by omega) (by omega) (by omega) hn w4 h'.ext h'.g h'.own).mono fun v w5 ⟨hv, Z, hZ, hs⟩ => ⟨hv, i64 (by omega), ⟨by omega, by omega, by omega, by omega, Z, h'.trans hZ, fun T R => hT T (rot_a (by omega) hj0 (by omega) hs R)⟩, by simp only []; omega⟩
  · have h' := h.go hG h4
    exact (swapRange_k hG f Y (m - i) (m + j - i) i (by omega) (by omega) (by omega) (by omega) hn w4 h'.ext h'.g h'.own).mono fun v w5 ⟨hv, Z, hZ, hs⟩ => ⟨hv, i64 (by omega), ⟨by omega, by omega, by omega, by omega, Z, h'.trans hZ, fun T R => hT T (rot_b (by omega) hi0 (by omega) hs R)⟩, by simp only []; omega⟩
  · have h' := h.go hG h4
    obtain rfl : i = j := by omega
    exact (swapRange_k hG f Y (m - i) m i (by omega) (by omega) (by omega) (by omega) hn w4 h'.ext h'.g h'.own).mono fun v w5 ⟨hv, Z, hZ, hs⟩ => ⟨hv, fun w6 h6 => ⟨rfl, Z, (h'.trans hZ).go hG h6, hT Z (rot_c hs)⟩⟩

theorem insertion_k (hG : Keeps G p) {S : Int → Prop} {key : Int → Int} {f : Value} (hf : Cmps G S key f) (X : List Int) (hS : ∀ x ∈ X, S x) (a b : Int) (ha : 0 ≤ a) (ha2 : a ≤ n) (hb : b ≤ n) (h62 : n ≤ 1000) (w : World) (hx : Ext B0 w) (g : G w) (o : Own B0.heap.size w T_int 1 p n c (X.map (.int .i64))) :
    FnP Try.prog F_slices_insertionSortCmpFunc_int #[.slice p n c, .int .i64 a, .int .i64 b, f] w fun v w' => v = .tuple #[] ∧ ∃ Y, Sh B0 G p n c X w Y w' ∧ Out X Y a b ∧ Falls key Y a b := by
  have hs := Sh.refl hx g o
  by_cases hab : b ≤ a + 1
  · refine ok_slices_insertionSortCmpFunc_int p n c a b f w _ ?_
    refine ⟨i64 (by omega), fun i w' => i = a + 1 ∧ w' = w, fun _ _ => 0, ⟨rfl, rfl⟩, ?_⟩
    rintro i w2 ⟨rfl, rfl⟩
    exact ⟨fun h => by omega, fun _ w3 h3 => ⟨rfl, X, hs.go hG h3, Out.refl, fun u v h1 h2 h3 => by omega⟩⟩
  · refine ok_slices_insertionSortCmpFunc_int p n c a b f w _ ⟨i64 (by omega), fun i w' => a + 1 ≤ i ∧ i ≤ b ∧ ∃ Y, Sh B0 G p n c X w Y w' ∧ Out X Y a b ∧ Falls key Y a i, fun i _ => (b - i).toNat, ⟨by omega, by omega, X, hs, Out.refl, fun u v h1 h2 h3 => by omega⟩, ?_⟩
    rintro i w2 ⟨hi0, hi1, Y, hY, hout, hfall⟩
    refine ⟨fun hlt => ?_, fun hge w3 h3 => ?_⟩
    · refine ⟨fun j w' => a ≤ j ∧ j ≤ i ∧ ∃ Y, Sh B0 G p n c X w Y w' ∧ Out X Y a b ∧ ∀ u v : Int, a ≤ u → u < v → v ≤ i → v ≠ j → key (nth Y v) ≤ key (nth Y u), fun j _ => j.toNat, ⟨by omega, by omega, Y, hY, hout, fun u v h1 h2 h3 h4 => hfall u v h1 h2 (by omega)⟩, ?_⟩
      clear hfall hout hY Y
      rintro j w5 ⟨hj0, hj1, Y, hY, hout, hfall⟩
      have hYl := hY.len
      have hnext : ∀ (h : ∀ u : Int, a ≤ u → u < j → key (nth Y j) ≤ key (nth Y u)), InR .i64 (i + 1) ∧ ((a + 1 ≤ i + 1 ∧ i + 1 ≤ b ∧ ∃ Y, Sh B0 G p n c X w Y w5 ∧ Out X Y a b ∧ Falls key Y a (i + 1)) ∧ (b - (i + 1)).toNat < (b - i).toNat) := by
        intro h
        refine ⟨i64 (by omega), ⟨by omega, by omega, Y, hY, hout, fun u v h1 h2 h3 => ?_⟩, by omega⟩
        by_cases hvj : v = j
        · rw [hvj]; exact h u h1 (by omega)
        · exact hfall u v h1 h2 (by omega) hvj
      have hne : a < j → p ≠ none := fun h => hY.ne (by omega)
      refine ⟨hne, fun h => by omega, fun h => by omega, fun haj => ?_, fun hja => hnext fun u h1 h2 => by omega⟩
      have g1 := hY.at (i := j) (by omega) (by omega)
      have g2 := hY.at (i := j - 1) (by omega) (by omega)
      refine ⟨_, g1, i64 (by omega), hne haj, by omega, by omega, _, g2, fun w8 h8 => ?_⟩
      obtain ⟨fn, cap, hfe, hF⟩ := hf _ _ w8 (hY.go hG h8).g (hY.sat hS (i := j) (by omega) (by omega)) (hY.sat hS (i := j - 1) (by omega) (by omega))
      refine ⟨fn, cap, hfe, hF.mono fun v w9 ⟨e9, t, hv, ht⟩ => ⟨e9, t, hv, fun hneg => ?_, fun hpos => hnext fun u h1 h2 => ?_⟩⟩
      · refine ⟨i64 (by omega), i64 (by omega), hne haj, by omega, by omega, _, g2, hne haj, by omega, by omega, _, g1, hne haj, by omega, by omega, ?_⟩
        refine hY.swap hG (by omega) (by omega) (by omega) (by omega) fun w14 hZ => ⟨i64 (by omega), ⟨by omega, by omega, _, hZ, fun x x0 hx => ?_, fun u v h1 h2 h3 h4 => ?_⟩, by simp only []; omega⟩
        · rw [sw_nth Y (by omega) (by omega) (by omega) (by omega) x0, if_neg (by omega), if_neg (by omega)]; exact hout x x0 hx
        have hlt' : key (nth Y (j - 1)) < key (nth Y j) := ht.1 hneg
        rw [sw_nth Y (by omega) (by omega) (by omega) (by omega) (by omega), sw_nth Y (by omega) (by omega) (by omega) (by omega) (by omega)]
        rw [if_neg (show ¬ v = j - 1 by omega)]
        by_cases hvj : v = j
        · rw [if_pos hvj]
          by_cases hu : u = j - 1
          · rw [if_pos hu]; omega
          · rw [if_neg hu, if_neg (by omega)]
            exact hfall u (j - 1) h1 (by omega) (by omega) (by omega)
        · rw [if_neg hvj]
          by_cases hu : u = j - 1
          · rw [if_pos hu]
            exact hfall j v (by omega) (by omega) h3 (by omega)
          · rw [if_neg hu]
            by_cases hu2 : u = j
            · rw [if_pos hu2]
              exact hfall (j - 1) v (by omega) (by omega) h3 (by omega)
            · rw [if_neg hu2]
              exact hfall u v h1 h2 h3 (by omega)
      · have hk : key (nth Y j) ≤ key (nth Y (j - 1)) := by
          have : ¬ key (nth Y (j - 1)) < key (nth Y j) := fun h => by have := ht.2 h; omega
          omega
        by_cases hu : u = j - 1
        · rw [hu]; exact hk
        · have := hfall u (j - 1) h1 (by omega) (by omega) (by omega)
          omega
    · obtain rfl : i = b := by omega
      exact ⟨rfl, Y, hY.go hG h3, hout, hfall⟩

theorem symMerge_k (hG : Keeps G p) {S : Int → Prop} {key : Int → Int} {f : Value} (hf : Cmps G S key f) (hn : n ≤ 1000) : ∀ (fu : Nat) (X : List Int) (_ : ∀ x ∈ X, S x) (a m b : Int), b - a ≤ fu → 0 ≤ a → a < m → m < b → b ≤ n → Falls key X a m → Falls key X m b → ∀ w, Ext B0 w → G w → Own B0.heap.size w T_int 1 p n c (X.map (.int .i64)) →
    FnP Try.prog F_slices_symMergeCmpFunc_int #[.slice p n c, .int .i64 a, .int .i64 m, .int .i64 b, f] w fun v w' => v = .tuple #[] ∧ ∃ Y, Sh B0 G p n c X w Y w' ∧ Falls key Y a b ∧ Seg X Y a b := by
  intro fu
  induction fu with
  | zero => intro X _ a m b h1 h2 h3 h4; omega
  | succ fu ih =>
    intro X hS a m b hfu a0 ham hmb hbn f1 f2 w hx g o
    have h0 := Sh.refl hx g o
    have hl := h0.len
    have hp := h0.ne (by omega)
    have hat : ∀ k : Int, 0 ≤ k → k < n → cell w (pIdx p k 1) 0 = some (.int .i64 (nth X k)) := fun k k0 k1 => h0.at k0 k1
    have hshr : ∀ i j : Int, iBit .shr .u64 (i + j) 1 = (i + j) / 2 := fun i j => shr1 _ _
    have hcmp : ∀ i j : Int, 0 ≤ i → i < n → 0 ≤ j → j < n → ∀ w6, Ext w w6 → FnVP Try.prog f [.int .i64 (nth X i), .int .i64 (nth X j)] w6 fun v w' => Ext w6 w' ∧ ∃ t : Int, v = .int .i64 t ∧ (t < 0 ↔ key (nth X j) < key (nth X i)) := fun i j i0 i1 j0 j1 w6 h6 => hf _ _ w6 (h0.go hG h6).g (h0.sat hS i0 i1) (h0.sat hS j0 j1)
    refine ok_slices_symMergeCmpFunc_int p n c a m b f w _ ?_
    unfold wp_slices_symMergeCmpFunc_int
    simp only [hshr]
    refine ⟨i64 (by omega), fun h1 => ?_, fun h1 => ⟨i64 (by omega), fun h2 => ?_, fun h2 => ⟨i64 (by omega), ru64 (by omega), i64 (by omega), i64 (by omega), fun hmid => ⟨i64 (by omega), i64 (by omega), fun s r w' => w' = w ∧ (a + b) / 2 + m - b ≤ s ∧ s ≤ r ∧ r ≤ (a + b) / 2 ∧ (s = (a + b) / 2 + m - b ∨ key (nth X ((a + b) / 2 + m - s)) ≤ key (nth X (s - 1))) ∧ (r = (a + b) / 2 ∨ key (nth X r) ≤ key (nth X ((a + b) / 2 + m - 1 - r))), fun s r _ => (r - s).toNat, ⟨rfl, by omega, by omega, by omega, .inl rfl, .inl rfl⟩, ?_⟩, fun hmid => ⟨i64 (by omega), fun s r w' => w' = w ∧ a ≤ s ∧ s ≤ r ∧ r ≤ m ∧ (s = a ∨ key (nth X ((a + b) / 2 + m - s)) ≤ key (nth X (s - 1))) ∧ (r = m ∨ key (nth X r) ≤ key (nth X ((a + b) / 2 + m - 1 - r))), fun s r _ => (r - s).toNat, ⟨rfl, by omega, by omega, by omega, .inl rfl, .inl rfl⟩, ?_⟩⟩⟩⟩
    · refine ⟨fun i j w' => w' = w ∧ m ≤ i ∧ i ≤ j ∧ j ≤ b ∧ (i = m ∨ key (nth X a) < key (nth X (i - 1))) ∧ (j = b ∨ key (nth X j) ≤ key (nth X a)), fun i j _ => (j - i).toNat, ⟨rfl, by omega, by omega, by omega, .inl rfl, .inl rfl⟩, ?_⟩
      rintro i j w3 ⟨rfl, hi0, hij, hj, k1, k2⟩
      refine ⟨fun hlt => ⟨i64 (by omega), ru64 (by omega), i64 (by omega), hp, by omega, by omega, _, hat _ (by omega) (by omega), hp, by omega, by omega, _, hat _ (by omega) (by omega), fun w6 h6 => ?_⟩, fun hge => ?_⟩
      · obtain ⟨g', cap, hv, hF⟩ := hcmp ((i + j) / 2) a (by omega) (by omega) (by omega) (by omega) w6 h6
        exact ⟨g', cap, hv, hF.mono fun v w7 ⟨e7, t, hv, ht⟩ => ⟨e7, t, hv, fun hl => ⟨i64 (by omega), ⟨rfl, by omega, by omega, by omega, .inr (by rw [show (i + j) / 2 + 1 - 1 = (i + j) / 2 by omega]; exact ht.1 hl), k2⟩, by simp only []; omega⟩, fun hl => ⟨⟨rfl, by omega, by omega, by omega, k1, .inr (by have := mt ht.2 (by omega); omega)⟩, by simp only []; omega⟩⟩⟩
      · obtain rfl : i = j := by omega
        refine ⟨fun k w' => a ≤ k ∧ (k ≤ i - 1) ∧ ∃ Y, Sh B0 G p n c X w3 Y w' ∧ Out X Y a (k + 1) ∧ (∀ x : Int, a ≤ x → x < k → nth Y x = nth X (x + 1)) ∧ nth Y k = nth X a, fun k _ => (i - k).toNat, ⟨by omega, by omega, X, h0, Out.refl, fun x h1 h2 => by omega, rfl⟩, ?_⟩
        rintro k w6 ⟨hk0, hk1, Y, h, q1, q2, q3⟩
        refine ⟨i64 (by omega), fun hlt => ⟨i64 (by omega), i64 (by omega), hp, by omega, by omega, _, h.at (by omega) (by omega), hp, by omega, by omega, _, h.at (by omega) (by omega), hp, by omega, by omega, ?_⟩, fun hge w7 h7 => ⟨trivial, Y, h.go hG h7, ?_⟩⟩
        · have hYl := h.len
          refine h.swap hG (by omega) (by omega) (by omega) (by omega) fun w'' hZ => ⟨i64 (by omega), ⟨by omega, by omega, _, hZ, fun x x0 hx => ?_, fun x h1 h2 => ?_, ?_⟩, by simp only []; omega⟩
          · rw [sw_nth Y (by omega) (by omega) (by omega) (by omega) x0, if_neg (by omega), if_neg (by omega)]; exact q1 x x0 (by omega)
          · rw [sw_nth Y (by omega) (by omega) (by omega) (by omega) (by omega), if_neg (by omega)]
            by_cases hxk : x = k
            · rw [if_pos hxk, q1 _ (by omega) (by omega)]; exact nth_eq (by omega)
            · rw [if_neg hxk]; exact q2 x h1 (by omega)
          · rw [sw_nth Y (by omega) (by omega) (by omega) (by omega) (by omega), if_pos rfl]; exact q3
        · obtain rfl : k = i - 1 := by omega
          have in1 : ∀ x : Int, a ≤ x → x < i - 1 → key (nth X a) ≤ key (nth Y x) := fun x h1 h2 => by
            rw [q2 x h1 h2]
            rcases k1 with k1 | k1
            · omega
            · have := f2.le (u := x + 1) (v := i - 1) (by omega) (by omega) (by omega); omega
          have in2 : ∀ x : Int, i ≤ x → x < b → key (nth Y x) ≤ key (nth X a) := fun x h1 h2 => by
            rw [q1 x (by omega) (by omega)]
            rcases k2 with k2 | k2
            · omega
            · have := f2.le (u := i) (v := x) (by omega) (by omega) (by omega); omega
          refine ⟨fun u v h1 h2 h3 => ?_, q1.wide (by omega) (by omega), fun x h1 h2 => ?_⟩
          · by_cases hu : u < i - 1
            · by_cases hv : v < i - 1
              · rw [q2 u h1 hu, q2 v (by omega) hv]; exact f2 _ _ (by omega) (by omega) (by omega)
              · have e1 := in1 u h1 hu
                by_cases hv2 : v = i - 1
                · rw [hv2, q3]; exact e1
                · have := in2 v (by omega) h3; omega
            · by_cases hu2 : u = i - 1
              · rw [hu2, q3]; exact in2 v (by omega) h3
              · rw [q1 u (by omega) (by omega), q1 v (by omega) (by omega)]; exact f2 _ _ (by omega) h2 h3
          · by_cases hx1 : x < i - 1
            · exact ⟨_, by omega, by omega, q2 x h1 hx1⟩
            · by_cases hx2 : x = i - 1
              · exact ⟨a, by omega, by omega, by rw [hx2, q3]⟩
              · exact ⟨x, h1, h2, q1 x (by omega) (by omega)⟩
    · refine ⟨fun i j w' => w' = w ∧ a ≤ i ∧ i ≤ j ∧ j ≤ m ∧ (i = a ∨ key (nth X m) ≤ key (nth X (i - 1))) ∧ (j = m ∨ key (nth X j) ≤ key (nth X m)), fun i j _ => (j - i).toNat, ⟨rfl, by omega, by omega, by omega, .inl rfl, .inl rfl⟩, ?_⟩
      rintro i j w3 ⟨rfl, hi0, hij, hj, k1, k2⟩
      refine ⟨fun hlt => ⟨i64 (by omega), ru64 (by omega), i64 (by omega), hp, by omega, by omega, _, hat _ (by omega) (by omega), hp, by omega, by omega, _, hat _ (by omega) (by omega), fun w6 h6 => ?_⟩, fun hge => ?_⟩
      · obtain ⟨g', cap, hv, hF⟩ := hcmp m ((i + j) / 2) (by omega) (by omega) (by omega) (by omega) w6 h6
        exact ⟨g', cap, hv, hF.mono fun v w7 ⟨e7, t, hv, ht⟩ => ⟨e7, t, hv, fun hl => ⟨i64 (by omega), ⟨rfl, by omega, by omega, by omega, .inr (by rw [show (i + j) / 2 + 1 - 1 = (i + j) / 2 by omega]; have := mt ht.2 (by omega); omega), k2⟩, by simp only []; omega⟩, fun hl => ⟨⟨rfl, by omega, by omega, by omega, k1, .inr (by have := ht.1 (by omega); omega)⟩, by simp only []; omega⟩⟩⟩
      · obtain rfl : i = j := by omega
        refine ⟨fun k w' => i ≤ k ∧ k ≤ m ∧ ∃ Y, Sh B0 G p n c X w3 Y w' ∧ Out X Y k (m + 1) ∧ (∀ x : Int, k < x → x ≤ m → nth Y x = nth X (x - 1)) ∧ nth Y k = nth X m, fun k _ => (k - i).toNat, ⟨by omega, by omega, X, h0, Out.refl, fun x h1 h2 => by omega, rfl⟩, ?_⟩
        rintro k w6 ⟨hk0, hk1, Y, h, q1, q2, q3⟩
        refine ⟨fun hlt => ⟨i64 (by omega), i64 (by omega), hp, by omega, by omega, _, h.at (by omega) (by omega), hp, by omega, by omega, _, h.at (by omega) (by omega), hp, by omega, by omega, ?_⟩, fun hge w7 h7 => ⟨trivial, Y, h.go hG h7, ?_⟩⟩
        · have hYl := h.len
          refine h.swap hG (by omega) (by omega) (by omega) (by omega) fun w'' hZ => ⟨i64 (by omega), ⟨by omega, by omega, _, hZ, fun x x0 hx => ?_, fun x h1 h2 => ?_, ?_⟩, by simp only []; omega⟩
          · rw [sw_nth Y (by omega) (by omega) (by omega) (by omega) x0, if_neg (by omega), if_neg (by omega)]; exact q1 x x0 (by omega)
          · rw [sw_nth Y (by omega) (by omega) (by omega) (by omega) (by omega), if_neg (by omega)]
            by_cases hxk : x = k
            · rw [if_pos hxk, q1 _ (by omega) (by omega)]; exact nth_eq (by omega)
            · rw [if_neg hxk]; exact q2 x (by omega) h2
          · rw [sw_nth Y (by omega) (by omega) (by omega) (by omega) (by omega), if_pos rfl]; exact q3
        · obtain rfl : k = i := by omega
          have in1 : ∀ x : Int, a ≤ x → x < k → key (nth X m) ≤ key (nth Y x) := fun x h1 h2 => by
            rw [q1 x (by omega) (by omega)]
            rcases k1 with k1 | k1
            · omega
            · have := f1.le (u := x) (v := k - 1) (by omega) (by omega) (by omega); omega
          have in2 : ∀ x : Int, k < x → x < b → key (nth Y x) ≤ key (nth X m) := fun x h1 h2 => by
            rw [q2 x (by omega) (by omega)]
            rcases k2 with k2 | k2
            · omega
            · have := f1.le (u := k) (v := x - 1) (by omega) (by omega) (by omega); omega
          refine ⟨fun u v h1 h2 h3 => ?_, q1.wide (by omega) (by omega), fun x h1 h2 => ?_⟩
          · by_cases hv : v < k
            · rw [q1 u (by omega) (by omega), q1 v (by omega) (by omega)]; exact f1 _ _ h1 h2 (by omega)
            · by_cases hu : u < k
              · have e1 := in1 u h1 hu
                by_cases hv2 : v = k
                · rw [hv2, q3]; exact e1
                · have := in2 v (by omega) h3; omega
              · by_cases hu2 : u = k
                · rw [hu2, q3]; exact in2 v (by omega) h3
                · rw [q2 u (by omega) (by omega), q2 v (by omega) (by omega)]; exact f1 _ _ (by omega) (by omega) (by omega)
          · by_cases hx1 : x < k
            · exact ⟨x, h1, h2, q1 x (by omega) (by omega)⟩
            · by_cases hx2 : x = k
              · exact ⟨m, by omega, by omega, by rw [hx2, q3]⟩
              · exact ⟨_, by omega, by omega, q2 x (by omega) (by omega)⟩
    all_goals
      rintro s r w3 ⟨rfl, hs0, hsr, hr, k1, k2⟩
      refine ⟨fun hlt => ⟨i64 (by omega), ru64 (by omega), i64 (by omega), i64 (by omega), hp, by omega, by omega, _, hat _ (by omega) (by omega), hp, by omega, by omega, _, hat _ (by omega) (by omega), fun w6 h6 => ?_⟩, fun hge => ?_⟩
      · obtain ⟨g', cap, hv, hF⟩ := hcmp ((a + b) / 2 + m - 1 - (s + r) / 2) ((s + r) / 2) (by omega) (by omega) (by omega) (by omega) w6 h6
        exact ⟨g', cap, hv, hF.mono fun v w7 ⟨e7, t, hv, ht⟩ => ⟨e7, t, hv, fun hl => ⟨i64 (by omega), ⟨rfl, by omega, by omega, by omega, .inr (by
          rw [show (s + r) / 2 + 1 - 1 = (s + r) / 2 by omega, show (a + b) / 2 + m - ((s + r) / 2 + 1) = (a + b) / 2 + m - 1 - (s + r) / 2 by omega]
          have := mt ht.2 (by omega); omega), k2⟩, by simp only []; omega⟩, fun hl => ⟨⟨rfl, by omega, by omega, by omega, k1, .inr (by have := ht.1 (by omega); omega)⟩, by simp only []; omega⟩⟩⟩
      · obtain rfl : s = r := by omega
        have c1 : s = a ∨ (a + b) / 2 + m - s = b ∨ key (nth X ((a + b) / 2 + m - s)) ≤ key (nth X (s - 1)) := by
          rcases k1 with k1 | k1
          · first | exact .inl k1 | exact .inr (.inl (by omega))
          · exact .inr (.inr k1)
        have c2 : s = m ∨ (a + b) / 2 + m - s = m ∨ key (nth X s) ≤ key (nth X ((a + b) / 2 + m - s - 1)) := by
          rcases k2 with k2 | k2
          · first | exact .inl k2 | exact .inr (.inl (by omega))
          · exact .inr (.inr (by rw [show (a + b) / 2 + m - s - 1 = (a + b) / 2 + m - 1 - s by omega]; exact k2))
        -- from the turn on
        have low : ∀ R w5 w6, Sh B0 G p n c X w3 R w5 → Rot X R s m ((a + b) / 2 + m - s) → Ext w5 w6 → a < s ∧ s < (a + b) / 2 → FnP Try.prog F_slices_symMergeCmpFunc_int #[.slice p n c, .int .i64 a, .int .i64 s, .int .i64 ((a + b) / 2), f] w6 fun v w' => v = .tuple #[] ∧ ∃ Z, Sh B0 G p n c X w3 Z w' ∧ Falls key Z a ((a + b) / 2) ∧ Seg R Z a ((a + b) / 2) := fun R w5 w6 h hR h6 hc => by
          obtain ⟨r1, r2, r3, r4, r5⟩ := rot_runs (mid := (a + b) / 2) hR (by omega) a0 (by omega) (by omega) (by omega) (by omega) (by omega) (by omega) f1 f2 c1 c2
          have h' := h.go hG h6
          exact (ih R (h.all hS) a s ((a + b) / 2) (by omega) a0 hc.1 hc.2 (by omega) r1 r2 w6 h'.ext h'.g h'.own).mono fun v w7 ⟨hv, Z, hZ, z1, z2⟩ => ⟨hv, Z, h'.trans hZ, z1, z2⟩
        have skip : ∀ R, Rot X R s m ((a + b) / 2 + m - s) → ¬ (a < s ∧ s < (a + b) / 2) → Falls key R a ((a + b) / 2) := fun R hR hc => by
          obtain ⟨r1, r2, r3, r4, r5⟩ := rot_runs (mid := (a + b) / 2) hR (by omega) a0 (by omega) (by omega) (by omega) (by omega) (by omega) (by omega) f1 f2 c1 c2
          by_cases hsa : s = a
          · rw [hsa] at r2; exact r2
          · rw [show (a + b) / 2 = s by omega]; exact r1
        have high : ∀ R Z w5 w6, Rot X R s m ((a + b) / 2 + m - s) → Sh B0 G p n c X w3 Z w5 → Falls key Z a ((a + b) / 2) → Seg R Z a ((a + b) / 2) → Ext w5 w6 → (a + b) / 2 < (a + b) / 2 + m - s ∧ (a + b) / 2 + m - s < b → FnP Try.prog F_slices_symMergeCmpFunc_int #[.slice p n c, .int .i64 ((a + b) / 2), .int .i64 ((a + b) / 2 + m - s), .int .i64 b, f] w6 fun v w' => v = .tuple #[] ∧ ∃ U, Sh B0 G p n c X w3 U w' ∧ Falls key U a b ∧ Seg X U a b := fun R Z w5 w6 hR h z1 z2 h6 hc => by
          obtain ⟨r1, r2, r3, r4, r5⟩ := rot_runs (mid := (a + b) / 2) hR (by omega) a0 (by omega) (by omega) (by omega) (by omega) (by omega) (by omega) f1 f2 c1 c2
          have h' := h.go hG h6
          exact (ih Z (h.all hS) ((a + b) / 2) ((a + b) / 2 + m - s) b (by omega) (by omega) hc.1 hc.2 (by omega) (r3.out z2.1 (by omega) (by omega)) (r4.out z2.1 (by omega) (by omega)) w6 h'.ext h'.g h'.own).mono fun v w7 ⟨hv, U, hU, u1, u2⟩ => ⟨hv, U, h'.trans hU, join_runs (rot_seg hR a0 (by omega) (by omega) (by omega) (by omega)) a0 (by omega) (by omega) r5 z2 z1 u2 u1⟩
        have skip2 : ∀ R Z w5, Rot X R s m ((a + b) / 2 + m - s) → Sh B0 G p n c X w3 Z w5 → Falls key Z a ((a + b) / 2) → Seg R Z a ((a + b) / 2) → ¬ ((a + b) / 2 < (a + b) / 2 + m - s ∧ (a + b) / 2 + m - s < b) → Falls key Z a b ∧ Seg X Z a b := fun R Z w5 hR h z1 z2 hc => by
          obtain ⟨r1, r2, r3, r4, r5⟩ := rot_runs (mid := (a + b) / 2) hR (by omega) a0 (by omega) (by omega) (by omega) (by omega) (by omega) (by omega) f1 f2 c1 c2
          refine join_runs (rot_seg hR a0 (by omega) (by omega) (by omega) (by omega)) a0 (by omega) (by omega) r5 z2 z1 Seg.refl ?_
          by_cases hsm : s = m
          · refine Falls.out (r4.part (by omega) (Int.le_refl _)) z2.1 (by omega) (by omega)
          · have he : (a + b) / 2 + m - s = b := by omega
            rw [he] at r3
            exact r3.out z2.1 (by omega) (by omega)
        -- both calls behind the turn
        refine ⟨i64 (by omega), fun hrot w4 h4 => ?_, fun hno => ?_⟩
        · have h4' := h0.go hG h4
          refine (rotate_k hG f X s m ((a + b) / 2 + m - s) (by omega) hrot.1 hrot.2 (by omega) hn w4 h4'.ext h4'.g h4'.own).mono fun v w5 ⟨hv, R, hR', hR⟩ => ⟨hv, fun hc1 w6 h6 => ?_, fun hc1 => ⟨fun hc2 w6 h6 => ?_, fun hc2 w6 h6 => ⟨trivial, R, (hR'.come h4).go hG h6, ?_⟩⟩⟩
          · refine (low R w5 w6 (hR'.come h4) hR h6 hc1).mono fun v w7 ⟨hv, Z, hZ, z1, z2⟩ => ⟨hv, fun hc2 w8 h8 => ?_, fun hc2 w8 h8 => ⟨trivial, Z, hZ.go hG h8, skip2 R Z w7 hR hZ z1 z2 (by omega)⟩⟩
            exact (high R Z w7 w8 hR hZ z1 z2 h8 hc2).mono fun v w9 ⟨hv, U, hU, hu⟩ => ⟨hv, fun w10 h10 => ⟨trivial, U, hU.go hG h10, hu⟩⟩
          · exact (high R R w5 w6 hR (hR'.come h4) (skip R hR (by omega)) Seg.refl h6 hc2).mono fun v w7 ⟨hv, U, hU, hu⟩ => ⟨hv, fun w8 h8 => ⟨trivial, U, hU.go hG h8, hu⟩⟩
          · exact skip2 R R w5 hR (hR'.come h4) (skip R hR (by omega)) Seg.refl (by omega)
        · have hR : Rot X X s m ((a + b) / 2 + m - s) := ⟨Out.refl, fun x h1 h2 => nth_eq (by omega), fun x h1 h2 => nth_eq (by omega)⟩
          refine ⟨fun hc1 w4 h4 => ?_, fun hc1 => ⟨fun hc2 w4 h4 => ?_, fun hc2 w4 h4 => ⟨trivial, X, h0.go hG h4, ?_⟩⟩⟩
          · refine (low X w3 w4 h0 hR h4 hc1).mono fun v w5 ⟨hv, Z, hZ, z1, z2⟩ => ⟨hv, fun hc2 w6 h6 => ?_, fun hc2 w6 h6 => ⟨trivial, Z, hZ.go hG h6, skip2 X Z w5 hR hZ z1 z2 (by omega)⟩⟩
            exact (high X Z w5 w6 hR hZ z1 z2 h6 hc2).mono fun v w7 ⟨hv, U, hU, hu⟩ => ⟨hv, fun w8 h8 => ⟨trivial, U, hU.go hG h8, hu⟩⟩
          · exact (high X X w3 w4 hR h0 (skip X hR (by omega)) Seg.refl h4 hc2).mono fun v w5 ⟨hv, U, hU, hu⟩ => ⟨hv, fun w6 h6 => ⟨trivial, U, hU.go hG h6, hu⟩⟩
          · exact skip2 X X w3 hR h0 (skip X hR (by omega)) Seg.refl (by omega)
end
end Go.Proofs.Ytblgmhmjafgdgaa
