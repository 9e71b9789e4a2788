/- The stable sort of a row of numbers by a closure that compares: short rows. -/
import Derived.Test.YtmdnjnflmijofaaPLb
set_option linter.unusedVariables false
set_option linter.unusedSimpArgs false
namespace Go.Proofs.Ytmdnjnflmijofaa
open Go.Sx Go.RowKit

def sw (X : List Int) (i j : Nat) : List Int := (X.set i (X.getD j 0)).set j (X.getD i 0)
theorem sw_len (X : List Int) (i j : Nat) : (sw X i j).length = X.length := by simp [sw]
theorem sw_at (X : List Int) {i j : Nat} (hi : i < X.length) (hj : j < X.length) (k : Nat) : (sw X i j).getD k 0 = if k = j then X.getD i 0 else if k = i then X.getD j 0 else X.getD k 0 := by
  unfold sw
  rw [getD_set _ _ _ _ _ (by simpa using hj), getD_set _ _ _ _ _ hi]
theorem sw_perm (X : List Int) {i j : Nat} (hi : i < X.length) (hj : j < X.length) : (sw X i j).Perm X := by
  unfold sw
  rw [List.getD_eq_getElem?_getD, List.getD_eq_getElem?_getD, List.getElem?_eq_getElem hi, List.getElem?_eq_getElem hj]
  exact List.set_set_perm hi hj

/-- What the closure answers, in any world that the sort passes through: is y's key the lesser one? -/
def Cmps (B0 : World) (S : Int → Prop) (key : Int → Int) (f : Value) : Prop :=
  ∀ x y w, Ext B0 w → S x → S y → FnVP Try.prog f [.int .i64 x, .int .i64 y] w fun v w' => Ext w w' ∧ ∃ t : Int, v = .int .i64 t ∧ (t < 0 ↔ key y < key x)

/-- Falling by key, from a on, up to b. -/
def Falls (key : Int → Int) (Y : List Int) (a b : Int) : Prop := ∀ u v : Nat, a ≤ u → u < v → (v : Int) < b → key (Y.getD v 0) ≤ key (Y.getD u 0)

theorem insertion_k (B0 : World) (S : Int → Prop) (key : Int → Int) (f : Value) (hf : Cmps B0 S key f) (p : Option Addr) (n c : Nat) (X : List Int) (hS : ∀ x ∈ X, S x) (a b : Int) (ha : 0 ≤ a) (ha2 : a ≤ n) (hb : b ≤ n) (h62 : n ≤ 1000000) (w : World) (hx : Ext B0 w) (o : Own B0.heap.size w T_int 1 p n c (X.map (.int .i64))) :
    FnP Try.prog F_slices_insertionSortCmpFunc_int #[.slice p n c, .int .i64 a, .int .i64 b, f] w fun v w' => v = .tuple #[] ∧ Ext B0 w' ∧ Grew w w' p p ∧ ∃ Y : List Int, Own B0.heap.size w' T_int 1 p n c (Y.map (.int .i64)) ∧ Y.Perm X ∧ Falls key Y a b := by
  have hXl := o.leni
  by_cases hab : b ≤ a + 1
  · refine ok_slices_insertionSortCmpFunc_int p n c a b f w _ ?_
    refine ⟨i64 (by omega), fun i w' => i = a + 1 ∧ w' = w, fun _ _ => 0, ⟨rfl, rfl⟩, ?_⟩
    rintro i w2 ⟨rfl, rfl⟩
    exact ⟨fun h => by omega, fun _ w3 h3 => ⟨rfl, hx.trans h3, ⟨⟨h3.os, h3.tape, h3.output, h3.size, fun k hk _ => h3.block k hk⟩, .inl rfl⟩, X, o.ext h3, .refl _, fun u v h1 h2 h3 => by omega⟩⟩
  · refine ok_slices_insertionSortCmpFunc_int p n c a b f w _ ⟨i64 (by omega), fun i w' => Grew w w' p p ∧ a + 1 ≤ i ∧ i ≤ b ∧ ∃ Y : List Int, Own B0.heap.size w' T_int 1 p n c (Y.map (.int .i64)) ∧ Y.Perm X ∧ Falls key Y a i, fun i _ => (b - i).toNat, ⟨⟨⟨rfl, rfl, rfl, Nat.le_refl _, fun _ _ _ => rfl⟩, .inl rfl⟩, by omega, by omega, X, o, .refl _, fun u v h1 h2 h3 => by omega⟩, ?_⟩
    rintro i w2 ⟨hg, hi0, hi1, Y, oY, hp, hfall⟩
    refine ⟨fun hlt => ?_, fun hge w3 h3 => ?_⟩
    · refine ⟨fun j w' => Grew w w' p p ∧ a ≤ j ∧ j ≤ i ∧ ∃ Y : List Int, Own B0.heap.size w' T_int 1 p n c (Y.map (.int .i64)) ∧ Y.Perm X ∧ ∀ u v : Nat, a ≤ u → u < v → (v : Int) ≤ i → (v : Int) ≠ j → key (Y.getD v 0) ≤ key (Y.getD u 0), fun j _ => j.toNat, ⟨hg, by omega, by omega, Y, oY, hp, fun u v h1 h2 h3 h4 => hfall u v h1 h2 (by omega)⟩, ?_⟩
      clear hfall hp oY Y hg
      rintro j w5 ⟨hg, hj0, hj1, Y, oY, hp, hfall⟩
      have hYl := oY.leni
      have hnext : ∀ (h : ∀ u : Nat, a ≤ u → (u : Int) < j → key (Y.getD j.toNat 0) ≤ key (Y.getD u 0)), InR .i64 (i + 1) ∧ ((Grew w w5 p p ∧ a + 1 ≤ i + 1 ∧ i + 1 ≤ b ∧ ∃ Y : List Int, Own B0.heap.size w5 T_int 1 p n c (Y.map (.int .i64)) ∧ Y.Perm X ∧ Falls key Y a (i + 1)) ∧ (b - (i + 1)).toNat < (b - i).toNat) := by
        intro h
        refine ⟨i64 (by omega), ⟨hg, by omega, by omega, Y, oY, hp, fun u v h1 h2 h3 => ?_⟩, by omega⟩
        by_cases hvj : (v : Int) = j
        · obtain rfl : v = j.toNat := by omega
          exact h u h1 (by omega)
        · exact hfall u v h1 h2 (by omega) hvj
      have hx5 : Ext B0 w5 := hg.ext hx o
      have hne : a < j → p ≠ none := fun h => oY.ne1 (by omega) (by omega)
      refine ⟨hne, fun h => by omega, fun h => by omega, fun haj => ?_, fun hja => hnext fun u h1 h2 => by omega⟩
      have g1 := oY.int_at (i := j) (by omega) (by omega)
      have g2 := oY.int_at (i := j - 1) (by omega) (by omega)
      have hm : ∀ k : Nat, k < n → S (Y.getD k 0) := fun k hk => hS _ (hp.mem_iff.1 (getD_mem Y 0 (by omega)))
      refine ⟨_, g1, i64 (by omega), hne haj, by omega, by omega, _, g2, fun w8 h8 => ?_⟩
      obtain ⟨fn, cap, hfe, hF⟩ := hf _ _ w8 (hx5.trans h8) (hm j.toNat (by omega)) (hm (j - 1).toNat (by omega))
      refine ⟨fn, cap, hfe, hF.mono fun v w9 ⟨e9, t, hv, ht⟩ => ⟨e9, t, hv, fun hneg => ?_, fun hpos => hnext fun u h1 h2 => ?_⟩⟩
      · refine ⟨i64 (by omega), i64 (by omega), hne haj, by omega, by omega, _, g2, hne haj, by omega, by omega, _, g1, hne haj, by omega, by omega, ?_⟩
        refine store_int oY (by omega) (by omega) (by simp) fun w13 o13 g13 => ⟨hne haj, by omega, by omega, ?_⟩
        refine store_int o13 (by omega) (by simp; omega) (by simp) fun w14 o14 g14 => ⟨i64 (by omega), ⟨(hg.then_ g13).then_ g14, by omega, by omega, sw Y j.toNat (j - 1).toNat, o14, (sw_perm Y (by omega) (by omega)).trans hp, fun u v h1 h2 h3 h4 => ?_⟩, by simp only []; omega⟩
        have hk := ht.1 hneg
        have hlt' : key (Y.getD (j - 1).toNat 0) < key (Y.getD j.toNat 0) := hk
        rw [sw_at Y (by omega) (by omega), sw_at Y (by omega) (by omega)]
        rw [if_neg (show ¬ v = (j - 1).toNat by omega)]
        by_cases hvj : v = j.toNat
        · rw [if_pos hvj]
          by_cases hu : u = (j - 1).toNat
          · rw [if_pos hu]; omega
          · rw [if_neg hu, if_neg (by omega)]
            exact hfall u (j - 1).toNat h1 (by omega) (by omega) (by omega)
        · rw [if_neg hvj]
          by_cases hu : u = (j - 1).toNat
          · rw [if_pos hu]
            exact hfall j.toNat v (by omega) (by omega) h3 (by omega)
          · rw [if_neg hu]
            by_cases hu2 : u = j.toNat
            · rw [if_pos hu2]
              exact hfall (j - 1).toNat v (by omega) (by omega) h3 (by omega)
            · rw [if_neg hu2]
              exact hfall u v h1 h2 h3 (by omega)
      · have hk : key (Y.getD j.toNat 0) ≤ key (Y.getD (j - 1).toNat 0) := by
          have : ¬ key (Y.getD (j - 1).toNat 0) < key (Y.getD j.toNat 0) := fun h => by have := ht.2 h; omega
          omega
        by_cases hu : u = (j - 1).toNat
        · rw [hu]; exact hk
        · have := hfall u (j - 1).toNat h1 (by omega) (by omega) (by omega)
          omega
    · obtain rfl : i = b := by omega
      exact ⟨rfl, (hg.ext hx o).trans h3, hg.then_ ⟨⟨h3.os, h3.tape, h3.output, h3.size, fun k hk _ => h3.block k hk⟩, .inl rfl⟩, Y, oY.ext h3, hp, hfall⟩

theorem stable_k (B0 : World) (S : Int → Prop) (key : Int → Int) (f : Value) (hf : Cmps B0 S key f) (p : Option Addr) (n c : Nat) (X : List Int) (hS : ∀ x ∈ X, S x) (h20 : n < 20) (w : World) (hx : Ext B0 w) (o : Own B0.heap.size w T_int 1 p n c (X.map (.int .i64))) :
    FnP Try.prog F_slices_SortStableFunc_int_int #[.slice p n c, f] w fun v w' => v = .tuple #[] ∧ Ext B0 w' ∧ Grew w w' p p ∧ ∃ Y : List Int, Own B0.heap.size w' T_int 1 p n c (Y.map (.int .i64)) ∧ Y.Perm X ∧ Falls key Y 0 n := by
  refine ok_slices_SortStableFunc_int_int p n c f w _ fun w0 h0 => ?_
  have gext : ∀ {u v : World}, Ext u v → Grew u v p p := fun h => ⟨⟨h.os, h.tape, h.output, h.size, fun k hk _ => h.block k hk⟩, .inl rfl⟩
  refine FnP.mono (K := fun v w' => v = .tuple #[] ∧ Ext B0 w' ∧ Grew w0 w' p p ∧ ∃ Y : List Int, Own B0.heap.size w' T_int 1 p n c (Y.map (.int .i64)) ∧ Y.Perm X ∧ Falls key Y 0 n) ?_ fun v w1 ⟨hv, e1, g1, Y, oY, hp, hfl⟩ => ⟨hv, fun w2 h2 => ⟨rfl, e1.trans h2, ((gext h0).then_ g1).then_ (gext h2), Y, oY.ext h2, hp, hfl⟩⟩
  refine ok_slices_stableCmpFunc_int p n c n f w0 _ ⟨fun a b w' => a = 0 ∧ b = 20 ∧ w' = w0, fun _ _ _ => 0, ⟨rfl, rfl, rfl⟩, ?_⟩
  rintro a b w3 ⟨rfl, rfl, rfl⟩
  refine ⟨fun h => by omega, fun _ w4 h4 => ?_⟩
  have hx4 := (hx.trans h0).trans h4
  refine (insertion_k B0 S key f hf p n c X hS 0 n (by omega) (by omega) (Int.le_refl _) (by omega) w4 hx4 ((o.ext h0).ext h4)).mono fun v w5 ⟨hv, e5, g5, Y, oY, hp, hfl⟩ => ⟨hv, fun _ _ s w' => w' = w5 ∧ s = 20, fun _ _ _ _ => 0, ⟨rfl, rfl⟩, ?_⟩
  rintro a7 b8 bs w10 ⟨rfl, rfl⟩
  exact ⟨fun h => by omega, fun _ w11 h11 => ⟨rfl, e5.trans h11, ((gext h4).then_ g5).then_ (gext h11), Y, oY.ext h11, hp, hfl⟩⟩
end Go.Proofs.Ytmdnjnflmijofaa
