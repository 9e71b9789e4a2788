/- The stable sort of a row of numbers: rows of whatever length keep what they hold. -/
import Derived.Test.YtmdnjnflmijofaaPLe
set_option linter.unusedVariables false
set_option linter.unusedSimpArgs false
namespace Go.Proofs.Ytmdnjnflmijofaa
open Go.Sx Go.RowKit

/-- The row's things have changed places, and nothing else has turned. -/
structure Sh (B0 : World) (p : Option Addr) (n c : Nat) (X : List Int) (w : World) (Y : List Int) (w' : World) : Prop where
  ext : Ext B0 w'
  grew : Grew w w' p p
  own : Own B0.heap.size w' T_int 1 p n c (Y.map (.int .i64))
  perm : Y.Perm X

theorem gext {u v : World} {p : Option Addr} (h : Ext u v) : Grew u v p p := ⟨⟨h.os, h.tape, h.output, h.size, fun k hk _ => h.block k hk⟩, .inl rfl⟩
section
variable {B0 : World} {p : Option Addr} {n c : Nat}
theorem Sh.refl {X : List Int} {w : World} (hx : Ext B0 w) (o : Own B0.heap.size w T_int 1 p n c (X.map (.int .i64))) : Sh B0 p n c X w X w := ⟨hx, gext (Ext.refl _), o, .refl _⟩
theorem Sh.trans {X Y Z : List Int} {w w' w'' : World} (h : Sh B0 p n c X w Y w') (k : Sh B0 p n c Y w' Z w'') : Sh B0 p n c X w Z w'' := ⟨k.ext, h.grew.then_ k.grew, k.own, k.perm.trans h.perm⟩
theorem Sh.go {X Y : List Int} {w w' w'' : World} (h : Sh B0 p n c X w Y w') (k : Ext w' w'') : Sh B0 p n c X w Y w'' := ⟨h.ext.trans k, h.grew.then_ (gext k), h.own.ext k, h.perm⟩
theorem Sh.come {X Y : List Int} {w w' w'' : World} (k : Ext w w') (h : Sh B0 p n c X w' Y w'') : Sh B0 p n c X w Y w'' := ⟨h.ext, (gext k).then_ h.grew, h.own, h.perm⟩
theorem Sh.len {X Y : List Int} {w w' : World} (h : Sh B0 p n c X w Y w') : Y.length = n := h.own.leni
theorem Sh.ne {X Y : List Int} {w w' : World} (h : Sh B0 p n c X w Y w') (hn : 0 < n) : p ≠ none := h.own.ne1 hn (by omega)
theorem Sh.all {X Y : List Int} {w w' : World} {S : Int → Prop} (h : Sh B0 p n c X w Y w') (hS : ∀ x ∈ X, S x) : ∀ x ∈ Y, S x := fun x hx => hS x (h.perm.mem_iff.1 hx)
theorem Sh.at {X Y : List Int} {w w' : World} (h : Sh B0 p n c X w Y w') {i : Int} (h0 : 0 ≤ i) (hi : i < n) : cell w' (pIdx p i 1) 0 = some (.int .i64 (Y.getD i.toNat 0)) := h.own.int_at h0 (by have := h.len; omega)
/-- Two of the things change places. -/
theorem Sh.swap {X Y : List Int} {w w' : World} {K : World → Prop} (h : Sh B0 p n c X w Y w') {i j : Int} (i0 : 0 ≤ i) (hi : i < n) (j0 : 0 ≤ j) (hj : j < n) (hk : ∀ w'' Z, Sh B0 p n c X w Z w'' → K w'') :
    Store w' (pIdx p i 1) [.int .i64 (Y.getD j.toNat 0)] [] fun w9 => p ≠ none ∧ (0 : Int) ≤ j ∧ j < (n : Int) ∧ Store w9 (pIdx p j 1) [.int .i64 (Y.getD i.toNat 0)] [] K := by
  have hl := h.len
  refine store_int h.own i0 (by omega) (by simp) fun w9 o9 g9 => ⟨h.ne (by omega), j0, hj, ?_⟩
  refine store_int o9 j0 (by simp; omega) (by simp) fun w10 o10 g10 => hk w10 (sw Y i.toNat j.toNat) ⟨?_, (h.grew.then_ g9).then_ g10, o10, (sw_perm Y (by omega) (by omega)).trans h.perm⟩
  exact g10.ext (g9.ext h.ext h.own) o9

theorem swapRange_k (f : Value) (X : List Int) (a b k : Int) (a0 : 0 ≤ a) (ha : a + k ≤ n) (b0 : 0 ≤ b) (hb : b + k ≤ n) (hn : n ≤ 1000) (w : World) (hx : Ext B0 w) (o : Own B0.heap.size w T_int 1 p n c (X.map (.int .i64))) :
    FnP Try.prog F_slices_swapRangeCmpFunc_int #[.slice p n c, .int .i64 a, .int .i64 b, .int .i64 k, f] w fun v w' => v = .tuple #[] ∧ ∃ Y, Sh B0 p n c X w Y w' := by
  refine ok_slices_swapRangeCmpFunc_int p n c a b k f w _ ⟨fun i w' => 0 ≤ i ∧ (i ≤ k ∨ i = 0) ∧ ∃ Y, Sh B0 p n c X w Y w', fun i _ => (k - i).toNat, ⟨by omega, by omega, X, Sh.refl hx o⟩, ?_⟩
  rintro i w2 ⟨hi0, hi1, Y, h⟩
  refine ⟨fun hlt => ?_, fun _ w3 h3 => ⟨rfl, Y, h.go h3⟩⟩
  have hp := h.ne (by omega)
  refine ⟨i64 (by omega), i64 (by omega), i64 (by omega), hp, by omega, by omega, _, h.at (by omega) (by omega), i64 (by omega), hp, by omega, by omega, _, h.at (by omega) (by omega), hp, by omega, by omega, ?_⟩
  exact h.swap (by omega) (by omega) (by omega) (by omega) fun w'' Z hZ => ⟨i64 (by omega), ⟨by omega, by omega, Z, hZ⟩, by simp only []; omega⟩

theorem rotate_k (f : Value) (X : List Int) (a m b : Int) (a0 : 0 ≤ a) (ha : a < m) (hm : m < b) (hb : b ≤ n) (hn : n ≤ 1000) (w : World) (hx : Ext B0 w) (o : Own B0.heap.size w T_int 1 p n c (X.map (.int .i64))) :
    FnP Try.prog F_slices_rotateCmpFunc_int #[.slice p n c, .int .i64 a, .int .i64 m, .int .i64 b, f] w fun v w' => v = .tuple #[] ∧ ∃ Y, Sh B0 p n c X w Y w' := by
  refine ok_slices_rotateCmpFunc_int p n c a m b f w _ ⟨i64 (by omega), i64 (by omega), fun i j w' => 0 < i ∧ i ≤ m - a ∧ 0 < j ∧ j ≤ b - m ∧ ∃ Y, Sh B0 p n c X w Y w', fun i j _ => (i + j).toNat, ⟨by omega, by omega, by omega, by omega, X, Sh.refl hx o⟩, ?_⟩
  rintro i j w3 ⟨hi0, hi1, hj0, hj1, Y, h⟩
  refine ⟨fun hne => ⟨fun hlt => ⟨i64 (by omega), fun w4 h4 => ?_⟩, fun hle => ⟨i64 (by omega), i64 (by omega), i64 (by omega), fun w4 h4 => ?_⟩⟩, fun he => ⟨i64 (by omega), fun w4 h4 => ?_⟩⟩
  · exact (swapRange_k f Y (m - i) m j (by omega) (by omega) (by omega) (by omega) hn w4 (h.ext.trans h4) (h.own.ext h4)).mono fun v w5 ⟨hv, Z, hZ⟩ => ⟨hv, i64 (by omega), ⟨by omega, by omega, by omega, by omega, Z, h.trans (hZ.come h4)⟩, by simp only []; omega⟩
  · exact (swapRange_k f Y (m - i) (m + j - i) i (by omega) (by omega) (by omega) (by omega) hn w4 (h.ext.trans h4) (h.own.ext h4)).mono fun v w5 ⟨hv, Z, hZ⟩ => ⟨hv, i64 (by omega), ⟨by omega, by omega, by omega, by omega, Z, h.trans (hZ.come h4)⟩, by simp only []; omega⟩
  · exact (swapRange_k f Y (m - i) m i (by omega) (by omega) (by omega) (by omega) hn w4 (h.ext.trans h4) (h.own.ext h4)).mono fun v w5 ⟨hv, Z, hZ⟩ => ⟨hv, fun w6 h6 => ⟨rfl, Z, h.trans ((hZ.come h4).go h6)⟩⟩

theorem u64 {x : Int} (h : 0 ≤ x ∧ x ≤ 18446744073709551615) : InR .u64 x := h

theorem symMerge_k {S : Int → Prop} {key : Int → Int} {f : Value} (hf : Cmps B0 S key f) (hn : n ≤ 1000) : ∀ (fu : Nat) (X : List Int) (_ : ∀ x ∈ X, S x) (a m b : Int), b - a ≤ fu → 0 ≤ a → a < m → m < b → b ≤ n → ∀ w, Ext B0 w → Own B0.heap.size w T_int 1 p n c (X.map (.int .i64)) →
    FnP Try.prog F_slices_symMergeCmpFunc_int #[.slice p n c, .int .i64 a, .int .i64 m, .int .i64 b, f] w fun v w' => v = .tuple #[] ∧ ∃ Y, Sh B0 p n c X w Y w' := by
  intro fu
  induction fu with
  | zero => intro X _ a m b h1 h2 h3 h4; omega
  | succ fu ih =>
    intro X hS a m b hfu a0 ham hmb hbn w hx o
    have h0 := Sh.refl hx o
    have hp := h0.ne (by omega)
    have hat : ∀ k : Int, 0 ≤ k → k < n → cell w (pIdx p k 1) 0 = some (.int .i64 (X.getD k.toNat 0)) := fun k k0 k1 => h0.at k0 k1
    have hSk : ∀ k : Int, 0 ≤ k → k < n → S (X.getD k.toNat 0) := fun k k0 k1 => hS _ (getD_mem X 0 (by have := h0.len; omega))
    have hshr : ∀ i j : Int, iBit .shr .u64 (i + j) 1 = (i + j) / 2 := fun i j => shr1 _ _
    have hcmp : ∀ i j : Int, 0 ≤ i → i < n → 0 ≤ j → j < n → ∀ w6, Ext w w6 → FnVP Try.prog f [.int .i64 (X.getD i.toNat 0), .int .i64 (X.getD j.toNat 0)] w6 fun v w' => Ext w6 w' ∧ ∃ t : Int, v = .int .i64 t ∧ (t < 0 ↔ _) := fun i j i0 i1 j0 j1 w6 h6 => hf _ _ w6 (hx.trans h6) (hSk i i0 i1) (hSk j j0 j1)
    refine ok_slices_symMergeCmpFunc_int p n c a m b f w _ ?_
    unfold wp_slices_symMergeCmpFunc_int
    simp only [hshr]
    refine ⟨i64 (by omega), fun h1 => ?_, fun h1 => ⟨i64 (by omega), fun h2 => ?_, fun h2 => ⟨i64 (by omega), u64 (by omega), i64 (by omega), i64 (by omega), fun hmid => ⟨i64 (by omega), i64 (by omega), fun s r w' => w' = w ∧ (a + b) / 2 + m - b ≤ s ∧ s ≤ r ∧ r ≤ (a + b) / 2, fun s r _ => (r - s).toNat, ⟨rfl, by omega, by omega, by omega⟩, ?_⟩, fun hmid => ⟨i64 (by omega), fun s r w' => w' = w ∧ a ≤ s ∧ s ≤ r ∧ r ≤ m, fun s r _ => (r - s).toNat, ⟨rfl, by omega, by omega, by omega⟩, ?_⟩⟩⟩⟩
    · refine ⟨fun i j w' => w' = w ∧ m ≤ i ∧ i ≤ j ∧ j ≤ b, fun i j _ => (j - i).toNat, ⟨rfl, by omega, by omega, by omega⟩, ?_⟩
      rintro i j w3 ⟨rfl, hi0, hij, hj⟩
      refine ⟨fun hlt => ⟨i64 (by omega), u64 (by omega), i64 (by omega), hp, by omega, by omega, _, hat _ (by omega) (by omega), hp, by omega, by omega, _, hat _ (by omega) (by omega), fun w6 h6 => ?_⟩, fun hge => ?_⟩
      · obtain ⟨g, cap, hv, hF⟩ := hcmp ((i + j) / 2) a (by omega) (by omega) (by omega) (by omega) w6 h6
        exact ⟨g, cap, hv, hF.mono fun v w7 ⟨e7, t, hv, _⟩ => ⟨e7, t, hv, fun _ => ⟨i64 (by omega), ⟨rfl, by omega, by omega, by omega⟩, by simp only []; omega⟩, fun _ => ⟨⟨rfl, by omega, by omega, by omega⟩, by simp only []; omega⟩⟩⟩
      · refine ⟨fun k w' => a ≤ k ∧ ∃ Y, Sh B0 p n c X w3 Y w', fun k _ => (i - k).toNat, ⟨by omega, X, h0⟩, ?_⟩
        rintro k w6 ⟨hk0, Y, h⟩
        refine ⟨i64 (by omega), fun hlt => ⟨i64 (by omega), i64 (by omega), hp, by omega, by omega, _, h.at (by omega) (by omega), hp, by omega, by omega, _, h.at (by omega) (by omega), hp, by omega, by omega, ?_⟩, fun _ w7 h7 => ⟨trivial, Y, h.go h7⟩⟩
        exact h.swap (by omega) (by omega) (by omega) (by omega) fun w'' Z hZ => ⟨i64 (by omega), ⟨by omega, Z, hZ⟩, by simp only []; omega⟩
    · refine ⟨fun i j w' => w' = w ∧ a ≤ i ∧ i ≤ j ∧ j ≤ m, fun i j _ => (j - i).toNat, ⟨rfl, by omega, by omega, by omega⟩, ?_⟩
      rintro i j w3 ⟨rfl, hi0, hij, hj⟩
      refine ⟨fun hlt => ⟨i64 (by omega), u64 (by omega), i64 (by omega), hp, by omega, by omega, _, hat _ (by omega) (by omega), hp, by omega, by omega, _, hat _ (by omega) (by omega), fun w6 h6 => ?_⟩, fun hge => ?_⟩
      · obtain ⟨g, cap, hv, hF⟩ := hcmp m ((i + j) / 2) (by omega) (by omega) (by omega) (by omega) w6 h6
        exact ⟨g, cap, hv, hF.mono fun v w7 ⟨e7, t, hv, _⟩ => ⟨e7, t, hv, fun _ => ⟨i64 (by omega), ⟨rfl, by omega, by omega, by omega⟩, by simp only []; omega⟩, fun _ => ⟨⟨rfl, by omega, by omega, by omega⟩, by simp only []; omega⟩⟩⟩
      · refine ⟨fun k w' => k ≤ m ∧ ∃ Y, Sh B0 p n c X w3 Y w', fun k _ => (k - i).toNat, ⟨by omega, X, h0⟩, ?_⟩
        rintro k w6 ⟨hk0, Y, h⟩
        refine ⟨fun hlt => ⟨i64 (by omega), i64 (by omega), hp, by omega, by omega, _, h.at (by omega) (by omega), hp, by omega, by omega, _, h.at (by omega) (by omega), hp, by omega, by omega, ?_⟩, fun _ w7 h7 => ⟨trivial, Y, h.go h7⟩⟩
        exact h.swap (by omega) (by omega) (by omega) (by omega) fun w'' Z hZ => ⟨i64 (by omega), ⟨by omega, Z, hZ⟩, by simp only []; omega⟩
    all_goals
      rintro s r w3 ⟨rfl, hs0, hsr, hr⟩
      refine ⟨fun hlt => ⟨i64 (by omega), u64 (by omega), i64 (by omega), i64 (by omega), hp, by omega, by omega, _, hat _ (by omega) (by omega), hp, by omega, by omega, _, hat _ (by omega) (by omega), fun w6 h6 => ?_⟩, fun hge => ?_⟩
      · obtain ⟨g, cap, hv, hF⟩ := hcmp ((a + b) / 2 + m - 1 - (s + r) / 2) ((s + r) / 2) (by omega) (by omega) (by omega) (by omega) w6 h6
        exact ⟨g, cap, hv, hF.mono fun v w7 ⟨e7, t, hv, _⟩ => ⟨e7, t, hv, fun _ => ⟨i64 (by omega), ⟨rfl, by omega, by omega, by omega⟩, by simp only []; omega⟩, fun _ => ⟨⟨rfl, by omega, by omega, by omega⟩, by simp only []; omega⟩⟩⟩
      · have low : ∀ Y w5 w6, Sh B0 p n c X w3 Y w5 → Ext w5 w6 → a < s ∧ s < (a + b) / 2 → FnP Try.prog F_slices_symMergeCmpFunc_int #[.slice p n c, .int .i64 a, .int .i64 s, .int .i64 ((a + b) / 2), f] w6 fun v w' => v = .tuple #[] ∧ ∃ Z, Sh B0 p n c X w3 Z w' := fun Y w5 w6 h h6 hc => (ih Y (h.all hS) a s ((a + b) / 2) (by omega) a0 hc.1 hc.2 (by omega) w6 (h.ext.trans h6) (h.own.ext h6)).mono fun v w7 ⟨hv, Z, hZ⟩ => ⟨hv, Z, h.trans (hZ.come h6)⟩
        have high : ∀ Y w5 w6, Sh B0 p n c X w3 Y w5 → Ext w5 w6 → (a + b) / 2 < (a + b) / 2 + m - s ∧ (a + b) / 2 + m - s < b → FnP Try.prog F_slices_symMergeCmpFunc_int #[.slice p n c, .int .i64 ((a + b) / 2), .int .i64 ((a + b) / 2 + m - s), .int .i64 b, f] w6 fun v w' => v = .tuple #[] ∧ ∃ Z, Sh B0 p n c X w3 Z w' := fun Y w5 w6 h h6 hc => (ih Y (h.all hS) ((a + b) / 2) ((a + b) / 2 + m - s) b (by omega) (by omega) hc.1 hc.2 (by omega) w6 (h.ext.trans h6) (h.own.ext h6)).mono fun v w7 ⟨hv, Z, hZ⟩ => ⟨hv, Z, h.trans (hZ.come h6)⟩
        refine ⟨i64 (by omega), fun hrot w4 h4 => ?_, fun _ => ⟨fun hc1 w4 h4 => ?_, fun _ => ⟨fun hc2 w4 h4 => ?_, fun _ w4 h4 => ⟨trivial, X, h0.go h4⟩⟩⟩⟩
        · refine (rotate_k f X s m ((a + b) / 2 + m - s) (by omega) hrot.1 hrot.2 (by omega) hn w4 (hx.trans h4) (o.ext h4)).mono fun v w5 ⟨hv, Y, hY⟩ => ⟨hv, fun hc1 w6 h6 => ?_, fun _ => ⟨fun hc2 w6 h6 => ?_, fun _ w6 h6 => ⟨trivial, Y, (hY.come h4).go h6⟩⟩⟩
          · refine (low Y w5 w6 (hY.come h4) h6 hc1).mono fun v w7 ⟨hv, Z, hZ⟩ => ⟨hv, fun hc2 w8 h8 => ?_, fun _ w8 h8 => ⟨trivial, Z, hZ.go h8⟩⟩
            exact (high Z w7 w8 hZ h8 hc2).mono fun v w9 ⟨hv, U, hU⟩ => ⟨hv, fun w10 h10 => ⟨trivial, U, hU.go h10⟩⟩
          · exact (high Y w5 w6 (hY.come h4) h6 hc2).mono fun v w7 ⟨hv, U, hU⟩ => ⟨hv, fun w8 h8 => ⟨trivial, U, hU.go h8⟩⟩
        · refine (low X w3 w4 h0 h4 hc1).mono fun v w5 ⟨hv, Z, hZ⟩ => ⟨hv, fun hc2 w6 h6 => ?_, fun _ w6 h6 => ⟨trivial, Z, hZ.go h6⟩⟩
          exact (high Z w5 w6 hZ h6 hc2).mono fun v w7 ⟨hv, U, hU⟩ => ⟨hv, fun w8 h8 => ⟨trivial, U, hU.go h8⟩⟩
        · exact (high X w3 w4 h0 h4 hc2).mono fun v w5 ⟨hv, U, hU⟩ => ⟨hv, fun w6 h6 => ⟨trivial, U, hU.go h6⟩⟩

theorem sort_k {S : Int → Prop} {key : Int → Int} {f : Value} (hf : Cmps B0 S key f) (X : List Int) (hS : ∀ x ∈ X, S x) (hn : n ≤ 1000) (w : World) (hx : Ext B0 w) (o : Own B0.heap.size w T_int 1 p n c (X.map (.int .i64))) :
    FnP Try.prog F_slices_SortStableFunc_int_int #[.slice p n c, f] w fun v w' => v = .tuple #[] ∧ ∃ Y, Sh B0 p n c X w Y w' ∧ (n < 20 → Falls key Y 0 n) := by
  by_cases h20 : n < 20
  · exact (stable_k B0 S key f hf p n c X hS h20 w hx o).mono fun v w1 ⟨hv, e1, g1, Y, oY, hp, hfl⟩ => ⟨hv, Y, ⟨e1, g1, oY, hp⟩, fun _ => hfl⟩
  refine ok_slices_SortStableFunc_int_int p n c f w _ fun w0 h0 => ?_
  refine FnP.mono (K := fun v w' => v = .tuple #[] ∧ ∃ Y, Sh B0 p n c X w0 Y w') ?_ fun v w1 ⟨hv, Y, hY⟩ => ⟨hv, fun w2 h2 => ⟨rfl, Y, (hY.come h0).go h2, fun h => absurd h h20⟩⟩
  have hs0 := Sh.refl (hx.trans h0) (o.ext h0)
  have ins : ∀ (a b : Int) (Y : List Int) (w3 w4 : World), 0 ≤ a → a ≤ n → b ≤ n → Sh B0 p n c X w0 Y w3 → Ext w3 w4 → FnP Try.prog F_slices_insertionSortCmpFunc_int #[.slice p n c, .int .i64 a, .int .i64 b, f] w4 fun v w' => v = .tuple #[] ∧ ∃ Z, Sh B0 p n c X w0 Z w' := fun a b Y w3 w4 ha ha2 hb h h4 =>
    (insertion_k B0 S key f hf p n c Y (h.all hS) a b ha ha2 hb (by omega) w4 (h.ext.trans h4) (h.own.ext h4)).mono fun v w5 ⟨hv, e5, g5, Z, oZ, hp, _⟩ => ⟨hv, Z, h.trans (Sh.come h4 ⟨e5, g5, oZ, hp⟩)⟩
  have mrg : ∀ (a m b : Int) (Y : List Int) (w3 w4 : World), 0 ≤ a → a < m → m < b → b ≤ n → Sh B0 p n c X w0 Y w3 → Ext w3 w4 → FnP Try.prog F_slices_symMergeCmpFunc_int #[.slice p n c, .int .i64 a, .int .i64 m, .int .i64 b, f] w4 fun v w' => v = .tuple #[] ∧ ∃ Z, Sh B0 p n c X w0 Z w' := fun a m b Y w3 w4 ha ha2 hm hb h h4 =>
    (symMerge_k hf hn 1000 Y (h.all hS) a m b (by omega) ha ha2 hm hb w4 (h.ext.trans h4) (h.own.ext h4)).mono fun v w5 ⟨hv, Z, hZ⟩ => ⟨hv, Z, h.trans (hZ.come h4)⟩
  refine ok_slices_stableCmpFunc_int p n c n f w0 _ ⟨fun a b w' => b = a + 20 ∧ 0 ≤ a ∧ a ≤ n ∧ ∃ Y, Sh B0 p n c X w0 Y w', fun a _ _ => (n - a).toNat, ⟨rfl, by omega, by omega, X, hs0⟩, ?_⟩
  rintro a b w3 ⟨rfl, ha0, ha1, Y, hY⟩
  refine ⟨fun h w4 h4 => ?_, fun h w4 h4 => ?_⟩
  · exact (ins a (a + 20) Y w3 w4 ha0 ha1 h hY h4).mono fun v w5 ⟨hv, Z, hZ⟩ => ⟨hv, i64 (by omega), ⟨rfl, by omega, by omega, Z, hZ⟩, by simp only []; omega⟩
  refine (ins a n Y w3 w4 ha0 ha1 (Int.le_refl _) hY h4).mono fun v w5 ⟨hv, Z, hZ⟩ => ⟨hv, fun _ _ bs w' => 20 ≤ bs ∧ bs ≤ 4000 ∧ ∃ Y, Sh B0 p n c X w0 Y w', fun _ _ bs _ => (n - bs).toNat, ⟨by omega, by omega, Z, hZ⟩, ?_⟩
  clear hZ hY
  rintro a7 b8 bs w10 ⟨hb0, hb1, Y, hY⟩
  refine ⟨fun hlt => ⟨i64 (by omega), fun a b w' => b = a + 2 * bs ∧ 0 ≤ a ∧ a ≤ n ∧ ∃ Y, Sh B0 p n c X w0 Y w', fun a _ _ => (n - a).toNat, ⟨by omega, by omega, by omega, Y, hY⟩, ?_⟩, fun _ w11 h11 => ⟨rfl, Y, hY.go h11⟩⟩
  rintro a b w14 ⟨rfl, ha0, ha1, Y, hY⟩
  refine ⟨fun hle => ⟨i64 (by omega), fun w15 h15 => ?_⟩, fun hgt => ⟨i64 (by omega), fun hm w15 h15 => ?_, fun _ => ⟨i64 (by omega), ⟨by omega, by omega, Y, hY⟩, by simp only []; omega⟩⟩⟩
  · exact (mrg a (a + bs) (a + 2 * bs) Y w14 w15 ha0 (by omega) (by omega) hle hY h15).mono fun v w16 ⟨hv, Z, hZ⟩ => ⟨hv, i64 (by omega), i64 (by omega), ⟨rfl, by omega, by omega, Z, hZ⟩, by simp only []; omega⟩
  · exact (mrg a (a + bs) n Y w14 w15 ha0 (by omega) hm (Int.le_refl _) hY h15).mono fun v w16 ⟨hv, Z, hZ⟩ => ⟨hv, i64 (by omega), ⟨by omega, by omega, Z, hZ⟩, by simp only []; omega⟩
end
end Go.Proofs.Ytmdnjnflmijofaa
