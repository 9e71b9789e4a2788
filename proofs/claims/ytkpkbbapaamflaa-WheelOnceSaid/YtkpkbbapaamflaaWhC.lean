/- math/bits.Len64, and the library's sort of timers that stand in their order already: it turns nothing. -/
import Derived.Test.YtkpkbbapaamflaaWhA
import Derived.Test.YtkpkbbapaamflaaTxtC
set_option linter.unusedVariables false
set_option linter.unusedSimpArgs false
set_option maxRecDepth 10000
namespace Go.Proofs.Ytkpkbbapaamflaa
open Go.Sx Go.RowKit

theorem ru64 {x : Int} (h : 0 ≤ x ∧ x ≤ 18446744073709551615) : InR .u64 x := h
theorem u8r {x : Int} (h : 0 ≤ x ∧ x ≤ 255) : InR .u8 x := h
theorem shrU (x : Int) (k : Nat) (hk : k ≤ 64) : iBit .shr .u64 x (k : Int) = x / (2 ^ k : Int) := by
  show x.fdiv (2 ^ (min ((k : Int)).toNat IntKind.u64.bits)) = _
  rw [show min ((k : Int)).toNat IntKind.u64.bits = k by simp only [Int.toNat_natCast, IntKind.bits]; omega]
  exact Int.fdiv_eq_ediv_of_nonneg _ (Int.le_of_lt (Int.pow_pos (by decide)))
theorem shr8 (x : Int) : iBit .shr .u64 x 8 = x / 256 := shrU x 8 (by decide)
theorem shr16 (x : Int) : iBit .shr .u64 x 16 = x / 65536 := shrU x 16 (by decide)
theorem shr32 (x : Int) : iBit .shr .u64 x 32 = x / 4294967296 := shrU x 32 (by decide)
def okT (n t : Int) : Prop := (t = 1 ∧ 1 ≤ n ∧ n < 2) ∨ (t = 2 ∧ 2 ≤ n ∧ n < 4) ∨ (t = 3 ∧ 4 ≤ n ∧ n < 8) ∨ (t = 4 ∧ 8 ≤ n ∧ n < 16) ∨ (t = 5 ∧ 16 ≤ n ∧ n < 32) ∨ (t = 6 ∧ 32 ≤ n ∧ n < 64) ∨ (t = 7 ∧ 64 ≤ n ∧ n < 128) ∨ (t = 8 ∧ 128 ≤ n ∧ n < 256)
instance (n t : Int) : Decidable (okT n t) := by unfold okT; infer_instance
theorem tab_n : ∀ n : Nat, n < 256 → 0 < n → okT (n : Int) (sAt (⟨#[0, 1, 2, 2, 3, 3, 3, 3, 4, 4, 4, 4, 4, 4, 4, 4, 5, 5, 5, 5, 5, 5, 5, 5, 5, 5, 5, 5, 5, 5, 5, 5, 6, 6, 6, 6, 6, 6, 6, 6, 6, 6, 6, 6, 6, 6, 6, 6, 6, 6, 6, 6, 6, 6, 6, 6, 6, 6, 6, 6, 6, 6, 6, 6, 7, 7, 7, 7, 7, 7, 7, 7, 7, 7, 7, 7, 7, 7, 7, 7, 7, 7, 7, 7, 7, 7, 7, 7, 7, 7, 7, 7, 7, 7, 7, 7, 7, 7, 7, 7, 7, 7, 7, 7, 7, 7, 7, 7, 7, 7, 7, 7, 7, 7, 7, 7, 7, 7, 7, 7, 7, 7, 7, 7, 7, 7, 7, 7, 8, 8, 8, 8, 8, 8, 8, 8, 8, 8, 8, 8, 8, 8, 8, 8, 8, 8, 8, 8, 8, 8, 8, 8, 8, 8, 8, 8, 8, 8, 8, 8, 8, 8, 8, 8, 8, 8, 8, 8, 8, 8, 8, 8, 8, 8, 8, 8, 8, 8, 8, 8, 8, 8, 8, 8, 8, 8, 8, 8, 8, 8, 8, 8, 8, 8, 8, 8, 8, 8, 8, 8, 8, 8, 8, 8, 8, 8, 8, 8, 8, 8, 8, 8, 8, 8, 8, 8, 8, 8, 8, 8, 8, 8, 8, 8, 8, 8, 8, 8, 8, 8, 8, 8, 8, 8, 8, 8, 8, 8, 8, 8, 8, 8, 8, 8, 8, 8, 8, 8, 8, 8, 8, 8, 8, 8, 8, 8]⟩ : ByteArray) (n : Int)) := by
  decide +kernel
theorem tab_k (i : Int) (h0 : 0 < i) (h1 : i < 256) : ∃ t, sAt (⟨#[0, 1, 2, 2, 3, 3, 3, 3, 4, 4, 4, 4, 4, 4, 4, 4, 5, 5, 5, 5, 5, 5, 5, 5, 5, 5, 5, 5, 5, 5, 5, 5, 6, 6, 6, 6, 6, 6, 6, 6, 6, 6, 6, 6, 6, 6, 6, 6, 6, 6, 6, 6, 6, 6, 6, 6, 6, 6, 6, 6, 6, 6, 6, 6, 7, 7, 7, 7, 7, 7, 7, 7, 7, 7, 7, 7, 7, 7, 7, 7, 7, 7, 7, 7, 7, 7, 7, 7, 7, 7, 7, 7, 7, 7, 7, 7, 7, 7, 7, 7, 7, 7, 7, 7, 7, 7, 7, 7, 7, 7, 7, 7, 7, 7, 7, 7, 7, 7, 7, 7, 7, 7, 7, 7, 7, 7, 7, 7, 8, 8, 8, 8, 8, 8, 8, 8, 8, 8, 8, 8, 8, 8, 8, 8, 8, 8, 8, 8, 8, 8, 8, 8, 8, 8, 8, 8, 8, 8, 8, 8, 8, 8, 8, 8, 8, 8, 8, 8, 8, 8, 8, 8, 8, 8, 8, 8, 8, 8, 8, 8, 8, 8, 8, 8, 8, 8, 8, 8, 8, 8, 8, 8, 8, 8, 8, 8, 8, 8, 8, 8, 8, 8, 8, 8, 8, 8, 8, 8, 8, 8, 8, 8, 8, 8, 8, 8, 8, 8, 8, 8, 8, 8, 8, 8, 8, 8, 8, 8, 8, 8, 8, 8, 8, 8, 8, 8, 8, 8, 8, 8, 8, 8, 8, 8, 8, 8, 8, 8, 8, 8, 8, 8, 8, 8, 8, 8]⟩ : ByteArray) i = t ∧ okT i t := by
  obtain ⟨n, rfl⟩ := Int.eq_ofNat_of_zero_le (Int.le_of_lt h0)
  exact ⟨_, rfl, tab_n n (by omega) (by omega)⟩
theorem tab_size : (((⟨#[0, 1, 2, 2, 3, 3, 3, 3, 4, 4, 4, 4, 4, 4, 4, 4, 5, 5, 5, 5, 5, 5, 5, 5, 5, 5, 5, 5, 5, 5, 5, 5, 6, 6, 6, 6, 6, 6, 6, 6, 6, 6, 6, 6, 6, 6, 6, 6, 6, 6, 6, 6, 6, 6, 6, 6, 6, 6, 6, 6, 6, 6, 6, 6, 7, 7, 7, 7, 7, 7, 7, 7, 7, 7, 7, 7, 7, 7, 7, 7, 7, 7, 7, 7, 7, 7, 7, 7, 7, 7, 7, 7, 7, 7, 7, 7, 7, 7, 7, 7, 7, 7, 7, 7, 7, 7, 7, 7, 7, 7, 7, 7, 7, 7, 7, 7, 7, 7, 7, 7, 7, 7, 7, 7, 7, 7, 7, 7, 8, 8, 8, 8, 8, 8, 8, 8, 8, 8, 8, 8, 8, 8, 8, 8, 8, 8, 8, 8, 8, 8, 8, 8, 8, 8, 8, 8, 8, 8, 8, 8, 8, 8, 8, 8, 8, 8, 8, 8, 8, 8, 8, 8, 8, 8, 8, 8, 8, 8, 8, 8, 8, 8, 8, 8, 8, 8, 8, 8, 8, 8, 8, 8, 8, 8, 8, 8, 8, 8, 8, 8, 8, 8, 8, 8, 8, 8, 8, 8, 8, 8, 8, 8, 8, 8, 8, 8, 8, 8, 8, 8, 8, 8, 8, 8, 8, 8, 8, 8, 8, 8, 8, 8, 8, 8, 8, 8, 8, 8, 8, 8, 8, 8, 8, 8, 8, 8, 8, 8, 8, 8, 8, 8, 8, 8, 8, 8]⟩ : ByteArray)).size : Int) = 256 := by rfl

/-- How far a number may be moved up. -/
def Up (y : Int) (s : Nat) : Prop := 34 ≤ s ∧ s ≤ 63 ∧ y * 2 ^ s < 18446744073709551616
theorem Len64_k (y : Int) (hy : 1 ≤ y ∧ y ≤ 1000000000) (w : World) : FnP Try.prog F_math_bits_Len64 #[.int .u64 y] w fun v w' => Ext w w' ∧ ∃ s : Nat, v = .int .i64 (64 - s) ∧ Up y s := by
  refine ok_math_bits_Len64 y w _ ?_
  unfold wp_math_bits_Len64
  simp only [shr8, shr16, shr32, tab_size]
  refine ⟨fun h => by omega, fun _ => ⟨fun h1 => ⟨i64 (by omega), fun h2 => ?_, fun h2 => ?_⟩, fun h1 => ⟨fun h2 => ?_, fun h2 => ?_⟩⟩⟩
  · obtain ⟨t, ht, hk⟩ := tab_k (y / 65536 / 256) (by omega) (by omega)
    rw [ht]
    unfold okT at hk
    refine ⟨i64 (by omega), u8r (by omega), by omega, by omega, i64 (by omega), i64 (by omega), fun w0 h0 => ⟨h0, (64 - (0 + 16 + 8 + t)).toNat, by congr 1; omega, by omega, by omega, ?_⟩⟩
    clear ht; rcases hk with ⟨rfl, h⟩ | ⟨rfl, h⟩ | ⟨rfl, h⟩ | ⟨rfl, h⟩ | ⟨rfl, h⟩ | ⟨rfl, h⟩ | ⟨rfl, h⟩ | ⟨rfl, h⟩ <;> simp <;> omega
  · obtain ⟨t, ht, hk⟩ := tab_k (y / 65536) (by omega) (by omega)
    rw [ht]
    unfold okT at hk
    refine ⟨u8r (by omega), by omega, by omega, i64 (by omega), i64 (by omega), fun w0 h0 => ⟨h0, (64 - (0 + 16 + t)).toNat, by congr 1; omega, by omega, by omega, ?_⟩⟩
    clear ht; rcases hk with ⟨rfl, h⟩ | ⟨rfl, h⟩ | ⟨rfl, h⟩ | ⟨rfl, h⟩ | ⟨rfl, h⟩ | ⟨rfl, h⟩ | ⟨rfl, h⟩ | ⟨rfl, h⟩ <;> simp <;> omega
  · obtain ⟨t, ht, hk⟩ := tab_k (y / 256) (by omega) (by omega)
    rw [ht]
    unfold okT at hk
    refine ⟨i64 (by omega), u8r (by omega), by omega, by omega, i64 (by omega), i64 (by omega), fun w0 h0 => ⟨h0, (64 - (0 + 8 + t)).toNat, by congr 1; omega, by omega, by omega, ?_⟩⟩
    clear ht; rcases hk with ⟨rfl, h⟩ | ⟨rfl, h⟩ | ⟨rfl, h⟩ | ⟨rfl, h⟩ | ⟨rfl, h⟩ | ⟨rfl, h⟩ | ⟨rfl, h⟩ | ⟨rfl, h⟩ <;> simp <;> omega
  · obtain ⟨t, ht, hk⟩ := tab_k y (by omega) (by omega)
    rw [ht]
    unfold okT at hk
    refine ⟨u8r (by omega), by omega, by omega, i64 (by omega), i64 (by omega), fun w0 h0 => ⟨h0, (64 - (0 + t)).toNat, by congr 1; omega, by omega, by omega, ?_⟩⟩
    clear ht; rcases hk with ⟨rfl, h⟩ | ⟨rfl, h⟩ | ⟨rfl, h⟩ | ⟨rfl, h⟩ | ⟨rfl, h⟩ | ⟨rfl, h⟩ | ⟨rfl, h⟩ | ⟨rfl, h⟩ <;> simp <;> omega

theorem len_k (y : Int) (hy : 1 ≤ y ∧ y ≤ 1000000000) (w : World) : FnP Try.prog F_math_bits_Len #[.int .u64 y] w fun v w' => Ext w w' ∧ ∃ n : Int, v = .int .i64 n ∧ n ≠ 0 :=
  ok_math_bits_Len y w _ fun w0 h0 => (Len64_k y hy w0).mono fun v w1 ⟨e1, s, hv, hs⟩ => ⟨e1, _, hv, fun w3 h3 => ⟨h3, _, rfl, by have := hs.1; have := hs.2.1; omega⟩⟩

/-! ### The comparison -/

theorem compare_k (x y : Int) (w : World) : FnP Try.prog F_cmp_Compare_int #[.int .i64 x, .int .i64 y] w fun v w' => Ext w w' ∧ ∃ r, v = .int .i64 r ∧ (r < 0 ↔ x < y) := by
  have nan : ∀ (x : Int) (w : World), FnP Try.prog F_cmp_isNaN_int #[.int .i64 x] w fun v w' => Ext w w' ∧ v = .bool false := fun x w => ok_cmp_isNaN_int x w _ fun w0 h0 => ⟨h0, by simp⟩
  refine ok_cmp_Compare_int x y w _ fun w0 h0 => (nan x w0).mono fun v w1 ⟨e1, hv⟩ => ⟨e1, _, hv, fun w3 h3 => (nan y w3).mono fun v w4 ⟨e4, hv⟩ => ⟨e4, _, hv, fun hc => (by cases hc), fun _ => ⟨fun hc => (by cases hc), fun _ => ⟨fun h w6 h6 => ⟨h6, _, rfl, by omega⟩, fun h => ⟨fun h' w6 h6 => ⟨h6, _, rfl, by omega⟩, fun h' w6 h6 => ⟨h6, _, rfl, by omega⟩⟩⟩⟩⟩⟩
theorem FnVP.mono {P : Program} {v : Value} {args : List Value} {w : World} {K K' : Value → World → Prop} (h : FnVP P v args w K) (hk : ∀ v w', K v w' → K' v w') : FnVP P v args w K' := by
  obtain ⟨f, cap, hv, hf⟩ := h
  exact ⟨f, cap, hv, hf.mono hk⟩
def cmpV : Value := .func (.func 23) #[] #[]
theorem cmp_k (x y : Tm) (w : World) : FnVP Try.prog cmpV [.agg #[.int .i64 x.t, .int .i64 x.id, .int .i64 x.bn], .agg #[.int .i64 y.t, .int .i64 y.id, .int .i64 y.bn]] w fun v w' => Ext w w' ∧ ∃ r, v = .int .i64 r ∧ (r < 0 ↔ x.bn < y.bn) := by
  refine ⟨23, #[], rfl, ?_⟩
  exact ok_wheel_Wheel_Advance_1 x.t x.id x.bn y.t y.id y.bn w _ fun b0 _ b1 _ w2 h2 => (compare_k x.bn y.bn w2).mono fun v w3 ⟨e3, r, hv, hr⟩ => ⟨e3, r, hv, fun w5 h5 => ⟨h5, r, rfl, hr⟩⟩

/-- Rows of timers that rise. -/
structure Asc (w : World) (p : Option Addr) (l : List Tm) : Prop where
  r : Recs 3 tmc w p l
  up : ∀ i j, i ≤ j → j < l.length → (l.getD i ⟨0, 0, 0⟩).bn ≤ (l.getD j ⟨0, 0, 0⟩).bn
section
variable {w : World} {p : Option Addr} {c : Nat} {l : List Tm}
theorem Asc.ext {w' : World} (h : Asc w p l) (e : Ext w w') : Asc w' p l := ⟨h.r.ext e, h.up⟩
abbrev el (l : List Tm) (i : Int) : Tm := l.getD i.toNat ⟨0, 0, 0⟩
theorem Asc.at (h : Asc w p l) {i : Int} (h0 : 0 ≤ i) (h1 : i < l.length) : p ≠ none ∧ pIdx p i 3 ≠ none ∧ cell w (pIdx p i 3) 0 = some (.int .i64 (el l i).t) ∧ cell w (pIdx p i 3) 1 = some (.int .i64 (el l i).id) ∧ cell w (pIdx p i 3) 2 = some (.int .i64 (el l i).bn) := by
  have hx : l[i.toNat]? = some (el l i) := by
    have : i.toNat < l.length := by omega
    simp [el, List.getD_eq_getElem?_getD, this]
  have hp := h.r.ne (List.mem_of_getElem? hx) (by simp [tmc])
  exact ⟨hp, pIdx_ne hp, h.r.at h0 hx (j := 0) rfl, h.r.at h0 hx (j := 1) rfl, h.r.at h0 hx (j := 2) rfl⟩
theorem Asc.le (h : Asc w p l) {i j : Int} (h0 : 0 ≤ i) (hij : i ≤ j) (h1 : j < l.length) : ¬ (el l j).bn < (el l i).bn := by
  have := h.up i.toNat j.toNat (by omega) (by omega)
  unfold el; omega

theorem ins_k (h : Asc w p l) (h63 : l.length ≤ 100000) : FnP Try.prog F_slices_insertionSortCmpFunc_wheel_timer #[.slice p l.length c, .int .i64 0, .int .i64 l.length, cmpV] w fun v w' => Ext w w' ∧ v = .tuple #[] := by
  refine ok_slices_insertionSortCmpFunc_wheel_timer p l.length c 0 l.length cmpV w _ ⟨i64 (by omega), fun i w' => 1 ≤ i ∧ (i ≤ l.length ∨ i = 1) ∧ w' = w, fun i _ => (l.length + 1 - i).toNat, ⟨by omega, .inr rfl, rfl⟩, ?_⟩
  rintro i w2 ⟨hi, hil, rfl⟩
  refine ⟨fun hlt => ⟨fun j w' => j = i ∧ w' = w2, fun _ _ => 0, ⟨rfl, rfl⟩, ?_⟩, fun hge w3 h3 => ⟨h3, rfl⟩⟩
  rintro j w5 ⟨rfl, rfl⟩
  obtain ⟨a1, a2, a3, a4, a5⟩ := h.at (i := j) (by omega) hlt
  obtain ⟨b1, b2, b3, b4, b5⟩ := h.at (i := j - 1) (by omega) (by omega)
  refine ⟨fun _ => a1, fun _ => by omega, fun _ => hlt, fun _ => ⟨a2, _, a3, _, a4, _, a5, i64 (by omega), a1, by omega, by omega, b2, _, b3, _, b4, _, b5, fun w12 h12 => ?_⟩, fun hle => by omega⟩
  refine FnVP.mono (cmp_k (el l _) (el l _) w12) fun v w13 ⟨e13, r, hv, hr⟩ => ⟨e13, r, hv, fun hn => ?_, fun hn => ⟨i64 (by omega), ⟨by omega, .inl (by omega), rfl⟩, by simp only []; omega⟩⟩
  exact absurd (hr.1 hn) (h.le (by omega) (by omega) hlt)

theorem part_k (h : Asc w p l) (h63 : l.length ≤ 100000) (h1 : 1 ≤ l.length) : FnP Try.prog F_slices_partialInsertionSortCmpFunc_wheel_timer #[.slice p l.length c, .int .i64 0, .int .i64 l.length, cmpV] w fun v w' => Ext w w' ∧ v = .bool true := by
  refine ok_slices_partialInsertionSortCmpFunc_wheel_timer p l.length c 0 l.length cmpV w _ ⟨i64 (by omega), fun i j w' => i = 1 ∧ j = 0 ∧ w' = w, fun _ _ _ => 0, ⟨rfl, rfl, rfl⟩, ?_⟩
  rintro i j w3 ⟨rfl, rfl, rfl⟩
  refine ⟨fun _ => ⟨fun i w' => 1 ≤ i ∧ i ≤ l.length ∧ w' = w3, fun i _ => (l.length + 1 - i).toNat, ⟨by omega, by omega, rfl⟩, ?_⟩, fun hc => by omega⟩
  rintro i w6 ⟨hi, hil, rfl⟩
  refine ⟨fun hlt => (h.at (i := i) (by omega) hlt).1, fun _ => by omega, fun hlt => hlt, fun hlt => ?_, fun hge => ⟨fun _ w16 h16 => ⟨h16, rfl⟩, fun hc => by omega⟩⟩
  obtain ⟨a1, a2, a3, a4, a5⟩ := h.at (i := i) (by omega) hlt
  obtain ⟨b1, b2, b3, b4, b5⟩ := h.at (i := i - 1) (by omega) (by omega)
  refine ⟨a2, _, a3, _, a4, _, a5, i64 (by omega), a1, by omega, by omega, b2, _, b3, _, b4, _, b5, fun w12 h12 => ?_⟩
  refine FnVP.mono (cmp_k (el l _) (el l _) w12) fun v w13 ⟨e13, r, hv, hr⟩ => ⟨e13, r, hv, fun hn => ⟨i64 (by omega), ⟨by omega, by omega, rfl⟩, by simp only []; omega⟩, fun hn => ?_⟩
  exact absurd (hr.1 hn) (h.le (by omega) (by omega) hlt)

theorem order_k (h : Asc w p l) {a b : Int} (a0 : 0 ≤ a) (hab : a ≤ b) (hb : b < l.length) (s : Option Addr) : FnP Try.prog F_slices_order2CmpFunc_wheel_timer #[.slice p l.length c, .int .i64 a, .int .i64 b, .pointer s, cmpV] w fun v w' => Ext w w' ∧ v = .tuple #[.int .i64 a, .int .i64 b] := by
  obtain ⟨a1, a2, a3, a4, a5⟩ := h.at (i := b) (by omega) hb
  obtain ⟨b1, b2, b3, b4, b5⟩ := h.at (i := a) a0 (by omega)
  refine ok_slices_order2CmpFunc_wheel_timer p l.length c a b s cmpV w _ ⟨a1, by omega, hb, a2, _, a3, _, a4, _, a5, a1, a0, by omega, b2, _, b3, _, b4, _, b5, fun w6 h6 => ?_⟩
  refine FnVP.mono (cmp_k (el l _) (el l _) w6) fun v w7 ⟨e7, r, hv, hr⟩ => ⟨e7, r, hv, fun hn => absurd (hr.1 hn) (h.le a0 hab hb), fun hn w9 h9 => ⟨h9, rfl⟩⟩
theorem median_k (h : Asc w p l) {a b d : Int} (a0 : 0 ≤ a) (hab : a ≤ b) (hbd : b ≤ d) (hd : d < l.length) (s : Option Addr) : FnP Try.prog F_slices_medianCmpFunc_wheel_timer #[.slice p l.length c, .int .i64 a, .int .i64 b, .int .i64 d, .pointer s, cmpV] w fun v w' => Ext w w' ∧ v = .int .i64 b := by
  refine ok_slices_medianCmpFunc_wheel_timer p l.length c a b d s cmpV w _ fun w0 h0 => ?_
  refine (order_k (h.ext h0) a0 hab (by omega) s).mono fun v w1 ⟨e1, hv⟩ => ⟨_, _, hv, fun w4 h4 => ?_⟩
  have x4 := (h0.trans e1).trans h4
  refine (order_k (h.ext x4) (by omega) hbd hd s).mono fun v w5 ⟨e5, hv⟩ => ⟨_, _, hv, fun w8 h8 => ?_⟩
  have x8 := (x4.trans e5).trans h8
  exact (order_k (h.ext x8) a0 hab (by omega) s).mono fun v w9 ⟨e9, hv⟩ => ⟨_, _, hv, fun w12 h12 => ⟨(x8.trans e9).trans h12, rfl⟩⟩
theorem adj_k (h : Asc w p l) (h63 : l.length ≤ 100000) {a : Int} (a0 : 1 ≤ a) (ha : a + 1 < l.length) (s : Option Addr) : FnP Try.prog F_slices_medianAdjacentCmpFunc_wheel_timer #[.slice p l.length c, .int .i64 a, .pointer s, cmpV] w fun v w' => Ext w w' ∧ v = .int .i64 a := by
  refine ok_slices_medianAdjacentCmpFunc_wheel_timer p l.length c a s cmpV w _ ⟨i64 (by omega), i64 (by omega), fun w0 h0 => ?_⟩
  exact (median_k (h.ext h0) (by omega) (by omega) (by omega) (by omega) s).mono fun v w1 ⟨e1, hv⟩ => ⟨_, hv, fun w3 h3 => ⟨(h0.trans e1).trans h3, rfl⟩⟩
theorem pivot_k (h : Asc w p l) (h63 : l.length ≤ 100000) (h12 : 12 < l.length) : FnP Try.prog F_slices_choosePivotCmpFunc_wheel_timer #[.slice p l.length c, .int .i64 0, .int .i64 l.length, cmpV] w fun v w' => Ext w w' ∧ ∃ t, v = .tuple #[.int .i64 t, .int .i64 1] ∧ 0 ≤ t ∧ t < l.length := by
  refine ok_slices_choosePivotCmpFunc_wheel_timer p l.length c 0 l.length cmpV w _ ⟨i64 (by omega), fun w0 h0 => new_one rfl fun s w1 e1 c1 hs _ => ?_⟩
  rw [show ((l.length : Int) - 0) = l.length by omega, td (by omega)]
  have x1 := h0.trans e1
  refine ⟨i64 (by omega), i64 (by omega), i64 (by omega), i64 (by omega), i64 (by omega), i64 (by omega), i64 (by omega), i64 (by omega), i64 (by omega), fun _ => ⟨fun h50 w2 h2 => ?_, fun h50 w2 h2 => ?_⟩, fun hc => by omega⟩
  · have x2 := x1.trans h2
    refine (adj_k (h.ext x2) h63 (by omega) (by omega) s).mono fun v w3 ⟨e3, hv⟩ => ⟨_, hv, fun w5 h5 => ?_⟩
    have x5 := (x2.trans e3).trans h5
    refine (adj_k (h.ext x5) h63 (by omega) (by omega) s).mono fun v w6 ⟨e6, hv⟩ => ⟨_, hv, fun w8 h8 => ?_⟩
    have x8 := (x5.trans e6).trans h8
    refine (adj_k (h.ext x8) h63 (by omega) (by omega) s).mono fun v w9 ⟨e9, hv⟩ => ⟨_, hv, fun w11 h11 => ?_⟩
    have x11 := (x8.trans e9).trans h11
    refine (median_k (h.ext x11) (by omega) (by omega) (by omega) (by omega) s).mono fun v w12 ⟨e12, hv⟩ => ⟨_, hv, 0, ?_, fun _ w15 h15 => ⟨(x11.trans e12).trans h15, _, rfl, by omega, by omega⟩, fun hc => absurd rfl hc⟩
    exact ext_cell (((((((h2.trans e3).trans h5).trans e6).trans h8).trans e9).trans h11).trans e12) c1
  · have x2 := x1.trans h2
    refine (median_k (h.ext x2) (by omega) (by omega) (by omega) (by omega) s).mono fun v w3 ⟨e3, hv⟩ => ⟨_, hv, 0, ext_cell (h2.trans e3) c1, fun _ w6 h6 => ⟨(x2.trans e3).trans h6, _, rfl, by omega, by omega⟩, fun hc => absurd rfl hc⟩
theorem pdq_k (h : Asc w p l) (h63 : l.length ≤ 100000) (h1 : 1 ≤ l.length) {lim : Int} (hl : lim ≠ 0) : FnP Try.prog F_slices_pdqsortCmpFunc_wheel_timer #[.slice p l.length c, .int .i64 0, .int .i64 l.length, .int .i64 lim, cmpV] w fun v w' => Ext w w' ∧ v = .tuple #[] := by
  refine ok_slices_pdqsortCmpFunc_wheel_timer p l.length c 0 l.length lim cmpV w _ ⟨fun lm wp a wb b w' => lm = lim ∧ wp = true ∧ a = 0 ∧ wb = true ∧ b = l.length ∧ w' = w, fun _ _ _ _ _ _ => 0, ⟨rfl, rfl, rfl, rfl, rfl, rfl⟩, ?_⟩
  rintro lm wp a wb b w6 ⟨rfl, rfl, rfl, rfl, rfl, rfl⟩
  refine ⟨i64 (by omega), fun _ w7 h7 => (ins_k (h.ext h7) h63).mono fun v w8 ⟨e8, hv⟩ => ⟨e8, hv, fun w9 h9 => ⟨h9, rfl⟩⟩, fun h12 => ⟨fun hc => absurd hc hl, fun _ => ⟨fun hc => (by cases hc), fun _ w7 h7 => ?_⟩⟩⟩
  refine (pivot_k (h.ext h7) h63 (by omega)).mono fun v w8 ⟨e8, t, hv, _, _⟩ => ⟨e8, t, 1, hv, fun hc => absurd hc (by decide), fun _ => ⟨fun _ w11 h11 => ?_, fun hc => ?_⟩⟩
  · exact (part_k (h.ext h11) h63 h1).mono fun v w12 ⟨e12, hv⟩ => ⟨e12, true, hv, fun _ w14 h14 => ⟨h14, rfl⟩, fun hc => by cases hc⟩
  · rcases hc with (hc | hc) | hc
    · cases hc
    · cases hc
    · exact absurd rfl hc
theorem sort_k (h : Asc w p l) (h63 : l.length ≤ 100000) (h1 : 1 ≤ l.length) : FnP Try.prog F_slices_SortFunc_wheel_timer_wheel_timer #[.slice p l.length c, cmpV] w fun v w' => Ext w w' ∧ v = .tuple #[] := by
  refine ok_slices_SortFunc_wheel_timer_wheel_timer p l.length c cmpV w _ ⟨ru64 (by omega), fun w0 h0 => ?_⟩
  refine (len_k l.length (by omega) w0).mono fun v w1 ⟨e1, n, hv, hn⟩ => ⟨e1, n, hv, fun w3 h3 => ?_⟩
  exact (pdq_k (h.ext h3) h63 h1 hn).mono fun v w4 ⟨e4, hv⟩ => ⟨hv, fun w5 h5 => ⟨(h3.trans e4).trans h5, rfl⟩⟩
end
end Go.Proofs.Ytkpkbbapaamflaa
