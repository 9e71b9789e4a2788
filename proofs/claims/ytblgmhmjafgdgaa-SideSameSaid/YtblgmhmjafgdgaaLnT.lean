/- The stable sort: blocks of twenty, then merged ones. -/
import Derived.Test.YtblgmhmjafgdgaaLnS
set_option linter.unusedVariables false
set_option linter.unusedSimpArgs false
namespace Go.Proofs.Ytblgmhmjafgdgaa
open Go.Sx Go.RowKit

/-- The blocks that begin from lo on, below hi, fall. -/
def Blk (key : Int → Int) (Y : List Int) (bs lo hi n : Int) : Prop := ∀ t : Int, 0 ≤ t → lo ≤ t * bs → t * bs < hi → Falls key Y (t * bs) (min (t * bs + bs) n)
theorem mul_step {t T B : Int} (hB : 0 ≤ B) (h : t < T) : t * B + B ≤ T * B := by
  have := Int.mul_le_mul_of_nonneg_right (show t + 1 ≤ T by omega) hB
  rw [Int.add_mul] at this
  omega
theorem mul_lt_inv {t T B : Int} (hB : 0 ≤ B) (h : t * B < T * B) : t < T := Int.lt_of_mul_lt_mul_right h hB
section
variable {B0 : World} {G : World → Prop} {p : Option Addr} {n c : Nat}
/-- One more block is in order: those ahead of it stay. -/
theorem Blk.step {key : Int → Int} {Y Z : List Int} {bs T n b : Int} (hb : 0 < bs) (hT : 0 ≤ T) (h : Blk key Y bs 0 (T * bs) n) (o : Out Y Z (T * bs) b) (f : Falls key Z (T * bs) (min (T * bs + bs) n)) {hi : Int} (hh : hi ≤ (T + 1) * bs) : Blk key Z bs 0 hi n := fun t t0 h1 h2 => by
  rcases Int.lt_trichotomy t T with hl | hl | hl
  · have := mul_step (by omega : 0 ≤ bs) hl
    have h0 : 0 ≤ t * bs := Int.mul_nonneg t0 (by omega)
    have ht : t * bs < T * bs := by omega
    exact (h t t0 h1 ht).out o h0 (by omega)
  · rw [hl]; exact f
  · have := mul_step (by omega : 0 ≤ bs) (show T < t by omega)
    rw [Int.add_mul] at hh
    omega

theorem sort_k (hG : Keeps G p) {S : Int → Prop} {key : Int → Int} {f : Value} (hf : Cmps G S key f) (X : List Int) (hS : ∀ x ∈ X, S x) (hn : n ≤ 1000) (w : World) (hx : Ext B0 w) (g : G w) (o : Own B0.heap.size w T_int 1 p n c (X.map (.int .i64))) :
    FnP Try.prog F_slices_SortStableFunc_int_int #[.slice p n c, f] w fun v w' => v = .tuple #[] ∧ ∃ Y, Sh B0 G p n c X w Y w' ∧ Falls key Y 0 n := by
  refine ok_slices_SortStableFunc_int_int p n c f w _ fun w0 h0 => ?_
  have hs0 := (Sh.refl hx g o).go hG h0
  refine FnP.mono (K := fun v w' => v = .tuple #[] ∧ ∃ Y, Sh B0 G p n c X w Y w' ∧ Falls key Y 0 n) ?_ fun v w1 ⟨hv, Y, hY, hf⟩ => ⟨hv, fun w2 h2 => ⟨rfl, Y, hY.go hG h2, hf⟩⟩
  have ins : ∀ (a b : Int) (Y : List Int) (w3 w4 : World), 0 ≤ a → a ≤ n → b ≤ n → Sh B0 G p n c X w Y w3 → Ext w3 w4 → FnP Try.prog F_slices_insertionSortCmpFunc_int #[.slice p n c, .int .i64 a, .int .i64 b, f] w4 fun v w' => v = .tuple #[] ∧ ∃ Z, Sh B0 G p n c X w Z w' ∧ Out Y Z a b ∧ Falls key Z a b := fun a b Y w3 w4 ha ha2 hb h h4 => by
    have h' := h.go hG h4
    exact (insertion_k hG hf Y (h.all hS) a b ha ha2 hb hn w4 h'.ext h'.g h'.own).mono fun v w5 ⟨hv, Z, hZ, z1, z2⟩ => ⟨hv, Z, h'.trans hZ, z1, z2⟩
  have mrg : ∀ (a m b : Int) (Y : List Int) (w3 w4 : World), 0 ≤ a → a < m → m < b → b ≤ n → Falls key Y a m → Falls key Y m b → Sh B0 G p n c X w Y w3 → Ext w3 w4 → FnP Try.prog F_slices_symMergeCmpFunc_int #[.slice p n c, .int .i64 a, .int .i64 m, .int .i64 b, f] w4 fun v w' => v = .tuple #[] ∧ ∃ Z, Sh B0 G p n c X w Z w' ∧ Out Y Z a b ∧ Falls key Z a b := fun a m b Y w3 w4 ha ha2 hm hb f1 f2 h h4 => by
    have h' := h.go hG h4
    exact (symMerge_k hG hf hn 1000 Y (h.all hS) a m b (by omega) ha ha2 hm hb f1 f2 w4 h'.ext h'.g h'.own).mono fun v w5 ⟨hv, Z, hZ, z1, z2⟩ => ⟨hv, Z, h'.trans hZ, z2.1, z1⟩
  refine ok_slices_stableCmpFunc_int p n c n f w0 _ ⟨fun a b w' => b = a + 20 ∧ 0 ≤ a ∧ a ≤ n ∧ ∃ Y T, Sh B0 G p n c X w Y w' ∧ a = T * 20 ∧ 0 ≤ T ∧ Blk key Y 20 0 a n, fun a _ _ => (n - a).toNat, ⟨rfl, by omega, by omega, X, 0, hs0, rfl, Int.le_refl _, fun t t0 h1 h2 => by omega⟩, ?_⟩
  rintro a b w3 ⟨rfl, ha0, ha1, Y, T, hY, haT, hT, hblk⟩
  refine ⟨fun h w4 h4 => ?_, fun h w4 h4 => ?_⟩
  · exact (ins a (a + 20) Y w3 w4 ha0 ha1 h hY h4).mono fun v w5 ⟨hv, Z, hZ, z1, z2⟩ => ⟨hv, i64 (by omega), ⟨rfl, by omega, by omega, Z, T + 1, hZ, by omega, by omega, by
      subst haT
      exact hblk.step (by decide) hT z1 (z2.part (Int.le_refl _) (by omega)) (by omega)⟩, by simp only []; omega⟩
  refine (ins a n Y w3 w4 ha0 ha1 (Int.le_refl _) hY h4).mono fun v w5 ⟨hv, Z, hZ, z1, z2⟩ => ⟨hv, fun _ _ bs w' => 20 ≤ bs ∧ bs ≤ 4000 ∧ ∃ Y, Sh B0 G p n c X w Y w' ∧ Blk key Y bs 0 n n, fun _ _ bs _ => (n - bs).toNat, ⟨by omega, by omega, Z, hZ, by
    subst haT
    exact hblk.step (by decide) hT z1 (z2.part (Int.le_refl _) (by omega)) (by omega)⟩, ?_⟩
  clear hZ hY hblk z1 z2 haT
  rintro a7 b8 bs w10 ⟨hb0, hb1, Y, hY, hblk⟩
  refine ⟨fun hlt => ⟨i64 (by omega), fun a b w' => b = a + 2 * bs ∧ 0 ≤ a ∧ a ≤ n ∧ ∃ Y T, Sh B0 G p n c X w Y w' ∧ a = T * (2 * bs) ∧ 0 ≤ T ∧ Blk key Y (2 * bs) 0 a n ∧ Blk key Y bs a n n, fun a _ _ => (n - a).toNat, ⟨by omega, by omega, by omega, Y, 0, hY, by omega, Int.le_refl _, fun t t0 h1 h2 => by omega, hblk⟩, ?_⟩, fun _ w11 h11 => ⟨rfl, Y, hY.go hG h11, ?_⟩⟩
  · clear hblk hY
    rintro a b w14 ⟨rfl, ha0, ha1, Y, U, hY, haU, hU, hb2, hb1'⟩
    have ea : 2 * U * bs = a := by rw [haU, Int.mul_comm 2 U, Int.mul_assoc]
    have eb : (2 * U + 1) * bs = a + bs := by rw [Int.add_mul, ea]; omega
    have low : a < n → Falls key Y a (min (a + bs) n) := fun h => by
      have := hb1' (2 * U) (by omega) (by omega) (by omega)
      rw [ea] at this
      exact this
    have high : a + bs < n → Falls key Y (a + bs) (min (a + bs + bs) n) := fun h => by
      have := hb1' (2 * U + 1) (by omega) (by omega) (by omega)
      rw [eb] at this
      exact this
    refine ⟨fun hle => ⟨i64 (by omega), fun w15 h15 => ?_⟩, fun hgt => ⟨i64 (by omega), fun hm w15 h15 => ?_, fun hm => ⟨i64 (by omega), ⟨by omega, by omega, Y, hY, ?_⟩, by simp only []; omega⟩⟩⟩
    · refine (mrg a (a + bs) (a + 2 * bs) Y w14 w15 ha0 (by omega) (by omega) hle ((low (by omega)).part (Int.le_refl _) (by omega)) ((high (by omega)).part (Int.le_refl _) (by omega)) hY h15).mono fun v w16 ⟨hv, Z, hZ, z1, z2⟩ => ⟨hv, i64 (by omega), i64 (by omega), ⟨rfl, by omega, by omega, Z, U + 1, hZ, by rw [Int.add_mul, ← haU]; omega, by omega, ?_, fun t t0 h1 h2 => ?_⟩, by simp only []; omega⟩
      · rw [haU] at hb2 z1 z2 ⊢
        exact hb2.step (by omega) hU z1 (z2.part (Int.le_refl _) (by omega)) (by rw [Int.add_mul]; omega)
      · exact (hb1' t t0 (by omega) h2).out z1 (by omega) (by omega)
    · refine (mrg a (a + bs) n Y w14 w15 ha0 (by omega) hm (Int.le_refl _) ((low (by omega)).part (Int.le_refl _) (by omega)) ((high (by omega)).part (Int.le_refl _) (by omega)) hY h15).mono fun v w16 ⟨hv, Z, hZ, z1, z2⟩ => ⟨hv, i64 (by omega), ⟨by omega, by omega, Z, hZ, ?_⟩, by simp only []; omega⟩
      rw [show bs * 2 = 2 * bs by omega]
      rw [haU] at hb2 z1 z2
      exact hb2.step (by omega) hU z1 (z2.part (Int.le_refl _) (by omega)) (by rw [Int.add_mul]; omega)
    · rw [show bs * 2 = 2 * bs by omega]
      by_cases han : a < n
      · have hl := low han
        rw [haU] at hb2 hl
        exact hb2.step (b := U * (2 * bs)) (by omega) hU Out.refl (hl.part (Int.le_refl _) (by omega)) (by rw [Int.add_mul]; omega)
      · rw [show (n : Int) = a by omega] at hb2 ⊢
        exact hb2
  · have := hblk 0 (Int.le_refl _) (by omega)
    by_cases h0 : (n : Int) = 0
    · intro u v h1 h2 h3; omega
    · have := this (by omega)
      exact this.part (by omega) (by omega)
end
end Go.Proofs.Ytblgmhmjafgdgaa
