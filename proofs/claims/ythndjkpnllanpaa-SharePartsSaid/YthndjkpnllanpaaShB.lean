/- Products and quotients of 128 bits. -/
import Derived.Test.YthndjkpnllanpaaShA
set_option linter.unusedVariables false
set_option linter.unusedSimpArgs false
set_option maxRecDepth 100000
namespace Go.Proofs.Ythndjkpnllanpaa
open Go.Sx Go.RowKit

theorem ru64 {x : Int} (h : 0 ≤ x ∧ x ≤ 18446744073709551615) : InR .u64 x := h
theorem u8r {x : Int} (h : 0 ≤ x ∧ x ≤ 255) : InR .u8 x := h
theorem wrapM (x : Int) : IntKind.wrap .u64 x = x % 18446744073709551616 := by
  simp [IntKind.wrap, IntKind.signed, IntKind.bits]
theorem shrU (x : Int) (k : Nat) (hk : k ≤ 64) : iBit .shr .u64 x (k : Int) = x / (2 ^ k : Int) := by
  show x.fdiv (2 ^ (min ((k : Int)).toNat IntKind.u64.bits)) = _
  rw [show min ((k : Int)).toNat IntKind.u64.bits = k by simp only [Int.toNat_natCast, IntKind.bits]; omega]
  exact Int.fdiv_eq_ediv_of_nonneg _ (Int.le_of_lt (Int.pow_pos (by decide)))
theorem shlU (x : Int) (k : Nat) (hk : k ≤ 64) : iBit .shl .u64 x (k : Int) = (x * (2 ^ k : Int)) % 18446744073709551616 := by
  show IntKind.wrap .u64 (x * 2 ^ (min ((k : Int)).toNat IntKind.u64.bits)) = _
  rw [show min ((k : Int)).toNat IntKind.u64.bits = k by simp only [Int.toNat_natCast, IntKind.bits]; omega]
  exact wrapM _
theorem shr8 (x : Int) : iBit .shr .u64 x 8 = x / 256 := shrU x 8 (by decide)
theorem shr16 (x : Int) : iBit .shr .u64 x 16 = x / 65536 := shrU x 16 (by decide)
theorem shr32 (x : Int) : iBit .shr .u64 x 32 = x / 4294967296 := shrU x 32 (by decide)
theorem wrapP (n : Int) (h0 : 0 ≤ n) (h1 : n < 2 ^ 64) : IntKind.wrap .u64 n = n := by
  rw [wrapM]
  have e : (2 : Int) ^ 64 = 18446744073709551616 := by decide
  rw [e] at h1
  omega
theorem maskU {x : Int} (h : 0 ≤ x ∧ x < 18446744073709551616) : iBit .and .u64 x 4294967295 = x % 4294967296 := by
  have e : (2 : Int) ^ 64 = 18446744073709551616 := by decide
  have := bits_mask .u64 64 (by decide) wrapP 32 (by decide) x h.1 (by rw [e]; omega)
  rw [show (2 : Int) ^ 32 - 1 = 4294967295 by decide, show (2 : Int) ^ 32 = 4294967296 by decide] at this
  exact this
theorem orU {x y : Int} (i : Nat) (hx : 0 ≤ x ∧ x < 18446744073709551616) (hi : x % 2 ^ i = 0) (hy : 0 ≤ y ∧ y < 18446744073709551616) (h : y < 2 ^ i) : iBit .or .u64 x y = x + y := by
  have e : (2 : Int) ^ 64 = 18446744073709551616 := by decide
  exact bits_join .u64 64 (by decide) wrapP i x y hx.1 hi (by rw [e]; omega) hy.1 h (by rw [e]; omega)

theorem Mul64_k (x y : Int) (hx : 0 ≤ x ∧ x ≤ 1099511627776) (hy : 0 ≤ y ∧ y ≤ 1099511627776) (w : World) : FnP Try.prog F_math_bits_Mul64 #[.int .u64 x, .int .u64 y] w fun v w' => Ext w w' ∧ v = .tuple #[.int .u64 (x * y / 18446744073709551616), .int .u64 (x * y % 18446744073709551616)] := by
  refine ok_math_bits_Mul64 x y w _ ?_
  unfold wp_math_bits_Mul64
  rw [shr32 x, shr32 y, maskU (x := x) (by omega), maskU (x := y) (by omega)]
  have ex : x = x / 4294967296 * 4294967296 + x % 4294967296 := by omega
  have ey : y = y / 4294967296 * 4294967296 + y % 4294967296 := by omega
  have a1 : 0 ≤ x / 4294967296 ∧ x / 4294967296 ≤ 256 := by omega
  have a0 : 0 ≤ x % 4294967296 ∧ x % 4294967296 ≤ 4294967295 := by omega
  have b1 : 0 ≤ y / 4294967296 ∧ y / 4294967296 ≤ 256 := by omega
  have b0 : 0 ≤ y % 4294967296 ∧ y % 4294967296 ≤ 4294967295 := by omega
  have exy : x * y = (x / 4294967296) * (y / 4294967296) * 18446744073709551616 + ((x / 4294967296) * (y % 4294967296) + (x % 4294967296) * (y / 4294967296)) * 4294967296 + (x % 4294967296) * (y % 4294967296) := by
    rw [ex, ey]
    generalize hxx : (x / 4294967296 * 4294967296 + x % 4294967296) = xx
    generalize hyy : (y / 4294967296 * 4294967296 + y % 4294967296) = yy
    have e1 : xx / 4294967296 = x / 4294967296 := by omega
    have e2 : xx % 4294967296 = x % 4294967296 := by omega
    have e3 : yy / 4294967296 = y / 4294967296 := by omega
    have e4 : yy % 4294967296 = y % 4294967296 := by omega
    rw [e1, e2, e3, e4, ← hxx, ← hyy]
    generalize x / 4294967296 = a
    generalize x % 4294967296 = b
    generalize y / 4294967296 = c
    generalize y % 4294967296 = d
    simp only [Int.add_mul, Int.mul_add]
    have r1 : a * 4294967296 * (c * 4294967296) = a * c * 18446744073709551616 := by rw [show a * 4294967296 * (c * 4294967296) = a * c * (4294967296 * 4294967296) by simp only [Int.mul_assoc, Int.mul_left_comm]]; rfl
    have r2 : a * 4294967296 * d = a * d * 4294967296 := by simp only [Int.mul_assoc, Int.mul_comm 4294967296 d]
    have r3 : b * (c * 4294967296) = b * c * 4294967296 := by simp only [Int.mul_assoc]
    omega
  rw [wrapM, exy]
  have p00 : 0 ≤ (x % 4294967296) * (y % 4294967296) ∧ (x % 4294967296) * (y % 4294967296) ≤ 18446744065119617025 := ⟨Int.mul_nonneg a0.1 b0.1, Int.le_trans (Int.mul_le_mul a0.2 b0.2 b0.1 (by decide)) (by decide)⟩
  have p10 : 0 ≤ (x / 4294967296) * (y % 4294967296) ∧ (x / 4294967296) * (y % 4294967296) ≤ 1099511627520 := ⟨Int.mul_nonneg a1.1 b0.1, Int.le_trans (Int.mul_le_mul a1.2 b0.2 b0.1 (by decide)) (by decide)⟩
  have p01 : 0 ≤ (x % 4294967296) * (y / 4294967296) ∧ (x % 4294967296) * (y / 4294967296) ≤ 1099511627520 := ⟨Int.mul_nonneg a0.1 b1.1, Int.le_trans (Int.mul_le_mul a0.2 b1.2 b1.1 (by decide)) (by decide)⟩
  have p11 : 0 ≤ (x / 4294967296) * (y / 4294967296) ∧ (x / 4294967296) * (y / 4294967296) ≤ 65536 := ⟨Int.mul_nonneg a1.1 b1.1, Int.le_trans (Int.mul_le_mul a1.2 b1.2 b1.1 (by decide)) (by decide)⟩
  revert p00 p10 p01 p11
  generalize (x % 4294967296) * (y % 4294967296) = q00
  generalize (x / 4294967296) * (y % 4294967296) = q10
  generalize (x % 4294967296) * (y / 4294967296) = q01
  generalize (x / 4294967296) * (y / 4294967296) = q11
  clear exy ex ey a0 a1 b0 b1
  intro p00 p10 p01 p11
  simp only [shr32]
  rw [maskU (x := q10 + q00 / 4294967296) (by omega)]
  refine ⟨ru64 (by omega), ru64 (by omega), ru64 (by omega), ru64 (by omega), ru64 (by omega), ru64 (by omega), ru64 (by omega), ru64 (by omega), fun w0 h0 => ⟨h0, ?_⟩⟩
  congr 4
  omega

def okT (n t : Int) : Prop := (t = 1 ∧ 1 ≤ n ∧ n < 2) ∨ (t = 2 ∧ 2 ≤ n ∧ n < 4) ∨ (t = 3 ∧ 4 ≤ n ∧ n < 8) ∨ (t = 4 ∧ 8 ≤ n ∧ n < 16) ∨ (t = 5 ∧ 16 ≤ n ∧ n < 32) ∨ (t = 6 ∧ 32 ≤ n ∧ n < 64) ∨ (t = 7 ∧ 64 ≤ n ∧ n < 128) ∨ (t = 8 ∧ 128 ≤ n ∧ n < 256)
instance (n t : Int) : Decidable (okT n t) := by unfold okT; infer_instance
theorem tab_n : ∀ n : Nat, n < 256 → 0 < n → okT (n : Int) (sAt (⟨#[0, 1, 2, 2, 3, 3, 3, 3, 4, 4, 4, 4, 4, 4, 4, 4, 5, 5, 5, 5, 5, 5, 5, 5, 5, 5, 5, 5, 5, 5, 5, 5, 6, 6, 6, 6, 6, 6, 6, 6, 6, 6, 6, 6, 6, 6, 6, 6, 6, 6, 6, 6, 6, 6, 6, 6, 6, 6, 6, 6, 6, 6, 6, 6, 7, 7, 7, 7, 7, 7, 7, 7, 7, 7, 7, 7, 7, 7, 7, 7, 7, 7, 7, 7, 7, 7, 7, 7, 7, 7, 7, 7, 7, 7, 7, 7, 7, 7, 7, 7, 7, 7, 7, 7, 7, 7, 7, 7, 7, 7, 7, 7, 7, 7, 7, 7, 7, 7, 7, 7, 7, 7, 7, 7, 7, 7, 7, 7, 8, 8, 8, 8, 8, 8, 8, 8, 8, 8, 8, 8, 8, 8, 8, 8, 8, 8, 8, 8, 8, 8, 8, 8, 8, 8, 8, 8, 8, 8, 8, 8, 8, 8, 8, 8, 8, 8, 8, 8, 8, 8, 8, 8, 8, 8, 8, 8, 8, 8, 8, 8, 8, 8, 8, 8, 8, 8, 8, 8, 8, 8, 8, 8, 8, 8, 8, 8, 8, 8, 8, 8, 8, 8, 8, 8, 8, 8, 8, 8, 8, 8, 8, 8, 8, 8, 8, 8, 8, 8, 8, 8, 8, 8, 8, 8, 8, 8, 8, 8, 8, 8, 8, 8, 8, 8, 8, 8, 8, 8, 8, 8, 8, 8, 8, 8, 8, 8, 8, 8, 8, 8, 8, 8, 8, 8, 8, 8]⟩ : ByteArray) (n : Int)) := by
  decide +kernel
theorem tab_k (i : Int) (h0 : 0 < i) (h1 : i < 256) : ∃ t, sAt (⟨#[0, 1, 2, 2, 3, 3, 3, 3, 4, 4, 4, 4, 4, 4, 4, 4, 5, 5, 5, 5, 5, 5, 5, 5, 5, 5, 5, 5, 5, 5, 5, 5, 6, 6, 6, 6, 6, 6, 6, 6, 6, 6, 6, 6, 6, 6, 6, 6, 6, 6, 6, 6, 6, 6, 6, 6, 6, 6, 6, 6, 6, 6, 6, 6, 7, 7, 7, 7, 7, 7, 7, 7, 7, 7, 7, 7, 7, 7, 7, 7, 7, 7, 7, 7, 7, 7, 7, 7, 7, 7, 7, 7, 7, 7, 7, 7, 7, 7, 7, 7, 7, 7, 7, 7, 7, 7, 7, 7, 7, 7, 7, 7, 7, 7, 7, 7, 7, 7, 7, 7, 7, 7, 7, 7, 7, 7, 7, 7, 8, 8, 8, 8, 8, 8, 8, 8, 8, 8, 8, 8, 8, 8, 8, 8, 8, 8, 8, 8, 8, 8, 8, 8, 8, 8, 8, 8, 8, 8, 8, 8, 8, 8, 8, 8, 8, 8, 8, 8, 8, 8, 8, 8, 8, 8, 8, 8, 8, 8, 8, 8, 8, 8, 8, 8, 8, 8, 8, 8, 8, 8, 8, 8, 8, 8, 8, 8, 8, 8, 8, 8, 8, 8, 8, 8, 8, 8, 8, 8, 8, 8, 8, 8, 8, 8, 8, 8, 8, 8, 8, 8, 8, 8, 8, 8, 8, 8, 8, 8, 8, 8, 8, 8, 8, 8, 8, 8, 8, 8, 8, 8, 8, 8, 8, 8, 8, 8, 8, 8, 8, 8, 8, 8, 8, 8, 8, 8]⟩ : ByteArray) i = t ∧ okT i t := by
  obtain ⟨n, rfl⟩ := Int.eq_ofNat_of_zero_le (Int.le_of_lt h0)
  exact ⟨_, rfl, tab_n n (by omega) (by omega)⟩
theorem tab_size : (((⟨#[0, 1, 2, 2, 3, 3, 3, 3, 4, 4, 4, 4, 4, 4, 4, 4, 5, 5, 5, 5, 5, 5, 5, 5, 5, 5, 5, 5, 5, 5, 5, 5, 6, 6, 6, 6, 6, 6, 6, 6, 6, 6, 6, 6, 6, 6, 6, 6, 6, 6, 6, 6, 6, 6, 6, 6, 6, 6, 6, 6, 6, 6, 6, 6, 7, 7, 7, 7, 7, 7, 7, 7, 7, 7, 7, 7, 7, 7, 7, 7, 7, 7, 7, 7, 7, 7, 7, 7, 7, 7, 7, 7, 7, 7, 7, 7, 7, 7, 7, 7, 7, 7, 7, 7, 7, 7, 7, 7, 7, 7, 7, 7, 7, 7, 7, 7, 7, 7, 7, 7, 7, 7, 7, 7, 7, 7, 7, 7, 8, 8, 8, 8, 8, 8, 8, 8, 8, 8, 8, 8, 8, 8, 8, 8, 8, 8, 8, 8, 8, 8, 8, 8, 8, 8, 8, 8, 8, 8, 8, 8, 8, 8, 8, 8, 8, 8, 8, 8, 8, 8, 8, 8, 8, 8, 8, 8, 8, 8, 8, 8, 8, 8, 8, 8, 8, 8, 8, 8, 8, 8, 8, 8, 8, 8, 8, 8, 8, 8, 8, 8, 8, 8, 8, 8, 8, 8, 8, 8, 8, 8, 8, 8, 8, 8, 8, 8, 8, 8, 8, 8, 8, 8, 8, 8, 8, 8, 8, 8, 8, 8, 8, 8, 8, 8, 8, 8, 8, 8, 8, 8, 8, 8, 8, 8, 8, 8, 8, 8, 8, 8, 8, 8, 8, 8, 8, 8]⟩ : ByteArray)).size : Int) = 256 := by rfl

/-- How far a number may be moved up. -/
def Up (y : Int) (s : Nat) : Prop := 34 ≤ s ∧ s ≤ 63 ∧ y * 2 ^ s < 18446744073709551616
theorem Len64_k (y : Int) (hy : 1 ≤ y ∧ y ≤ 1000000000) (w : World) : FnP Try.prog F_math_bits_Len64 #[.int .u64 y] w fun v w' => Ext w w' ∧ ∃ s : Nat, v = .int .i64 (64 - s) ∧ Up y s := by
  refine ok_math_bits_Len64 y w _ ?_
  unfold wp_math_bits_Len64
  simp only [shr8, shr16, shr32, tab_size]
  refine ⟨fun h => by omega, fun _ => ⟨fun h1 => ⟨i64 (by omega), fun h2 => ?_, fun h2 => ?_⟩, fun h1 => ⟨fun h2 => ?_, fun h2 => ?_⟩⟩⟩
  · obtain ⟨t, ht, hk⟩ := tab_k (y / 65536 / 256) (by omega) (by omega)
    rw [ht]
    unfold okT at hk
    refine ⟨i64 (by omega), u8r (by omega), by omega, by omega, i64 (by omega), i64 (by omega), fun w0 h0 => ⟨h0, (64 - (0 + 16 + 8 + t)).toNat, by congr 1; omega, by omega, by omega, ?_⟩⟩
    clear ht; rcases hk with ⟨rfl, h⟩ | ⟨rfl, h⟩ | ⟨rfl, h⟩ | ⟨rfl, h⟩ | ⟨rfl, h⟩ | ⟨rfl, h⟩ | ⟨rfl, h⟩ | ⟨rfl, h⟩ <;> simp <;> omega
  · obtain ⟨t, ht, hk⟩ := tab_k (y / 65536) (by omega) (by omega)
    rw [ht]
    unfold okT at hk
    refine ⟨u8r (by omega), by omega, by omega, i64 (by omega), i64 (by omega), fun w0 h0 => ⟨h0, (64 - (0 + 16 + t)).toNat, by congr 1; omega, by omega, by omega, ?_⟩⟩
    clear ht; rcases hk with ⟨rfl, h⟩ | ⟨rfl, h⟩ | ⟨rfl, h⟩ | ⟨rfl, h⟩ | ⟨rfl, h⟩ | ⟨rfl, h⟩ | ⟨rfl, h⟩ | ⟨rfl, h⟩ <;> simp <;> omega
  · obtain ⟨t, ht, hk⟩ := tab_k (y / 256) (by omega) (by omega)
    rw [ht]
    unfold okT at hk
    refine ⟨i64 (by omega), u8r (by omega), by omega, by omega, i64 (by omega), i64 (by omega), fun w0 h0 => ⟨h0, (64 - (0 + 8 + t)).toNat, by congr 1; omega, by omega, by omega, ?_⟩⟩
    clear ht; rcases hk with ⟨rfl, h⟩ | ⟨rfl, h⟩ | ⟨rfl, h⟩ | ⟨rfl, h⟩ | ⟨rfl, h⟩ | ⟨rfl, h⟩ | ⟨rfl, h⟩ | ⟨rfl, h⟩ <;> simp <;> omega
  · obtain ⟨t, ht, hk⟩ := tab_k y (by omega) (by omega)
    rw [ht]
    unfold okT at hk
    refine ⟨u8r (by omega), by omega, by omega, i64 (by omega), i64 (by omega), fun w0 h0 => ⟨h0, (64 - (0 + t)).toNat, by congr 1; omega, by omega, by omega, ?_⟩⟩
    clear ht; rcases hk with ⟨rfl, h⟩ | ⟨rfl, h⟩ | ⟨rfl, h⟩ | ⟨rfl, h⟩ | ⟨rfl, h⟩ | ⟨rfl, h⟩ | ⟨rfl, h⟩ | ⟨rfl, h⟩ <;> simp <;> omega
theorem Zeros_k (y : Int) (hy : 1 ≤ y ∧ y ≤ 1000000000) (w : World) : FnP Try.prog F_math_bits_LeadingZeros64 #[.int .u64 y] w fun v w' => Ext w w' ∧ ∃ s : Nat, v = .int .i64 s ∧ Up y s := by
  refine ok_math_bits_LeadingZeros64 y w _ ?_
  intro w0 h0
  refine (Len64_k y hy w0).mono fun v w1 ⟨e1, s, hv, hs⟩ => ⟨e1, _, hv, i64 (by have := hs.1; have := hs.2.1; omega), fun w3 h3 => ⟨h3, s, by congr 1; omega, hs⟩⟩
end Go.Proofs.Ythndjkpnllanpaa
