/- The quotient of 128 bits by a number below 2^30: the two half steps need no correction. -/
import Derived.Test.YthndjkpnllanpaaShB
set_option linter.unusedVariables false
set_option linter.unusedSimpArgs false
namespace Go.Proofs.Ythndjkpnllanpaa
open Go.Sx Go.RowKit

theorem pow_pos' (s : Nat) : (0 : Int) < 2 ^ s := Int.pow_pos (by decide)
/-- The pieces of the long division. -/
theorem parts (hi lo y : Int) (s : Nat) (hs : Up y s) (hy : 1 ≤ y) (hh : 0 ≤ hi ∧ hi < y) (hl : 0 ≤ lo ∧ lo ≤ 18446744073709551615) : ∃ A U V c : Int,
    iBit .shl .u64 y (s : Int) = A * 4294967296 ∧ iBit .or .u64 (iBit .shl .u64 hi (s : Int)) (iBit .shr .u64 lo (64 - (s : Int))) = U ∧ iBit .shl .u64 lo (s : Int) = V * 4294967296 ∧
    A = y * c ∧ (hi * 18446744073709551616 + lo) * c = U * 4294967296 + V ∧ 0 ≤ V ∧ V < 4294967296 ∧ 0 ≤ U ∧ U < A * 4294967296 ∧ 1 ≤ A ∧ A < 4294967296 ∧ 1 ≤ c ∧
    (∀ d : Int, iBit .shr .u64 (d * c * 4294967296) (s : Int) = d) := by
  obtain ⟨h34, h63, hup⟩ := hs
  obtain ⟨k, rfl⟩ : ∃ k, s = k + 32 := ⟨s - 32, by omega⟩
  have hp : (2 : Int) ^ (k + 32) = 2 ^ k * 4294967296 := by rw [Int.pow_add]; rfl
  have hr : (2 : Int) ^ (32 - k) * 2 ^ k = 4294967296 := by rw [← Int.pow_add, show 32 - k + k = 32 by omega]; rfl
  have hc : (1 : Int) ≤ 2 ^ k := pow_pos' k
  have hR : (1 : Int) ≤ 2 ^ (32 - k) := pow_pos' (32 - k)
  rw [hp] at hup
  have eshr : iBit .shr .u64 lo (64 - ((k + 32 : Nat) : Int)) = lo / 2 ^ (32 - k) := by
    rw [show (64 - ((k + 32 : Nat) : Int)) = ((32 - k : Nat) : Int) by omega]
    exact shrU lo (32 - k) (by omega)
  have eq3 : ∀ x : Int, x * (2 ^ k * 4294967296) = x * 2 ^ k * 4294967296 := fun x => by rw [Int.mul_assoc]
  have eall : ∀ x : Int, iBit .shl .u64 x ((k + 32 : Nat) : Int) = (x * 2 ^ k * 4294967296) % 18446744073709551616 := fun x => by rw [shlU x (k + 32) (by omega), hp, eq3]
  have esh : ∀ d : Int, iBit .shr .u64 (d * 2 ^ k * 4294967296) ((k + 32 : Nat) : Int) = d := fun d => by
    rw [shrU _ (k + 32) (by omega), hp, ← eq3]
    exact Int.mul_ediv_cancel _ (by omega)
  have hor : ∀ X a : Int, 0 ≤ X * 2 ^ k * 4294967296 ∧ X * 2 ^ k * 4294967296 < 18446744073709551616 → 0 ≤ a ∧ a < 2 ^ k * 4294967296 ∧ a < 18446744073709551616 → iBit .or .u64 (X * 2 ^ k * 4294967296) a = X * 2 ^ k * 4294967296 + a := fun X a h1 h2 => by
    refine orU (k + 32) h1 ?_ ⟨h2.1, h2.2.2⟩ (by rw [hp]; exact h2.2.1)
    rw [hp, ← eq3, Int.mul_emod_left]
  rw [eq3] at hup
  have hdm := Int.mul_ediv_add_emod lo (2 ^ (32 - k))
  have hq0 := Int.ediv_nonneg hl.1 (by omega : (0 : Int) ≤ 2 ^ (32 - k))
  have hm0 := Int.emod_nonneg lo (by omega : (2 : Int) ^ (32 - k) ≠ 0)
  have hm1 := Int.emod_lt_of_pos lo (by omega : (0 : Int) < 2 ^ (32 - k))
  rw [eall y, eall hi, eall lo, eshr]
  revert hup hdm hq0 hm0 hm1 hr hc hR hor esh
  clear eall eq3 eshr hp
  generalize (2 : Int) ^ k = c
  generalize (2 : Int) ^ (32 - k) = r
  generalize lo / r = a
  generalize lo % r = b
  intro hup hr hc hR esh hor hdm hq0 hm0 hm1
  have hA1 : 1 ≤ y * c := by have := Int.mul_le_mul hy hc (by decide) (by omega); omega
  have hP0 : 0 ≤ hi * c := Int.mul_nonneg hh.1 (by omega)
  have hP1 : hi * c + c ≤ y * c := by have := Int.mul_le_mul_of_nonneg_right (show hi + 1 ≤ y by omega) (show 0 ≤ c by omega); rw [Int.add_mul] at this; omega
  have hV0 : 0 ≤ b * c := Int.mul_nonneg hm0 (by omega)
  have hV1 : b * c < 4294967296 := by rw [← hr]; exact Int.mul_lt_mul_of_pos_right hm1 (by omega)
  -- a < c * 2^32
  have ha : a < c * 4294967296 := by
    have h1 : r * a < r * (c * 4294967296) := by rw [← Int.mul_assoc, hr]; omega
    exact Int.lt_of_mul_lt_mul_left h1 (by omega)
  have hlo : lo * c = a * 4294967296 + b * c := by
    rw [← hdm, Int.add_mul, Int.mul_right_comm, hr, Int.mul_comm]
  have e1 : lo * c * 4294967296 % 18446744073709551616 = b * c * 4294967296 := by rw [hlo]; omega
  refine ⟨y * c, hi * c * 4294967296 + a, b * c, c, by omega, ?_, by omega, rfl, ?_, hV0, hV1, by omega, by omega, hA1, by omega, hc, esh⟩
  · rw [show hi * c * 4294967296 % 18446744073709551616 = hi * c * 4294967296 by omega]
    exact hor hi a ⟨by omega, by omega⟩ ⟨hq0, ha, by omega⟩
  · rw [Int.add_mul, hlo, Int.mul_right_comm]; omega

theorem split_div {A n m q : Int} (hA : 1 ≤ A) (h : n = A * q + m) (h0 : 0 ≤ m) (h1 : m < A) : n / A = q ∧ n % A = m := by
  have := Int.mul_ediv_add_emod n A
  have e1 := Int.emod_nonneg n (by omega : A ≠ 0)
  have e2 := Int.emod_lt_of_pos n (by omega : 0 < A)
  have hq : n / A = q := by
    have h2 : A * (n / A - q) = m - n % A := by rw [Int.mul_sub]; omega
    rcases Int.lt_trichotomy (n / A) q with hl | hl | hl
    · have : A * (n / A - q) ≤ A * (-1) := Int.mul_le_mul_of_nonneg_left (by omega) (by omega)
      omega
    · exact hl
    · have : A * 1 ≤ A * (n / A - q) := Int.mul_le_mul_of_nonneg_left (by omega) (by omega)
      omega
  refine ⟨hq, ?_⟩
  rw [hq] at this
  omega

theorem Div64_k (hi lo y : Int) (hy : 1 ≤ y ∧ y ≤ 1000000000) (hh : 0 ≤ hi ∧ hi < y) (hl : 0 ≤ lo ∧ lo ≤ 18446744073709551615) (w : World) : FnP Try.prog F_math_bits_Div64 #[.int .u64 hi, .int .u64 lo, .int .u64 y] w fun v w' => Ext w w' ∧ v = .tuple #[.int .u64 ((hi * 18446744073709551616 + lo) / y), .int .u64 ((hi * 18446744073709551616 + lo) % y)] := by
  refine ok_math_bits_Div64 hi lo y w _ ?_
  refine ⟨fun h => by omega, fun _ => ⟨fun h => by omega, fun _ => ⟨fun h0 => ?_, fun h0 w0 h0' => ?_⟩⟩⟩
  · subst h0
    rw [td hl.1, tm hl.1]
    have hd := Int.ediv_nonneg hl.1 (by omega : 0 ≤ y)
    have hd2 := Int.ediv_le_self y hl.1
    refine ⟨by omega, ru64 (by omega), by omega, fun w0 h0 => ⟨h0, ?_⟩⟩
    simp
  refine (Zeros_k y hy w0).mono fun v w1 ⟨e1, s, hv, hs⟩ => ⟨e1, s, hv, ?_⟩
  obtain ⟨A, U, V, c, p1, p2, p3, p4, p5, p6, p7, p8, p9, p10, p11, p12, p13⟩ := parts hi lo y s hs hy.1 hh hl
  have hs1 := hs.1
  have hs2 := hs.2.1
  have eA : iBit .shr .u64 (A * 4294967296) 32 = A := by rw [shr32]; omega
  have eV : iBit .shr .u64 (V * 4294967296) 32 = V := by rw [shr32]; omega
  have eA0 : iBit .and .u64 (A * 4294967296) 4294967295 = 0 := by rw [maskU (by omega)]; omega
  have eV0 : iBit .and .u64 (V * 4294967296) 4294967295 = 0 := by rw [maskU (by omega)]; omega
  simp only [p1, p2, p3, eA, eV, eA0, eV0, Int.mul_zero]
  rw [td p8]
  have dU := Int.mul_ediv_add_emod U A
  have mU0 := Int.emod_nonneg U (by omega : A ≠ 0)
  have mU1 := Int.emod_lt_of_pos U (by omega : 0 < A)
  have dU0 := Int.ediv_nonneg p8 (by omega : 0 ≤ A)
  have dU1 : U / A < 4294967296 := Int.ediv_lt_of_lt_mul (by omega) (by rw [Int.mul_comm]; exact p9)
  have hX1 := Int.mul_ediv_add_emod (U % A * 4294967296 + V) A
  have mX0 := Int.emod_nonneg (U % A * 4294967296 + V) (by omega : A ≠ 0)
  have mX1 := Int.emod_lt_of_pos (U % A * 4294967296 + V) (by omega : 0 < A)
  have dX0 : 0 ≤ (U % A * 4294967296 + V) / A := Int.ediv_nonneg (by omega) (by omega)
  have dX1 : (U % A * 4294967296 + V) / A < 4294967296 := Int.ediv_lt_of_lt_mul (by omega) (by omega)
  -- what both halves are together
  have hN : (hi * 18446744073709551616 + lo) * c = A * (U / A * 4294967296 + (U % A * 4294967296 + V) / A) + (U % A * 4294967296 + V) % A := by
    rw [p5, Int.mul_add, ← Int.mul_assoc]; omega
  have hN0 : 0 ≤ hi * 18446744073709551616 + lo := by omega
  have hquo : (hi * 18446744073709551616 + lo) / y = U / A * 4294967296 + (U % A * 4294967296 + V) / A ∧ (hi * 18446744073709551616 + lo) % y * c = (U % A * 4294967296 + V) % A := by
    have hNd := Int.mul_ediv_add_emod (hi * 18446744073709551616 + lo) y
    have m0 := Int.emod_nonneg (hi * 18446744073709551616 + lo) (by omega : y ≠ 0)
    have m1 := Int.emod_lt_of_pos (hi * 18446744073709551616 + lo) (by omega : 0 < y)
    have hc0 : 0 ≤ (hi * 18446744073709551616 + lo) % y * c := Int.mul_nonneg m0 (by omega)
    have hc1 : (hi * 18446744073709551616 + lo) % y * c < A := by rw [p4]; exact Int.mul_lt_mul_of_pos_right m1 (by omega)
    have h1 := split_div p10 (n := (hi * 18446744073709551616 + lo) * c) (q := (hi * 18446744073709551616 + lo) / y) (m := (hi * 18446744073709551616 + lo) % y * c) (by
      rw [p4, Int.mul_right_comm, ← Int.add_mul, hNd]) hc0 hc1
    have h2 := split_div p10 hN mX0 mX1
    exact ⟨h1.1.symm.trans h2.1, h1.2.symm.trans h2.2⟩
  rw [hquo.1]
  have hrem := hquo.2
  revert hrem
  generalize (hi * 18446744073709551616 + lo) % y = d
  intro hrem
  clear hquo hN p1 p2 p3 eA eV eA0 eV0
  have eU : U - U / A * A = U % A := by rw [Int.mul_comm]; omega
  have eW : U / A * A ≤ U := by rw [Int.mul_comm]; omega
  have eW0 : 0 ≤ U / A * A := Int.mul_nonneg dU0 (by omega)
  rw [eU]
  refine ⟨ru64 (by omega), by omega, by omega, ru64 (by omega), by omega, by omega, by omega, ru64 (by omega), ru64 (by omega), ru64 (by omega), fun q r w' => q = U / A ∧ r = U % A ∧ w' = w, fun _ _ _ => 0, ⟨rfl, rfl, rfl⟩, ?_⟩
  rintro q r w6 ⟨rfl, rfl, rfl⟩
  refine ⟨fun _ => ru64 (by omega), fun _ => ru64 (by omega), fun _ => ru64 (by omega), fun h => by omega, fun _ => ?_⟩
  have eX : IntKind.wrap .u64 (IntKind.wrap .u64 (IntKind.wrap .u64 (U * 4294967296) + V) - IntKind.wrap .u64 (U / A * (A * 4294967296))) = U % A * 4294967296 + V := by
    simp only [wrapM]
    rw [← Int.mul_assoc]
    generalize U / A * A = m at eU
    omega
  simp only [eX]
  have hXn : 0 ≤ U % A * 4294967296 + V := by omega
  rw [td hXn]
  have hXb : U % A * 4294967296 + V < 18446744073709551616 := by omega
  revert hX1 mX0 mX1 dX0 dX1 hrem hXn hXb
  generalize U % A * 4294967296 + V = X
  intro hX1 mX0 mX1 dX0 dX1 hrem hXn hXb
  have eX2 : X - X / A * A = X % A := by rw [Int.mul_comm]; omega
  have eX3 : 0 ≤ X / A * A := Int.mul_nonneg dX0 (by omega)
  have eX4 : X / A * A ≤ X := by rw [Int.mul_comm]; omega
  rw [eX2]
  refine ⟨by omega, ru64 (by omega), ru64 (by omega), ru64 (by omega), fun q r w' => q = X / A ∧ r = X % A ∧ Ext w6 w', fun _ _ _ => 0, ⟨rfl, rfl, Ext.refl _⟩, ?_⟩
  rintro q r w10 ⟨rfl, rfl, h10⟩
  refine ⟨fun _ => ru64 (by omega), fun _ => ru64 (by omega), fun _ => ru64 (by omega), fun h => by omega, fun _ => ⟨ru64 (by omega), ru64 (by omega), by omega, fun w11 h11 => ⟨h10.trans h11, ?_⟩⟩⟩
  have eL : IntKind.wrap .u64 (IntKind.wrap .u64 (IntKind.wrap .u64 (X * 4294967296) + 0) - IntKind.wrap .u64 (X / A * (A * 4294967296))) = d * c * 4294967296 := by
    simp only [wrapM]
    rw [← Int.mul_assoc, hrem]
    generalize X / A * A = m at eX2
    omega
  rw [eL, p13]
end Go.Proofs.Ythndjkpnllanpaa
