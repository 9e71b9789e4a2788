/- The lowest bit of a set: the library's TrailingZeros64, by its table. -/
import Derived.Test.YteelndoflikliaaDoorGood
import Derived.Test.YteelndoflikliaaDoorTxtB
import Derived.Shelf.Spec.TrailingZeros
set_option linter.unusedVariables false
set_option linter.unusedSimpArgs false
namespace Go.Proofs.YteelndoflikliaaDoor
open Go.Sx Go.RowKit

def GT (w : World) : Prop := ∀ i : Nat, i < 64 → cell w (some (⟨0, 0, none⟩ : Addr)) i = some (.int .u8 ((Lib.deBruijn64tab.getD i 0 : Nat) : Int))

theorem GT.ext {w w' : World} (hg : GT w) (h : Ext w w') : GT w' := fun i hi => ext_cell h (hg i hi)

theorem tzbits {x : Nat} (h0 : x ≠ 0) (hx : x < 18446744073709551616) :
    Lib.ctz 64 x < 64 ∧ (∀ i, i < Lib.ctz 64 x → x.testBit i = false) ∧ x.testBit (Lib.ctz 64 x) = true ∧ ∀ i, (x &&& (x - 1)).testBit i = (x.testBit i && decide (i ≠ Lib.ctz 64 x)) := by
  obtain ⟨m, hm, ht⟩ := Lib.ctzFrom_spec 64 x (by omega) (by omega)
  have hc : Lib.ctz 64 x = Lib.ctzFrom 64 x := by unfold Lib.ctz; rw [if_neg h0]
  rw [hc]
  generalize Lib.ctzFrom 64 x = t at hm ht
  have hp : 0 < 2 ^ t := Nat.pow_pos (by omega)
  have b1 : ∀ j, x.testBit j = if j < t then false else (2 * m + 1).testBit (j - t) := fun j => by
    have := Nat.testBit_two_pow_mul_add (2 * m + 1) (b := 0) (i := t) hp j
    rw [Nat.add_zero, ← hm] at this
    rw [this]; simp
  have b2 : ∀ j, (x - 1).testBit j = if j < t then true else (2 * m).testBit (j - t) := fun j => by
    have := Nat.testBit_two_pow_mul_add (2 * m) (b := 2 ^ t - 1) (i := t) (by omega) j
    have he : 2 ^ t * (2 * m) + (2 ^ t - 1) = x - 1 := by
      have : 2 ^ t * (2 * m + 1) = 2 ^ t * (2 * m) + 2 ^ t := by rw [Nat.mul_add, Nat.mul_one]
      omega
    rw [he] at this
    rw [this]
    by_cases hj : j < t
    · simp [hj, Nat.testBit_two_pow_sub_one]
    · simp [hj]
  refine ⟨ht, fun i hi => by rw [b1, if_pos hi], by rw [b1, if_neg (by omega), Nat.sub_self]; simp [Nat.testBit_zero], fun i => ?_⟩
  rw [Nat.testBit_and, b1, b2]
  by_cases hi : i < t
  · simp [hi]
  · simp only [hi, if_false]
    by_cases he : i = t
    · subst he; simp [Nat.testBit_zero]
    · obtain ⟨k, hk⟩ : ∃ k, i - t = k + 1 := ⟨i - t - 1, by omega⟩
      rw [hk, Nat.testBit_succ, Nat.testBit_succ, show (2 * m + 1) / 2 = m by omega, show 2 * m / 2 = m by omega]
      simp [he]

theorem shr58 (x : Int) : iBit .shr .u64 x 58 = x / 288230376151711744 := by
  have hb : min (58 : Int).toNat IntKind.u64.bits = 58 := by decide
  simp only [iBit, hb]
  rw [Int.fdiv_eq_ediv_of_nonneg _ (by decide)]
  rfl

theorem iand_bits (x y : Int) : iBit .and .u64 x y = bits .and .u64 x y := rfl
theorem shr58_to (x : Int) (k : Int) (h : x / 288230376151711744 = k) : iBit .shr .u64 x 58 = k := (shr58 x).trans h
theorem tz_key (n a : Nat) (hn : n < 18446744073709551616) (h0 : n ≠ 0) (hlow : n &&& (18446744073709551616 - n) = a) :
    IntKind.wrap .u64 ((iBit .and .u64 (n : Int) (IntKind.wrap .u64 (0 - (n : Int)))) * 285870213051353865) / 288230376151711744 = ((a * 285870213051353865 % 18446744073709551616 / 288230376151711744 : Nat) : Int) := by
  rw [Int.zero_sub, iand_bits]
  exact tz64_key n a hn h0 hlow
theorem tz_idx (n a : Nat) (hn : n < 18446744073709551616) (h0 : n ≠ 0) (hlow : n &&& (18446744073709551616 - n) = a) :
    iBit .shr .u64 (IntKind.wrap .u64 ((iBit .and .u64 (n : Int) (IntKind.wrap .u64 (0 - (n : Int)))) * 285870213051353865)) 58 = ((a * 285870213051353865 % 18446744073709551616 / 288230376151711744 : Nat) : Int) :=
  shr58_to _ _ (tz_key n a hn h0 hlow)

theorem tz_at (n : Nat) (hn : n < 18446744073709551616) (h0 : n ≠ 0) : ∃ idx : Nat, idx < 64 ∧ iBit .shr .u64 (IntKind.wrap .u64 ((iBit .and .u64 (n : Int) (IntKind.wrap .u64 (0 - (n : Int)))) * 285870213051353865)) 58 = (idx : Int) ∧ Lib.deBruijn64tab.getD idx 0 = Lib.ctz 64 n ∧ Lib.ctz 64 n < 64 := by
  obtain ⟨hlow, hk⟩ := Lib.lowest_bit 64 n h0 hn
  obtain ⟨hi, htab⟩ := Lib.deBruijn64_at _ hk
  exact ⟨_, hi, tz_idx n _ hn h0 hlow, htab, hk⟩

theorem TZ_k (x : Int) (hx : U x) (h0 : x ≠ 0) (w : World) (hg : GT w) : FnP Tryd.prog F_math_bits_TrailingZeros64 #[.int .u64 x] w fun v w' => Ext w w' ∧ v = .int .i64 (Lib.ctz 64 x.toNat : Nat) := by
  have hu := U_iff.1 hx
  obtain ⟨idx, hi, hz, htab, ht⟩ := tz_at x.toNat (by omega) (by omega)
  rw [Int.toNat_of_nonneg hu.1] at hz
  generalize Lib.ctz 64 x.toNat = t at htab ht ⊢
  have hc := hg idx hi
  rw [htab] at hc
  have hc2 : cell w (pIdx (some (⟨0, 0, none⟩ : Addr)) (idx : Int) 1) 0 = some (.int .u8 (t : Int)) := by rw [cell_pIdx]; simpa using hc
  rw [← hz] at hc2
  have z0 : (0 : Int) ≤ iBit .shr .u64 (IntKind.wrap .u64 ((iBit .and .u64 x (IntKind.wrap .u64 (0 - x))) * 285870213051353865)) 58 := by rw [hz]; omega
  have z1 : iBit .shr .u64 (IntKind.wrap .u64 ((iBit .and .u64 x (IntKind.wrap .u64 (0 - x))) * 285870213051353865)) 58 < 64 := by rw [hz]; omega
  exact ok_math_bits_TrailingZeros64 x w _ ⟨fun h => absurd h h0, fun _ => ⟨by simp, z0, z1, (t : Int), hc2, i64 (by omega), fun w1 h1 => ⟨h1, rfl⟩⟩⟩

/-- The lowest bit, and the rest. -/
theorem low_k {s : Int} (hs : U s) (hne : s ≠ 0) : ∃ t : Nat, Lib.ctz 64 s.toNat = t ∧ t < 64 ∧ (∀ i, i < t → tb s i = false) ∧ tb s t = true ∧ U (s - 1) ∧ U (iBit .and .u64 s (s - 1)) ∧ (∀ i, tb (iBit .and .u64 s (s - 1)) i = (tb s i && decide (i ≠ t))) ∧ (iBit .and .u64 s (s - 1)).toNat < s.toNat := by
  have hu := U_iff.1 hs
  obtain ⟨t1, t2, t3, t4⟩ := tzbits (x := s.toNat) (by omega) (by omega)
  generalize hT : Lib.ctz 64 s.toNat = t at t1 t2 t3 t4
  have hs1 : U (s - 1) := by rw [U_iff]; omega
  have hbit : ∀ i, tb (iBit .and .u64 s (s - 1)) i = (tb s i && decide (i ≠ t)) := fun i => by
    have := t4 i
    rw [Nat.testBit_and] at this
    rw [tb_and, tb_nat hs, tb_nat hs1, show (s - 1).toNat = s.toNat - 1 by omega]
    exact this
  have hU := U_and s (s - 1)
  have hdec : (iBit .and .u64 s (s - 1)).toNat < s.toNat := by
    have he : (iBit .and .u64 s (s - 1)).toNat = s.toNat &&& (s.toNat - 1) := by
      apply Nat.eq_of_testBit_eq
      intro i
      rw [← tb_nat hU, hbit, t4, tb_nat hs]
    rw [he]
    have := Nat.and_le_right (n := s.toNat) (m := s.toNat - 1)
    omega
  exact ⟨t, rfl, t1, fun i hi => by rw [tb_nat hs]; exact t2 i hi, by rw [tb_nat hs]; exact t3, hs1, hU, hbit, hdec⟩
end Go.Proofs.YteelndoflikliaaDoor
