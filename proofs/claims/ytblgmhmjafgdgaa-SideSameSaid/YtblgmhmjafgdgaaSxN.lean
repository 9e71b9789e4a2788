/- Sets of numbers below 64, as bits of a uint64. -/
import Derived.Test.YtblgmhmjafgdgaaSxM
import Derived.Test.YtblgmhmjafgdgaaSxL
set_option linter.unusedVariables false
set_option linter.unusedSimpArgs false
namespace Go.Sx

abbrev U (x : Int) : Prop := InR .u64 x
theorem U_iff {x : Int} : U x ↔ 0 ≤ x ∧ x < 18446744073709551616 := by
  unfold U InR; simp [IntKind.min, IntKind.max, IntKind.signed, IntKind.bits]; omega

def bv (x : Int) : BitVec 64 := BitVec.ofInt 64 x
/-- Does i lie in the set? -/
def tb (x : Int) (i : Nat) : Bool := (bv x).getLsbD i

theorem wrapU {n : Nat} (h : n < 18446744073709551616) : IntKind.wrap .u64 (n : Int) = n := by
  simp [IntKind.wrap, IntKind.signed, IntKind.bits]; omega
theorem bv_wrap (v : BitVec 64) : bv (IntKind.wrap .u64 (v.toNat : Int)) = v := by
  have hlt := v.isLt
  rw [wrapU (by omega)]
  unfold bv
  apply BitVec.eq_of_toNat_eq
  rw [BitVec.toNat_ofInt]
  have : ((v.toNat : Int) % (2 ^ 64 : Nat)).toNat = v.toNat := by
    rw [Int.emod_eq_of_lt (by omega) (by omega)]; simp
  exact this
theorem U_wrap (v : BitVec 64) : U (IntKind.wrap .u64 (v.toNat : Int)) := by
  have hlt := v.isLt
  rw [wrapU (by omega), U_iff]; omega
theorem bv_nat {x : Int} (h : U x) : (bv x).toNat = x.toNat := by
  rw [U_iff] at h
  unfold bv
  rw [BitVec.toNat_ofInt, Int.emod_eq_of_lt (by omega) (by omega)]
theorem tb_nat {x : Int} (h : U x) (i : Nat) : tb x i = x.toNat.testBit i := by
  unfold tb; rw [← BitVec.testBit_toNat, bv_nat h]
theorem tb_lt {x : Int} {i : Nat} (h : tb x i = true) : i < 64 := by
  unfold tb at h
  exact BitVec.lt_of_getLsbD h
theorem U_ext {x y : Int} (hx : U x) (hy : U y) (h : ∀ i, i < 64 → tb x i = tb y i) : x = y := by
  have : bv x = bv y := BitVec.eq_of_getLsbD_eq fun i hi => h i hi
  have h2 := congrArg BitVec.toNat this
  rw [bv_nat hx, bv_nat hy] at h2
  rw [U_iff] at hx hy
  omega
theorem tb_zero (i : Nat) : tb 0 i = false := by
  rw [tb_nat (by rw [U_iff]; omega)]; simp
theorem eq_zero {x : Int} (hx : U x) : x = 0 ↔ ∀ i, i < 64 → tb x i = false := by
  constructor
  · rintro rfl i _; exact tb_zero i
  · intro h; exact U_ext hx (by rw [U_iff]; omega) fun i hi => by rw [h i hi, tb_zero]
theorem ne_zero {x : Int} (hx : U x) : x ≠ 0 ↔ ∃ i, tb x i = true := by
  rw [ne_eq, eq_zero hx]
  constructor
  · intro h
    apply Classical.byContradiction
    intro hn
    exact h fun i _ => by
      cases hb : tb x i
      · rfl
      · exact absurd ⟨i, hb⟩ hn
  · rintro ⟨i, hi⟩ h
    rw [h i (tb_lt hi)] at hi; cases hi

theorem tb_or (x y : Int) (i : Nat) : tb (iBit .or .u64 x y) i = (tb x i || tb y i) := by
  unfold tb iBit
  have := bv_wrap (bv x ||| bv y)
  unfold bv at this ⊢
  rw [show IntKind.bits .u64 = 64 from rfl, this]; simp
theorem tb_and (x y : Int) (i : Nat) : tb (iBit .and .u64 x y) i = (tb x i && tb y i) := by
  unfold tb iBit
  have := bv_wrap (bv x &&& bv y)
  unfold bv at this ⊢
  rw [show IntKind.bits .u64 = 64 from rfl, this]; simp
theorem tb_andNot (x y : Int) (i : Nat) : tb (iBit .andNot .u64 x y) i = (tb x i && !tb y i) := by
  unfold tb iBit
  have := bv_wrap (bv x &&& ~~~ bv y)
  unfold bv at this ⊢
  rw [show IntKind.bits .u64 = 64 from rfl, this]
  by_cases h : i < 64
  · simp [h]
  · have h1 : (BitVec.ofInt 64 x).getLsbD i = false := BitVec.getLsbD_of_ge _ _ (by omega)
    simp [h1]
theorem U_or (x y : Int) : U (iBit .or .u64 x y) := U_wrap (bv x ||| bv y)
theorem U_and (x y : Int) : U (iBit .and .u64 x y) := U_wrap (bv x &&& bv y)
theorem U_andNot (x y : Int) : U (iBit .andNot .u64 x y) := U_wrap (bv x &&& ~~~ bv y)

theorem shl_one {i : Int} (h0 : 0 ≤ i) (h1 : i < 64) : iBit .shl .u64 1 i = ((2 ^ i.toNat : Nat) : Int) := by
  have hm : min i.toNat (IntKind.bits .u64) = i.toNat := by rw [show IntKind.bits .u64 = 64 from rfl]; omega
  simp only [iBit, hm]
  have hp : 2 ^ i.toNat < 18446744073709551616 := by
    have : 2 ^ i.toNat < 2 ^ 64 := Nat.pow_lt_pow_right (by omega) (by omega)
    simpa using this
  rw [show (1 : Int) * 2 ^ i.toNat = ((2 ^ i.toNat : Nat) : Int) by simp]
  exact wrapU hp
theorem U_pow {i : Nat} (h : i < 64) : U ((2 ^ i : Nat) : Int) := by
  have : 2 ^ i < 2 ^ 64 := Nat.pow_lt_pow_right (by omega) h
  rw [U_iff]
  generalize 2 ^ i = p at this ⊢
  omega
theorem tb_shl {i : Int} (h0 : 0 ≤ i) (h1 : i < 64) (j : Nat) : tb (iBit .shl .u64 1 i) j = decide (j = i.toNat) := by
  rw [shl_one h0 h1, tb_nat (U_pow (by omega)), Int.toNat_natCast, Nat.testBit_two_pow]
  by_cases h : i.toNat = j
  · subst h; simp
  · simp [h, Ne.symm h]
theorem U_shl {i : Int} (h0 : 0 ≤ i) (h1 : i < 64) : U (iBit .shl .u64 1 i) := by rw [shl_one h0 h1]; exact U_pow (by omega)
/-- All below n. -/
theorem full {n : Int} (h0 : 0 ≤ n) (h1 : n < 64) : U (iBit .shl .u64 1 n - 1) ∧ ∀ j, tb (iBit .shl .u64 1 n - 1) j = decide (j < n.toNat) := by
  have hp : 2 ^ n.toNat < 2 ^ 64 := Nat.pow_lt_pow_right (by omega) (by omega)
  have hpos : 0 < 2 ^ n.toNat := Nat.pow_pos (by omega)
  have hU : U (iBit .shl .u64 1 n - 1) := by rw [shl_one h0 h1, U_iff]; omega
  refine ⟨hU, fun j => ?_⟩
  rw [tb_nat hU, shl_one h0 h1]
  rw [show (((2 ^ n.toNat : Nat) : Int) - 1).toNat = 2 ^ n.toNat - 1 by omega]
  rw [Nat.testBit_two_pow_sub_one]

theorem shr_bit {x i : Int} (hx : U x) (h0 : 0 ≤ i) (h1 : i < 64) : iBit .and .u64 (iBit .shr .u64 x i) 1 = if tb x i.toNat then 1 else 0 := by
  have hm : min i.toNat (IntKind.bits .u64) = i.toNat := by rw [show IntKind.bits .u64 = 64 from rfl]; omega
  have hx' := U_iff.1 hx
  have hs : iBit .shr .u64 x i = ((x.toNat >>> i.toNat : Nat) : Int) := by
    simp only [iBit, hm]
    rw [Int.fdiv_eq_ediv_of_nonneg _ (by exact_mod_cast Nat.zero_le (2 ^ i.toNat)), Nat.shiftRight_eq_div_pow]
    rw [Int.natCast_ediv, Int.toNat_of_nonneg hx'.1]
    simp
  have hlt : x.toNat >>> i.toNat < 18446744073709551616 := by
    rw [Nat.shiftRight_eq_div_pow]
    exact Nat.lt_of_le_of_lt (Nat.div_le_self _ _) (by omega)
  have hUs : U (iBit .shr .u64 x i) := by
    rw [hs, U_iff]
    generalize x.toNat >>> i.toNat = p at hlt ⊢
    omega
  have h1U : U 1 := by rw [U_iff]; omega
  have hone : ∀ j, tb 1 j = decide (j = 0) := by
    intro j
    rw [tb_nat h1U, show (1 : Int).toNat = 2 ^ 0 from rfl, Nat.testBit_two_pow]
    by_cases h : 0 = j
    · subst h; simp
    · simp [h, Ne.symm h]
  have hbit : ∀ j, tb (iBit .and .u64 (iBit .shr .u64 x i) 1) j = (decide (j = 0) && tb x i.toNat) := by
    intro j
    rw [tb_and, hone, tb_nat hUs, hs, Int.toNat_natCast, Nat.testBit_shiftRight, tb_nat hx]
    by_cases h : j = 0
    · subst h; simp
    · simp [h]
  split
  · rename_i hb
    refine U_ext (U_and _ _) h1U fun j _ => ?_
    rw [hbit, hb, hone]; simp
  · rename_i hb
    refine U_ext (U_and _ _) (by rw [U_iff]; omega) fun j _ => ?_
    rw [hbit, tb_zero]
    simp [hb]
end Go.Sx
namespace Go.Sx
theorem if_one {b : Bool} (h : (if b = true then (1 : Int) else 0) = 1) : b = true := by cases b <;> simp_all
theorem if_not_one {b : Bool} (h : (if b = true then (1 : Int) else 0) ≠ 1) : ¬ b = true := by cases b <;> simp_all
theorem if_ne {b : Bool} (h : (if b = true then (1 : Int) else 0) ≠ 0) : b = true := by cases b <;> simp_all
theorem if_zero {b : Bool} (h : (if b = true then (1 : Int) else 0) = 0) : ¬ b = true := by cases b <;> simp_all
def bitsOf (S : Int) : List Int := ((List.range 64).filter (fun i => tb S i)).map Int.ofNat
theorem bitsOf_zero : bitsOf 0 = [] := by
  unfold bitsOf
  rw [List.filter_eq_nil_iff.2 (by intro a _; simp [tb_zero])]; rfl
theorem bitsOf_mem {S : Int} {i : Nat} : (i : Int) ∈ bitsOf S ↔ tb S i = true := by
  unfold bitsOf
  simp only [List.mem_map, List.mem_filter, List.mem_range, Int.ofNat_eq_natCast]
  constructor
  · rintro ⟨a, ⟨_, h⟩, he⟩; obtain rfl : a = i := by omega
    exact h
  · intro h; exact ⟨i, ⟨tb_lt h, h⟩, rfl⟩
theorem bitsOf_nonneg {S : Int} {x : Int} (h : x ∈ bitsOf S) : 0 ≤ x ∧ x < 64 := by
  unfold bitsOf at h
  simp only [List.mem_map, List.mem_filter, List.mem_range] at h
  obtain ⟨a, ⟨h1, _⟩, rfl⟩ := h
  simp; omega
theorem bitsOf_cons {S S' : Int} {t : Nat} (ht : t < 64) (hlow : ∀ i, i < t → tb S i = false) (hb : tb S t = true) (h' : ∀ i, tb S' i = (tb S i && decide (i ≠ t))) : bitsOf S = (t : Int) :: bitsOf S' := by
  have hr : List.range 64 = List.range t ++ t :: List.range' (t + 1) (63 - t) := by
    rw [List.range_eq_range', List.range_eq_range', ← List.range'_succ]
    have := List.range'_append (s := 0) (m := t) (n := 63 - t + 1) (step := 1)
    rw [show 0 + 1 * t = t by omega, show t + (63 - t + 1) = 64 by omega] at this
    exact this.symm
  unfold bitsOf
  rw [hr]
  simp only [List.filter_append, List.filter_cons, hb, h', if_true]
  have h1 : (List.range t).filter (fun i => tb S i) = [] := List.filter_eq_nil_iff.2 (by intro a ha; simp at ha; simp [hlow a ha])
  have h2 : (List.range t).filter (fun i => tb S i && decide (i ≠ t)) = [] := List.filter_eq_nil_iff.2 (by intro a ha; simp at ha; simp [hlow a ha])
  have h3 : (List.range' (t + 1) (63 - t)).filter (fun i => tb S i && decide (i ≠ t)) = (List.range' (t + 1) (63 - t)).filter (fun i => tb S i) := by
    apply List.filter_congr
    intro a ha
    have := List.mem_range'_1.1 ha
    have : a ≠ t := by omega
    simp [this]
  rw [h1, h2, h3]
  simp
theorem bitsOf_congr {S S' : Int} (h : ∀ i, i < 64 → (tb S i = true ↔ tb S' i = true)) : bitsOf S = bitsOf S' := by
  unfold bitsOf
  congr 1
  apply List.filter_congr
  intro a ha
  have := h a (by simpa using ha)
  cases h1 : tb S a <;> cases h2 : tb S' a <;> simp_all
theorem bitsOf_length {S : Int} : (bitsOf S).length ≤ 64 := by
  unfold bitsOf
  have := List.length_filter_le (fun i => tb S i) (List.range 64)
  simpa using this
end Go.Sx
