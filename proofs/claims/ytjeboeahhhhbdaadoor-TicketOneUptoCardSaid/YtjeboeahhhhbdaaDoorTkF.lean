/- A sign changed changes the sum; the laws TicketBack and TicketRenewed. -/
import Derived.Test.YtjeboeahhhhbdaaDoorTkE
set_option linter.unusedVariables false
set_option linter.unusedSimpArgs false
namespace Go.Proofs.YtjeboeahhhhbdaaDoor
open Go.Sx Go.RowKit

/-! ### Sums tell -/
theorem xs_inj {x y : Nat} (hx : x < 18446744073709551616) (hy : y < 18446744073709551616) (h : x ^^^ (x >>> 31) = y ^^^ (y >>> 31)) : x = y := by
  have key : ∀ n i, 64 ≤ i + n → x.testBit i = y.testBit i := by
    intro n
    induction n with
    | zero =>
      intro i hi
      have p : 18446744073709551616 ≤ 2 ^ i := Nat.le_trans (by decide : 18446744073709551616 ≤ 2 ^ 64) (Nat.pow_le_pow_right (by omega) (by omega))
      rw [Nat.testBit_lt_two_pow (Nat.lt_of_lt_of_le hx p), Nat.testBit_lt_two_pow (Nat.lt_of_lt_of_le hy p)]
    | succ n ih =>
      intro i hi
      have hb := congrArg (fun z : Nat => z.testBit i) h
      simp only [Nat.testBit_xor, Nat.testBit_shiftRight] at hb
      rw [Nat.add_comm 31 i] at hb
      rw [ih (i + 31) (by omega)] at hb
      revert hb
      cases x.testBit i <;> cases y.testBit i <;> cases y.testBit (i + 31) <;> simp
  exact Nat.eq_of_testBit_eq fun i => key 64 i (by omega)
theorem wrap_mod (x : Int) : IntKind.wrap .u64 x = x % 18446744073709551616 := by
  simp [IntKind.wrap, IntKind.signed, IntKind.bits]
theorem inv_M : (11400714785074694791 : Int) * 614540362697595703 = 1 + 18446744073709551616 * 379806830464837242 := by decide
theorem mul_inj {a b : Int} (ha : 0 ≤ a ∧ a ≤ 18446744073709551615) (hb : 0 ≤ b ∧ b ≤ 18446744073709551615) (h : (a * 11400714785074694791) % 18446744073709551616 = (b * 11400714785074694791) % 18446744073709551616) : a = b := by
  have h1 : (18446744073709551616 : Int) ∣ a * 11400714785074694791 - b * 11400714785074694791 := Int.dvd_of_emod_eq_zero (Int.emod_eq_emod_iff_emod_sub_eq_zero.1 h)
  rw [← Int.sub_mul] at h1
  have h2 : (18446744073709551616 : Int) ∣ (a - b) * 11400714785074694791 * 614540362697595703 := Int.dvd_trans h1 (Int.dvd_mul_right _ _)
  rw [Int.mul_assoc, inv_M, Int.mul_add, Int.mul_one] at h2
  have h3 : (18446744073709551616 : Int) ∣ (a - b) * (18446744073709551616 * 379806830464837242) := by
    rw [← Int.mul_assoc, Int.mul_comm (a - b), Int.mul_assoc]
    exact Int.dvd_mul_right _ _
  obtain ⟨z, hz⟩ := (Int.dvd_add_left h3).1 h2
  clear h h1 h2 h3
  omega
theorem shr31 (t : Nat) : iBit .shr .u64 (t : Int) 31 = ((t >>> 31 : Nat) : Int) := by
  have hb : min (31 : Int).toNat IntKind.u64.bits = 31 := by decide
  simp only [iBit, hb]
  rw [Int.fdiv_eq_ediv_of_nonneg _ (by decide), Nat.shiftRight_eq_div_pow]
  omega
theorem xor_nat (a b : Nat) (ha : a < 18446744073709551616) (hb : b < 18446744073709551616) : iBit .xor .u64 (a : Int) (b : Int) = ((a ^^^ b : Nat) : Int) := by
  have h1 : (BitVec.ofInt 64 (a : Int) ^^^ BitVec.ofInt 64 (b : Int)).toNat = a ^^^ b := by
    rw [BitVec.toNat_xor]
    have e1 : (BitVec.ofInt 64 (a : Int)).toNat = a := by simp [BitVec.toNat_ofInt]; omega
    have e2 : (BitVec.ofInt 64 (b : Int)).toNat = b := by simp [BitVec.toNat_ofInt]; omega
    rw [e1, e2]
  simp only [iBit]
  show IntKind.wrap .u64 (((BitVec.ofInt 64 (a : Int) ^^^ BitVec.ofInt 64 (b : Int)).toNat : Nat) : Int) = _
  rw [h1, wrap_mod]
  have := Nat.xor_lt_two_pow (n := 64) ha hb
  omega
theorem emod_rng (x : Int) : 0 ≤ x % 18446744073709551616 ∧ x % 18446744073709551616 ≤ 18446744073709551615 := by
  have h1 := Int.emod_nonneg x (show (18446744073709551616 : Int) ≠ 0 by decide)
  have h2 := Int.emod_lt_of_pos x (show (0 : Int) < 18446744073709551616 by decide)
  omega
theorem xsi_inj {x y : Int} (hx : 0 ≤ x ∧ x ≤ 18446744073709551615) (hy : 0 ≤ y ∧ y ≤ 18446744073709551615) (h : iBit .xor .u64 x (iBit .shr .u64 x 31) = iBit .xor .u64 y (iBit .shr .u64 y 31)) : x = y := by
  obtain ⟨a, rfl⟩ : ∃ a : Nat, x = a := ⟨x.toNat, by omega⟩
  obtain ⟨b, rfl⟩ : ∃ b : Nat, y = b := ⟨y.toNat, by omega⟩
  have la : a < 18446744073709551616 := by omega
  have lb : b < 18446744073709551616 := by omega
  rw [shr31, shr31, xor_nat _ _ la (Nat.lt_of_le_of_lt (Nat.shiftRight_le _ _) la), xor_nat _ _ lb (Nat.lt_of_le_of_lt (Nat.shiftRight_le _ _) lb)] at h
  rw [xs_inj la lb (Int.ofNat.inj h)]
theorem mix_inj {u v c d : Int} (h : mixI u c = mixI v d) : (u + c) % 18446744073709551616 = (v + d) % 18446744073709551616 := by
  unfold mixI at h
  simp only [wrap_mod] at h
  exact mul_inj (emod_rng _) (emod_rng _) (xsi_inj (emod_rng _) (emod_rng _) h)
theorem sum_fold {l : List Int} : ∀ {u v : Int}, (0 ≤ u ∧ u ≤ 18446744073709551615) → (0 ≤ v ∧ v ≤ 18446744073709551615) → l.foldl mixI u = l.foldl mixI v → u = v := by
  induction l with
  | nil => intro u v _ _ h; exact h
  | cons x r ih =>
    intro u v hu hv h
    have := mix_inj (ih (mixI_rng u x) (mixI_rng v x) h)
    omega
theorem sum_change {key : Int} (hk : 0 ≤ key ∧ key ≤ 18446744073709551615) {a b : List Int} {x y : Int} (hx : 0 ≤ x ∧ x ≤ 255) (hy : 0 ≤ y ∧ y ≤ 255) (h : sumI key (a ++ x :: b) = sumI key (a ++ y :: b)) : x = y := by
  unfold sumI at h
  rw [List.foldl_append, List.foldl_append, List.foldl_cons, List.foldl_cons] at h
  have := mix_inj (sum_fold (mixI_rng _ _) (mixI_rng _ _) h)
  omega

theorem dgt_inj : ∀ m : Nat, m < 16 → ∀ n : Nat, n < 16 → dgt m = dgt n → m = n := by decide
theorem hexL_mod {u v : Nat} : ∀ {k : Nat}, hexL u k = hexL v k → u % 16 ^ k = v % 16 ^ k
  | 0, _ => by simp [Nat.mod_one]
  | k + 1, h => by
    rw [hexL_succ, hexL_succ, List.cons.injEq] at h
    have := dgt_inj _ (Nat.mod_lt _ (by omega)) _ (Nat.mod_lt _ (by omega)) h.1
    rw [Nat.mod_pow_succ, Nat.mod_pow_succ, hexL_mod h.2, this]
theorem hexL_inj {u v : Nat} (hu : u < 18446744073709551616) (hv : v < 18446744073709551616) (h : hexL u 16 = hexL v 16) : u = v := by
  have := hexL_mod h
  have e : (16 : Nat) ^ 16 = 18446744073709551616 := by decide
  rw [e, Nat.mod_eq_of_lt hu, Nat.mod_eq_of_lt hv] at this
  exact this

theorem turned {key : Int} (hk : 0 ≤ key ∧ key ≤ 18446744073709551615) {t u : Tk} {i : Nat} {c : UInt8} (hi : i < (sealL key t).length) (hc : (sealL key t)[i]? ≠ some c) (h : sealL key u = (sealL key t).set i c) : False := by
  have hl : (bodyL u).length = (bodyL t).length := by
    have := congrArg List.length h
    unfold sealL at this
    simp [hexL_len] at this
    exact this
  unfold sealL at h hc hi
  rcases Nat.lt_trichotomy i (bodyL t).length with hlt | heq | hgt
  · rw [List.set_append_left _ _ hlt] at h
    obtain ⟨h1, h2⟩ := List.append_inj h (by rw [List.length_set]; exact hl)
    rw [List.cons.injEq] at h2
    have hs : sumT key (bodyL u) = sumT key (bodyL t) := by
      have r1 := sumI_rng hk ((bodyL u).map fun b => (b.toNat : Int))
      have r2 := sumI_rng hk ((bodyL t).map fun b => (b.toNat : Int))
      exact hexL_inj (by unfold sumT; omega) (by unfold sumT; omega) h2.2
    have hd : bodyL t = (bodyL t).take i ++ (bodyL t)[i] :: (bodyL t).drop (i + 1) := by rw [← List.drop_eq_getElem_cons hlt, List.take_append_drop]
    have hd2 : bodyL u = (bodyL t).take i ++ c :: (bodyL t).drop (i + 1) := by
      rw [h1, List.set_eq_take_append_cons_drop, if_pos hlt]
    have hsI : sumI key ((bodyL u).map fun b => (b.toNat : Int)) = sumI key ((bodyL t).map fun b => (b.toNat : Int)) := by
      have r1 := sumI_rng hk ((bodyL u).map fun b => (b.toNat : Int))
      have r2 := sumI_rng hk ((bodyL t).map fun b => (b.toNat : Int))
      unfold sumT at hs; omega
    rw [hd2] at hsI
    conv at hsI => rhs; rw [hd]
    simp only [List.map_append, List.map_cons] at hsI
    have b1 := c.toNat_lt
    have b2 := ((bodyL t)[i]).toNat_lt
    have := sum_change hk (by omega) (by omega) hsI
    have he : c = (bodyL t)[i] := UInt8.toNat_inj.1 (by omega)
    apply hc
    rw [List.getElem?_append_left hlt, List.getElem?_eq_getElem hlt, he]
  · subst heq
    rw [List.set_append_right _ _ (Nat.le_refl _), Nat.sub_self, List.set_cons_zero] at h
    obtain ⟨_, h2⟩ := List.append_inj h hl
    rw [List.cons.injEq] at h2
    apply hc
    rw [List.getElem?_append_right (Nat.le_refl _), Nat.sub_self, List.getElem?_cons_zero, h2.1]
  · have hb : bodyL u = bodyL t := by
      rw [List.set_append_right _ _ (by omega)] at h
      exact (List.append_inj h hl).1
    rw [hb] at h
    apply hc
    have := congrArg (fun l => l[i]?) h
    simp only [List.getElem?_set_self hi] at this
    exact this

end Go.Proofs.YtjeboeahhhhbdaaDoor
