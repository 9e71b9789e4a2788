/- Texts in plain words: numerals, pieces between signs, cuts. -/
import Derived.Test.YtenppnomdejmlaaGreatDoorGood
import Derived.Test.YtenppnomdejmlaaGreatDoorShf
import Derived.Lib.ParseIntBCases
import Derived.Lib.IndexLaws
import Derived.Lib.Join
import Derived.Lib.Split
import Derived.Lib.CountLaws
import Derived.Lib.CutLaws
set_option linter.unusedVariables false
set_option linter.unusedSimpArgs false
namespace Go.Proofs.YtenppnomdejmlaaGreatDoor
open Go.Sx Go.RowKit

def ofL (l : List UInt8) : ByteArray := ⟨l.toArray⟩
theorem ofL_list (l : List UInt8) : (ofL l).data.toList = l := rfl
theorem ofL_size (l : List UInt8) : (ofL l).size = l.length := rfl
theorem ofL_of (s : ByteArray) : ofL s.data.toList = s := by cases s; rfl
theorem bs_app (a b : ByteArray) : (a ++ b).data.toList = a.data.toList ++ b.data.toList := by simp
theorem ofL_app (a b : List UInt8) : ofL a ++ ofL b = ofL (a ++ b) := by
  rw [← ofL_of (ofL a ++ ofL b), bs_app]; rfl
theorem ofL_inj {a b : List UInt8} (h : ofL a = ofL b) : a = b := by
  have := congrArg (fun s : ByteArray => s.data.toList) h
  exact this
/-! ### Numerals -/
theorem u8_nat {n : Nat} (h : n < 256) : (UInt8.ofNat n).toNat = n := by simp; omega
theorem dec_digits : ∀ (u : Nat), ∀ c ∈ Lib.decDigits u, 48 ≤ c.toNat ∧ c.toNat ≤ 57 := by
  intro u
  induction u using Nat.strongRecOn with
  | _ u ih =>
    intro c hc
    rw [Lib.decDigits] at hc
    split at hc
    · obtain rfl := List.mem_singleton.1 hc
      rw [u8_nat (by omega)]; omega
    · rcases List.mem_append.1 hc with h | h
      · exact ih (u / 10) (by omega) c h
      · obtain rfl := List.mem_singleton.1 h
        rw [u8_nat (by omega)]; omega
theorem dec_ne (u : Nat) : Lib.decDigits u ≠ [] := by
  rw [Lib.decDigits]; split <;> simp
theorem parseM_app {M : Nat} : ∀ {l : List UInt8} {acc v : Nat} (r : List UInt8), Lib.parseUintM M acc l = .ok v → Lib.parseUintM M acc (l ++ r) = Lib.parseUintM M v r
  | [], acc, v, r, h => by
    simp only [Lib.parseUintM, Lib.NumEnd.ok.injEq] at h
    subst h; rfl
  | c :: l, acc, v, r, h => by
    simp only [Lib.parseUintM, List.cons_append] at h ⊢
    split at h
    · rename_i hd
      rw [if_pos hd]
      split at h
      · cases h
      · rename_i h2
        rw [if_neg h2]
        split at h
        · cases h
        · rename_i h3
          rw [if_neg h3]
          exact parseM_app r h
    · cases h
theorem parse_dec : ∀ (u : Nat), u ≤ 1099511627776 → Lib.parseUintM 18446744073709551615 0 (Lib.decDigits u) = .ok u := by
  intro u
  induction u using Nat.strongRecOn with
  | _ u ih =>
    intro hu
    rw [Lib.decDigits]
    split
    · rename_i h
      simp only [Lib.parseUintM]
      rw [u8_nat (by omega), if_pos (by omega), if_neg (by omega), if_neg (by omega)]
      congr 1; omega
    · rename_i h
      rw [parseM_app _ (ih (u / 10) (by omega) (by omega))]
      simp only [Lib.parseUintM]
      rw [u8_nat (by omega), if_pos (by omega), if_neg (by omega), if_neg (by omega)]
      congr 1; omega
theorem itoa_dec {n : Int} (h : 0 ≤ n) : Lib.itoa n = Lib.decDigits n.toNat := by
  unfold Lib.itoa; rw [if_neg (by omega)]
theorem parse_itoa {n : Int} (h : 0 ≤ n ∧ n ≤ 1099511627776) : Lib.parseIntB 64 (Lib.itoa n) = .ok n := by
  rw [itoa_dec h.1]
  have hd := dec_digits n.toNat
  cases hl : Lib.decDigits n.toNat with
  | nil => exact absurd hl (dec_ne _)
  | cons c r =>
    have hc := hd c (by rw [hl]; exact List.mem_cons_self ..)
    rw [Lib.parseIntB_plain 64 c r (by omega) (by omega), ← hl]
    unfold Lib.parseUintB
    rw [if_neg (dec_ne _), show (2 : Nat) ^ 64 - 1 = 18446744073709551615 by decide, parse_dec _ (by omega)]
    show (if (2 : Nat) ^ (64 - 1) ≤ n.toNat then _ else _) = _
    rw [if_neg (by have : (2 : Nat) ^ (64 - 1) = 9223372036854775808 := by decide
                   omega)]
    congr 1; omega
theorem itoa_inj {m n : Int} (hm : 0 ≤ m ∧ m ≤ 1099511627776) (hn : 0 ≤ n ∧ n ≤ 1099511627776) (h : Lib.itoa m = Lib.itoa n) : m = n := by
  have := parse_itoa hm
  rw [h, parse_itoa hn] at this
  injection this with e
  exact e.symm
theorem itoa_no {n : Int} (h : 0 ≤ n) {c : UInt8} (hc : c.toNat < 48) : c ∉ Lib.itoa n := fun hm => by
  rw [itoa_dec h] at hm
  have := dec_digits _ _ hm
  omega
theorem itoa_no2 {n : Int} (h : 0 ≤ n) {c : UInt8} (hc : 57 < c.toNat) : c ∉ Lib.itoa n := fun hm => by
  rw [itoa_dec h] at hm
  have := dec_digits _ _ hm
  omega

/-! ### One sign -/
theorem idx_hit {c : UInt8} : ∀ {a : List UInt8} (b : List UInt8), c ∉ a → Lib.index (a ++ c :: b) [c] = a.length
  | [], b, _ => by rw [Lib.index_one]; simp [Lib.indexByte]
  | x :: a, b, h => by
    have hx : ¬ x = c := fun he => h (by rw [he]; exact List.mem_cons_self ..)
    have := idx_hit (a := a) b fun hm => h (List.mem_cons_of_mem _ hm)
    rw [Lib.index_one] at this ⊢
    simp only [List.cons_append, Lib.indexByte, this, beq_iff_eq, hx, if_false]
    rw [if_neg (by omega)]
    simp
theorem idx_miss {c : UInt8} : ∀ {a : List UInt8}, c ∉ a → Lib.index a [c] = -1
  | [], _ => rfl
  | x :: a, h => by
    have hx : ¬ x = c := fun he => h (by rw [he]; exact List.mem_cons_self ..)
    have := idx_miss (a := a) fun hm => h (List.mem_cons_of_mem _ hm)
    rw [Lib.index_one] at this ⊢
    simp only [Lib.indexByte, this, beq_iff_eq, hx, if_false, if_true]
def one (c : UInt8) : ByteArray := ⟨#[c]⟩
theorem ext_front {c : UInt8} (a b : List UInt8) : (ofL (a ++ c :: b)).extract 0 (a.length + 0) = ofL a := by
  rw [← ofL_of ((ofL (a ++ c :: b)).extract 0 (a.length + 0))]
  congr 1
  simp [ofL]
theorem ext_back {c : UInt8} (a b : List UInt8) : (ofL (a ++ c :: b)).extract (a.length + (one c).size) (ofL (a ++ c :: b)).size = ofL b := by
  rw [← ofL_of ((ofL (a ++ c :: b)).extract _ _)]
  congr 1
  have hd : (one c).size = 1 := rfl
  rw [hd, ofL_size]
  simp [ofL]
  exact List.take_of_length_le (by omega)
theorem split_hit {c : UInt8} {a b : List UInt8} (h : c ∉ a) (k : Nat) : Lib.splitB (one c) 0 (k + 1) (ofL (a ++ c :: b)) = ofL a :: Lib.splitB (one c) 0 k (ofL b) := by
  rw [Lib.splitB_hit (one c) 0 k _ a.length (idx_hit b h), ext_front, ext_back]
theorem count_hit {c : UInt8} {a b : List UInt8} (h : c ∉ a) : Lib.countB (ofL (a ++ c :: b)) (one c) = 1 + Lib.countB (ofL b) (one c) := by
  rw [Lib.countB_hit (ofL (a ++ c :: b)) (one c) a.length (Nat.le_refl 1) (idx_hit b h), ext_back]
theorem count_miss {c : UInt8} {a : List UInt8} (h : c ∉ a) : Lib.countB (ofL a) (one c) = 0 := Lib.countB_miss _ _ (idx_miss h)
theorem cut_hit {c : UInt8} {a : List UInt8} (b : List UInt8) (h : c ∉ a) : Lib.cut (a ++ c :: b) [c] = (a, b, true) := by
  unfold Lib.cut
  rw [idx_hit b h, if_pos (by omega)]
  simp
/-- Pieces joined by one sign are split as they were. -/
theorem join_split {c : UInt8} : ∀ (l : List (List UInt8)) (x : List UInt8), (∀ y ∈ x :: l, c ∉ y) → Lib.countB (ofL (Lib.join (x :: l) [c])) (one c) = l.length ∧ Lib.splitB (one c) 0 l.length (ofL (Lib.join (x :: l) [c])) = (x :: l).map ofL
  | [], x, h => by
    rw [Lib.join_one]
    exact ⟨count_miss (h x (List.mem_cons_self ..)), rfl⟩
  | y :: l, x, h => by
    obtain ⟨h1, h2⟩ := join_split l y fun z hz => h z (List.mem_cons_of_mem _ hz)
    have e : Lib.join (x :: y :: l) [c] = x ++ c :: Lib.join (y :: l) [c] := by
      rw [Lib.join_cons, Lib.join_cons]
      simp [Lib.joinTail]
    rw [e]
    have hx := h x (List.mem_cons_self ..)
    refine ⟨by rw [count_hit hx, h1, List.length_cons]; omega, ?_⟩
    rw [List.length_cons, split_hit hx, h2]
    rfl
theorem split_size {c : UInt8} : ∀ (k : Nat) (s : ByteArray) (i : Nat) (p : ByteArray), (Lib.splitB (one c) 0 k s)[i]? = some p → p.size + i ≤ s.size
  | 0, s, i, p, h => by
    rw [Lib.splitB_zero] at h
    cases i with
    | zero => simp at h; subst h; omega
    | succ i => simp at h
  | k + 1, s, i, p, h => by
    rcases Lib.indexB_cases s (one c) with hm | ⟨j, hj, hle⟩
    · rw [Lib.splitB_miss (one c) 0 _ s hm] at h
      cases i with
      | zero => simp at h; subst h; omega
      | succ i => simp at h
    · have hd : (one c).size = 1 := rfl
      rw [Lib.splitB_hit (one c) 0 k s j hj] at h
      cases i with
      | zero =>
        simp only [List.getElem?_cons_zero, Option.some.injEq] at h
        subst h
        rw [ByteArray.size_extract]; omega
      | succ i =>
        simp only [List.getElem?_cons_succ] at h
        have := split_size k _ i p h
        rw [ByteArray.size_extract] at this
        omega
theorem cut_size (s : List UInt8) (c : UInt8) : (Lib.cut s [c]).2.1.length ≤ s.length := by
  unfold Lib.cut
  split
  · simp only [List.length_drop]; omega
  · simp
end Go.Proofs.YtenppnomdejmlaaGreatDoor
