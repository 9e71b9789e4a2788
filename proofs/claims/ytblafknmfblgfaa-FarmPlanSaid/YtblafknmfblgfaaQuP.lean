/- Heaps, in plain words: what going up and going down does to a row. -/
import Derived.Test.YtblafknmfblgfaaSxR
import Derived.Test.YtblafknmfblgfaaSxM
set_option linter.unusedVariables false
set_option linter.unusedSimpArgs false
namespace Go.Proofs.Ytblafknmfblgfaa
open Go.Sx Go.RowKit

/-- A thing that waits: its block, and what stands in it (but for its place). -/
structure Th where
  b : Nat
  prio : Int
  id : Int
  born : Int
  deriving DecidableEq

def th0 : Th := ⟨0, 0, 0, 0⟩
def ahead (t u : Th) : Prop := u.prio < t.prio ∨ t.prio = u.prio ∧ t.born < u.born
instance (t u : Th) : Decidable (ahead t u) := by unfold ahead; infer_instance

theorem ahead_asymm {t u : Th} (h : ahead t u) : ¬ ahead u t := by unfold ahead at *; omega
theorem ahead_trans {t u v : Th} (h : ahead t u) (k : ahead u v) : ahead t v := by unfold ahead at *; omega
theorem not_ahead_trans {t u v : Th} (h : ¬ ahead t u) (k : ¬ ahead u v) : ¬ ahead t v := by unfold ahead at *; omega
theorem not_ahead_of {t u v : Th} (h : ¬ ahead t u) (k : ahead v u) : ¬ ahead t v := fun h' => h (ahead_trans h' k)

/-- The thing at a place. -/
def at_ (H : List Th) (k : Nat) : Th := H.getD k th0
def swp (H : List Th) (i j : Nat) : List Th := (H.set i (at_ H j)).set j (at_ H i)
theorem swp_len (H : List Th) (i j : Nat) : (swp H i j).length = H.length := by simp [swp]
theorem at_set (H : List Th) (i k : Nat) (x : Th) (hi : i < H.length) : at_ (H.set i x) k = if k = i then x else at_ H k := by
  unfold at_
  rw [List.getD_eq_getElem?_getD, List.getD_eq_getElem?_getD, List.getElem?_set]
  by_cases h : i = k
  · subst h; simp [hi]
  · rw [if_neg h, if_neg (Ne.symm h)]
theorem swp_at (H : List Th) {i j : Nat} (hi : i < H.length) (hj : j < H.length) (k : Nat) : at_ (swp H i j) k = if k = j then at_ H i else if k = i then at_ H j else at_ H k := by
  unfold swp
  rw [at_set _ _ _ _ (by simpa using hj), at_set _ _ _ _ hi]
theorem swp_perm (H : List Th) {i j : Nat} (hi : i < H.length) (hj : j < H.length) : (swp H i j).Perm H := by
  unfold swp at_
  rw [List.getD_eq_getElem?_getD, List.getD_eq_getElem?_getD, List.getElem?_eq_getElem hi, List.getElem?_eq_getElem hj]
  exact List.set_set_perm hi hj
theorem at_mem (H : List Th) {k : Nat} (h : k < H.length) : at_ H k ∈ H := getD_mem H th0 h
theorem mem_at {H : List Th} {t : Th} (h : t ∈ H) : ∃ k, k < H.length ∧ at_ H k = t := by
  obtain ⟨k, hk⟩ := List.mem_iff_getElem?.1 h
  exact ⟨k, (List.getElem?_eq_some_iff.1 hk).1, by unfold at_; rw [List.getD_eq_getElem?_getD, hk]; rfl⟩

def par (k : Nat) : Nat := (k - 1) / 2
/-- A heap, as far as n. -/
def Hp (H : List Th) (n : Nat) : Prop := ∀ k, 1 ≤ k → k < n → ¬ ahead (at_ H k) (at_ H (par k))
/-- A heap, but for the one at j, that may have to go up. -/
def Up (H : List Th) (n j : Nat) : Prop := (∀ k, 1 ≤ k → k < n → k ≠ j → ¬ ahead (at_ H k) (at_ H (par k))) ∧ (1 ≤ j → ∀ k, 1 ≤ k → k < n → par k = j → ¬ ahead (at_ H k) (at_ H (par j)))
/-- A heap, but for the one at i, that may have to go down; where it has gone from i0 it has not to go up. -/
def Dn (H : List Th) (n i0 i : Nat) : Prop := (∀ k, 1 ≤ k → k < n → par k ≠ i → (k ≠ i ∨ i ≠ i0) → ¬ ahead (at_ H k) (at_ H (par k))) ∧ (1 ≤ i → ∀ k, 1 ≤ k → k < n → par k = i → ¬ ahead (at_ H k) (at_ H (par i)))

theorem up_zero {H : List Th} {n : Nat} (h : Up H n 0) : Hp H n := fun k h1 hn => h.1 k h1 hn (by omega)
theorem up_stop {H : List Th} {n j : Nat} (h : Up H n j) (hs : ¬ ahead (at_ H j) (at_ H (par j))) : Hp H n := fun k h1 hn => by
  by_cases hk : k = j
  · rw [hk]; exact hs
  · exact h.1 k h1 hn hk

theorem up_step {H : List Th} {n j : Nat} (hl : n ≤ H.length) (hj : j < n) (h1 : 1 ≤ j) (h : Up H n j) (ha : ahead (at_ H j) (at_ H (par j))) : Up (swp H (par j) j) n (par j) := by
  have hp : par j < j := by unfold par; omega
  have sa := swp_at H (i := par j) (j := j) (by omega) (by omega)
  refine ⟨fun k k1 kn hk => ?_, fun hp1 k k1 kn hk => ?_⟩
  · rw [sa k, sa (par k)]
    by_cases hkj : k = j
    · subst hkj
      rw [if_pos rfl, if_neg (by omega), if_pos rfl]
      exact ahead_asymm ha
    · rw [if_neg hkj, if_neg hk]
      by_cases hpk : par k = j
      · rw [if_pos hpk]; exact h.2 h1 k k1 kn hpk
      · rw [if_neg hpk]
        by_cases hpp : par k = par j
        · rw [if_pos hpp]
          have := h.1 k k1 kn hkj
          rw [hpp] at this
          exact not_ahead_of this ha
        · rw [if_neg hpp]; exact h.1 k k1 kn hkj
  · have hpp : par (par j) < par j := by unfold par at *; omega
    have e := h.1 (par j) hp1 (by omega) (by omega)
    rw [sa k, sa (par (par j)), if_neg (show ¬ par (par j) = j by omega), if_neg (show ¬ par (par j) = par j by omega)]
    by_cases hkj : k = j
    · rw [if_pos hkj]; exact e
    · rw [if_neg hkj]
      have hkp : k ≠ par j := fun h => by rw [h] at hk; omega
      rw [if_neg hkp]
      have := h.1 k k1 kn hkj
      rw [hk] at this
      exact not_ahead_trans this e

/-- What goes down: from i to its child j, the one that is ahead of its sister, and of the one at i. -/
theorem dn_step {H : List Th} {n i0 i j : Nat} (hl : n ≤ H.length) (hj : j < n) (h1 : 1 ≤ j) (hi : par j = i) (hi0 : i0 ≤ i) (h : Dn H n i0 i) (ha : ahead (at_ H j) (at_ H i))
    (hs : ∀ k, 1 ≤ k → k < n → par k = i → ¬ ahead (at_ H k) (at_ H j)) : Dn (swp H i j) n i0 j := by
  have hij : i < j := by subst hi; unfold par; omega
  have sa := swp_at H (i := i) (j := j) (by omega) (by omega)
  refine ⟨fun k k1 kn hk _ => ?_, fun _ k k1 kn hk => ?_⟩
  · rw [sa k, sa (par k), if_neg (show ¬ par k = j from hk)]
    by_cases hkj : k = j
    · subst hkj
      rw [if_pos rfl, if_pos hi]
      exact ahead_asymm ha
    · rw [if_neg hkj]
      by_cases hki : k = i
      · rw [if_pos hki]
        subst hki
        have hpk : par k ≠ k := by unfold par; omega
        rw [if_neg hpk]
        exact h.2 k1 j h1 hj hi
      · rw [if_neg hki]
        by_cases hpi : par k = i
        · rw [if_pos hpi]; exact hs k k1 kn hpi
        · rw [if_neg hpi]; exact h.1 k k1 kn hpi (.inl hki)
  · have hkj : k ≠ j := fun he => by subst he; unfold par at hk; omega
    have hki : k ≠ i := fun he => by subst he; unfold par at hk; omega
    rw [hi, sa k, sa i, if_neg hkj, if_neg hki, if_neg (by omega), if_pos rfl]
    have := h.1 k k1 kn (by rw [hk]; omega) (.inl hki)
    rw [hk] at this
    exact this

theorem dn_stop_moved {H : List Th} {n i0 i : Nat} (h : Dn H n i0 i) (hi : i ≠ i0) (hs : ∀ k, 1 ≤ k → k < n → par k = i → ¬ ahead (at_ H k) (at_ H i)) : Hp H n := fun k k1 kn => by
  by_cases hp : par k = i
  · rw [hp]; exact hs k k1 kn hp
  · exact h.1 k k1 kn hp (.inr hi)
theorem dn_stop_same {H : List Th} {n i : Nat} (h : Dn H n i i) (hs : ∀ k, 1 ≤ k → k < n → par k = i → ¬ ahead (at_ H k) (at_ H i)) : Up H n i := by
  refine ⟨fun k k1 kn hk => ?_, h.2⟩
  by_cases hp : par k = i
  · rw [hp]; exact hs k k1 kn hp
  · exact h.1 k k1 kn hp (.inl hk)
/-- A heap, one of whose things is another one now. -/
theorem dn_start {H G : List Th} {n i : Nat} (h : Hp G n) (he : ∀ k, k < n → k ≠ i → at_ H k = at_ G k) (hi : i < n) : Dn H n i i := by
  refine ⟨fun k k1 kn hp hk => ?_, fun i1 k k1 kn hp => ?_⟩
  · have hki : k ≠ i := hk.resolve_right fun h => h rfl
    rw [he k kn hki, he (par k) (by unfold par; omega) hp]
    exact h k k1 kn
  · have hki : k ≠ i := fun e => by subst e; unfold par at hp; omega
    have hpp : par i ≠ i := by unfold par; omega
    rw [he k kn hki, he (par i) (by unfold par; omega) hpp]
    have a1 := h k k1 kn
    rw [hp] at a1
    exact not_ahead_trans a1 (h i i1 hi)
theorem up_start {H : List Th} {n : Nat} (h : Hp H n) : Up H (n + 1) n := by
  refine ⟨fun k k1 kn hk => h k k1 (by omega), fun n1 k k1 kn hp => ?_⟩
  unfold par at hp; omega
/-- The first one of a heap is ahead of all. -/
theorem hp_first {H : List Th} {n : Nat} (h : Hp H n) : ∀ k, k < n → ¬ ahead (at_ H k) (at_ H 0) := by
  intro k
  induction k using Nat.strongRecOn with
  | ind k ih =>
    intro hk
    by_cases h0 : k = 0
    · subst h0; unfold ahead; omega
    · exact not_ahead_trans (h k (by omega) hk) (ih (par k) (by unfold par; omega) (by unfold par; omega))
theorem hp_less {H : List Th} {m n : Nat} (h : Hp H n) (hm : m ≤ n) : Hp H m := fun k k1 km => h k k1 (by omega)
theorem hp_congr {H G : List Th} {n : Nat} (h : Hp G n) (he : ∀ k, k < n → at_ H k = at_ G k) : Hp H n := fun k k1 kn => by
  rw [he k kn, he (par k) (by unfold par; omega)]; exact h k k1 kn
end Go.Proofs.Ytblafknmfblgfaa
