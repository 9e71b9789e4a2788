/- Pairs: plain facts of matchings and covers. -/
import Derived.Test.YtlacdincnpbpdaaDoorGood
set_option linter.unusedVariables false
set_option linter.unusedSimpArgs false
namespace Go.Proofs.YtlacdincnpbpdaaDoor
open Go.Sx Go.RowKit

abbrev hg (H : List Int) (k : Nat) : Int := H.getD k (-1)

theorem sumN_swap (f : Nat → Nat → Int) (M : Nat) : ∀ N : Nat, sumN N (fun i => sumN M (f i)) = sumN M fun k => sumN N fun i => f i k
  | 0 => by simp [sumN, sumN_zero]
  | N + 1 => by
    have := sumN_swap f M N
    simp only [sumN, this, sumN_add]

open Classical in
/-- How many below n have it. -/
noncomputable def nOf (n : Nat) (S : Nat → Prop) : Int := sumN n fun i => if S i then 1 else 0
theorem nOf_nonneg (n : Nat) (S : Nat → Prop) : 0 ≤ nOf n S := sumN_nonneg fun i _ => by split <;> omega
theorem nOf_t {n : Nat} {S : Nat → Prop} (h : S n) : nOf (n + 1) S = nOf n S + 1 := by
  show nOf n S + @ite Int (S n) (Classical.propDecidable _) 1 0 = _
  rw [if_pos h]
theorem nOf_f {n : Nat} {S : Nat → Prop} (h : ¬ S n) : nOf (n + 1) S = nOf n S := by
  show nOf n S + @ite Int (S n) (Classical.propDecidable _) 1 0 = _
  rw [if_neg h]; omega
theorem nOf_le {n : Nat} {S T : Nat → Prop} (h : ∀ i, i < n → S i → T i) : nOf n S ≤ nOf n T := sumN_le fun i hi => by
  by_cases hs : S i
  · rw [if_pos hs, if_pos (h i hi hs)]; omega
  · rw [if_neg hs]; split <;> omega
theorem nOf_congr {n : Nat} {S T : Nat → Prop} (h : ∀ i, i < n → (S i ↔ T i)) : nOf n S = nOf n T := sumN_congr fun i hi => by
  by_cases hs : S i
  · rw [if_pos hs, if_pos ((h i hi).1 hs)]
  · rw [if_neg hs, if_neg fun ht => hs ((h i hi).2 ht)]
theorem nOf_split (n : Nat) (S T : Nat → Prop) : nOf n S = nOf n (fun i => S i ∧ T i) + nOf n (fun i => S i ∧ ¬ T i) := by
  unfold nOf
  rw [← sumN_add]
  refine sumN_congr fun i _ => ?_
  by_cases h1 : S i <;> by_cases h2 : T i <;> simp [h1, h2]
theorem nOf_compl (n : Nat) (S : Nat → Prop) : nOf n S + nOf n (fun i => ¬ S i) = n := by
  have : nOf n S + nOf n (fun i => ¬ S i) = sumN n fun _ => 1 := by
    unfold nOf
    rw [← sumN_add]
    refine sumN_congr fun i _ => ?_
    by_cases h1 : S i <;> simp [h1]
  rw [this, sumN_one]
theorem nOf_none {n : Nat} {S : Nat → Prop} (h : ∀ i, i < n → ¬ S i) : nOf n S = 0 := by
  have : nOf n S = sumN n fun _ => 0 := sumN_congr fun i hi => by rw [if_neg (h i hi)]
  rw [this, sumN_zero]
theorem nOf_all {n : Nat} {S : Nat → Prop} (h : ∀ i, i < n → S i) : nOf n S = n := by
  have : nOf n S = sumN n fun _ => 1 := sumN_congr fun i hi => by rw [if_pos (h i hi)]
  rw [this, sumN_one]
theorem nOf_full {n : Nat} {S : Nat → Prop} (h : nOf n S = n) : ∀ i, i < n → S i := fun i hi => Classical.byContradiction fun hn => by
  have : nOf n S < nOf n fun _ => True := sumN_lt hi (fun j _ => by rw [if_pos trivial]; split <;> omega) (by rw [if_neg hn, if_pos trivial]; omega)
  rw [nOf_all (S := fun _ => True) (fun _ _ => trivial)] at this
  omega
theorem nOf_le_n (n : Nat) (S : Nat → Prop) : nOf n S ≤ n := by have := nOf_compl n S; have := nOf_nonneg n fun i => ¬ S i; omega

/-- Each of the one side has one of the other side, no two the same. -/
theorem nOf_inj {N M : Nat} {S T : Nat → Prop} (r : Nat → Nat → Prop) (hr : ∀ i, i < N → S i → ∃ k, k < M ∧ r i k ∧ T k) (hu : ∀ i j k, i < N → j < N → S i → S j → r i k → r j k → i = j) : nOf N S ≤ nOf M T := by
  classical
  have h1 : nOf N S ≤ sumN N fun i => sumN M fun k => if S i ∧ r i k ∧ T k then 1 else 0 := sumN_le fun i hi => by
    by_cases hs : S i
    · rw [if_pos hs]
      obtain ⟨k, hk, hrk, ht⟩ := hr i hi hs
      have : (sumN M fun j => if j = k then (1 : Int) else 0) ≤ sumN M fun k => if S i ∧ r i k ∧ T k then 1 else 0 := sumN_le fun j _ => by
        by_cases hj : j = k
        · subst hj; rw [if_pos rfl, if_pos ⟨hs, hrk, ht⟩]; omega
        · rw [if_neg hj]; split <;> omega
      rw [sumN_single, if_pos hk] at this
      exact this
    · rw [if_neg hs]; exact sumN_nonneg fun k _ => by split <;> omega
  refine Int.le_trans h1 ?_
  rw [sumN_swap]
  refine sumN_le fun k _ => ?_
  by_cases hex : ∃ i, i < N ∧ S i ∧ r i k ∧ T k
  · obtain ⟨i, hi, hs, hrk, ht⟩ := hex
    rw [if_pos ht]
    have : (sumN N fun j => if S j ∧ r j k ∧ T k then (1 : Int) else 0) ≤ sumN N fun j => if j = i then 1 else 0 := sumN_le fun j hj => by
      by_cases hji : j = i
      · rw [if_pos hji]; split <;> omega
      · rw [if_neg hji, if_neg fun h => hji (hu j i k hj hi h.1 hs h.2.1 hrk)]; omega
    rw [sumN_single, if_pos hi] at this
    exact this
  · have : (sumN N fun j => if S j ∧ r j k ∧ T k then (1 : Int) else 0) = sumN N fun _ => 0 := sumN_congr fun j hj => if_neg fun h => hex ⟨j, hj, h⟩
    rw [this, sumN_zero]; split <;> omega

/-- Pairs, told by the one side. -/
structure Pr (N M : Nat) (A : Nat → Nat → Prop) (X : List Int) : Prop where
  len : X.length = N
  val : ∀ i, i < N → hg X i = -1 ∨ ∃ k : Nat, k < M ∧ hg X i = k ∧ A i k
  inj : ∀ i j, i < N → j < N → hg X i = hg X j → hg X i ≠ -1 → i = j

noncomputable def many (N : Nat) (X : List Int) : Int := nOf N fun i => hg X i ≠ -1

/-- No pairs are more than a cover. -/
theorem Pr.cover {N M : Nat} {A : Nat → Nat → Prop} {X : List Int} (h : Pr N M A X) {S T : Nat → Prop} (hc : ∀ i k, i < N → S i → A i k → T k) : many N X ≤ nOf N (fun i => ¬ S i) + nOf M T := by
  have hs : many N X = nOf N (fun i => hg X i ≠ -1 ∧ S i) + nOf N (fun i => hg X i ≠ -1 ∧ ¬ S i) := nOf_split N _ S
  have h1 : nOf N (fun i => hg X i ≠ -1 ∧ S i) ≤ nOf M T := nOf_inj (fun i k => hg X i = k) (fun i hi hs => by
    rcases h.val i hi with h0 | ⟨k, hk, hx, ha⟩
    · exact absurd h0 hs.1
    · exact ⟨k, hk, hx, hc i k hi hs.2 ha⟩) (fun i j k hi hj hs _ h1 h2 => h.inj i j hi hj (h1.trans h2.symm) hs.1)
  have h2 : nOf N (fun i => hg X i ≠ -1 ∧ ¬ S i) ≤ nOf N fun i => ¬ S i := nOf_le fun i _ h => h.2
  omega

/-- As many as there are, where all that are left out are not to be covered, and who covers has somebody. -/
theorem Pr.most {N M : Nat} {A : Nat → Nat → Prop} {X : List Int} (h : Pr N M A X) {S T : Nat → Prop} (h1 : ∀ i, i < N → hg X i = -1 → S i) (h2 : ∀ k, k < M → T k → ∃ i, i < N ∧ S i ∧ hg X i = k) : nOf N (fun i => ¬ S i) + nOf M T ≤ many N X := by
  have hs : many N X = nOf N (fun i => hg X i ≠ -1 ∧ S i) + nOf N (fun i => hg X i ≠ -1 ∧ ¬ S i) := nOf_split N _ S
  have h3 : nOf N (fun i => ¬ S i) ≤ nOf N fun i => hg X i ≠ -1 ∧ ¬ S i := nOf_le fun i hi hs => ⟨fun h0 => hs (h1 i hi h0), hs⟩
  have h4 : nOf M T ≤ nOf N fun i => hg X i ≠ -1 ∧ S i := nOf_inj (fun k i => hg X i = k) (fun k hk ht => by
    obtain ⟨i, hi, hs, hx⟩ := h2 k hk ht
    exact ⟨i, hi, hx, by omega, hs⟩) (fun k j i _ _ _ _ e1 e2 => by omega)
  omega

/-- A table of who has whom, told by the other side: outside of 's' alone. -/
structure MtU (N M : Nat) (A : Nat → Nat → Prop) (s : Nat → Bool) (H : List Int) : Prop where
  len : H.length = M
  val : ∀ k, k < M → hg H k = -1 ∨ (0 ≤ hg H k ∧ hg H k < N)
  ed : ∀ k, k < M → s k = false → 0 ≤ hg H k → A (hg H k).toNat k
  inj : ∀ k j, k < M → j < M → s k = false → s j = false → 0 ≤ hg H k → hg H k = hg H j → k = j

/-- From these nobody is found any more. -/
structure Blkd (M : Nat) (A : Nat → Nat → Prop) (H : List Int) (S T : Nat → Prop) : Prop where
  out : ∀ i k, S i → A i k → T k
  back : ∀ k, T k → k < M ∧ 0 ≤ hg H k ∧ S (hg H k).toNat

/-- What 'find' has brought about. -/
structure Found (N M : Nat) (A : Nat → Nat → Prop) (s : Nat → Bool) (i : Nat) (H H' : List Int) : Prop where
  mt : MtU N M A s H'
  same : ∀ k, k < M → s k = true → hg H' k = hg H k
  img : ∀ a : Nat, (∃ k, k < M ∧ s k = false ∧ hg H' k = a) ↔ (a = i ∨ ∃ k, k < M ∧ s k = false ∧ hg H k = a)
  blk : ∀ S T, Blkd M A H S T → ¬ S i ∧ ∀ k, T k → hg H' k = hg H k
structure NotF (M : Nat) (A : Nat → Nat → Prop) (s s' : Nat → Bool) (i : Nat) (H : List Int) : Prop where
  may : ∀ k, A i k → s' k = true
  back : ∀ k, s' k = true → s k = false → 0 ≤ hg H k ∧ ∀ j, A (hg H k).toNat j → s' j = true

/-- He is given somebody who is free. -/
theorem found_free {N M : Nat} {A : Nat → Nat → Prop} {s : Nat → Bool} {i k : Nat} {H : List Int} (h : MtU N M A s H) (hi : i < N) (hno : ∀ j, j < M → s j = false → hg H j ≠ i) (hk : k < M) (hsk : s k = false) (ha : A i k) (hf : hg H k = -1) : Found N M A s i H (H.set k (i : Int)) := by
  have hl := h.len
  have hg' : ∀ j, hg (H.set k (i : Int)) j = if j = k then (i : Int) else hg H j := fun j => getD_set _ _ _ _ _ (by omega)
  refine ⟨⟨by simpa using hl, fun j hj => ?_, fun j hj hsj h0 => ?_, fun j j' hj hj' hs hs' h0 he => ?_⟩, fun j hj hs => ?_, fun a => ?_, fun S T hB => ?_⟩
  · rw [hg']; split
    · right; omega
    · exact h.val j hj
  · rw [hg'] at h0 ⊢
    by_cases hjk : j = k
    · subst hjk; simpa using ha
    · rw [if_neg hjk] at h0 ⊢; exact h.ed j hj hsj h0
  · rw [hg'] at h0 he
    rw [hg'] at he
    by_cases h1 : j = k
    · by_cases h2 : j' = k
      · omega
      · rw [if_pos h1, if_neg h2] at he
        exact absurd he.symm (hno j' hj' hs')
    · by_cases h2 : j' = k
      · rw [if_neg h1, if_pos h2] at he
        exact absurd he (hno j hj hs)
      · rw [if_neg h1, if_neg h2] at he
        rw [if_neg h1] at h0
        exact h.inj j j' hj hj' hs hs' h0 he
  · have : j ≠ k := fun h => by rw [h, hsk] at hs; cases hs
    rw [hg', if_neg this]
  · constructor
    · rintro ⟨j, hj, hs, he⟩
      rw [hg'] at he
      by_cases h1 : j = k
      · rw [if_pos h1] at he; left; omega
      · rw [if_neg h1] at he; exact .inr ⟨j, hj, hs, he⟩
    · rintro (rfl | ⟨j, hj, hs, he⟩)
      · exact ⟨k, hk, hsk, by rw [hg', if_pos rfl]⟩
      · have : j ≠ k := fun hjk => by rw [hjk, hf] at he; omega
        exact ⟨j, hj, hs, by rw [hg', if_neg this]; exact he⟩
  · have hkT : ¬ T k := fun ht => by have := (hB.back k ht).2.1; omega
    refine ⟨fun hs => hkT (hB.out i k hs ha), fun j hj => ?_⟩
    have : j ≠ k := fun hjk => hkT (hjk ▸ hj)
    rw [hg', if_neg this]

def plus (s : Nat → Bool) (k : Nat) : Nat → Bool := fun j => s j || decide (j = k)

theorem plus_f {s : Nat → Bool} {k j : Nat} : plus s k j = false ↔ s j = false ∧ j ≠ k := by simp [plus]
theorem plus_t {s : Nat → Bool} {k j : Nat} : plus s k j = true ↔ s j = true ∨ j = k := by simp [plus]

theorem MtU.less {N M : Nat} {A : Nat → Nat → Prop} {s s' : Nat → Bool} {H : List Int} (h : MtU N M A s H) (hs : ∀ k, s' k = false → s k = false) : MtU N M A s' H :=
  ⟨h.len, h.val, fun k hk hsk => h.ed k hk (hs k hsk), fun k j hk hj h1 h2 => h.inj k j hk hj (hs k h1) (hs j h2)⟩

/-- He is given somebody whose own one has found another one. -/
theorem found_turn {N M : Nat} {A : Nat → Nat → Prop} {s s1 : Nat → Bool} {i k : Nat} {H H' : List Int} (h : MtU N M A s H) (hi : i < N) (hno : ∀ j, j < M → s j = false → hg H j ≠ i) (hk : k < M) (hsk : s k = false) (ha : A i k) (h0 : 0 ≤ hg H k)
    (hle : ∀ j, s j = true → s1 j = true) (hs1k : s1 k = true) (hback : ∀ j, j < M → s j = false → s1 j = true → 0 ≤ hg H j) (hF : Found N M A s1 (hg H k).toNat H H') : Found N M A s i H (H'.set k (i : Int)) := by
  have hl := hF.mt.len
  have hg' : ∀ j, hg (H'.set k (i : Int)) j = if j = k then (i : Int) else hg H' j := fun j => getD_set _ _ _ _ _ (by omega)
  have key : ∀ j, j < M → s j = false → j ≠ k → ∀ a : Nat, hg H' j = a → ∃ j', j' < M ∧ s j' = false ∧ hg H j' = a := by
    intro j hj hs hjk a he
    by_cases h1 : s1 j = true
    · rw [hF.same j hj h1] at he
      exact ⟨j, hj, hs, he⟩
    · have h1 : s1 j = false := by cases hx : s1 j <;> simp_all
      rcases (hF.img a).1 ⟨j, hj, h1, he⟩ with rfl | ⟨j', hj', hs', he'⟩
      · exact ⟨k, hk, hsk, by omega⟩
      · refine ⟨j', hj', ?_, he'⟩
        cases hx : s j' with
        | false => rfl
        | true => rw [hle j' hx] at hs'; cases hs'
  have hni : ∀ j, j < M → s j = false → j ≠ k → hg H' j ≠ i := fun j hj hs hjk he => by
    obtain ⟨j', hj', hs', he'⟩ := key j hj hs hjk i he
    exact hno j' hj' hs' he'
  have ff : ∀ {b : Bool}, ¬ b = true → b = false := fun {b} hb => by cases b <;> simp_all
  have hnk : ∀ j, j < M → s1 j = false → hg H' j = hg H k ∨ hg H' j ≠ hg H k := fun j _ _ => by omega
  refine ⟨⟨by simpa using hl, fun j hj => ?_, fun j hj hsj h00 => ?_, fun j j' hj hj' hs hs' h00 he => ?_⟩, fun j hj hs => ?_, fun a => ?_, fun S T hB => ?_⟩
  · rw [hg']; split
    · right; omega
    · exact hF.mt.val j hj
  · rw [hg'] at h00 ⊢
    by_cases hjk : j = k
    · subst hjk; simpa using ha
    · rw [if_neg hjk] at h00 ⊢
      by_cases h1 : s1 j = true
      · rw [hF.same j hj h1] at h00 ⊢
        exact h.ed j hj hsj h00
      · exact hF.mt.ed j hj (ff h1) h00
  · rw [hg'] at h00 he
    rw [hg'] at he
    by_cases h1 : j = k
    · by_cases h2 : j' = k
      · omega
      · rw [if_pos h1, if_neg h2] at he
        exact absurd he.symm (hni j' hj' hs' h2)
    · by_cases h2 : j' = k
      · rw [if_neg h1, if_pos h2] at he
        exact absurd he (hni j hj hs h1)
      · rw [if_neg h1, if_neg h2] at he
        rw [if_neg h1] at h00
        by_cases h3 : s1 j = true
        · by_cases h4 : s1 j' = true
          · rw [hF.same j hj h3] at h00 he
            rw [hF.same j' hj' h4] at he
            exact h.inj j j' hj hj' hs hs' h00 he
          · exfalso
            rw [hF.same j hj h3] at h00 he
            have ha : hg H' j' = ((hg H j).toNat : Nat) := by omega
            rcases (hF.img (hg H j).toNat).1 ⟨j', hj', ff h4, ha⟩ with h5 | ⟨j2, hj2, hs2, he2⟩
            · have := h.inj j k hj hk hs hsk h00 (by omega)
              exact h1 this
            · have hs2' : s j2 = false := by
                cases hx : s j2 with
                | false => rfl
                | true => rw [hle j2 hx] at hs2; cases hs2
              have := h.inj j j2 hj hj2 hs hs2' h00 (by omega)
              rw [this] at h3
              rw [h3] at hs2; cases hs2
        · by_cases h4 : s1 j' = true
          · exfalso
            rw [hF.same j' hj' h4] at he
            have ha : hg H' j = ((hg H j').toNat : Nat) := by omega
            rcases (hF.img (hg H j').toNat).1 ⟨j, hj, ff h3, ha⟩ with h5 | ⟨j2, hj2, hs2, he2⟩
            · have := h.inj j' k hj' hk hs' hsk (by omega) (by omega)
              exact h2 this
            · have hs2' : s j2 = false := by
                cases hx : s j2 with
                | false => rfl
                | true => rw [hle j2 hx] at hs2; cases hs2
              have := h.inj j' j2 hj' hj2 hs' hs2' (by omega) (by omega)
              rw [this] at h4
              rw [h4] at hs2; cases hs2
          · exact hF.mt.inj j j' hj hj' (ff h3) (ff h4) h00 he
  · have : j ≠ k := fun h => by rw [h, hsk] at hs; cases hs
    rw [hg', if_neg this, hF.same j hj (hle j hs)]
  · constructor
    · rintro ⟨j, hj, hs, he⟩
      rw [hg'] at he
      by_cases h1 : j = k
      · rw [if_pos h1] at he; left; omega
      · rw [if_neg h1] at he; exact .inr (key j hj hs h1 a he)
    · rintro (rfl | ⟨j, hj, hs, he⟩)
      · exact ⟨k, hk, hsk, by rw [hg', if_pos rfl]⟩
      · by_cases h1 : s1 j = true
        · by_cases hjk : j = k
          · subst hjk
            obtain ⟨j', hj', hs', he'⟩ := (hF.img (hg H j).toNat).2 (.inl rfl)
            have hne : j' ≠ j := fun hx => by rw [hx, hs1k] at hs'; cases hs'
            refine ⟨j', hj', ?_, by rw [hg', if_neg hne]; omega⟩
            cases hx : s j' with
            | false => rfl
            | true => rw [hle j' hx] at hs'; cases hs'
          · exact ⟨j, hj, hs, by rw [hg', if_neg hjk, hF.same j hj h1]; exact he⟩
        · obtain ⟨j', hj', hs', he'⟩ := (hF.img a).2 (.inr ⟨j, hj, ff h1, he⟩)
          have hne : j' ≠ k := fun hx => by rw [hx, hs1k] at hs'; cases hs'
          refine ⟨j', hj', ?_, by rw [hg', if_neg hne]; exact he'⟩
          cases hx : s j' with
          | false => rfl
          | true => rw [hle j' hx] at hs'; cases hs'
  · obtain ⟨hnS, hsame⟩ := hF.blk S T hB
    have hkT : ¬ T k := fun ht => hnS (hB.back k ht).2.2
    refine ⟨fun hs => hkT (hB.out i k hs ha), fun j hj => ?_⟩
    have : j ≠ k := fun hjk => hkT (hjk ▸ hj)
    rw [hg', if_neg this]
    exact hsame j hj

/-- The row of those who have been looked for: who has nobody is blocked. -/
structure PInv (N M : Nat) (A : Nat → Nat → Prop) (H : List Int) (c : Nat) : Prop where
  mt : MtU N M A (fun _ => false) H
  lt : ∀ k, k < M → hg H k < c
  blk : ∃ S T, Blkd M A H S T ∧ ∀ a : Nat, a < c → (∀ k, k < M → hg H k ≠ a) → S a

theorem PInv.found {N M : Nat} {A : Nat → Nat → Prop} {H H' : List Int} {c : Nat} (h : PInv N M A H c) (hF : Found N M A (fun _ => false) c H H') : PInv N M A H' (c + 1) := by
  obtain ⟨S, T, hB, hS⟩ := h.blk
  obtain ⟨_, hsame⟩ := hF.blk S T hB
  refine ⟨hF.mt, fun k hk => ?_, S, T, ⟨hB.out, fun k ht => ?_⟩, fun a ha hno => ?_⟩
  · rcases hF.mt.val k hk with h0 | ⟨h0, h1⟩
    · omega
    · rcases (hF.img (hg H' k).toNat).1 ⟨k, hk, rfl, by omega⟩ with h2 | ⟨j, hj, _, he⟩
      · omega
      · have := h.lt j hj; omega
  · rw [hsame k ht]; exact hB.back k ht
  · by_cases hac : a = c
    · obtain ⟨k, hk, _, he⟩ := (hF.img c).2 (.inl rfl)
      exact absurd (hac ▸ he) (hno k hk)
    · exact hS a (by omega) fun k hk he => by
        obtain ⟨j, hj, _, he'⟩ := (hF.img a).2 (.inr ⟨k, hk, rfl, he⟩)
        exact hno j hj he'

theorem PInv.notF {N M : Nat} {A : Nat → Nat → Prop} {H : List Int} {c : Nat} {s' : Nat → Bool} (h : PInv N M A H c) (hs' : ∀ k, s' k = true → k < M) (hF : NotF M A (fun _ => false) s' c H) : PInv N M A H (c + 1) := by
  obtain ⟨S, T, hB, hS⟩ := h.blk
  refine ⟨h.mt, fun k hk => by have := h.lt k hk; omega, fun a => S a ∨ a = c ∨ ∃ k, s' k = true ∧ hg H k = a, fun k => T k ∨ s' k = true, ⟨fun i k hi ha => ?_, fun k hk => ?_⟩, fun a ha hno => ?_⟩
  · rcases hi with hi | rfl | ⟨j, hj, he⟩
    · exact .inl (hB.out i k hi ha)
    · exact .inr (hF.may k ha)
    · refine .inr ((hF.back j hj rfl).2 k ?_)
      rw [he]; simpa using ha
  · rcases hk with hk | hk
    · obtain ⟨h1, h2, h3⟩ := hB.back k hk
      exact ⟨h1, h2, .inl h3⟩
    · have := (hF.back k hk rfl).1
      exact ⟨hs' k hk, this, .inr (.inr ⟨k, hk, by omega⟩)⟩
  · by_cases hac : a = c
    · exact .inr (.inl hac)
    · exact .inl (hS a (by omega) hno)

/-- The answer's row: of each of the one side, whom he has. -/
structure OutOf (N M : Nat) (H X : List Int) : Prop where
  len : X.length = N
  val : ∀ i, i < N → hg X i = -1 ∨ ∃ k : Nat, k < M ∧ hg X i = k
  iff : ∀ i k : Nat, i < N → k < M → (hg X i = k ↔ hg H k = i)

theorem OutOf.pr {N M : Nat} {A : Nat → Nat → Prop} {H X : List Int} (hO : OutOf N M H X) (h : MtU N M A (fun _ => false) H) : Pr N M A X := by
  refine ⟨hO.len, fun i hi => ?_, fun i j hi hj he hne => ?_⟩
  · rcases hO.val i hi with h0 | ⟨k, hk, he⟩
    · exact .inl h0
    · have hH := (hO.iff i k hi hk).1 he
      refine .inr ⟨k, hk, he, ?_⟩
      have := h.ed k hk rfl (by omega)
      rw [hH] at this; simpa using this
  · rcases hO.val i hi with h0 | ⟨k, hk, hx⟩
    · exact absurd h0 hne
    · have h1 := (hO.iff i k hi hk).1 hx
      have h2 := (hO.iff j k hj hk).1 (he ▸ hx)
      omega

/-- They are as many as can be. -/
theorem PInv.best {N M : Nat} {A : Nat → Nat → Prop} {H X Y : List Int} (h : PInv N M A H N) (hO : OutOf N M H X) (hY : Pr N M A Y) : many N Y ≤ many N X := by
  obtain ⟨S, T, hB, hS⟩ := h.blk
  have h1 := hY.cover (S := S) (T := T) fun i k _ => hB.out i k
  have h2 := (hO.pr h.mt).most (S := S) (T := T) (fun i hi h0 => hS i hi fun k hk he => by
    have := (hO.iff i k hi hk).2 he; omega) (fun k hk ht => by
    obtain ⟨_, h3, h4⟩ := hB.back k ht
    have hlt := h.lt k hk
    exact ⟨(hg H k).toNat, by omega, h4, (hO.iff _ k (by omega) hk).2 (by omega)⟩)
  omega
end Go.Proofs.YtlacdincnpbpdaaDoor
