/- Plain arithmetic of lists: sums over numbers below n, how often a number stands in a list. -/
set_option linter.unusedVariables false
set_option linter.unusedSimpArgs false
namespace Go.Sx

/-- The sum of f over the numbers below n. -/
def sumN : Nat → (Nat → Int) → Int
  | 0, _ => 0
  | n + 1, f => sumN n f + f n

theorem sumN_congr {f g : Nat → Int} : ∀ {n : Nat}, (∀ i, i < n → f i = g i) → sumN n f = sumN n g
  | 0, _ => rfl
  | n + 1, h => by simp only [sumN]; rw [sumN_congr (n := n) (fun i hi => h i (by omega)), h n (by omega)]
theorem sumN_le {f g : Nat → Int} : ∀ {n : Nat}, (∀ i, i < n → f i ≤ g i) → sumN n f ≤ sumN n g
  | 0, _ => Int.le_refl _
  | n + 1, h => by
    simp only [sumN]
    have := sumN_le (n := n) (fun i hi => h i (by omega))
    have := h n (by omega)
    omega
theorem sumN_add (f g : Nat → Int) : ∀ n : Nat, sumN n (fun i => f i + g i) = sumN n f + sumN n g
  | 0 => rfl
  | n + 1 => by simp only [sumN]; rw [sumN_add f g n]; omega
theorem sumN_zero : ∀ n : Nat, sumN n (fun _ => 0) = 0
  | 0 => rfl
  | n + 1 => by simp only [sumN]; rw [sumN_zero n]; rfl
theorem sumN_nonneg {f : Nat → Int} {n : Nat} (h : ∀ i, i < n → 0 ≤ f i) : 0 ≤ sumN n f := by
  have := sumN_le (f := fun _ => 0) (g := f) h
  rw [sumN_zero] at this; exact this
theorem sumN_single (k : Nat) (c : Int) : ∀ n : Nat, sumN n (fun i => if i = k then c else 0) = if k < n then c else 0
  | 0 => by simp [sumN]
  | n + 1 => by
    simp only [sumN]; rw [sumN_single k c n]
    by_cases h : k < n
    · rw [if_pos h, if_neg (by omega), if_pos (by omega)]; omega
    · by_cases h2 : n = k
      · rw [if_neg h, if_pos h2, if_pos (by omega)]; omega
      · rw [if_neg h, if_neg h2, if_neg (by omega)]; rfl
theorem sumN_lt {f g : Nat → Int} {n k : Nat} (hk : k < n) (h : ∀ i, i < n → f i ≤ g i) (hlt : f k < g k) : sumN n f < sumN n g := by
  have h1 : sumN n (fun i => f i + if i = k then 1 else 0) ≤ sumN n g := sumN_le fun i hi => by
    by_cases hik : i = k
    · subst hik; simp; omega
    · simp [hik]; exact h i hi
  rw [sumN_add, sumN_single, if_pos hk] at h1
  omega
theorem sumN_mono {f : Nat → Int} : ∀ {m n : Nat}, m ≤ n → (∀ i, i < n → 0 ≤ f i) → sumN m f ≤ sumN n f
  | m, 0, h, _ => by
    have : m = 0 := by omega
    subst this; exact Int.le_refl _
  | m, n + 1, h, hf => by
    by_cases hm : m = n + 1
    · subst hm; exact Int.le_refl _
    · have := sumN_mono (m := m) (n := n) (by omega) (fun i hi => hf i (by omega))
      have := hf n (by omega)
      simp only [sumN]; omega
theorem sumN_mul (c : Int) (f : Nat → Int) : ∀ n : Nat, sumN n (fun i => c * f i) = c * sumN n f
  | 0 => by simp [sumN]
  | n + 1 => by simp only [sumN]; rw [sumN_mul c f n, Int.mul_add]

/-- How often x stands in the list. -/
def cnt (x : Int) : List Int → Int
  | [] => 0
  | y :: r => cnt x r + if y = x then 1 else 0

theorem cnt_append (x : Int) : ∀ l r : List Int, cnt x (l ++ r) = cnt x l + cnt x r
  | [], r => by simp [cnt]
  | y :: l, r => by simp only [List.cons_append, cnt]; rw [cnt_append x l r]; omega
theorem cnt_nonneg (x : Int) : ∀ l : List Int, 0 ≤ cnt x l
  | [] => Int.le_refl _
  | y :: l => by simp only [cnt]; have := cnt_nonneg x l; split <;> omega
theorem cnt_take_le (x : Int) : ∀ (l : List Int) (n : Nat), cnt x (l.take n) ≤ cnt x l
  | [], n => by simp
  | y :: l, 0 => by simp [cnt]; have := cnt_nonneg x l; split <;> omega
  | y :: l, n + 1 => by simp only [List.take_succ_cons, cnt]; have := cnt_take_le x l n; omega
theorem cnt_take_mono (x : Int) (l : List Int) {m n : Nat} (h : m ≤ n) : cnt x (l.take m) ≤ cnt x (l.take n) := by
  have := cnt_take_le x (l.take n) m
  rw [List.take_take, Nat.min_eq_left h] at this
  exact this
theorem cnt_take_succ (x : Int) (l : List Int) {n : Nat} (h : n < l.length) : cnt x (l.take (n + 1)) = cnt x (l.take n) + if l.getD n 0 = x then 1 else 0 := by
  rw [List.take_succ_eq_append_getElem h, cnt_append]
  simp [cnt, List.getD_eq_getElem?_getD, h]
theorem cnt_zero {x : Int} : ∀ {l : List Int}, (∀ y ∈ l, y ≠ x) → cnt x l = 0
  | [], _ => rfl
  | y :: l, h => by simp only [cnt]; rw [cnt_zero (fun z hz => h z (List.mem_cons_of_mem _ hz)), if_neg (h y (List.mem_cons_self ..))]; rfl
theorem cnt_pos {x : Int} {l : List Int} (h : 0 < cnt x l) : x ∈ l := by
  apply Classical.byContradiction
  intro hn
  have := cnt_zero (x := x) (l := l) (fun y hy he => hn (he ▸ hy))
  omega

/-- All numbers of a list that lie below n and have S: summed up number by number they are at most the list; just the list, if all lie there. -/
theorem cnt_sum_le (S : Nat → Bool) (n : Nat) : ∀ l : List Int, sumN n (fun i => if S i then cnt i l else 0) ≤ l.length
  | [] => by
    have : sumN n (fun i => if S i then cnt i [] else 0) = sumN n (fun _ => 0) := sumN_congr fun i _ => by simp [cnt]
    rw [this, sumN_zero]; simp
  | y :: l => by
    have ih := cnt_sum_le S n l
    have : sumN n (fun i => if S i then cnt i (y :: l) else 0) ≤ sumN n (fun i => (if S i then cnt i l else 0) + if i = y.toNat then 1 else 0) := sumN_le fun i _ => by
      simp only [cnt]
      by_cases hs : S i
      · simp only [hs, if_true]
        by_cases hy : y = i
        · subst hy; simp
        · simp only [hy, if_false]; split <;> omega
      · rw [if_neg hs, if_neg hs]; split <;> simp
    rw [sumN_add, sumN_single] at this
    simp only [List.length_cons]
    have h1 : (if y.toNat < n then (1 : Int) else 0) ≤ 1 := by split <;> omega
    omega
theorem cnt_sum_eq (S : Nat → Bool) (n : Nat) : ∀ l : List Int, (∀ y ∈ l, ∃ i : Nat, y = i ∧ i < n ∧ S i = true) → sumN n (fun i => if S i then cnt i l else 0) = l.length
  | [], _ => by
    have : sumN n (fun i => if S i then cnt i [] else 0) = sumN n (fun _ => 0) := sumN_congr fun i _ => by simp [cnt]
    rw [this, sumN_zero]; simp
  | y :: l, h => by
    have ih := cnt_sum_eq S n l (fun z hz => h z (List.mem_cons_of_mem _ hz))
    obtain ⟨k, rfl, hk, hS⟩ := h y (List.mem_cons_self ..)
    have : sumN n (fun i => if S i then cnt i ((k : Int) :: l) else 0) = sumN n (fun i => (if S i then cnt i l else 0) + if i = k then 1 else 0) := sumN_congr fun i _ => by
      simp only [cnt]
      by_cases hik : i = k
      · subst hik; simp [hS]
      · have : ¬ ((k : Int) = (i : Int)) := by omega
        simp only [this, hik, if_false]
        split <;> simp
    rw [this, sumN_add, sumN_single, if_pos hk, ih]
    simp
end Go.Sx
namespace Go.Sx
theorem cnt_le_length (x : Int) : ∀ l : List Int, cnt x l ≤ l.length
  | [] => by simp [cnt]
  | y :: l => by simp only [cnt, List.length_cons]; have := cnt_le_length x l; split <;> omega
end Go.Sx
namespace Go.Sx
/-- The sum of a list. -/
def sumL : List Int → Int
  | [] => 0
  | x :: r => x + sumL r
theorem sumL_append : ∀ l r : List Int, sumL (l ++ r) = sumL l + sumL r
  | [], r => by simp [sumL]
  | x :: l, r => by simp only [List.cons_append, sumL]; rw [sumL_append l r]; omega
theorem sumL_take_succ (l : List Int) {n : Nat} (h : n < l.length) : sumL (l.take (n + 1)) = sumL (l.take n) + l.getD n 0 := by
  rw [List.take_succ_eq_append_getElem h, sumL_append]
  simp [sumL, List.getD_eq_getElem?_getD, h]
theorem sumL_bounds {c : Int} : ∀ {l : List Int}, (∀ x ∈ l, 0 ≤ x ∧ x ≤ c) → 0 ≤ sumL l ∧ sumL l ≤ l.length * c
  | [], _ => by simp [sumL]
  | x :: l, h => by
    have h1 := h x (List.mem_cons_self ..)
    have h2 := sumL_bounds (fun y hy => h y (List.mem_cons_of_mem _ hy))
    simp only [sumL, List.length_cons]
    rw [show ((l.length + 1 : Nat) : Int) * c = l.length * c + c by rw [Int.natCast_add, Int.add_mul]; simp]
    omega
theorem sumL_take_bounds {c : Int} {l : List Int} (h : ∀ x ∈ l, 0 ≤ x ∧ x ≤ c) (hc : 0 ≤ c) (n : Nat) : 0 ≤ sumL (l.take n) ∧ sumL (l.take n) ≤ l.length * c := by
  have h1 := sumL_bounds (l := l.take n) (fun x hx => h x (List.mem_of_mem_take hx))
  have h2 : ((l.take n).length : Int) * c ≤ l.length * c := Int.mul_le_mul_of_nonneg_right (by rw [List.length_take]; omega) hc
  omega
theorem getD_mem {α : Type} (l : List α) (d : α) {i : Nat} (h : i < l.length) : l.getD i d ∈ l := by
  rw [List.getD_eq_getElem?_getD]; simp [h]
end Go.Sx
namespace Go.Sx
theorem cnt_one_le {x : Int} {l : List Int} (h : x ∈ l) : 1 ≤ cnt x l := by
  induction l with
  | nil => cases h
  | cons y r ih =>
    simp only [cnt]
    have := cnt_nonneg x r
    rcases List.mem_cons.1 h with rfl | h
    · simp; omega
    · have := ih h; split <;> omega
theorem cnt_pos_iff {x : Int} {l : List Int} : 0 < cnt x l ↔ x ∈ l := ⟨cnt_pos, fun h => by have := cnt_one_le h; omega⟩
theorem cnt_split (x : Int) (l : List Int) (p : Nat) : cnt x l = cnt x (l.take p) + cnt x (l.drop p) := by rw [← cnt_append, List.take_append_drop]
/-- Who stands once, stands at one place. -/
theorem cnt_one_place {x : Int} {l : List Int} (h : cnt x l ≤ 1) {p q : Nat} (hp : l[p]? = some x) (hq : l[q]? = some x) : p = q := by
  have key : ∀ p q : Nat, p < q → l[p]? = some x → l[q]? = some x → False := by
    intro p q hpq hp hq
    have h1 : x ∈ l.take q := by
      refine List.mem_iff_getElem?.2 ⟨p, ?_⟩
      rw [List.getElem?_take_of_lt hpq]; exact hp
    have h2 : x ∈ l.drop q := by
      refine List.mem_iff_getElem?.2 ⟨0, ?_⟩
      rw [List.getElem?_drop]; exact hq
    have := cnt_one_le h1
    have := cnt_one_le h2
    have := cnt_split x l q
    omega
  rcases Nat.lt_trichotomy p q with h1 | h1 | h1
  · exact (key p q h1 hp hq).elim
  · exact h1
  · exact (key q p h1 hq hp).elim
theorem sumN_one (n : Nat) : sumN n (fun _ => 1) = n := by
  induction n with
  | zero => rfl
  | succ n ih => simp only [sumN]; rw [ih]; omega
theorem cnt_total {n : Nat} {l : List Int} (h : ∀ y ∈ l, ∃ i : Nat, y = i ∧ i < n) : sumN n (fun i => cnt i l) = l.length := by
  have := cnt_sum_eq (fun _ => true) n l (fun y hy => by obtain ⟨i, h1, h2⟩ := h y hy; exact ⟨i, h1, h2, rfl⟩)
  simpa using this
end Go.Sx
