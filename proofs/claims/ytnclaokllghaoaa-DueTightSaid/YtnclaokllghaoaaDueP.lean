/- Who is due first, is in time if anybody can be: plain facts on rows of work. -/
import Derived.Test.YtnclaokllghaoaaDue
set_option linter.unusedVariables false
set_option linter.unusedSimpArgs false
namespace Go.Proofs.Ytnclaokllghaoaa
open Go.Sx Go.RowKit

def demand (l : List T) (a b : Int) : Int := sumN l.length fun i => if (decide (a ≤ (tk l i).a ∧ (tk l i).d ≤ b)) = true then (tk l i).n else 0
def Feas (l : List T) : Prop := ∀ a b : Int, 0 ≤ a → a ≤ b → b ≤ 200 → demand l a b ≤ b - a
def SlotOk (l : List T) (t : Nat) (x : Int) : Prop := x = -1 ∨ ∃ i : Nat, i < l.length ∧ x = i ∧ (tk l i).a ≤ t ∧ (t : Int) < (tk l i).d
def ValidR (l : List T) (X : List Int) : Prop := X.length = 200 ∧ (∀ t, t < 200 → SlotOk l t (X.getD t 0)) ∧ ∀ i, i < l.length → cnt i X = (tk l i).n

theorem okT_at {l : List T} (h : okL l) {i : Nat} (hi : i < l.length) : okT (tk l i) := h.2 _ (tk_mem hi)

theorem step_at {l : List T} {R : List Int} (h : Steps l R) {t : Nat} (ht : t < R.length) {i : Nat} (hi : R.getD t 0 = i) : i < l.length ∧ Ready l (R.take t) t i ∧ ∀ j, j < l.length → Ready l (R.take t) t j → (tk l i).d ≤ (tk l j).d := by
  rcases h t ht with ⟨hb, _⟩ | ⟨k, hk, hb, hr, hm⟩
  · omega
  · obtain rfl : k = i := by omega
    exact ⟨hk, hr, hm⟩

theorem left_mono {l : List T} {R : List Int} {m n i : Nat} (h : m ≤ n) : left l (R.take n) i ≤ left l (R.take m) i := by
  have := cnt_take_mono i R h; unfold left; omega

theorem left_nonneg {l : List T} (hok : okL l) {R : List Int} (h : Steps l R) {i : Nat} (hi : i < l.length) : ∀ t, t ≤ R.length → 0 ≤ left l (R.take t) i
  | 0, _ => by have := okT_at hok hi; unfold left; simp [cnt]; unfold okT at this; omega
  | t + 1, ht => by
    have ih := left_nonneg hok h hi t (by omega)
    unfold left at ih ⊢
    rw [cnt_take_succ _ _ (by omega)]
    by_cases hx : R.getD t 0 = i
    · have := (step_at h (by omega) hx).2.1.2
      unfold left at this
      rw [if_pos hx]; omega
    · rw [if_neg hx]; omega

theorem back (g : Nat → Prop) (D : Nat) : ∀ m, m ≤ D → (∀ t, m ≤ t → t < D → g t) → ∃ a, a ≤ m ∧ (∀ t, a ≤ t → t < D → g t) ∧ (a = 0 ∨ ¬ g (a - 1))
  | 0, _, h => ⟨0, Nat.le_refl _, h, .inl rfl⟩
  | m + 1, hm, h => by
    by_cases hg : g m
    · obtain ⟨a, h1, h2, h3⟩ := back g D m (by omega) (fun t h1 h2 => by
        by_cases he : t = m
        · subst he; exact hg
        · exact h t (by omega) h2)
      exact ⟨a, by omega, h2, h3⟩
    · exact ⟨m + 1, Nat.le_refl _, h, .inr hg⟩

theorem mem_seg {R : List Int} {a b : Nat} {y : Int} (h : y ∈ (R.take b).drop a) : ∃ t, a ≤ t ∧ t < b ∧ t < R.length ∧ R.getD t 0 = y := by
  obtain ⟨k, hk⟩ := List.mem_iff_getElem?.1 h
  rw [List.getElem?_drop, List.getElem?_take] at hk
  split at hk
  · have := (List.getElem?_eq_some_iff.1 hk).1
    exact ⟨a + k, by omega, by omega, this, by rw [List.getD_eq_getElem?_getD, hk]; rfl⟩
  · cases hk

theorem cnt_seg_le (x : Int) (R : List Int) (a b : Nat) : cnt x ((R.take b).drop a) ≤ cnt x (R.take b) := by
  have h := cnt_append x ((R.take b).take a) ((R.take b).drop a)
  rw [List.take_append_drop] at h
  have := cnt_nonneg x ((R.take b).take a)
  omega

theorem edf_late {l : List T} (hok : okL l) {R : List Int} (h : Steps l R) (hR : R.length = 200) {i : Nat} (hi : i < l.length) (hl : Late l R i) : ¬ Feas l := by
  have ht := okT_at hok hi
  obtain ⟨h1, h2, h3, h4, h5, h6⟩ := ht
  obtain ⟨D, hD⟩ : ∃ D : Nat, (tk l i).d = D := ⟨(tk l i).d.toNat, by omega⟩
  have hleft : 0 < left l (R.take D) i := by
    rcases hl with ⟨t, e1, e2⟩ | hp
    · have hlt := (List.getElem?_eq_some_iff.1 e1).1
      have := (step_at h hlt (i := i) (by rw [List.getD_eq_getElem?_getD, e1]; rfl)).2.1.2
      have := left_mono (l := l) (R := R) (i := i) (show D ≤ t by omega)
      omega
    · have := cnt_take_le i R D
      unfold left at hp ⊢; omega
  let g : Nat → Prop := fun t => ∃ k : Nat, k < l.length ∧ R.getD t 0 = k ∧ (tk l k).d ≤ D
  obtain ⟨a, ha, hg, hz⟩ := back g D D (Nat.le_refl _) (fun t h1 h2 => by omega)
  have begin_ : ∀ (j t : Nat), j < l.length → (tk l j).d ≤ D → a ≤ t → 0 < left l (R.take t) j → (a : Int) ≤ (tk l j).a := by
    intro j t hj hd hat hpos
    rcases hz with hz | hz
    · have := (okT_at hok hj).1; omega
    · apply Classical.byContradiction
      intro hn
      by_cases ha0 : a = 0
      · have := (okT_at hok hj).1; omega
      · have hr : Ready l (R.take (a - 1)) (a - 1 : Nat) j := by
          refine ⟨by omega, ?_⟩
          have := left_mono (l := l) (R := R) (i := j) (show a - 1 ≤ t by omega)
          omega
        rcases h (a - 1) (by omega) with ⟨_, hno⟩ | ⟨k, hk, hb, hrk, hm⟩
        · exact hno j hj hr
        · exact hz ⟨k, hk, hb, by have := hm j hj hr; omega⟩
  have hai : (a : Int) ≤ (tk l i).a := begin_ i D hi (by omega) ha hleft
  intro hF
  have hfe := hF a D (by omega) (by omega) (by omega)
  have hseg := cnt_sum_eq (fun k => decide ((a : Int) ≤ (tk l k).a ∧ (tk l k).d ≤ (D : Int))) l.length ((R.take D).drop a) (fun y hy => by
    obtain ⟨t, t1, t2, t3, t4⟩ := mem_seg hy
    obtain ⟨k, k1, k2, k3⟩ := hg t t1 t2
    refine ⟨k, by rw [← t4, k2], k1, ?_⟩
    have hr := (step_at h t3 k2).2.1
    simp only [decide_eq_true_eq]
    exact ⟨begin_ k t k1 k3 t1 hr.2, k3⟩)
  have hsl : (((R.take D).drop a).length : Int) = D - a := by
    simp only [List.length_drop, List.length_take]; omega
  rw [hsl] at hseg
  have hlt : sumN l.length (fun k => if (decide ((a : Int) ≤ (tk l k).a ∧ (tk l k).d ≤ (D : Int))) = true then cnt k ((R.take D).drop a) else 0) < demand l a D := by
    refine sumN_lt hi (fun k hk => ?_) ?_
    · split
      · have := cnt_seg_le k R a D
        have := left_nonneg hok h hk D (by omega)
        unfold left at this; omega
      · exact Int.le_refl _
    · have hS : decide ((a : Int) ≤ (tk l i).a ∧ (tk l i).d ≤ (D : Int)) = true := by simp only [decide_eq_true_eq]; omega
      rw [if_pos hS, if_pos hS]
      have := cnt_seg_le i R a D
      unfold left at hleft; omega
  omega

theorem valid_feas {l : List T} (hok : okL l) {X : List Int} (h : ValidR l X) : Feas l := by
  obtain ⟨hX, hs, hc⟩ := h
  intro a b ha hab hb
  obtain ⟨m, rfl⟩ : ∃ m : Nat, a = m := ⟨a.toNat, by omega⟩
  obtain ⟨n, rfl⟩ : ∃ n : Nat, b = n := ⟨b.toNat, by omega⟩
  have hle := cnt_sum_le (fun k => decide ((m : Int) ≤ (tk l k).a ∧ (tk l k).d ≤ (n : Int))) l.length ((X.take n).drop m)
  have hsl : (((X.take n).drop m).length : Int) = n - m := by
    simp only [List.length_drop, List.length_take]; omega
  have : demand l m n = sumN l.length (fun k => if (decide ((m : Int) ≤ (tk l k).a ∧ (tk l k).d ≤ (n : Int))) = true then cnt k ((X.take n).drop m) else 0) := by
    refine sumN_congr fun k hk => ?_
    split
    · rename_i hS
      simp only [decide_eq_true_eq] at hS
      have e1 : cnt k (X.take n) = cnt k ((X.take n).take m) + cnt k ((X.take n).drop m) := by rw [← cnt_append, List.take_append_drop]
      have e2 : cnt k X = cnt k (X.take n) + cnt k (X.drop n) := by rw [← cnt_append, List.take_append_drop]
      have z1 : cnt k ((X.take n).take m) = 0 := cnt_zero fun y hy he => by
        rw [List.take_take, Nat.min_eq_left (by omega)] at hy
        obtain ⟨t, t1, t2, t3, t4⟩ := mem_seg (R := X) (a := 0) (b := m) (by simpa using hy)
        rcases hs t (by omega) with h1 | ⟨i, hi, h1, h2, h3⟩
        · omega
        · obtain rfl : i = k := by omega
          omega
      have z2 : cnt k (X.drop n) = 0 := cnt_zero fun y hy he => by
        obtain ⟨t, t1, t2, t3, t4⟩ := mem_seg (R := X) (a := n) (b := X.length) (by simpa using hy)
        rcases hs t (by omega) with h1 | ⟨i, hi, h1, h2, h3⟩
        · omega
        · obtain rfl : i = k := by omega
          omega
      rw [← hc k hk]; omega
    · rfl
  rw [this]
  omega

theorem edf_valid {l : List T} (hok : okL l) {R : List Int} (h : Steps l R) (hR : R.length = 200) (hn : ∀ i, i < l.length → ¬ Late l R i) : ValidR l R := by
  refine ⟨hR, fun t ht => ?_, fun i hi => ?_⟩
  · rcases h t (by omega) with ⟨hb, _⟩ | ⟨k, hk, hb, hr, hm⟩
    · exact .inl hb
    · refine .inr ⟨k, hk, hb, hr.1, ?_⟩
      apply Classical.byContradiction
      intro hlt
      refine hn k hk (.inl ⟨t, ?_, by omega⟩)
      rw [List.getD_eq_getElem?_getD] at hb
      rw [List.getElem?_eq_getElem (by omega)] at hb ⊢
      simpa using hb
  · have h1 := left_nonneg hok h hi R.length (Nat.le_refl _)
    rw [List.take_length] at h1
    have h2 : ¬ 0 < left l R i := fun hp => hn i hi (.inr hp)
    unfold left at h1 h2; omega

/-- No task is late just if there is nowhere too much to do. -/
theorem edf_iff {l : List T} (hok : okL l) {R : List Int} (h : Steps l R) (hR : R.length = 200) : (∀ i, i < l.length → ¬ Late l R i) ↔ Feas l :=
  ⟨fun hn => valid_feas hok (edf_valid hok h hR hn), fun hF i hi hl => edf_late hok h hR hi hl hF⟩
theorem edf_valid_iff {l : List T} (hok : okL l) {R : List Int} (h : Steps l R) (hR : R.length = 200) : ValidR l R ↔ Feas l :=
  ⟨fun hv => valid_feas hok hv, fun hF => edf_valid hok h hR ((edf_iff hok h hR).2 hF)⟩
end Go.Proofs.Ytnclaokllghaoaa
