/- What is booked when: loads, times, gaps: no program in sight. -/
import Derived.Test.YtlgcnfmifkbefaaGood
import Derived.Test.YtlgcnfmifkbefaaSxR
import Derived.Lib.SlicesCompact
set_option linter.unusedVariables false
set_option linter.unusedSimpArgs false
namespace Go.Proofs.Ytlgcnfmifkbefaa
open Go.Sx Go.RowKit

structure Sl where
  f : Int
  t : Int
  n : Int
deriving Inhabited
abbrev encS (s : Sl) : List Value := [.int .i64 s.f, .int .i64 s.t, .int .i64 s.n]
def part (s : Sl) (t : Int) : Int := if s.f ≤ t ∧ t < s.t then s.n else 0
def load : List Sl → Int → Int
  | [], _ => 0
  | s :: r, t => part s t + load r t
theorem load_app (a b : List Sl) (t : Int) : load (a ++ b) t = load a t + load b t := by
  induction a with
  | nil => simp [load]
  | cons s r ih => simp only [List.cons_append, load, ih]; omega
theorem load_perm {a b : List Sl} (h : a.Perm b) (t : Int) : load a t = load b t := by
  induction h with
  | nil => rfl
  | cons x _ ih => simp only [load, ih]
  | swap x y l => simp only [load]; omega
  | trans _ _ h1 h2 => exact h1.trans h2
theorem load_bound {L : List Sl} (h : ∀ s ∈ L, 0 ≤ s.n ∧ s.n ≤ 1099511627776) (t : Int) : 0 ≤ load L t ∧ load L t ≤ 1099511627776 * L.length := by
  induction L with
  | nil => simp [load]
  | cons s r ih =>
    have h1 := ih fun x hx => h x (List.mem_cons_of_mem _ hx)
    have h2 := h s (List.mem_cons_self ..)
    have h3 : 0 ≤ part s t ∧ part s t ≤ 1099511627776 := by unfold part; split <;> omega
    simp only [load, List.length_cons]
    omega

def ends (L : List Sl) : List Int := 0 :: 1000000 :: L.flatMap fun s => [s.f, s.t]
def srt (xs : List Int) : List Int := xs.mergeSort fun x y => decide (x ≤ y)
def times (L : List Sl) : List Int := Lib.compact (srt (ends L))
theorem srt_sorted (xs : List Int) : (srt xs).Pairwise (· ≤ ·) := by
  have h := List.pairwise_mergeSort (le := fun x y : Int => decide (x ≤ y)) (fun a b c h1 h2 => by simp only [decide_eq_true_iff] at h1 h2 ⊢; omega) (fun a b => by simp only [Bool.or_eq_true, decide_eq_true_iff]; omega) xs
  exact h.imp fun h => by simpa using h
theorem srt_perm (xs : List Int) : (srt xs).Perm xs := List.mergeSort_perm _ _
theorem compact_prop (ys : List Int) (h : ys.Pairwise (· ≤ ·)) : (Lib.compact ys).Pairwise (· < ·) ∧ ∀ x, x ∈ Lib.compact ys ↔ x ∈ ys := by
  have at_ : ∀ j, j < ys.length → ys.toArray[j]! = ys.getD j 0 := fun j hj => by simp [getElem!_pos, hj, List.getD_eq_getElem?_getD]
  have mono : ∀ j, j + 1 < ys.length → ys.getD j 0 ≤ ys.getD (j + 1) 0 := fun j hj => by
    have := (List.pairwise_iff_getElem.1 h) j (j + 1) (by omega) hj (by omega)
    simpa [List.getD_eq_getElem?_getD, hj, show j < ys.length by omega] using this
  have key : ∀ m, m ≤ ys.length → (Lib.compactUpTo ys.toArray m).Pairwise (· < ·) ∧ (∀ x, x ∈ Lib.compactUpTo ys.toArray m ↔ ∃ j, j < m ∧ ys.getD j 0 = x) ∧ ∀ x ∈ Lib.compactUpTo ys.toArray m, 0 < m → x ≤ ys.getD (m - 1) 0 := by
    intro m
    induction m with
    | zero => exact fun _ => ⟨by simp [Lib.compactUpTo], fun x => by simp [Lib.compactUpTo], fun x hx => by simp [Lib.compactUpTo] at hx⟩
    | succ m ih =>
      intro hm
      obtain ⟨h1, h2, h3⟩ := ih (by omega)
      rw [Lib.compactUpTo_succ, at_ m (by omega)]
      by_cases hk : Lib.keeps ys.toArray m = true
      · rw [if_pos hk]
        have hlt : ∀ x ∈ Lib.compactUpTo ys.toArray m, x < ys.getD m 0 := fun x hx => by
          have h0 : 0 < m := by
            obtain ⟨j, hj, _⟩ := (h2 x).1 hx
            omega
          have hne : ys.getD m 0 ≠ ys.getD (m - 1) 0 := by
            simp only [Lib.keeps, decide_eq_true_iff] at hk
            rw [at_ m (by omega), at_ (m - 1) (by omega)] at hk
            rcases hk with hk | hk
            · omega
            · exact hk
          have := h3 x hx h0
          have := mono (m - 1) (by omega)
          rw [show m - 1 + 1 = m by omega] at this
          omega
        refine ⟨List.pairwise_append.2 ⟨h1, List.pairwise_singleton _ _, fun a ha b hb => by simp only [List.mem_singleton] at hb; subst hb; exact hlt a ha⟩, fun x => ?_, fun x hx _ => ?_⟩
        · rw [List.mem_append, h2, List.mem_singleton]
          constructor
          · rintro (⟨j, hj, hx⟩ | hx)
            · exact ⟨j, by omega, hx⟩
            · exact ⟨m, by omega, hx.symm⟩
          · rintro ⟨j, hj, hx⟩
            by_cases hjm : j < m
            · exact .inl ⟨j, hjm, hx⟩
            · obtain rfl : j = m := by omega
              exact .inr hx.symm
        · rw [show m + 1 - 1 = m by omega]
          rcases List.mem_append.1 hx with hx | hx
          · have := hlt x hx; omega
          · simp only [List.mem_singleton] at hx; omega
      · rw [if_neg hk, List.append_nil]
        have hk : m ≠ 0 ∧ ys.getD m 0 = ys.getD (m - 1) 0 := by
          simp only [Lib.keeps, decide_eq_true_iff, not_or, Classical.not_not] at hk
          have h0 : m ≠ 0 := hk.1
          have h1 := hk.2
          rw [at_ m (by omega), at_ (m - 1) (by omega)] at h1
          exact ⟨h0, h1⟩
        refine ⟨h1, fun x => ?_, fun x hx _ => ?_⟩
        · rw [h2]
          constructor
          · rintro ⟨j, hj, hx⟩; exact ⟨j, by omega, hx⟩
          · rintro ⟨j, hj, hx⟩
            by_cases hjm : j < m
            · exact ⟨j, hjm, hx⟩
            · obtain rfl : j = m := by omega
              exact ⟨j - 1, by omega, by rw [← hk.2]; exact hx⟩
        · have := h3 x hx (by omega)
          rw [show m + 1 - 1 = m by omega, hk.2]; exact this
  obtain ⟨h1, h2, _⟩ := key ys.length (Nat.le_refl _)
  refine ⟨h1, fun x => (h2 x).trans ⟨?_, fun hx => ?_⟩⟩
  · rintro ⟨j, hj, rfl⟩; exact getD_mem ys 0 hj
  · obtain ⟨j, hj, rfl⟩ := List.getElem_of_mem hx
    exact ⟨j, hj, by simp [List.getD_eq_getElem?_getD, hj]⟩
theorem times_sorted (L : List Sl) : (times L).Pairwise (· < ·) := (compact_prop _ (srt_sorted _)).1
theorem times_mem {L : List Sl} {x : Int} : x ∈ times L ↔ x ∈ ends L := ((compact_prop _ (srt_sorted _)).2 x).trans (srt_perm _).mem_iff
/-- Rising lists of the same things are the same. -/
theorem rising_ext : ∀ {a b : List Int}, a.Pairwise (· < ·) → b.Pairwise (· < ·) → (∀ x, x ∈ a ↔ x ∈ b) → a = b
  | [], [], _, _, _ => rfl
  | [], y :: b, _, _, h => absurd ((h y).2 (List.mem_cons_self ..)) (by simp)
  | x :: a, [], _, _, h => absurd ((h x).1 (List.mem_cons_self ..)) (by simp)
  | x :: a, y :: b, ha, hb, h => by
    obtain ⟨ha1, ha2⟩ := List.pairwise_cons.1 ha
    obtain ⟨hb1, hb2⟩ := List.pairwise_cons.1 hb
    have hxy : x = y := by
      rcases List.mem_cons.1 ((h x).1 (List.mem_cons_self ..)) with h1 | h1
      · exact h1
      · rcases List.mem_cons.1 ((h y).2 (List.mem_cons_self ..)) with h2 | h2
        · exact h2.symm
        · have := hb1 x h1; have := ha1 y h2; omega
    subst hxy
    rw [rising_ext ha2 hb2 fun z => ⟨fun hz => ?_, fun hz => ?_⟩]
    · rcases List.mem_cons.1 ((h z).1 (List.mem_cons_of_mem _ hz)) with h1 | h1
      · subst h1; have := ha1 z hz; omega
      · exact h1
    · rcases List.mem_cons.1 ((h z).2 (List.mem_cons_of_mem _ hz)) with h1 | h1
      · subst h1; have := hb1 z hz; omega
      · exact h1
theorem times_perm {a b : List Sl} (h : a.Perm b) : times a = times b := rising_ext (times_sorted a) (times_sorted b) fun x => by
  rw [times_mem, times_mem]
  exact (((h.flatMap_right fun s => [s.f, s.t]).cons _).cons _).mem_iff

/-- All slots are such as there can be. -/
def Vs (size : Int) (L : List Sl) : Prop := ∀ s ∈ L, 0 ≤ s.f ∧ s.f < s.t ∧ s.t ≤ 1000000 ∧ 1 ≤ s.n ∧ s.n ≤ size
theorem mem_ends {L : List Sl} {x : Int} : x ∈ ends L ↔ x = 0 ∨ x = 1000000 ∨ ∃ s ∈ L, x = s.f ∨ x = s.t := by
  unfold ends
  simp only [List.mem_cons, List.mem_flatMap, List.not_mem_nil, or_false]
abbrev tm' (L : List Sl) (i : Nat) : Int := (times L).getD i 0
theorem times_lt {L : List Sl} {i j : Nat} (h : i < j) (hj : j < (times L).length) : tm' L i < tm' L j := by
  have := (List.pairwise_iff_getElem.1 (times_sorted L)) i j (by omega) hj h
  simpa [tm', List.getD_eq_getElem?_getD, hj, show i < (times L).length by omega] using this
theorem times_get {L : List Sl} {x : Int} (h : x ∈ times L) : ∃ i, i < (times L).length ∧ tm' L i = x := by
  obtain ⟨i, hi, rfl⟩ := List.getElem_of_mem h
  exact ⟨i, hi, by simp [tm', List.getD_eq_getElem?_getD, hi]⟩
theorem times_range {L : List Sl} {size : Int} (h : Vs size L) {x : Int} (hx : x ∈ times L) : 0 ≤ x ∧ x ≤ 1000000 := by
  rcases mem_ends.1 (times_mem.1 hx) with h1 | h1 | ⟨s, hs, h1⟩
  · omega
  · omega
  · have := h s hs; omega
theorem times_two (L : List Sl) : 2 ≤ (times L).length := by
  obtain ⟨i, hi, h0⟩ := times_get (times_mem.2 (mem_ends.2 (.inl rfl)) : (0 : Int) ∈ times L)
  obtain ⟨j, hj, h1⟩ := times_get (times_mem.2 (mem_ends.2 (.inr (.inl rfl))) : (1000000 : Int) ∈ times L)
  have : i ≠ j := fun h => by subst h; omega
  omega
theorem times_first {L : List Sl} {size : Int} (h : Vs size L) : tm' L 0 = 0 := by
  obtain ⟨i, hi, h0⟩ := times_get (times_mem.2 (mem_ends.2 (.inl rfl)) : (0 : Int) ∈ times L)
  have h2 := times_range h (getD_mem (times L) 0 (i := 0) (by omega))
  rcases Nat.eq_zero_or_pos i with rfl | hp
  · exact h0
  · have := times_lt hp hi
    have : tm' L 0 = (times L).getD 0 0 := rfl
    omega
theorem times_last {L : List Sl} {size : Int} (h : Vs size L) : tm' L ((times L).length - 1) = 1000000 := by
  have h2l := times_two L
  obtain ⟨i, hi, h0⟩ := times_get (times_mem.2 (mem_ends.2 (.inr (.inl rfl))) : (1000000 : Int) ∈ times L)
  have h2 := times_range h (getD_mem (times L) 0 (i := (times L).length - 1) (by omega))
  by_cases hl : i = (times L).length - 1
  · rw [← hl]; exact h0
  · have := times_lt (L := L) (show i < (times L).length - 1 by omega) (by omega)
    have : tm' L ((times L).length - 1) = (times L).getD ((times L).length - 1) 0 := rfl
    omega
/-- Between two times nothing turns. -/
theorem load_step {L : List Sl} {i : Nat} (hi : i + 1 < (times L).length) {t : Int} (h0 : tm' L i ≤ t) (h1 : t < tm' L (i + 1)) : load L t = load L (tm' L i) := by
  have no : ∀ x, x ∈ times L → tm' L i < x → x ≤ t → False := fun x hx hlt hle => by
    obtain ⟨j, hj, rfl⟩ := times_get hx
    have hij : i < j := by
      rcases Nat.lt_or_ge i j with h | h
      · exact h
      · rcases Nat.eq_or_lt_of_le h with h | h
        · subst h; omega
        · have := times_lt h (by omega : i < (times L).length); omega
    rcases Nat.eq_or_lt_of_le (show i + 1 ≤ j by omega) with h | h
    · subst h; omega
    · have := times_lt h hj; omega
  have key : ∀ M : List Sl, (∀ s ∈ M, s.f ∈ times L ∧ s.t ∈ times L) → load M t = load M (tm' L i) := by
    intro M
    induction M with
    | nil => intro _; rfl
    | cons s r ih =>
      intro h
      have hs := h s (List.mem_cons_self ..)
      have hp : part s t = part s (tm' L i) := by
        unfold part
        have a1 : s.f ≤ t ↔ s.f ≤ tm' L i := ⟨fun h => by
          rcases Int.lt_or_le (tm' L i) s.f with h2 | h2
          · exact (no _ hs.1 h2 h).elim
          · exact h2, fun h => by omega⟩
        have a2 : t < s.t ↔ tm' L i < s.t := ⟨fun h => by omega, fun h => by
          rcases Int.lt_or_le t s.t with h2 | h2
          · exact h2
          · exact (no _ hs.2 h h2).elim⟩
        simp only [a1, a2]
      simp only [load, hp, ih fun x hx => h x (List.mem_cons_of_mem _ hx)]
  exact key L fun s hs => ⟨times_mem.2 (mem_ends.2 (.inr (.inr ⟨s, hs, .inl rfl⟩))), times_mem.2 (mem_ends.2 (.inr (.inr ⟨s, hs, .inr rfl⟩)))⟩
/-- Each time is in one step. -/
theorem cover {L : List Sl} {size : Int} (h : Vs size L) {t : Int} (h0 : 0 ≤ t) (h1 : t < 1000000) : ∃ k, k + 1 < (times L).length ∧ tm' L k ≤ t ∧ t < tm' L (k + 1) := by
  have hf := times_first h
  have hl := times_last h
  have h2 := times_two L
  have key : ∀ n i, (times L).length - i = n → i < (times L).length → tm' L i ≤ t → ∃ k, k + 1 < (times L).length ∧ tm' L k ≤ t ∧ t < tm' L (k + 1) := by
    intro n
    induction n with
    | zero => intro i hn hi; omega
    | succ n ih =>
      intro i hn hi hle
      by_cases hi1 : i + 1 < (times L).length
      · by_cases hc : tm' L (i + 1) ≤ t
        · exact ih (i + 1) (by omega) hi1 hc
        · exact ⟨i, hi1, hle, by omega⟩
      · rw [show i = (times L).length - 1 by omega, hl] at hle; omega
  exact key _ 0 rfl (by omega) (by omega)

/-- The most that is booked from a time up to another one. -/
def isMost (L : List Sl) (a b m : Int) : Prop := (∀ t, a ≤ t → t < b → load L t ≤ m) ∧ ∃ t, a ≤ t ∧ t < b ∧ load L t = m
theorem isMost_eq {L : List Sl} {a b m m' : Int} (h : isMost L a b m) (h' : isMost L a b m') : m = m' := by
  obtain ⟨h1, t, h2, h3, h4⟩ := h
  obtain ⟨g1, u, g2, g3, g4⟩ := h'
  have := h1 u g2 g3
  have := g1 t h2 h3
  omega

/-! ### Gaps -/
def gstep (size n : Int) (out : List Sl) (at_ ld nxt : Int) : List Sl :=
  if size - ld < n then out
  else if 0 < out.length ∧ (out.getD (out.length - 1) default).t = at_ then out.set (out.length - 1) ⟨(out.getD (out.length - 1) default).f, nxt, min (out.getD (out.length - 1) default).n (size - ld)⟩
  else out ++ [⟨at_, nxt, size - ld⟩]
def gapsK (size n : Int) (L : List Sl) : Nat → List Sl
  | 0 => []
  | k + 1 => gstep size n (gapsK size n L k) (tm' L k) (load L (tm' L k)) (tm' L (k + 1))
def gapsF (size n : Int) (L : List Sl) : List Sl := gapsK size n L ((times L).length - 1)
theorem gapsF_perm {size n : Int} {a b : List Sl} (h : a.Perm b) : gapsF size n a = gapsF size n b := by
  have ht := times_perm h
  have : ∀ k, gapsK size n a k = gapsK size n b k := by
    intro k
    induction k with
    | zero => rfl
    | succ k ih => rw [gapsK, gapsK, ih]; simp only [tm', ht, load_perm h]
  unfold gapsF
  rw [ht, this]
structure GI (size n : Int) (L : List Sl) (T : Int) (out : List Sl) : Prop where
  each : ∀ g ∈ out, 0 ≤ g.f ∧ g.f < g.t ∧ g.t ≤ T ∧ n ≤ g.n ∧ isMost L g.f g.t (size - g.n)
  apart : out.Pairwise (fun a b => a.t < b.f)
  all : ∀ t, 0 ≤ t → t < T → ((∃ g ∈ out, g.f ≤ t ∧ t < g.t) ↔ load L t + n ≤ size)
theorem gaps_ok {size n : Int} {L : List Sl} (hv : Vs size L) : ∀ k, k < (times L).length → GI size n L (tm' L k) (gapsK size n L k) := by
  intro k
  induction k with
  | zero =>
    intro _
    rw [times_first hv]
    exact ⟨fun g hg => (by cases hg), List.Pairwise.nil, fun t h0 h1 => by omega⟩
  | succ k ih =>
    intro hk
    obtain ⟨i1, i2, i3⟩ := ih (by omega)
    have hlt := times_lt (L := L) (Nat.lt_succ_self k) hk
    have hst : ∀ t, tm' L k ≤ t → t < tm' L (k + 1) → load L t = load L (tm' L k) := fun t h0 h1 => load_step hk h0 h1
    have h0k : 0 ≤ tm' L k := (times_range hv (getD_mem (times L) 0 (i := k) (by omega))).1
    rw [gapsK]
    generalize hout : gapsK size n L k = out at i1 i2 i3
    generalize hA : tm' L k = A at *
    generalize hB : tm' L (k + 1) = B at *
    have hld : isMost L A B (load L A) := ⟨fun t h1 h2 => Int.le_of_eq (hst t h1 h2), A, Int.le_refl _, hlt, rfl⟩
    unfold gstep
    by_cases hf : size - load L A < n
    · rw [if_pos hf]
      refine ⟨fun g hg => ?_, i2, fun t h0 h1 => ?_⟩
      · obtain ⟨a1, a2, a3, a4, a5⟩ := i1 g hg
        exact ⟨a1, a2, by omega, a4, a5⟩
      · by_cases hc : t < A
        · exact i3 t h0 hc
        · rw [hst t (by omega) h1]
          exact ⟨fun ⟨g, hg, g1, g2⟩ => by have := (i1 g hg).2.2.1; omega, fun h => by omega⟩
    rw [if_neg hf]
    rcases List.eq_nil_or_concat out with hnil | ⟨pre, g, hcon⟩
    · subst hnil
      rw [if_neg (by simp), List.nil_append]
      refine ⟨fun g hg => ?_, List.pairwise_singleton _ _, fun t h0 h1 => ?_⟩
      · simp only [List.mem_singleton] at hg; subst hg
        refine ⟨h0k, hlt, Int.le_refl _, by simp only []; omega, ?_⟩
        simp only [show size - (size - load L A) = load L A by omega]; exact hld
      · by_cases hc : t < A
        · have := i3 t h0 hc
          constructor
          · rintro ⟨g, hg, g1, g2⟩
            simp only [List.mem_singleton] at hg; subst hg
            simp only [] at g1; omega
          · intro h
            obtain ⟨g, hg, _⟩ := this.2 h
            cases hg
        · rw [hst t (by omega) h1]
          exact ⟨fun _ => by omega, fun _ => ⟨_, List.mem_singleton.2 rfl, by simp only []; omega, h1⟩⟩
    · have hcon : out = pre ++ [g] := by simpa using hcon
      subst hcon
      have hg := i1 g (by simp)
      have hlast : (pre ++ [g]).getD ((pre ++ [g]).length - 1) default = g := by simp [List.getD_eq_getElem?_getD]
      have hpre : ∀ a ∈ pre, a.t < g.f := fun a ha => (List.pairwise_append.1 i2).2.2 a ha g (by simp)
      rw [hlast]
      by_cases hgt : g.t = A
      · rw [if_pos ⟨by simp, hgt⟩]
        have hset : (pre ++ [g]).set ((pre ++ [g]).length - 1) ⟨g.f, B, min g.n (size - load L A)⟩ = pre ++ [⟨g.f, B, min g.n (size - load L A)⟩] := by
          rw [List.length_append, List.length_singleton, show pre.length + 1 - 1 = pre.length by omega, List.set_append_right _ _ (Nat.le_refl _)]
          simp
        rw [hset]
        obtain ⟨a1, a2, a3, a4, a5, t5, a6, a7, a8⟩ := hg
        refine ⟨fun x hx => ?_, ?_, fun t h0 h1 => ?_⟩
        · rcases List.mem_append.1 hx with hx | hx
          · obtain ⟨b1, b2, b3, b4, b5⟩ := i1 x (by simp [hx])
            exact ⟨b1, b2, by omega, b4, b5⟩
          · simp only [List.mem_singleton] at hx; subst hx
            refine ⟨a1, by simp only []; omega, Int.le_refl _, by simp only []; omega, ?_, ?_⟩
            · intro t h1 h2
              simp only [] at h1 h2 ⊢
              by_cases hc : t < A
              · have := a5 t h1 (by omega); omega
              · rw [hst t (by omega) h2]; omega
            · simp only []
              by_cases hm : g.n ≤ size - load L A
              · exact ⟨t5, a6, by omega, by rw [a8]; omega⟩
              · exact ⟨A, by omega, hlt, by omega⟩
        · rw [List.pairwise_append] at i2 ⊢
          exact ⟨i2.1, List.pairwise_singleton _ _, fun a ha b hb => by simp only [List.mem_singleton] at hb; subst hb; exact hpre a ha⟩
        · by_cases hc : t < A
          · rw [← i3 t h0 hc]
            constructor
            · rintro ⟨x, hx, g1, g2⟩
              rcases List.mem_append.1 hx with hx | hx
              · exact ⟨x, by simp [hx], g1, g2⟩
              · simp only [List.mem_singleton] at hx; subst hx
                exact ⟨g, by simp, g1, by omega⟩
            · rintro ⟨x, hx, g1, g2⟩
              rcases List.mem_append.1 hx with hx | hx
              · exact ⟨x, by simp [hx], g1, g2⟩
              · simp only [List.mem_singleton] at hx; subst hx
                exact ⟨_, List.mem_append_right _ (List.mem_singleton.2 rfl), g1, by simp only []; omega⟩
          · rw [hst t (by omega) h1]
            exact ⟨fun _ => by omega, fun _ => ⟨_, List.mem_append_right _ (List.mem_singleton.2 rfl), by simp only []; omega, h1⟩⟩
      · rw [if_neg (fun h => hgt h.2)]
        have hgA : g.t < A := by have := hg.2.2.1; omega
        refine ⟨fun x hx => ?_, ?_, fun t h0 h1 => ?_⟩
        · rcases List.mem_append.1 hx with hx | hx
          · obtain ⟨b1, b2, b3, b4, b5⟩ := i1 x hx
            exact ⟨b1, b2, by omega, b4, b5⟩
          · simp only [List.mem_singleton] at hx; subst hx
            refine ⟨h0k, hlt, Int.le_refl _, by simp only []; omega, ?_⟩
            simp only [show size - (size - load L A) = load L A by omega]; exact hld
        · rw [List.pairwise_append]
          refine ⟨i2, List.pairwise_singleton _ _, fun a ha b hb => ?_⟩
          simp only [List.mem_singleton] at hb; subst hb
          show a.t < A
          rcases List.mem_append.1 ha with ha | ha
          · have := hpre a ha
            have := hg.2.1
            omega
          · simp only [List.mem_singleton] at ha; subst ha; exact hgA
        · by_cases hc : t < A
          · rw [← i3 t h0 hc]
            constructor
            · rintro ⟨x, hx, g1, g2⟩
              rcases List.mem_append.1 hx with hx | hx
              · exact ⟨x, hx, g1, g2⟩
              · simp only [List.mem_singleton] at hx; subst hx
                simp only [] at g1; omega
            · rintro ⟨x, hx, g1, g2⟩
              exact ⟨x, List.mem_append_left _ hx, g1, g2⟩
          · rw [hst t (by omega) h1]
            exact ⟨fun _ => by omega, fun _ => ⟨_, List.mem_append_right _ (List.mem_singleton.2 rfl), by simp only []; omega, h1⟩⟩
theorem gaps_all {size n : Int} {L : List Sl} (hv : Vs size L) : GI size n L 1000000 (gapsF size n L) := by
  have h2 := times_two L
  have := gaps_ok (n := n) hv ((times L).length - 1) (by omega)
  rwa [times_last hv] at this

/-- So much for so long can be booked then. -/
def fits (size n long : Int) (L : List Sl) (a : Int) : Prop := 0 ≤ a ∧ a + long ≤ 1000000 ∧ ∀ t, a ≤ t → t < a + long → load L t + n ≤ size
/-- It is so just within a gap. -/
theorem fits_gap {size n long : Int} {L : List Sl} (hv : Vs size L) (hl : 1 ≤ long) {a : Int} : fits size n long L a ↔ ∃ g ∈ gapsF size n L, g.f ≤ a ∧ a + long ≤ g.t := by
  obtain ⟨h1, h2, h3⟩ := gaps_all (n := n) hv
  constructor
  · rintro ⟨h0, hb, hall⟩
    obtain ⟨g, hg, g1, g2⟩ := (h3 a h0 (by omega)).2 (hall a (Int.le_refl _) (by omega))
    refine ⟨g, hg, g1, ?_⟩
    by_cases hc : a + long ≤ g.t
    · exact hc
    · obtain ⟨g', hg', k1, k2⟩ := (h3 g.t (by omega) (by omega)).2 (hall g.t (by omega) (by omega))
      exfalso
      obtain ⟨i, hi, hgi⟩ := List.getElem_of_mem hg
      obtain ⟨j, hj, hgj⟩ := List.getElem_of_mem hg'
      rcases Nat.lt_trichotomy i j with h | h | h
      · have := (List.pairwise_iff_getElem.1 h2) i j hi hj h
        rw [hgi, hgj] at this; omega
      · subst h
        rw [hgi] at hgj; subst hgj; omega
      · have := (List.pairwise_iff_getElem.1 h2) j i hj hi h
        rw [hgi, hgj] at this
        omega
  · rintro ⟨g, hg, g1, g2⟩
    obtain ⟨a1, a2, a3, a4, a5, _⟩ := h1 g hg
    exact ⟨by omega, by omega, fun t h4 h5 => by have := a5 t (by omega) (by omega); omega⟩
end Go.Proofs.Ytlgcnfmifkbefaa
