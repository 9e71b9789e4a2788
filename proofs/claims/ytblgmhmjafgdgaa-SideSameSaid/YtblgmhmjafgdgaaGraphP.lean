/- Graphs: who comes behind whom; orders; plain facts. -/
import Derived.Test.YtblgmhmjafgdgaaGood
set_option linter.unusedVariables false
set_option linter.unusedSimpArgs false
namespace Go.Proofs.Ytblgmhmjafgdgaa
open Go.Sx Go.RowKit

/-- An edge: f is ahead of t. -/
structure E where
  f : Int
  t : Int
deriving Inhabited

def encE (e : E) : List Value := [.int .i64 e.f, .int .i64 e.t]
abbrev Edges (w : World) (p : Option Addr) (L : List E) : Prop := Recs 2 encE w p L
def ed (L : List E) (i : Nat) : E := L.getD i default
def okE (n : Int) (e : E) : Prop := 0 ≤ e.f ∧ e.f < n ∧ 0 ≤ e.t ∧ e.t < n
def okG (n : Int) (L : List E) : Prop := 0 ≤ n ∧ n ≤ 60 ∧ L.length ≤ 400 ∧ ∀ e ∈ L, okE n e
open Classical in
noncomputable def errG (n : Int) (L : List E) : Int := if ¬ (0 ≤ n ∧ n ≤ 60) then 1 else if 400 < L.length then 2 else if (∀ e ∈ L, okE n e) then 0 else 4

theorem errG_ok {n : Int} {L : List E} : errG n L = 0 ↔ okG n L := by
  unfold errG okG
  by_cases h1 : 0 ≤ n ∧ n ≤ 60
  · rw [if_neg (by simpa using h1)]
    by_cases h2 : 400 < L.length
    · rw [if_pos h2]; constructor <;> intro h' <;> omega
    · rw [if_neg h2]
      by_cases h3 : ∀ e ∈ L, okE n e
      · rw [if_pos h3]; exact ⟨fun _ => ⟨h1.1, h1.2, by omega, h3⟩, fun _ => rfl⟩
      · rw [if_neg h3]; exact ⟨fun h' => by omega, fun h' => absurd h'.2.2.2 h3⟩
  · rw [if_pos h1]; constructor <;> intro h' <;> omega
theorem errG_ne8 {n : Int} {L : List E} : errG n L ≠ 8 := by
  unfold errG; split <;> (try split) <;> (try split) <;> omega

theorem edges_at {w : World} {p : Option Addr} {L : List E} (h : Edges w p L) {k : Int} (h0 : 0 ≤ k) (hk : k < L.length) :
    p ≠ none ∧ pIdx p k 2 ≠ none ∧ cell w (pIdx p k 2) 0 = some (.int .i64 (ed L k.toNat).f) ∧ cell w (pIdx p k 2) 1 = some (.int .i64 (ed L k.toNat).t) := by
  have h1 := h.idx default h0 hk (j := 0) rfl
  have h2 := h.idx default h0 hk (j := 1) rfl
  have hp := cell_p h1
  exact ⟨fun he => hp (pIdx_none.2 he), hp, h1, h2⟩
theorem ed_mem {L : List E} {i : Nat} (h : i < L.length) : ed L i ∈ L := by
  unfold ed; rw [List.getD_eq_getElem?_getD]; simp [h]
theorem mem_ed {L : List E} {e : E} (h : e ∈ L) : ∃ i, i < L.length ∧ ed L i = e := by
  obtain ⟨i, hi⟩ := List.mem_iff_getElem?.1 h
  exact ⟨i, (List.getElem?_eq_some_iff.1 hi).1, by unfold ed; rw [List.getD_eq_getElem?_getD, hi]; rfl⟩

def Adj (L : List E) (i j : Nat) : Prop := ∃ e ∈ L, e.f = i ∧ e.t = j

/-- By way of things below K alone. -/
inductive Via (A : Nat → Nat → Prop) (K : Nat) : Nat → Nat → Prop
  | edge {i j} : A i j → Via A K i j
  | mid {i k j} : Via A K i k → Via A K k j → k < K → Via A K i j

theorem Via.up {A : Nat → Nat → Prop} {K : Nat} {i j : Nat} (h : Via A K i j) : Via A (K + 1) i j := by
  induction h with
  | edge h => exact .edge h
  | mid _ _ hk ih1 ih2 => exact .mid ih1 ih2 (by omega)
theorem Via.zero {A : Nat → Nat → Prop} {i j : Nat} : Via A 0 i j ↔ A i j :=
  ⟨fun h => by cases h with | edge h => exact h | mid _ _ hk => omega, .edge⟩
theorem Via.succ {A : Nat → Nat → Prop} {K : Nat} {i j : Nat} : Via A (K + 1) i j ↔ Via A K i j ∨ (Via A K i K ∧ Via A K K j) := by
  constructor
  · intro h
    induction h with
    | edge h => exact .inl (.edge h)
    | @mid i k j _ _ hk ih1 ih2 =>
      by_cases hkK : k = K
      · subst hkK
        have g1 : Via A k i k := by rcases ih1 with h | h; exact h; exact h.1
        have g2 : Via A k k j := by rcases ih2 with h | h; exact h; exact h.2
        exact .inr ⟨g1, g2⟩
      · have hlt : k < K := by omega
        rcases ih1 with h1 | h1 <;> rcases ih2 with h2 | h2
        · exact .inl (.mid h1 h2 hlt)
        · exact .inr ⟨.mid h1 h2.1 hlt, h2.2⟩
        · exact .inr ⟨h1.1, .mid h1.2 h2 hlt⟩
        · exact .inr ⟨h1.1, h2.2⟩
  · rintro (h | ⟨h1, h2⟩)
    · exact h.up
    · exact .mid h1.up h2.up (by omega)

/-- Behind each other, by edges below n. -/
abbrev Beh (L : List E) (n : Nat) (i j : Nat) : Prop := Via (Adj L) n i j

/-- An order: each thing once, each behind those ahead of it. -/
structure Topo (n : Nat) (L : List E) (A : List Int) : Prop where
  inn : ∀ y ∈ A, ∃ i : Nat, y = i ∧ i < n
  once : ∀ i : Nat, i < n → cnt i A = 1
  ahead : ∀ (k : Nat) (e : E), e ∈ L → A[k]? = some e.t → e.f ∈ A.take k

theorem Topo.len {n : Nat} {L : List E} {A : List Int} (h : Topo n L A) : A.length = n := by
  have h1 := cnt_total h.inn
  have h2 : sumN n (fun i => cnt i A) = sumN n (fun _ => 1) := sumN_congr fun i hi => h.once i hi
  rw [h2, sumN_one] at h1
  omega

theorem Topo.place {n : Nat} {L : List E} {A : List Int} (h : Topo n L A) {i : Nat} (hi : i < n) : ∃ p : Nat, A[p]? = some (i : Int) ∧ ∀ q : Nat, A[q]? = some (i : Int) → q = p := by
  have : (i : Int) ∈ A := cnt_pos (by have := h.once i hi; omega)
  obtain ⟨p, hp⟩ := List.mem_iff_getElem?.1 this
  exact ⟨p, hp, fun q hq => cnt_one_place (by have := h.once i hi; omega) hq hp⟩

theorem mem_take {A : List Int} {x : Int} {k : Nat} (h : x ∈ A.take k) : ∃ p, p < k ∧ A[p]? = some x := by
  obtain ⟨p, hp⟩ := List.mem_iff_getElem?.1 h
  rw [List.getElem?_take] at hp
  split at hp
  · exact ⟨p, by assumption, hp⟩
  · cases hp

/-- Along edges the places rise. -/
theorem Topo.rise {n : Nat} {L : List E} {A : List Int} (h : Topo n L A) {K i j : Nat} (hv : Via (Adj L) K i j) : ∀ {p q : Nat}, A[p]? = some (i : Int) → A[q]? = some (j : Int) → p < q := by
  induction hv with
  | @edge i j hA =>
    intro p q hp hq
    obtain ⟨e, he, h1, h2⟩ := hA
    obtain ⟨r, hr, hr2⟩ := mem_take (h.ahead q e he (by rw [h2]; exact hq))
    obtain ⟨i', hi', hlt⟩ := h.inn _ (List.mem_of_getElem? hp)
    have hii : i' = i := by omega
    subst hii
    rw [h1] at hr2
    have := cnt_one_place (by have := h.once i' hlt; omega) hp hr2
    omega
  | @mid i k j _ hkj _ ih1 ih2 =>
    intro p q hp hq
    have hk : ∃ r : Nat, A[r]? = some (k : Int) := by
      have key : ∀ {a b : Nat}, Via (Adj L) K a b → ∀ q : Nat, A[q]? = some (b : Int) → ∃ r : Nat, A[r]? = some (a : Int) := by
        intro a b hv
        induction hv with
        | @edge a b hA =>
          intro q hq
          obtain ⟨e, he, h1, h2⟩ := hA
          obtain ⟨r, _, hr2⟩ := mem_take (h.ahead q e he (by rw [h2]; exact hq))
          exact ⟨r, by rw [← h1]; exact hr2⟩
        | mid _ _ _ iha ihb =>
          intro q hq
          obtain ⟨r, hr⟩ := ihb q hq
          exact iha r hr
      exact key hkj q hq
    obtain ⟨r, hr⟩ := hk
    have := ih1 hp hr
    have := ih2 hr hq
    omega

theorem Topo.noKnot {n : Nat} {L : List E} {A : List Int} (h : Topo n L A) {K i : Nat} (hi : i < n) : ¬ Via (Adj L) K i i := by
  intro hv
  obtain ⟨p, hp, _⟩ := h.place hi
  have := h.rise hv hp hp
  omega

/-- Where each of some has one of them ahead, there is a knot. -/
theorem knot_of {n : Nat} {L : List E} (S : Nat → Prop) (hS : ∀ i, S i → i < n) (hne : ∃ i, S i) (hp : ∀ i, S i → ∃ j, S j ∧ Adj L j i) : ∃ i, i < n ∧ Beh L n i i := by
  classical
  apply Classical.byContradiction
  intro hno
  have hno : ∀ i, i < n → ¬ Beh L n i i := fun i hi h => hno ⟨i, hi, h⟩
  let f : Nat → Nat → Int := fun i y => if S y ∧ Beh L n y i then 1 else 0
  have key : ∀ m : Nat, ∀ i, S i → sumN n (f i) ≤ m → False := by
    intro m
    induction m with
    | zero =>
      intro i hi hle
      obtain ⟨j, hj, hA⟩ := hp i hi
      have h1 : f i j = 1 := if_pos ⟨hj, .edge hA⟩
      have : sumN n (fun _ => 0) < sumN n (f i) := sumN_lt (hS j hj) (fun y _ => by show (0 : Int) ≤ if _ then _ else _; split <;> omega) (by rw [h1]; omega)
      rw [sumN_zero] at this
      simp at hle; omega
    | succ m ih =>
      intro i hi hle
      obtain ⟨j, hj, hA⟩ := hp i hi
      refine ih j hj ?_
      have hlt : sumN n (f j) < sumN n (f i) := by
        refine sumN_lt (hS j hj) (fun y _ => ?_) ?_
        · show (if S y ∧ Beh L n y j then (1 : Int) else 0) ≤ if S y ∧ Beh L n y i then 1 else 0
          by_cases h : S y ∧ Beh L n y j
          · rw [if_pos h, if_pos ⟨h.1, .mid h.2 (.edge hA) (hS j hj)⟩]; omega
          · rw [if_neg h]; split <;> omega
        · show (if S j ∧ Beh L n j j then (1 : Int) else 0) < if S j ∧ Beh L n j i then 1 else 0
          rw [if_neg fun h => hno j (hS j hj) h.2, if_pos ⟨hj, .edge hA⟩]; omega
      omega
  obtain ⟨i, hi⟩ := hne
  exact key (sumN n (f i)).toNat i hi (by
    have : 0 ≤ sumN n (f i) := sumN_nonneg fun y _ => by show (0 : Int) ≤ if _ then _ else _; split <;> omega
    omega)
end Go.Proofs.Ytblgmhmjafgdgaa
