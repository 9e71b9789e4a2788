/- Times of package path, walked. -/
import Derived.Test.YtblgmhmjafgdgaaPath
set_option linter.unusedVariables false
set_option linter.unusedSimpArgs false
namespace Go.Proofs.Ytblgmhmjafgdgaa
open Go.Sx Go.RowKit

/-- The first k things of the order are done: when each may begin. -/
structure EarlyTo (N : Nat) (L : List E) (D A Ea : List Int) (Sp : Int) (k : Nat) : Prop where
  len : Ea.length = N
  b : ∀ i : Nat, i < N → 0 ≤ Ea.getD i 0 ∧ Ea.getD i 0 ≤ k * 1000000000
  rest : ∀ i : Nat, i < N → (i : Int) ∉ A.take k → Ea.getD i 0 = 0
  le : ∀ e ∈ L, e.t ∈ A.take k → g0 Ea e.f + g0 D e.f ≤ g0 Ea e.t
  eq : ∀ i : Nat, i < N → Ea.getD i 0 = 0 ∨ ∃ e ∈ L, e.t = i ∧ Ea.getD i 0 = g0 Ea e.f + g0 D e.f
  s0 : 0 ≤ Sp
  sMax : Sp ≤ k * 1000000000
  sLe : ∀ i : Nat, i < N → (i : Int) ∈ A.take k → Ea.getD i 0 + D.getD i 0 ≤ Sp
  sEq : Sp = 0 ∨ ∃ i : Nat, i < N ∧ (i : Int) ∈ A.take k ∧ Sp = Ea.getD i 0 + D.getD i 0

/-- The last k things of the order are done: when each must begin. -/
structure LateTo (N : Nat) (L : List E) (D A La : List Int) (Sp : Int) (k : Nat) : Prop where
  len : La.length = N
  b : ∀ i : Nat, i < N → (i : Int) ∈ A.drop (N - k) → Sp - k * 1000000000 ≤ La.getD i 0
  s : ∀ i : Nat, i < N → (i : Int) ∈ A.drop (N - k) → La.getD i 0 + D.getD i 0 ≤ Sp
  le : ∀ e ∈ L, e.f ∈ A.drop (N - k) → g0 La e.f + g0 D e.f ≤ g0 La e.t
  eq : ∀ i : Nat, i < N → (i : Int) ∈ A.drop (N - k) → La.getD i 0 + D.getD i 0 = Sp ∨ ∃ e ∈ L, e.f = i ∧ La.getD i 0 + D.getD i 0 = g0 La e.t

theorem mem_drop' {A : List Int} {x : Int} {k : Nat} : x ∈ A.drop k ↔ ∃ p, k ≤ p ∧ A[p]? = some x := by
  constructor
  · intro h
    obtain ⟨r, hr⟩ := List.mem_iff_getElem?.1 h
    rw [List.getElem?_drop] at hr
    exact ⟨k + r, by omega, hr⟩
  · rintro ⟨p, hp, h⟩
    refine List.mem_iff_getElem?.2 ⟨p - k, ?_⟩
    rw [List.getElem?_drop, show k + (p - k) = p by omega]; exact h
theorem mem_take' {A : List Int} {x : Int} {k : Nat} : x ∈ A.take k ↔ ∃ p, p < k ∧ A[p]? = some x :=
  ⟨mem_take, fun ⟨p, hp, h⟩ => List.mem_iff_getElem?.2 ⟨p, by rw [List.getElem?_take_of_lt hp]; exact h⟩⟩

theorem take_next {A : List Int} {x : Int} {k : Nat} (hk : A[k]? = some x) {y : Int} : y ∈ A.take (k + 1) ↔ y ∈ A.take k ∨ y = x := by
  rw [mem_take', mem_take']
  constructor
  · rintro ⟨p, hp, h⟩
    by_cases hpk : p < k
    · exact .inl ⟨p, hpk, h⟩
    · obtain rfl : p = k := by omega
      rw [hk] at h; exact .inr (Option.some.inj h).symm
  · rintro (⟨p, hp, h⟩ | rfl)
    · exact ⟨p, by omega, h⟩
    · exact ⟨k, by omega, hk⟩

/-- One thing more, by all edges to it. -/
theorem early_step {N : Nat} {L : List E} {D A Ea : List Int} {Sp : Int} {k : Nat} (hA : Topo N L A) (hD : ∀ i : Nat, i < N → 0 ≤ D.getD i 0 ∧ D.getD i 0 ≤ 1000000000) (hE : ∀ e ∈ L, 0 ≤ e.f ∧ e.f < N ∧ 0 ≤ e.t ∧ e.t < N) (h : EarlyTo N L D A Ea Sp k) {i : Nat} (hi : i < N) (hk : A[k]? = some (i : Int)) {v : Int}
    (v0 : 0 ≤ v) (vle : ∀ e ∈ L, e.t = i → g0 Ea e.f + g0 D e.f ≤ v) (veq : v = 0 ∨ ∃ e ∈ L, e.t = i ∧ v = g0 Ea e.f + g0 D e.f) :
    EarlyTo N L D A (Ea.set i v) (max Sp (v + D.getD i 0)) (k + 1) := by
  have hlen := h.len
  have hnot : (i : Int) ∉ A.take k := fun hm => by
    obtain ⟨p, hp, hp2⟩ := mem_take hm
    have := cnt_one_place (by have := hA.once i hi; omega) hp2 hk; omega
  have get : ∀ j : Nat, (Ea.set i v).getD j 0 = if j = i then v else Ea.getD j 0 := fun j => getD_set _ _ _ _ _ (by omega)
  have gi : ∀ e ∈ L, e.t ∈ A.take (k + 1) → g0 (Ea.set i v) e.f = g0 Ea e.f := fun e he hm => by
    show (Ea.set i v).getD e.f.toNat 0 = _
    rw [get, if_neg]
    intro hf
    obtain ⟨p, hp, hp2⟩ := mem_take hm
    have := hA.ahead p e he hp2
    have hfi : e.f = i := by have := hE e he; omega
    rw [hfi] at this
    exact hnot (mem_take'.2 (by obtain ⟨r, hr, hr2⟩ := mem_take this; exact ⟨r, by omega, hr2⟩))
  have hvb : v ≤ (k + 1 : Nat) * 1000000000 - 1000000000 + 1000000000 := by
    rcases veq with h0 | ⟨e, he, _, hv⟩
    · omega
    · have hEe := hE e he
      have := (h.b e.f.toNat (by omega)).2
      have := (hD e.f.toNat (by omega)).2
      rw [hv]; show Ea.getD e.f.toNat 0 + D.getD e.f.toNat 0 ≤ _; omega
  have hveq' : v ≤ k * 1000000000 := by
    rcases veq with h0 | ⟨e, he, het, hv⟩
    · omega
    · have hEe := hE e he
      -- what is ahead has been done: it is no later than k - 1 steps
      have hm : e.f ∈ A.take k := hA.ahead k e he (by rw [het]; exact hk)
      obtain ⟨r, hr, hr2⟩ := mem_take hm
      have hD' := (hD e.f.toNat (by omega)).2
      have hs := h.sLe e.f.toNat (by omega) (by rw [show ((e.f.toNat : Nat) : Int) = e.f by omega]; exact hm)
      have := h.sMax
      rw [hv]; show Ea.getD e.f.toNat 0 + D.getD e.f.toNat 0 ≤ _; omega
  have hDi := hD i hi
  refine ⟨by simp [hlen], fun j hj => ?_, fun j hj hn => ?_, fun e he hm => ?_, fun j hj => ?_, ?_, ?_, fun j hj hm => ?_, ?_⟩
  · rw [get]
    have := h.b j hj
    split <;> omega
  · rw [take_next hk] at hn
    rw [get, if_neg (fun h => hn (.inr (by omega)))]
    exact h.rest j hj (fun h => hn (.inl h))
  · rw [gi e he hm]
    show _ ≤ (Ea.set i v).getD e.t.toNat 0
    have hEe := hE e he
    rw [get]
    rw [take_next hk] at hm
    by_cases hti : e.t = i
    · rw [if_pos (by omega)]; exact vle e he hti
    · rw [if_neg (by omega)]
      exact h.le e he (hm.resolve_right hti)
  · rw [get]
    by_cases hji : j = i
    · rw [if_pos hji]
      rcases veq with h0 | ⟨e, he, het, hv⟩
      · exact .inl h0
      · exact .inr ⟨e, he, by omega, by rw [gi e he ((take_next hk).2 (.inr het))]; exact hv⟩
    · rw [if_neg hji]
      by_cases hm : (j : Int) ∈ A.take k
      · rcases h.eq j hj with h0 | ⟨e, he, het, hv⟩
        · exact .inl h0
        · exact .inr ⟨e, he, het, by rw [gi e he ((take_next hk).2 (.inl (by rw [het]; exact hm)))]; exact hv⟩
      · exact .inl (h.rest j hj hm)
  · have := h.s0; omega
  · have := h.sMax; omega
  · rw [get]
    rw [take_next hk] at hm
    by_cases hji : j = i
    · subst hji; rw [if_pos rfl]; omega
    · rw [if_neg hji]
      have := h.sLe j hj (hm.resolve_right (by omega))
      omega
  · rcases Int.le_total Sp (v + D.getD i 0) with hle | hle
    · exact .inr ⟨i, hi, (take_next hk).2 (.inr rfl), by rw [get, if_pos rfl]; omega⟩
    · rcases h.sEq with h0 | ⟨j, hj, hm, hs⟩
      · exact .inl (by omega)
      · refine .inr ⟨j, hj, (take_next hk).2 (.inl hm), ?_⟩
        rw [get, if_neg (fun hji => hnot (by rw [← hji]; exact hm))]; omega
theorem drop_next {A : List Int} {N k : Nat} (hl : A.length = N) (hk : k < N) {x : Int} (hx : A[N - 1 - k]? = some x) {y : Int} : y ∈ A.drop (N - (k + 1)) ↔ y ∈ A.drop (N - k) ∨ y = x := by
  rw [mem_drop', mem_drop']
  constructor
  · rintro ⟨p, hp, h⟩
    by_cases hpk : N - k ≤ p
    · exact .inl ⟨p, hpk, h⟩
    · obtain rfl : p = N - 1 - k := by omega
      rw [hx] at h; exact .inr (Option.some.inj h).symm
  · rintro (⟨p, hp, h⟩ | rfl)
    · exact ⟨p, by omega, h⟩
    · exact ⟨N - 1 - k, by omega, hx⟩

theorem late_step {N : Nat} {L : List E} {D A La : List Int} {Sp : Int} {k : Nat} (hA : Topo N L A) (hkN : k < N) (hD : ∀ i : Nat, i < N → 0 ≤ D.getD i 0 ∧ D.getD i 0 ≤ 1000000000) (hE : ∀ e ∈ L, 0 ≤ e.f ∧ e.f < N ∧ 0 ≤ e.t ∧ e.t < N) (h : LateTo N L D A La Sp k) {i : Nat} (hi : i < N) (hk : A[N - 1 - k]? = some (i : Int)) {v : Int}
    (vs : v + D.getD i 0 ≤ Sp) (vle : ∀ e ∈ L, e.f = i → v + D.getD i 0 ≤ g0 La e.t) (veq : v + D.getD i 0 = Sp ∨ ∃ e ∈ L, e.f = i ∧ v + D.getD i 0 = g0 La e.t) :
    LateTo N L D A (La.set i v) Sp (k + 1) := by
  have hlen := h.len
  have lenA := hA.len
  have get : ∀ j : Nat, (La.set i v).getD j 0 = if j = i then v else La.getD j 0 := fun j => getD_set _ _ _ _ _ (by omega)
  have nx : ∀ {y : Int}, y ∈ A.drop (N - (k + 1)) ↔ y ∈ A.drop (N - k) ∨ y = (i : Int) := drop_next lenA hkN hk
  have behind : ∀ e ∈ L, e.f ∈ A.drop (N - (k + 1)) → e.t ∈ A.drop (N - k) := fun e he hm => by
    obtain ⟨p, hp, hp2⟩ := mem_drop'.1 hm
    have hEe := hE e he
    obtain ⟨r, hr, _⟩ := hA.place (i := e.t.toNat) (by omega)
    have := hA.rise (K := 0) (.edge ⟨e, he, (by omega : e.f = ((e.f.toNat : Nat) : Int)), (by omega : e.t = ((e.t.toNat : Nat) : Int))⟩) (by rw [show ((e.f.toNat : Nat) : Int) = e.f by omega]; exact hp2) hr
    exact mem_drop'.2 ⟨r, by omega, by rw [show e.t = ((e.t.toNat : Nat) : Int) by omega]; exact hr⟩
  have hnot : (i : Int) ∉ A.drop (N - k) := fun hm => by
    obtain ⟨p, hp, hp2⟩ := mem_drop'.1 hm
    have := cnt_one_place (by have := hA.once i hi; omega) hp2 hk; omega
  have gi : ∀ e ∈ L, e.f ∈ A.drop (N - (k + 1)) → g0 (La.set i v) e.t = g0 La e.t := fun e he hm => by
    show (La.set i v).getD e.t.toNat 0 = _
    rw [get, if_neg]
    intro ht
    have hEe := hE e he
    have := behind e he hm
    rw [show e.t = (i : Int) by omega] at this
    exact hnot this
  have hDi := hD i hi
  refine ⟨by simp [hlen], fun j hj hm => ?_, fun j hj hm => ?_, fun e he hm => ?_, fun j hj hm => ?_⟩
  · rw [get]
    rw [nx] at hm
    by_cases hji : j = i
    · subst hji
      rw [if_pos rfl]
      rcases veq with hv | ⟨e, he, hef, hv⟩
      · omega
      · have hEe := hE e he
        have hb := h.b e.t.toNat (by omega) (by rw [show ((e.t.toNat : Nat) : Int) = e.t by omega]; exact behind e he (nx.2 (.inr hef)))
        have hv : v + D.getD j 0 = La.getD e.t.toNat 0 := hv
        omega
    · rw [if_neg hji]
      have := h.b j hj (hm.resolve_right (by omega)); omega
  · rw [get]
    rw [nx] at hm
    by_cases hji : j = i
    · subst hji; rw [if_pos rfl]; exact vs
    · rw [if_neg hji]; exact h.s j hj (hm.resolve_right (by omega))
  · rw [gi e he hm]
    have hEe := hE e he
    show (La.set i v).getD e.f.toNat 0 + D.getD e.f.toNat 0 ≤ _
    rw [get]
    rw [nx] at hm
    by_cases hfi : e.f = i
    · rw [if_pos (by omega), show e.f.toNat = i by omega]; exact vle e he hfi
    · rw [if_neg (by omega)]; exact h.le e he (hm.resolve_right hfi)
  · rw [get]
    by_cases hji : j = i
    · subst hji
      rw [if_pos rfl]
      rcases veq with hv | ⟨e, he, hef, hv⟩
      · exact .inl hv
      · exact .inr ⟨e, he, hef, by rw [gi e he (nx.2 (.inr hef))]; exact hv⟩
    · rw [if_neg hji]
      rcases h.eq j hj ((nx.1 hm).resolve_right (by omega)) with hv | ⟨e, he, hef, hv⟩
      · exact .inl hv
      · exact .inr ⟨e, he, hef, by rw [gi e he (by rw [hef]; exact hm)]; exact hv⟩

/-- All is done. -/
theorem plan_of {N : Nat} {L : List E} {D A Ea La : List Int} {Sp : Int} (hN : N ≤ 60) (hA : Topo N L A) (hE : ∀ e ∈ L, 0 ≤ e.f ∧ e.f < N ∧ 0 ≤ e.t ∧ e.t < N) (h : EarlyTo N L D A Ea Sp N) (k : LateTo N L D A La Sp N) : Plan N L D Ea La Sp := by
  have lenA := hA.len
  have all1 : ∀ i : Nat, i < N → (i : Int) ∈ A := fun i hi => cnt_pos (by have := hA.once i hi; omega)
  have ht : A.take N = A := List.take_of_length_le (by omega)
  have hd : A.drop (N - N) = A := by simp
  have e1 := h.le; have e2 := h.sLe; have e3 := h.sEq
  have k1 := k.b; have k2 := k.s; have k3 := k.le; have k4 := k.eq
  rw [ht] at e1
  simp only [ht] at e2 e3
  simp only [hd] at k1 k2 k3 k4
  have mf : ∀ e ∈ L, e.f ∈ A := fun e he => by have := hE e he; have := all1 e.f.toNat (by omega); rwa [show ((e.f.toNat : Nat) : Int) = e.f by omega] at this
  have mt : ∀ e ∈ L, e.t ∈ A := fun e he => by have := hE e he; have := all1 e.t.toNat (by omega); rwa [show ((e.t.toNat : Nat) : Int) = e.t by omega] at this
  refine ⟨h.len, k.len, fun i hi => (h.b i hi).1, fun e he => e1 e he (mt e he), h.eq, h.s0, ?_, fun i hi => e2 i hi (all1 i hi), ?_, fun i hi => k2 i hi (all1 i hi), fun e he => k3 e he (mf e he), fun i hi => k4 i hi (all1 i hi)⟩
  · have := h.sMax
    have : (N : Int) * 1000000000 ≤ 60 * 1000000000 := Int.mul_le_mul_of_nonneg_right (by omega) (by omega)
    omega
  · rcases e3 with h0 | ⟨i, hi, _, hs⟩
    · exact .inl h0
    · exact .inr ⟨i, hi, hs⟩
end Go.Proofs.Ytblgmhmjafgdgaa
