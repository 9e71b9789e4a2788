/- Plain facts on plans; the closed fact of paths. -/
import Derived.Test.YtblgmhmjafgdgaaPathW
set_option linter.unusedVariables false
set_option linter.unusedSimpArgs false
namespace Go.Proofs.Ytblgmhmjafgdgaa
open Go.Sx Go.RowKit

/-- A plan, as functions. -/
structure PF (N : Nat) (L : List E) (d e l : Int → Int) (s : Int) : Prop where
  e0 : ∀ i : Nat, i < N → 0 ≤ e i
  eLe : ∀ x ∈ L, e x.f + d x.f ≤ e x.t
  eEq : ∀ i : Nat, i < N → e i = 0 ∨ ∃ x ∈ L, x.t = i ∧ e i = e x.f + d x.f
  s0 : 0 ≤ s
  sLe : ∀ i : Nat, i < N → e i + d i ≤ s
  sEq : s = 0 ∨ ∃ i : Nat, i < N ∧ s = e i + d i
  lS : ∀ i : Nat, i < N → l i + d i ≤ s
  lLe : ∀ x ∈ L, l x.f + d x.f ≤ l x.t
  lEq : ∀ i : Nat, i < N → l i + d i = s ∨ ∃ x ∈ L, x.f = i ∧ l i + d i = l x.t

theorem Plan.pf {N : Nat} {L : List E} {D Ea La : List Int} {Sp : Int} (h : Plan N L D Ea La Sp) : PF N L (g0 D) (g0 Ea) (g0 La) Sp :=
  ⟨fun i hi => by simpa using h.e0 i hi, h.eLe, fun i hi => by simpa using h.eEq i hi, h.s0, fun i hi => by simpa using h.sLe i hi, by simpa using h.sEq, fun i hi => by simpa using h.lS i hi, h.lLe, fun i hi => by simpa using h.lEq i hi⟩

abbrev OkL (N : Nat) (L : List E) : Prop := ∀ x ∈ L, 0 ≤ x.f ∧ x.f < N ∧ 0 ≤ x.t ∧ x.t < N

/-- Up along the order. -/
theorem Topo.ind {N : Nat} {L : List E} {A : List Int} (hA : Topo N L A) (hL : OkL N L) (P : Nat → Prop) (step : ∀ i, i < N → (∀ x ∈ L, x.t = i → P x.f.toNat) → P i) : ∀ i, i < N → P i := by
  have key : ∀ p : Nat, ∀ i : Nat, i < N → A[p]? = some (i : Int) → P i := by
    intro p
    induction p using Nat.strongRecOn with
    | _ p ih =>
      intro i hi hp
      refine step i hi fun x hx hxt => ?_
      have hxb := hL x hx
      obtain ⟨q, hq, hq2⟩ := mem_take (hA.ahead p x hx (by rw [hxt]; exact hp))
      exact ih q hq x.f.toNat (by omega) (by rw [show ((x.f.toNat : Nat) : Int) = x.f by omega]; exact hq2)
  intro i hi
  obtain ⟨p, hp, _⟩ := hA.place hi
  exact key p i hi hp
/-- Down along the order. -/
theorem Topo.indR {N : Nat} {L : List E} {A : List Int} (hA : Topo N L A) (hL : OkL N L) (P : Nat → Prop) (step : ∀ i, i < N → (∀ x ∈ L, x.f = i → P x.t.toNat) → P i) : ∀ i, i < N → P i := by
  have lenA := hA.len
  have key : ∀ m p : Nat, N - p = m → ∀ i : Nat, i < N → A[p]? = some (i : Int) → P i := by
    intro m
    induction m using Nat.strongRecOn with
    | _ m ih =>
      intro p hpm i hi hp
      have hlt := (List.getElem?_eq_some_iff.1 hp).1
      refine step i hi fun x hx hxf => ?_
      have hxb := hL x hx
      obtain ⟨q, hq, _⟩ := hA.place (i := x.t.toNat) (by omega)
      have := hA.rise (K := 0) (.edge ⟨x, hx, hxf, (by omega : x.t = ((x.t.toNat : Nat) : Int))⟩) hp hq
      have hlt2 := (List.getElem?_eq_some_iff.1 hq).1
      exact ih (N - q) (by omega) q rfl x.t.toNat (by omega) hq
  intro i hi
  obtain ⟨p, hp, _⟩ := hA.place hi
  exact key _ p rfl i hi hp

theorem PF.least {N : Nat} {L : List E} {A : List Int} {d e l : Int → Int} {s : Int} (hA : Topo N L A) (hL : OkL N L) (h : PF N L d e l s) {t : Int → Int} (t0 : ∀ i : Nat, i < N → 0 ≤ t i) (tLe : ∀ x ∈ L, t x.f + d x.f ≤ t x.t) : ∀ i : Nat, i < N → e i ≤ t i := by
  refine hA.ind hL (fun i => e i ≤ t i) fun i hi ih => ?_
  rcases h.eEq i hi with h0 | ⟨x, hx, hxt, hv⟩
  · have := t0 i hi; omega
  · have h1 := ih x hx hxt
    have hxb := hL x hx
    rw [show ((x.f.toNat : Nat) : Int) = x.f by omega] at h1
    have := tLe x hx
    rw [hxt] at this
    omega
theorem PF.slack {N : Nat} {L : List E} {A : List Int} {d e l : Int → Int} {s : Int} (hA : Topo N L A) (hL : OkL N L) (h : PF N L d e l s) : ∀ i : Nat, i < N → e i ≤ l i := by
  refine hA.indR hL (fun i => e i ≤ l i) fun i hi ih => ?_
  rcases h.lEq i hi with h0 | ⟨x, hx, hxf, hv⟩
  · have := h.sLe i hi; omega
  · have h1 := ih x hx hxf
    have hxb := hL x hx
    rw [show ((x.t.toNat : Nat) : Int) = x.t by omega] at h1
    have := h.eLe x hx
    rw [hxf] at this
    omega
/-- A plan is one alone. -/
theorem PF.unique {N : Nat} {L : List E} {A : List Int} {d e l e' l' : Int → Int} {s s' : Int} (hA : Topo N L A) (hL : OkL N L) (h : PF N L d e l s) (h' : PF N L d e' l' s') : (∀ i : Nat, i < N → e i = e' i) ∧ s = s' ∧ ∀ i : Nat, i < N → l i = l' i := by
  have he : ∀ i : Nat, i < N → e i = e' i := fun i hi => by
    have := h.least hA hL h'.e0 h'.eLe i hi
    have := h'.least hA hL h.e0 h.eLe i hi
    omega
  have key : ∀ {e e' l l' : Int → Int} {s s' : Int}, PF N L d e l s → PF N L d e' l' s' → (∀ i : Nat, i < N → e i = e' i) → s ≤ s' := by
    intro e e' l l' s s' h h' he
    rcases h.sEq with h0 | ⟨i, hi, hs⟩
    · have := h'.s0; omega
    · have := h'.sLe i hi; have := he i hi; omega
  have hs : s = s' := by have := key h h' he; have := key h' h (fun i hi => (he i hi).symm); omega
  refine ⟨he, hs, ?_⟩
  have kl : ∀ {e e' l l' : Int → Int} {s s' : Int}, PF N L d e l s → PF N L d e' l' s' → s = s' → ∀ i : Nat, i < N → l' i ≤ l i := by
    intro e e' l l' s s' h h' hs
    refine hA.indR hL (fun i => l' i ≤ l i) fun i hi ih => ?_
    rcases h.lEq i hi with h0 | ⟨x, hx, hxf, hv⟩
    · have := h'.lS i hi; omega
    · have h1 := ih x hx hxf
      have hxb := hL x hx
      rw [show ((x.t.toNat : Nat) : Int) = x.t by omega] at h1
      have := h'.lLe x hx
      rw [hxf] at this
      omega
  intro i hi
  have := kl h h' hs i hi
  have := kl h' h hs.symm i hi
  omega

end Go.Proofs.Ytblgmhmjafgdgaa
