/- Asks in their normal form. -/
import Derived.Test.YtenppnomdejmlaaGreatDoorAtL
set_option linter.unusedVariables false
set_option linter.unusedSimpArgs false
namespace Go.Proofs.YtenppnomdejmlaaGreatDoor
open Go.Sx Go.RowKit

theorem extB1 {b : Nat} {w0 w w' : World} (h : ExtB [b] [] w w') (he : Ext w0 w) (hb : w0.heap.size ≤ b) : Ext w0 w' := but_ext h he (by intro d hd; simp at hd; omega)
abbrev zeroA : AT := .mk 0 emS emS 0 []
theorem ask_cases {k : Int} {key val : ByteArray} {n : Int} {xs : List AT} (h : errA (.mk k key val n xs) = 0) :
    (k = 4 ∧ ∃ x, xs = [x] ∧ errA x = 0) ∨ ((k = 5 ∨ k = 6) ∧ ∃ x y, xs = [x, y] ∧ errA x = 0 ∧ errA y = 0) ∨ (1 ≤ k ∧ k < 4 ∧ xs = []) := by
  obtain ⟨h1, hsub⟩ := errA_node h
  have h1 : err1 k key val n xs.length = 0 := h1
  have hsub : ∀ x ∈ xs, errA x = 0 := hsub
  have hlen := err1_len h1
  have hin : ¬ (k < 1 ∨ 6 < k) := fun hb => by
    unfold err1 at h1; rw [if_pos hb] at h1; omega
  unfold inner at hlen
  by_cases h4 : k = 4
  · rw [if_neg (by omega), if_pos h4] at hlen
    match xs, hlen with
    | [x], _ => exact .inl ⟨h4, x, rfl, hsub x (by simp)⟩
  · by_cases h5 : k = 5 ∨ k = 6
    · rw [if_pos h5] at hlen
      match xs, hlen with
      | [x, y], _ => exact .inr (.inl ⟨h5, x, y, rfl, hsub x (by simp), hsub y (by simp)⟩)
    · rw [if_neg h5, if_neg h4] at hlen
      exact .inr (.inr ⟨by omega, by omega, List.length_eq_zero_iff.1 hlen⟩)

theorem cell_same {w w' : World} {p : Option Addr} (h : ∀ a, p = some a → w'.heap[a.block]? = w.heap[a.block]?) {i : Nat} {v : Value} (hc : Go.Sx.cell w p i = some v) : Go.Sx.cell w' p i = some v := by
  cases p with
  | none => exact hc
  | some a =>
    have := h a rfl
    simp only [Go.Sx.cell, Option.bind_some] at hc ⊢
    unfold World.cell? at hc ⊢
    rw [add_block, this]
    rw [add_block] at hc
    exact hc

end Go.Proofs.YtenppnomdejmlaaGreatDoor
