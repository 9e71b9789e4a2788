/- The law AskAnd. -/
import Derived.Test.YteelndoflikliaaDoorAtA
set_option linter.unusedVariables false
set_option linter.unusedSimpArgs false
namespace Go.Proofs.YteelndoflikliaaDoor
open Go.Sx Go.RowKit

/-- A host that came in. -/
theorem labels_arg {W : World} {p : Option Addr} {l c : Nat} (h : SlcArg Tryd.prog W T_Label p l c) : ∃ L : List Lb, L.length = l ∧ l ≤ 9223372036854775807 ∧ Lbs W p L := by
  obtain ⟨L, h1, h2, h3⟩ := h.list (α := Lb) encLb (fun _ => True) (fun n es hg he => by
    have hlv := leaves_ok (P := Tryd.prog) 6 T_Label [T_string, T_string] n es (by kernel_rfl) hg
    obtain ⟨v0, r0, rfl, l0, hlv⟩ := lvs_cons hlv
    obtain ⟨v1, r1, rfl, l1, hlv⟩ := lvs_cons hlv
    obtain rfl := lvs_nil hlv
    obtain ⟨a, rfl, _⟩ := leaf_str (by kernel_rfl) l0
    obtain ⟨b, rfl, _⟩ := leaf_str (by kernel_rfl) l1
    exact ⟨⟨a, b⟩, rfl, trivial⟩)
  refine ⟨L, h1, by have := h.le; have := h.max; omega, fun i x hx j u hu => ?_⟩
  have := h3 i x hx j u hu
  rwa [show Tryd.prog.cellsOf T_Label = 2 by kernel_rfl] at this

theorem asks_k (w : World) : FnP Tryd.prog F_shiftbellkeep_asks #[] w fun v w' => Ext w w' ∧ v = .bool true := by
  refine ok_shiftbellkeep_asks w _ fun w0 h0 => ?_
  let t : AT := .mk 1 ⟨#[97]⟩ emS 0 []
  have hT : ∀ w, IsT w t none 0 := fun w => by unfold IsT; exact ⟨by simp, by unfold IsL; trivial⟩
  have hW : WfA t := by
    unfold WfA
    refine ⟨i64 (by omega), by decide, by decide, i64 (by omega), by simp, by unfold WfL; trivial⟩
  have hE : errC t = 0 := by
    have h1 : cntA t = 1 := by show cntA (.mk _ _ _ _ []) = 1; rw [cntA, cntL]
    have h2 : errA t = 0 := by
      show errA (.mk 1 ⟨#[97]⟩ emS 0 []) = 0
      rw [errA, errL]
      have : err1 1 ⟨#[97]⟩ emS 0 0 = 0 := by
        have hl : lbB ⟨#[97]⟩ = true := by decide
        unfold err1 inner
        simp [hl]
      simp [this]
    unfold errC; rw [h1, h2]; rfl
  refine FnP.mono (K := fun v w1 => Ext w0 w1 ∧ v = .tuple #[.string ⟨#[63, 97]⟩, .int .i64 0]) (ok_ask_Text 1 ⟨#[97]⟩ emS 0 none 0 0 w0 _ fun b0 _ w1 h1 => ?_) fun v w1 ⟨e1, hv⟩ => ⟨e1, _, _, hv, fun w4 h4 => ⟨h4, ?_⟩⟩
  · refine (Check_k t none 0 w1 (hT w1) hW).mono fun v w2 ⟨e2, hv⟩ => ⟨e2, _, hv, fun hne => absurd hE hne, fun _ w4 h4 => ?_⟩
    refine FnP.mono (K := fun v w5 => Ext w4 w5 ∧ v = .string ⟨#[63, 97]⟩) (ok_ask_text 1 ⟨#[97]⟩ emS 0 none 0 0 w4 _ fun b0 _ => ⟨fun _ => ⟨by unfold CatOk; decide, fun w5 h5 => ⟨h5, rfl⟩⟩, fun h => absurd rfl h⟩) fun v w5 ⟨e5, hv⟩ => ⟨e5, _, hv, fun w7 h7 => ⟨h7, rfl⟩⟩
  · rfl

abbrev opA (k : Int) (l : List AT) : AT := .mk k emS emS 0 l
theorem opA_wf {k : Int} (hk : 0 ≤ k ∧ k ≤ 100) {l : List AT} (hl : l.length ≤ 100) (h : ∀ x ∈ l, WfA x) : WfA (opA k l) := by
  unfold WfA
  exact ⟨i64 (by omega), by decide, by decide, i64 (by omega), by omega, WfL.of h⟩
/-- Asks that are put into a new row. -/
theorem isL_lit {w : World} {q : Option Addr} : ∀ {l : List (AT × Option Addr × Nat)} {i : Nat}, (∀ (j : Nat) u, (l.flatMap fun x => encA x.1 x.2.1 x.2.2)[j]? = some u → Go.Sx.cell w q (i * 5 + j) = some u) → (∀ x ∈ l, IsT w x.1 x.2.1 x.2.2) → IsL w (l.map (·.1)) q i
  | [], i, _, _ => by unfold IsL; trivial
  | x :: r, i, h, hT => by
    unfold IsL
    refine ⟨⟨x.2.1, x.2.2, fun j u hu => h j u ?_, hT x (List.mem_cons_self ..)⟩, isL_lit (fun j u hu => ?_) fun y hy => hT y (List.mem_cons_of_mem _ hy)⟩
    · rw [List.flatMap_cons, List.getElem?_append_left]
      · exact hu
      · exact (List.getElem?_eq_some_iff.1 hu).1
    · have := h (5 + j) u (by
        rw [List.flatMap_cons, List.getElem?_append_right (by simp [encA])]
        simpa [encA] using hu)
      rw [show (i + 1) * 5 + j = i * 5 + (5 + j) by omega]
      exact this
end Go.Proofs.YteelndoflikliaaDoor
