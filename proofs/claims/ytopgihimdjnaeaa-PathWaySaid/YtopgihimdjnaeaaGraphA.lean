/- The closed fact of graphs; edges that came in. -/
import Derived.Test.YtopgihimdjnaeaaGraphC
set_option linter.unusedVariables false
set_option linter.unusedSimpArgs false
namespace Go.Proofs.Ytopgihimdjnaeaa
open Go.Sx Go.RowKit

theorem edges_open {W : World} {p : Option Addr} {n c : Nat} (h : SlcArg Try.prog W T_Edge p n c) : ∃ L : List E, L.length = n ∧ (L.length : Int) ≤ 9223372036854775807 ∧ (∀ e ∈ L, InR .i64 e.f ∧ InR .i64 e.t) ∧ Edges W p L := by
  obtain ⟨L, h1, h2, h3⟩ := h.recs2 (α := E) (t1 := T_int) (t2 := T_int) (k1 := .i64) (k2 := .i64) (by kernel_rfl) (by kernel_rfl) (by kernel_rfl) (by kernel_rfl) (fun a b => ⟨a, b⟩) encE (fun _ _ => rfl)
  refine ⟨L, h1, ?_, fun e he => ?_, h3⟩
  · have := h.le; have := h.max; omega
  · obtain ⟨a, b, rfl, ha, hb⟩ := h2 e he
    exact ⟨ha, hb⟩

theorem graphs_k (w : World) : FnP Try.prog F_shiftbellkeep_graphs #[] w fun v w' => Ext w w' ∧ v = .bool true := by
  refine ok_shiftbellkeep_graphs w _ ?_
  intro w0 h0
  refine run_lit elem_sl_Edge [.agg #[.int .i64 1, .int .i64 0]] rfl rfl (by intro v hv; simp at hv; subst hv; rfl) (by omega) (by omega) fun w1 o1 e1 => ⟨e1, _, _, _, rfl, fun w5 h5 => ?_⟩
  have o5 := (o1 0 (Nat.zero_le _)).ext h5
  have hE : Edges w5 (some ⟨w0.heap.size, 0, none⟩) [⟨1, 0⟩] := Own.recs (xs := [(⟨1, 0⟩ : E)]) (enc := encE) o5 (by intro x hx; simp at hx; subst hx; rfl)
  have hok : okG 2 [⟨1, 0⟩] := ⟨by omega, by omega, by simp, by intro e he; simp at he; subst he; simp [okE]⟩
  refine (Order_k 2 _ 1 [⟨1, 0⟩] (by simp) w5 hE).mono fun v w6 ⟨e6, q, m, d, e, hv, _, ho⟩ => ⟨e6, q, m, d, e, hv, ?_⟩
  have hx6 : Ext w w6 := ((h0.trans e1).trans h5).trans e6
  have noK : ∀ i, ¬ Beh [⟨1, 0⟩] 2 i i := by
    have key : ∀ i j, Beh [⟨1, 0⟩] 2 i j → j < i := by
      intro i j h
      induction h with
      | edge h => obtain ⟨e, he, h1, h2⟩ := h; simp at he; subst he; simp at h1 h2; omega
      | mid _ _ _ a b => omega
    intro i h; have := key i i h; omega
  rcases ho hok with ⟨rfl, hm, A, oA, hA⟩ | ⟨_, _, i, _, hi⟩
  · have hm2 : m = 2 := by omega
    subst hm2
    have hq : q ≠ none := oA.ne1 (by omega) (by omega)
    have lenA := hA.len
    obtain ⟨p1, hp1, _⟩ := hA.place (i := 1) (by decide)
    obtain ⟨p0, hp0, _⟩ := hA.place (i := 0) (by decide)
    have hr := hA.rise (K := 0) (i := 1) (j := 0) (.edge ⟨⟨1, 0⟩, by simp, rfl, rfl⟩) hp1 hp0
    have h1 := (List.getElem?_eq_some_iff.1 hp1).1
    have h0' := (List.getElem?_eq_some_iff.1 hp0).1
    have hN : (2 : Int).toNat = 2 := rfl
    rw [hN] at lenA
    obtain rfl : p1 = 0 := by omega
    refine ⟨fun _ => hq, fun _ => by omega, fun _ => by omega, fun _ => ⟨1, ?_, fun w7 h7 => ⟨hx6.trans h7, rfl⟩⟩, fun h => by omega⟩
    have := oA.cells 0 (.int .i64 1) (by simp [hp1])
    rw [cell_pIdx]; exact this
  · exact absurd hi (noK i)
end Go.Proofs.Ytopgihimdjnaeaa
