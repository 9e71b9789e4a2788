/- What the closure of side.Spans answers: one number for each net, whatever it is run on. -/
import Derived.Test.YtblgmhmjafgdgaaLnP
set_option linter.unusedVariables false
set_option linter.unusedSimpArgs false
namespace Go.Proofs.Ytblgmhmjafgdgaa
open Go.Sx Go.RowKit

/-- What the span of a net is. -/
def SpanIs (n : Int) (L : List E) (D : List Int) (r : Int) : Prop :=
  (∃ e, e ≠ 0 ∧ ErrT n L D e ∧ r = 0 - e) ∨ (okG n L ∧ okD n D ∧ (∃ A, Topo n.toNat L A) ∧ ∃ Ea La, Plan n.toNat L D Ea La r)
theorem okL_of {n : Int} {L : List E} (h : okG n L) : OkL n.toNat L := fun x hx => by
  obtain ⟨h0, h1, h2, h3⟩ := h
  have := h3 x hx
  unfold okE at this
  omega
theorem ErrT.same {n : Int} {L : List E} {D : List Int} {e e' : Int} (h : ErrT n L D e) (h' : ErrT n L D e') : e = e' := by
  by_cases hg : okG n L
  · by_cases hd : okD n D
    · rw [(h.1 hg hd).1, (h'.1 hg hd).1]
    · rw [h.2.1 hg hd, h'.2.1 hg hd]
  · rw [h.2.2 hg, h'.2.2 hg]
theorem ErrT.small {n : Int} {L : List E} {D : List Int} {e : Int} (h : ErrT n L D e) : 0 ≤ e ∧ e ≤ 8 := by
  by_cases hg : okG n L
  · by_cases hd : okD n D
    · rw [(h.1 hg hd).1]; omega
    · rw [h.2.1 hg hd]; omega
  · rw [h.2.2 hg]
    unfold errG
    split
    · omega
    · split
      · omega
      · split <;> omega
theorem SpanIs.same {n : Int} {L : List E} {D : List Int} {r r' : Int} (h : SpanIs n L D r) (h' : SpanIs n L D r') : r = r' := by
  have no : ∀ {e : Int}, ErrT n L D e → okG n L → okD n D → (∃ A, Topo n.toNat L A) → False := fun {e} he hg hd ⟨A, hA⟩ => by
    obtain ⟨_, i, hi, hb⟩ := he.1 hg hd
    exact hA.noKnot hi hb
  rcases h with ⟨e, hne, he, rfl⟩ | ⟨hg, hd, hA, Ea, La, hP⟩
  · rcases h' with ⟨e', hne', he', rfl⟩ | ⟨hg, hd, hA, Ea, La, hP⟩
    · rw [he.same he']
    · exact (no he hg hd hA).elim
  · rcases h' with ⟨e', hne', he', rfl⟩ | ⟨hg', hd', hA', Ea', La', hP'⟩
    · exact (no he' hg hd hA).elim
    · obtain ⟨A, hA⟩ := hA
      exact (PF.unique hA (okL_of hg) hP.pf hP'.pf).2.1
theorem Spans1_k (n : Int) (p : Option Addr) (c : Nat) (L : List E) (h63 : (L.length : Int) ≤ 9223372036854775807) (q : Option Addr) (c2 : Nat) (D : List Int) (h64 : (D.length : Int) ≤ 9223372036854775807) (w : World) (h : Edges w p L) (hD : Ints .i64 w q D) :
    FnP Try.prog F_side_Spans_1 #[.agg #[.int .i64 n, .slice p L.length c, .slice q D.length c2]] w fun v w' => ∃ r, v = .int .i64 r ∧ SpanIs n L D r := by
  refine ok_side_Spans_1 n p L.length c q D.length c2 w _ fun b0 hb0 w1 x1 => ?_
  have h1 := extB_ext x1
  refine (Times_k n p c L h63 q c2 D h64 w1 (h.ext h1) (hD.ext h1)).mono fun v w2 ⟨e2, qe, el, ec, ql, ll, lc, Sp, e, hv, hbad, hgd⟩ => ⟨e2, qe, el, ec, ql, ll, lc, Sp, e, hv, fun b11 hb11 => ⟨fun hne => ?_, fun he w12 h12 => ⟨Sp, rfl, .inr ?_⟩⟩⟩
  · have hE := (hbad hne).2.2.2
    have := hE.small
    exact ⟨i64 (by omega), fun w12 h12 => ⟨_, rfl, .inl ⟨e, hne, hE, rfl⟩⟩⟩
  · obtain ⟨hg, hd, _, _, hA, Ea, La, _, _, hP⟩ := hgd he
    exact ⟨hg, hd, hA, Ea, La, hP⟩
end Go.Proofs.Ytblgmhmjafgdgaa
