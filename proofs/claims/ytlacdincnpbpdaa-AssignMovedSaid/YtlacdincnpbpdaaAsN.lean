/- Assignment: the law AssignLeast. -/
import Derived.Test.YtlacdincnpbpdaaAsM
set_option linter.unusedVariables false
set_option linter.unusedSimpArgs false
namespace Go.Proofs.Ytlacdincnpbpdaa
open Go.Sx Go.RowKit

theorem rows_open {W : World} {p : Option Addr} {l c : Nat} (h : SlcArg Try.prog W T_sl_int64 p l c) : ∃ C : List (List Int), C.length = l ∧ (C.length : Int) ≤ 9223372036854775807 ∧ RowsR W p C ∧ ∀ x ∈ C, ∀ y ∈ x, InR .i64 y := by
  obtain ⟨xs, h1, h2, h3⟩ := h.list (fun v : Value => [v]) (fun v => ∃ (q : Option Addr) (d : Nat) (X : List Int), v = .slice q X.length d ∧ X.length ≤ 9223372036854775807 ∧ Ints .i64 W q X ∧ ∀ y ∈ X, InR .i64 y) (fun n es hg _ => by
    have hv := leaves_ok 6 T_sl_int64 [T_sl_int64] n es (by kernel_rfl) hg
    obtain ⟨v, vs, rfl, l1, hv⟩ := lvs_cons hv
    obtain rfl := lvs_nil hv
    obtain ⟨q, len, cap, rfl, a1, a2, a3, a4⟩ := leaf_slice (e := T_int64) (by kernel_rfl) l1
    have hs : SlcArg Try.prog W T_int64 q len cap := ⟨a1, a2, a3, a4⟩
    obtain ⟨X, rfl, hin, hX⟩ := hs.ints (k := .i64) (by kernel_rfl) (by kernel_rfl)
    exact ⟨_, rfl, q, cap, X, rfl, by omega, hX, hin⟩)
  have hc : Try.prog.cellsOf T_sl_int64 = 1 := by kernel_rfl
  have key : ∀ (xs : List Value), (∀ x ∈ xs, ∃ (q : Option Addr) (d : Nat) (X : List Int), x = .slice q X.length d ∧ X.length ≤ 9223372036854775807 ∧ Ints .i64 W q X ∧ ∀ y ∈ X, InR .i64 y) →
      ∃ C : List (List Int), C.length = xs.length ∧ (∀ x ∈ C, ∀ y ∈ x, InR .i64 y) ∧ ∀ (i : Nat) (x : List Int), C[i]? = some x → x.length ≤ 9223372036854775807 ∧ ∃ q d, xs[i]? = some (.slice q x.length d) ∧ Ints .i64 W q x := by
    intro xs
    induction xs with
    | nil => exact fun _ => ⟨[], rfl, (fun x hx => by cases hx), fun i x hx => by simp at hx⟩
    | cons v r ih =>
      intro hall
      obtain ⟨q, d, X, rfl, a1, a2, a3⟩ := hall v (by simp)
      obtain ⟨C, b1, b2, b3⟩ := ih fun x hx => hall x (by simp [hx])
      refine ⟨X :: C, by simp [b1], fun x hx => ?_, fun i x hx => ?_⟩
      · rcases List.mem_cons.1 hx with rfl | hx
        · exact a3
        · exact b2 x hx
      · cases i with
        | zero => simp at hx; subst hx; exact ⟨a1, q, d, rfl, a2⟩
        | succ i => exact b3 i x (by simpa using hx)
  obtain ⟨C, b1, b2, b3⟩ := key xs h2
  have := h.le; have := h.max
  refine ⟨C, by omega, by omega, ⟨fun i x hx => ?_⟩, b2⟩
  obtain ⟨c1, q, d, c2, c3⟩ := b3 i x hx
  refine ⟨c1, q, d, ?_, c3⟩
  have := h3 i _ c2 0 _ rfl
  simpa [hc] using this

theorem rows_of {B : Nat} {w : World} {p : Option Addr} {n c : Nat} {vs : List Value} {C : List (List Int)} (o : Own B w T_sl_int64 1 p n c vs) (hl : C.length = vs.length) (h : ∀ (i : Nat) (x : List Int), C[i]? = some x → x.length ≤ 9223372036854775807 ∧ ∃ q d, vs[i]? = some (.slice q x.length d) ∧ Ints .i64 w q x) : RowsR w p C :=
  ⟨fun i x hx => by obtain ⟨h1, q, d, h2, h3⟩ := h i x hx; exact ⟨h1, q, d, o.cells i _ h2, h3⟩⟩

theorem assigns_k (w : World) : FnP Try.prog F_shiftbellkeep_assigns #[] w fun v w' => Ext w w' ∧ v = .bool true := by
  refine ok_shiftbellkeep_assigns w _ ?_
  intro w0 h0
  refine run_lit elem_sl_int64 [.int .i64 7] rfl rfl (by intro v hv; simp at hv; subst hv; rfl) (by omega) (by omega) fun w1 o1 e1 => ⟨e1, _, _, _, rfl, fun w5 h5 => ?_⟩
  have o5 := (o1 0 (Nat.zero_le _)).ext h5
  refine run_lit elem_sl_sl_int64 [.slice (some ⟨w0.heap.size, 0, none⟩) 1 1] rfl rfl (by intro v hv; simp at hv; subst hv; rfl) (by omega) (by omega) fun w6 o6 e6 => ⟨e6, _, _, _, rfl, fun w10 h10 => ?_⟩
  have o6 := (o6 0 (Nat.zero_le _)).ext h10
  have hR : RowsR w10 (some ⟨w5.heap.size, 0, none⟩) [[7]] := rows_of (vs := [.slice (some ⟨w0.heap.size, 0, none⟩) 1 1]) o6 rfl fun i x hx => by
    cases i with
    | succ i => simp at hx
    | zero =>
      simp at hx; subst hx
      exact ⟨by simp, _, _, rfl, ((o5.ext e6).ext h10).cells⟩
  have hs : sq [[7]] := ⟨by simp, by simp, by intro x hx y hy; simp at hx; subst hx; simp at hy; subst hy; unfold bnd; omega⟩
  refine (aLeast_k _ 1 [[7]] (by simp) w10 hR).mono fun v w11 ⟨e11, q, n, qc, t, hv, _, hgd⟩ => ⟨e11, q, n, qc, t, _, hv, fun w17 h17 => ⟨((((h0.trans e1).trans h5).trans e6).trans h10).trans (e11.trans h17), ?_⟩⟩
  obtain ⟨_, hL, _⟩ := hgd hs
  have h7 : IsLeast [[7]] 7 := by
    have hc : ∀ X, okTo 1 X → costN [[7]] X = 7 := fun X hX => by
      have hx := hX.2.1 _ (getD_mem X 0 (i := 0) (by have := hX.1; omega))
      have : X.getD 0 0 = 0 := by omega
      simp only [costN, List.length_singleton, sumN]
      rw [this]; rfl
    refine ⟨⟨[0], ⟨rfl, by simp, by simp⟩, hc _ ⟨rfl, by simp, by simp⟩⟩, fun X hX => ?_⟩
    rw [hc X hX]; exact Int.le_refl _
  rw [hL.same h7, errA_ok.2 hs]; rfl

theorem core_AssignLeast (W : World) : ∀ c : Option Addr, ∀ cl : Nat, ∀ cc : Nat, SlcArg Try.prog W T_sl_int64 c cl cc → ∀ to : Option Addr, ∀ tol : Nat, ∀ toc : Nat, SlcArg Try.prog W T_int to tol toc →
    FnP Try.prog F_shiftbellkeep_AssignLeast #[.slice c cl cc, .slice to tol toc] W fun v W' => v = .bool true ∧ Ext W W' := by
  intro pc cl cc hc q ql qc hq
  obtain ⟨C, rfl, h63, hR, _⟩ := rows_open hc
  obtain ⟨X, rfl, _, hX⟩ := hq.ints (k := .i64) (by kernel_rfl) (by kernel_rfl)
  have h64 : (X.length : Int) ≤ 9223372036854775807 := by have := hq.le; have := hq.max; omega
  refine ok_shiftbellkeep_AssignLeast _ _ _ _ _ _ W _ ?_
  intro w0 h0
  refine (assigns_k w0).mono fun v w1 ⟨e1, hv⟩ => ⟨e1, true, hv, fun h => by simp at h, fun _ w3 h3 => ?_⟩
  refine (aLeast_k pc cc C h63 w3 (hR.ext h3)).mono fun v w4 ⟨e4, r, n, rc, t, hv, hbad, hgd⟩ => ⟨e4, r, n, rc, t, _, hv, fun w10 h10 => ?_⟩
  have hx4 := h3.trans e4
  have hx10 := hx4.trans h10
  refine (aCost_k pc cc C h63 q qc X h64 w10 (hR.ext hx10) (hX.ext hx10)).mono fun v w11 ⟨e11, k, f, hv, c1, c2, c3⟩ => ⟨e11, k, f, hv, fun hne w14 h14 => ⟨b_true ?_, hx4.trans h14⟩, fun he w14 h14 => ?_⟩
  · have hno : ¬ sq C := fun h => hne (errA_ok.2 h)
    obtain ⟨rfl, rfl⟩ := hbad hno
    obtain ⟨rfl, _⟩ := c1 hno
    simp
  have hok := errA_ok.1 he
  obtain ⟨rfl, hL, Y, oY, hokY, hcY⟩ := hgd hok
  have lenY := oY.leni
  have hcost := aCost_k pc cc C h63 r rc Y (by omega) w14 (hR.ext (hx4.trans h14)) (oY.ext h14).cells
  rw [lenY] at hcost
  refine hcost.mono fun v w15 ⟨e15, m, g, hv, _, _, d3⟩ => ⟨e15, m, g, hv, fun w18 h18 => ⟨b_true ?_, hx4.trans h18⟩⟩
  obtain ⟨rfl, rfl⟩ := d3 hok hokY
  by_cases hokX : okTo C.length X
  · obtain ⟨rfl, rfl⟩ := c3 hok hokX
    have := hL.2 X hokX
    simp [hcY, this]
  · obtain ⟨rfl, rfl⟩ := c2 hok hokX
    simp [hcY]
end Go.Proofs.Ytlacdincnpbpdaa
