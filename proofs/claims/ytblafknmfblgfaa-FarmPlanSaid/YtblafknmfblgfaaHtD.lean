/- The laws HostFit, HostBest, HostLess, HostBack. -/
import Derived.Test.YtblafknmfblgfaaHtC
set_option linter.unusedVariables false
set_option linter.unusedSimpArgs false
namespace Go.Proofs.Ytblafknmfblgfaa
open Go.Sx Go.RowKit

/-- Hosts that came in. -/
theorem hosts_arg {W : World} {p : Option Addr} {l c : Nat} (h : SlcArg Try.prog W T_Host p l c) : ∃ L : List Ht, L.length = l ∧ (L.length : Int) ≤ 9223372036854775807 ∧ (∀ h ∈ L, HtOk h) ∧ HsAt W p L := by
  have labels : ∀ {q : Option Addr} {m d : Nat}, SlcArg Try.prog W T_Label q m d → ∃ L : List Lb, L.length = m ∧ (∀ l ∈ L, l.key.size ≤ 9223372036854775807 ∧ l.val.size ≤ 9223372036854775807) ∧ Lbs W q L := by
    intro q m d h
    obtain ⟨L, h1, h2, h3⟩ := h.list (α := Lb) encLb (fun l => l.key.size ≤ 9223372036854775807 ∧ l.val.size ≤ 9223372036854775807) (fun n es hg he => by
      have hlv := leaves_ok (P := Try.prog) 6 T_Label [T_string, T_string] n es (by kernel_rfl) hg
      obtain ⟨v0, r0, rfl, l0, hlv⟩ := lvs_cons hlv
      obtain ⟨v1, r1, rfl, l1, hlv⟩ := lvs_cons hlv
      obtain rfl := lvs_nil hlv
      obtain ⟨a, rfl, ha⟩ := leaf_str (by kernel_rfl) l0
      obtain ⟨b, rfl, hb⟩ := leaf_str (by kernel_rfl) l1
      exact ⟨⟨a, b⟩, rfl, ha, hb⟩)
    refine ⟨L, h1, h2, fun i x hx j u hu => ?_⟩
    have := h3 i x hx j u hu
    rwa [show Try.prog.cellsOf T_Label = 2 by kernel_rfl] at this
  obtain ⟨M, h1, h2, h3⟩ := h.list (α := Hm) encM (fun m => HtOk m.h ∧ Lbs W m.q m.h.labels) (fun n es hg he => by
    have hlv := leaves_ok (P := Try.prog) 6 T_Host [T_string, T_sl_Label, T_int64, T_int64, T_int64, T_int64, T_int64, T_int64] n es (by kernel_rfl) hg
    obtain ⟨v0, r0, rfl, l0, hlv⟩ := lvs_cons hlv
    obtain ⟨v1, r1, rfl, l1, hlv⟩ := lvs_cons hlv
    obtain ⟨v2, r2, rfl, l2, hlv⟩ := lvs_cons hlv
    obtain ⟨v3, r3, rfl, l3, hlv⟩ := lvs_cons hlv
    obtain ⟨v4, r4, rfl, l4, hlv⟩ := lvs_cons hlv
    obtain ⟨v5, r5, rfl, l5, hlv⟩ := lvs_cons hlv
    obtain ⟨v6, r6, rfl, l6, hlv⟩ := lvs_cons hlv
    obtain ⟨v7, r7, rfl, l7, hlv⟩ := lvs_cons hlv
    obtain rfl := lvs_nil hlv
    obtain ⟨nm, rfl, hnm⟩ := leaf_str (by kernel_rfl) l0
    obtain ⟨q, m, d, rfl, s1, s2, s3, s4⟩ := leaf_slice (e := T_Label) (by kernel_rfl) l1
    obtain ⟨x2, rfl, _⟩ := leaf_int (k := .i64) (by kernel_rfl) l2
    obtain ⟨x3, rfl, _⟩ := leaf_int (k := .i64) (by kernel_rfl) l3
    obtain ⟨x4, rfl, _⟩ := leaf_int (k := .i64) (by kernel_rfl) l4
    obtain ⟨x5, rfl, _⟩ := leaf_int (k := .i64) (by kernel_rfl) l5
    obtain ⟨x6, rfl, _⟩ := leaf_int (k := .i64) (by kernel_rfl) l6
    obtain ⟨x7, rfl, _⟩ := leaf_int (k := .i64) (by kernel_rfl) l7
    obtain ⟨L, rfl, hLo, hLl⟩ := labels (SlcArg.mk s1 s2 s3 s4)
    exact ⟨⟨⟨nm, L, ⟨x2, x3, x4⟩, ⟨x5, x6, x7⟩⟩, q, d⟩, rfl, ⟨hnm, by simp only []; omega, hLo⟩, hLl⟩)
  rw [show Try.prog.cellsOf T_Host = 8 by kernel_rfl] at h3
  have hle := h.le
  have hmx := h.max
  refine ⟨M.map (·.h), by simpa using h1, by simp; omega, fun x hx => ?_, ms_hs h3 fun m hm => (h2 m hm).2⟩
  obtain ⟨m, hm, rfl⟩ := List.mem_map.1 hx
  exact (h2 m hm).1

theorem IndexF_k (p : Option Addr) (c : Nat) (X : List Int) (h63 : (X.length : Int) ≤ 9223372036854775807) (f : Value) (Pr : Int → Bool) (w : World) (h : Ints .i64 w p X)
    (hf : ∀ x ∈ X, ∀ w', Ext w w' → FnVP Try.prog f [.int .i64 x] w' fun v w'' => Ext w' w'' ∧ v = .bool (Pr x)) :
    FnP Try.prog F_slices_IndexFunc_int_int #[.slice p X.length c, f] w fun v w' => Ext w w' ∧ ∃ t, v = .int .i64 t ∧ (0 ≤ t ↔ ∃ x ∈ X, Pr x = true) := by
  refine ok_slices_IndexFunc_int_int p X.length c f w _ ?_
  refine ⟨fun k w' => w' = w ∧ 0 ≤ k ∧ k ≤ X.length ∧ ∀ j : Nat, (j : Int) < k → Pr (X.getD j 0) = false, fun k _ => (X.length - k).toNat, ⟨rfl, by omega, by omega, fun j hj => by omega⟩, ?_⟩
  rintro k w ⟨rfl, hk0, hk1, hno⟩
  refine ⟨fun hlt => ?_, fun hge w4 h4 => ⟨h4, _, rfl, ?_⟩⟩
  · have g := Ints.idx h hk0 hlt
    refine ⟨fun hq => cell_p g (pIdx_none.2 hq), hk0, hlt, _, g, fun w4 h4 => ?_⟩
    obtain ⟨fi, cap, hfe, hfp⟩ := hf _ (getD_mem X 0 (i := k.toNat) (by omega)) w4 h4
    refine ⟨fi, cap, hfe, hfp.mono fun v w5 ⟨e5, hv⟩ => ⟨e5, _, hv, fun hyes w9 h9 => ⟨h9, _, rfl, fun _ => ⟨_, getD_mem X 0 (by omega), hyes⟩, fun _ => hk0⟩, fun hn => ⟨i64 (by omega), ⟨rfl, by omega, by omega, fun j hj => ?_⟩, by simp only []; omega⟩⟩⟩
    by_cases hjk : (j : Int) < k
    · exact hno j hjk
    · obtain rfl : j = k.toNat := by omega
      exact hn
  · constructor
    · intro h; omega
    · rintro ⟨x, hm, hx⟩
      obtain ⟨j, hj, rfl⟩ := List.getElem_of_mem hm
      have := hno j (by omega)
      rw [show X.getD j 0 = X[j] by simp [List.getD_eq_getElem?_getD, hj], hx] at this
      cases this
theorem ContainsF_k (p : Option Addr) (c : Nat) (X : List Int) (h63 : (X.length : Int) ≤ 9223372036854775807) (f : Value) (Pr : Int → Bool) (w : World) (h : Ints .i64 w p X)
    (hf : ∀ x ∈ X, ∀ w', Ext w w' → FnVP Try.prog f [.int .i64 x] w' fun v w'' => Ext w' w'' ∧ v = .bool (Pr x)) :
    FnP Try.prog F_slices_ContainsFunc_int_int #[.slice p X.length c, f] w fun v w' => Ext w w' ∧ ∃ b : Bool, v = .bool b ∧ (b = true ↔ ∃ x ∈ X, Pr x = true) := by
  refine ok_slices_ContainsFunc_int_int p X.length c f w _ ?_
  intro w1 h1
  refine (IndexF_k p c X h63 f Pr w1 (h.ext h1) fun x hx w' hw => hf x hx w' (h1.trans hw)).mono fun v w2 ⟨e2, t, hv, ht⟩ => ⟨e2, t, hv, fun w4 h4 => ⟨h4, _, rfl, ?_⟩⟩
  rw [decide_eq_true_iff]; exact ht

end Go.Proofs.Ytblafknmfblgfaa
