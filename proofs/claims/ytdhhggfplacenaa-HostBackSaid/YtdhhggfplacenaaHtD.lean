/- The laws HostFit, HostBest, HostLess, HostBack. -/
import Derived.Test.YtdhhggfplacenaaHtC
set_option linter.unusedVariables false
set_option linter.unusedSimpArgs false
namespace Go.Proofs.Ytdhhggfplacenaa
open Go.Sx Go.RowKit

/-- Hosts that came in. -/
theorem hosts_arg {W : World} {p : Option Addr} {l c : Nat} (h : SlcArg Try.prog W T_Host p l c) : ∃ L : List Ht, L.length = l ∧ (L.length : Int) ≤ 9223372036854775807 ∧ (∀ h ∈ L, HtOk h) ∧ HsAt W p L := by
  have labels : ∀ {q : Option Addr} {m d : Nat}, SlcArg Try.prog W T_Label q m d → ∃ L : List Lb, L.length = m ∧ (∀ l ∈ L, l.key.size ≤ 9223372036854775807 ∧ l.val.size ≤ 9223372036854775807) ∧ Lbs W q L := by
    intro q m d h
    obtain ⟨L, h1, h2, h3⟩ := h.list (α := Lb) encLb (fun l => l.key.size ≤ 9223372036854775807 ∧ l.val.size ≤ 9223372036854775807) (fun n es hg he => by
      have hlv := leaves_ok (P := Try.prog) 6 T_Label [T_string, T_string] n es (by kernel_rfl) hg
      obtain ⟨v0, r0, rfl, l0, hlv⟩ := lvs_cons hlv
      obtain ⟨v1, r1, rfl, l1, hlv⟩ := lvs_cons hlv
      obtain rfl := lvs_nil hlv
      obtain ⟨a, rfl, ha⟩ := leaf_str (by kernel_rfl) l0
      obtain ⟨b, rfl, hb⟩ := leaf_str (by kernel_rfl) l1
      exact ⟨⟨a, b⟩, rfl, ha, hb⟩)
    refine ⟨L, h1, h2, fun i x hx j u hu => ?_⟩
    have := h3 i x hx j u hu
    rwa [show Try.prog.cellsOf T_Label = 2 by kernel_rfl] at this
  obtain ⟨M, h1, h2, h3⟩ := h.list (α := Hm) encM (fun m => HtOk m.h ∧ Lbs W m.q m.h.labels) (fun n es hg he => by
    have hlv := leaves_ok (P := Try.prog) 6 T_Host [T_string, T_sl_Label, T_int64, T_int64, T_int64, T_int64, T_int64, T_int64] n es (by kernel_rfl) hg
    obtain ⟨v0, r0, rfl, l0, hlv⟩ := lvs_cons hlv
    obtain ⟨v1, r1, rfl, l1, hlv⟩ := lvs_cons hlv
    obtain ⟨v2, r2, rfl, l2, hlv⟩ := lvs_cons hlv
    obtain ⟨v3, r3, rfl, l3, hlv⟩ := lvs_cons hlv
    obtain ⟨v4, r4, rfl, l4, hlv⟩ := lvs_cons hlv
    obtain ⟨v5, r5, rfl, l5, hlv⟩ := lvs_cons hlv
    obtain ⟨v6, r6, rfl, l6, hlv⟩ := lvs_cons hlv
    obtain ⟨v7, r7, rfl, l7, hlv⟩ := lvs_cons hlv
    obtain rfl := lvs_nil hlv
    obtain ⟨nm, rfl, hnm⟩ := leaf_str (by kernel_rfl) l0
    obtain ⟨q, m, d, rfl, s1, s2, s3, s4⟩ := leaf_slice (e := T_Label) (by kernel_rfl) l1
    obtain ⟨x2, rfl, _⟩ := leaf_int (k := .i64) (by kernel_rfl) l2
    obtain ⟨x3, rfl, _⟩ := leaf_int (k := .i64) (by kernel_rfl) l3
    obtain ⟨x4, rfl, _⟩ := leaf_int (k := .i64) (by kernel_rfl) l4
    obtain ⟨x5, rfl, _⟩ := leaf_int (k := .i64) (by kernel_rfl) l5
    obtain ⟨x6, rfl, _⟩ := leaf_int (k := .i64) (by kernel_rfl) l6
    obtain ⟨x7, rfl, _⟩ := leaf_int (k := .i64) (by kernel_rfl) l7
    obtain ⟨L, rfl, hLo, hLl⟩ := labels (SlcArg.mk s1 s2 s3 s4)
    exact ⟨⟨⟨nm, L, ⟨x2, x3, x4⟩, ⟨x5, x6, x7⟩⟩, q, d⟩, rfl, ⟨hnm, by simp only []; omega, hLo⟩, hLl⟩)
  rw [show Try.prog.cellsOf T_Host = 8 by kernel_rfl] at h3
  have hle := h.le
  have hmx := h.max
  refine ⟨M.map (·.h), by simpa using h1, by simp; omega, fun x hx => ?_, ms_hs h3 fun m hm => (h2 m hm).2⟩
  obtain ⟨m, hm, rfl⟩ := List.mem_map.1 hx
  exact (h2 m hm).1

theorem IndexI_k (p : Option Addr) (c : Nat) (X : List Int) (h63 : (X.length : Int) ≤ 9223372036854775807) (x : Int) (w : World) (h : Ints .i64 w p X) :
    FnP Try.prog F_slices_Index_int_int #[.slice p X.length c, .int .i64 x] w fun v w' => Ext w w' ∧ ∃ t, v = .int .i64 t ∧ (0 ≤ t ↔ x ∈ X) := by
  refine ok_slices_Index_int_int p X.length c x w _ ?_
  refine ⟨fun k w' => w' = w ∧ 0 ≤ k ∧ k ≤ X.length ∧ ∀ j : Nat, (j : Int) < k → X.getD j 0 ≠ x, fun k _ => (X.length - k).toNat, ⟨rfl, by omega, by omega, fun j hj => by omega⟩, ?_⟩
  rintro k w ⟨rfl, hk0, hk1, hno⟩
  refine ⟨fun hlt => ?_, fun hge w4 h4 => ⟨h4, _, rfl, ?_⟩⟩
  · have g := Ints.idx h hk0 hlt
    refine ⟨fun hq => cell_p g (pIdx_none.2 hq), hk0, hlt, _, g, fun hyes w9 h9 => ⟨h9, _, rfl, fun _ => ?_, fun _ => hk0⟩, fun hn => ⟨i64 (by omega), ⟨rfl, by omega, by omega, fun j hj => ?_⟩, by simp only []; omega⟩⟩
    · rw [hyes]; exact getD_mem X 0 (by omega)
    · by_cases hjk : (j : Int) < k
      · exact hno j hjk
      · obtain rfl : j = k.toNat := by omega
        exact fun he => hn he.symm
  · constructor
    · intro h; omega
    · intro hm
      obtain ⟨j, hj, rfl⟩ := List.getElem_of_mem hm
      exact absurd (by simp [List.getD_eq_getElem?_getD, hj]) (hno j (by omega))
theorem ContainsI_k (p : Option Addr) (c : Nat) (X : List Int) (h63 : (X.length : Int) ≤ 9223372036854775807) (x : Int) (w : World) (h : Ints .i64 w p X) :
    FnP Try.prog F_slices_Contains_int_int #[.slice p X.length c, .int .i64 x] w fun v w' => Ext w w' ∧ v = .bool (decide (x ∈ X)) := by
  refine ok_slices_Contains_int_int p X.length c x w _ ?_
  intro w1 h1
  refine (IndexI_k p c X h63 x w1 (h.ext h1)).mono fun v w2 ⟨e2, t, hv, ht⟩ => ⟨e2, t, hv, fun w4 h4 => ⟨h4, ?_⟩⟩
  congr 1
  exact decide_eq_decide.2 ht

theorem IndexF_k (p : Option Addr) (c : Nat) (X : List Int) (h63 : (X.length : Int) ≤ 9223372036854775807) (f : Value) (Pr : Int → Bool) (w : World) (h : Ints .i64 w p X)
    (hf : ∀ x ∈ X, ∀ w', Ext w w' → FnVP Try.prog f [.int .i64 x] w' fun v w'' => Ext w' w'' ∧ v = .bool (Pr x)) :
    FnP Try.prog F_slices_IndexFunc_int_int #[.slice p X.length c, f] w fun v w' => Ext w w' ∧ ∃ t, v = .int .i64 t ∧ (0 ≤ t ↔ ∃ x ∈ X, Pr x = true) := by
  refine ok_slices_IndexFunc_int_int p X.length c f w _ ?_
  refine ⟨fun k w' => w' = w ∧ 0 ≤ k ∧ k ≤ X.length ∧ ∀ j : Nat, (j : Int) < k → Pr (X.getD j 0) = false, fun k _ => (X.length - k).toNat, ⟨rfl, by omega, by omega, fun j hj => by omega⟩, ?_⟩
  rintro k w ⟨rfl, hk0, hk1, hno⟩
  refine ⟨fun hlt => ?_, fun hge w4 h4 => ⟨h4, _, rfl, ?_⟩⟩
  · have g := Ints.idx h hk0 hlt
    refine ⟨fun hq => cell_p g (pIdx_none.2 hq), hk0, hlt, _, g, fun w4 h4 => ?_⟩
    obtain ⟨fi, cap, hfe, hfp⟩ := hf _ (getD_mem X 0 (i := k.toNat) (by omega)) w4 h4
    refine ⟨fi, cap, hfe, hfp.mono fun v w5 ⟨e5, hv⟩ => ⟨e5, _, hv, fun hyes w9 h9 => ⟨h9, _, rfl, fun _ => ⟨_, getD_mem X 0 (by omega), hyes⟩, fun _ => hk0⟩, fun hn => ⟨i64 (by omega), ⟨rfl, by omega, by omega, fun j hj => ?_⟩, by simp only []; omega⟩⟩⟩
    by_cases hjk : (j : Int) < k
    · exact hno j hjk
    · obtain rfl : j = k.toNat := by omega
      exact hn
  · constructor
    · intro h; omega
    · rintro ⟨x, hm, hx⟩
      obtain ⟨j, hj, rfl⟩ := List.getElem_of_mem hm
      have := hno j (by omega)
      rw [show X.getD j 0 = X[j] by simp [List.getD_eq_getElem?_getD, hj], hx] at this
      cases this
theorem ContainsF_k (p : Option Addr) (c : Nat) (X : List Int) (h63 : (X.length : Int) ≤ 9223372036854775807) (f : Value) (Pr : Int → Bool) (w : World) (h : Ints .i64 w p X)
    (hf : ∀ x ∈ X, ∀ w', Ext w w' → FnVP Try.prog f [.int .i64 x] w' fun v w'' => Ext w' w'' ∧ v = .bool (Pr x)) :
    FnP Try.prog F_slices_ContainsFunc_int_int #[.slice p X.length c, f] w fun v w' => Ext w w' ∧ ∃ b : Bool, v = .bool b ∧ (b = true ↔ ∃ x ∈ X, Pr x = true) := by
  refine ok_slices_ContainsFunc_int_int p X.length c f w _ ?_
  intro w1 h1
  refine (IndexF_k p c X h63 f Pr w1 (h.ext h1) fun x hx w' hw => hf x hx w' (h1.trans hw)).mono fun v w2 ⟨e2, t, hv, ht⟩ => ⟨e2, t, hv, fun w4 h4 => ⟨h4, _, rfl, ?_⟩⟩
  rw [decide_eq_true_iff]; exact ht

theorem Sorted_k (p : Option Addr) (c : Nat) (X : List Int) (h63 : (X.length : Int) ≤ 9223372036854775807) (hs : X.Pairwise (· < ·)) (w : World) (h : Ints .i64 w p X) :
    FnP Try.prog F_slices_IsSorted_int_int #[.slice p X.length c] w fun v w' => Ext w w' ∧ v = .bool true := by
  have nan : ∀ (x : Int) (w : World), FnP Try.prog F_cmp_isNaN_int #[.int .i64 x] w fun v w' => Ext w w' ∧ v = .bool false := fun x w => ok_cmp_isNaN_int x w _ fun w0 h0 => ⟨h0, by simp⟩
  have less : ∀ (x y : Int) (w : World), FnP Try.prog F_cmp_Less_int #[.int .i64 x, .int .i64 y] w fun v w' => Ext w w' ∧ v = .bool (decide (x < y)) := fun x y w =>
    ok_cmp_Less_int x y w _ fun w0 h0 => (nan x w0).mono fun v w1 ⟨e1, hv⟩ => ⟨e1, _, hv, fun h => by (cases h), fun _ w3 h3 => ⟨h3, rfl⟩⟩
  refine ok_slices_IsSorted_int_int p X.length c w _ ⟨i64 (by omega), ?_⟩
  refine ⟨fun k w' => w' = w ∧ k < X.length ∧ -1 ≤ k, fun k _ => k.toNat, ⟨rfl, by omega, by omega⟩, ?_⟩
  rintro k w ⟨rfl, hk1, hk0⟩
  refine ⟨fun hpos => ?_, fun _ w3 h3 => ⟨h3, rfl⟩⟩
  have g := Ints.idx h (i := k) (by omega) hk1
  have g' := Ints.idx h (i := k - 1) (by omega) (by omega)
  have hp : p ≠ none := fun hq => cell_p g (pIdx_none.2 hq)
  refine ⟨hp, by omega, hk1, _, g, i64 (by omega), hp, by omega, by omega, _, g', fun w5 h5 => (less _ _ w5).mono fun v w6 ⟨e6, hv⟩ => ⟨e6, _, hv, fun hyes => ?_, fun _ => ⟨i64 (by omega), ⟨rfl, by omega, by omega⟩, by simp only []; omega⟩⟩⟩
  exfalso
  have hlt : X.getD k.toNat 0 < X.getD (k - 1).toNat 0 := by simpa using hyes
  have h1 := (List.pairwise_iff_getElem.1 hs) (k - 1).toNat k.toNat (by omega) (by omega) (by omega)
  rw [List.getD_eq_getElem?_getD, List.getD_eq_getElem?_getD, List.getElem?_eq_getElem (by omega), List.getElem?_eq_getElem (by omega)] at hlt
  simp only [Option.getD_some] at hlt
  omega

theorem core_HostFit (W : World) : ∀ l : Option Addr, ∀ ll : Nat, ∀ lc : Nat, SlcArg Try.prog W T_Host l ll lc → ∀ x_0 : Int, InR .i64 x_0 → ∀ x_1 : ByteArray, x_1.size ≤ 9223372036854775807 → ∀ x_2 : ByteArray, x_2.size ≤ 9223372036854775807 → ∀ x_3 : Int, InR .i64 x_3 → ∀ x_4 : Option Addr, ∀ x_4l : Nat, ∀ x_4c : Nat, SlcArg Try.prog W T_Ask x_4 x_4l x_4c → ∀ a_0 : Int, InR .i64 a_0 → ∀ a_1 : Int, InR .i64 a_1 → ∀ a_2 : Int, InR .i64 a_2 → ∀ i : Int, InR .i64 i →
    FnP Try.prog F_shiftbellkeep_HostFit #[(.slice l ll lc), (.agg #[(.int .i64 x_0), (.string x_1), (.string x_2), (.int .i64 x_3), (.slice x_4 x_4l x_4c)]), (.agg #[(.int .i64 a_0), (.int .i64 a_1), (.int .i64 a_2)]), (.int .i64 i)] W fun v W' => v = .bool true ∧ Ext W W' := by
  intro p ll c hl x0 hx0 x1 hx1 x2 hx2 x3 hx3 px lx cx hX a0 _ a1 _ a2 _ i hi
  obtain ⟨t, rfl, rfl, rfl, rfl, rfl, hT, hW⟩ := ask_arg hX hx0 hx1 hx2 hx3
  obtain ⟨L, rfl, h63, hO, hL⟩ := hosts_arg hl
  obtain ⟨a, rfl, rfl, rfl⟩ : ∃ a : Nd, a0 = a.c ∧ a1 = a.m ∧ a2 = a.g := ⟨⟨a0, a1, a2⟩, rfl, rfl, rfl⟩
  refine ok_shiftbellkeep_HostFit p L.length c t.k t.key t.val t.n px t.xs.length cx a.c a.m a.g i W _ fun b0 hb0 b1 hb1 w2 h2 => ?_
  refine (hosts_k w2).mono fun v w3 ⟨e3, hv⟩ => ⟨e3, true, hv, fun h => by (cases h), fun _ w5 x5 => ?_⟩
  have h5 := extB_ext x5
  refine (Fit_k p c L h63 hO t px cx hW a w5 (hL.ext h5) (hT.ext h5 _ _ _)).mono fun v w6 ⟨e6, q, n, d, e, hv, he5, hnew, hr⟩ => ⟨e6, q, n, d, e, hv, fun hout w11 h11 => ⟨?_, (h5.trans e6).trans h11⟩, fun ⟨⟨he, hi0⟩, hi1⟩ w11 x11 => ?_⟩
  · rcases hr with ⟨_, rfl, _⟩ | ⟨rfl, _⟩ <;> simp
  obtain ⟨hok, hc, ha⟩ : okAll L t a := by
    rcases hr with ⟨h, _⟩ | ⟨_, h, _⟩
    · exact absurd he h
    · exact h
  obtain ⟨rfl, hI⟩ : n = (fitsTo L t a L.length).length ∧ Ints .i64 w6 q (fitsTo L t a L.length) := by
    rcases hr with ⟨h, _⟩ | ⟨_, _, h⟩
    · exact absurd he h
    · exact h
  have h11 := (h5.trans e6).trans (extB_ext x11)
  refine (Take_k p c L h63 hO i a w11 (hL.ext h11)).mono fun v w12 ⟨e12, p', n', c', e', hv, ht⟩ => ⟨e12, p', n', c', e', hv, ?_⟩
  have h12 := h11.trans e12
  obtain ⟨qh, dh, hp, hp8, g, hLb⟩ := (hL.ext h12).at hi0 hi1
  have hm := getD_mem L default (i := i.toNat) (by omega)
  have hfit : fitI L t a i.toNat = (valA (atH (L.getD i.toNat default)) t && decide (fitN a (subN (L.getD i.toNat default).has (L.getD i.toNat default).used))) := rfl
  have hte : e' = 0 ↔ fitN a (subN (L.getD i.toNat default).has (L.getD i.toNat default).used) := by
    rcases ht with ⟨h1, _, h2⟩ | ⟨h1, _, _, _, _, _, _, h2, _⟩
    · exact ⟨fun h => absurd h h1, fun h => absurd ⟨ha, h⟩ (h2 hok hi0 hi1)⟩
    · exact ⟨fun _ => h2, fun _ => h1⟩
  clear ht
  generalize hHd : L.getD i.toNat default = H at g hLb hm hfit hte
  refine ⟨hp, hi0, hi1, hp8, _, g 0 _ rfl, _, _, _, g 1 _ rfl, _, g 2 _ rfl, _, g 3 _ rfl, _, g 4 _ rfl, _, g 5 _ rfl, _, g 6 _ rfl, _, g 7 _ rfl, fun w27 h27 => ?_⟩
  refine (Holds_k t px cx H qh dh (hO H hm).2.1 w27 (hT.ext (h12.trans h27) _ _ _) hW (hLb.ext h27)).mono fun v w28 ⟨e28, hv⟩ => ⟨e28, _, _, hv, fun _ w31 h31 => ?_, fun hne => absurd hc hne⟩
  rw [if_pos hc]
  have hln := fits_len L t a L.length
  have hIx : ∀ {w' : World}, Ext w12 w' → Ints .i64 w' q (fitsTo L t a L.length) := fun hx => hI.ext (((extB_ext x11).trans e12).trans hx)
  refine (ContainsI_k q d _ (by omega) i w31 (hIx h31)).mono fun v w32 ⟨e32, hv⟩ => ⟨e32, _, hv, fun _ w34 h34 => ?_, fun hb => ?_⟩
  · exact (Sorted_k q d _ (by omega) (fits_sorted _ _ _ _) w34 (hIx h34)).mono fun v w35 ⟨e35, hv⟩ => ⟨e35, _, hv, fun w37 h37 => ⟨rfl, h12.trans h37⟩⟩
  · exfalso
    have hmem : i ∈ fitsTo L t a L.length ↔ valA (atH H) t = true ∧ e' = 0 := by
      rw [mem_fits, hfit, hte]
      constructor
      · rintro ⟨_, _, h⟩
        simpa using h
      · intro h
        exact ⟨hi0, hi1, by simpa using h⟩
    simp only [decide_eq_true_iff, decide_eq_false_iff_not] at hb
    rw [hmem] at hb
    rcases hb with ⟨h1, h2⟩
    rcases h1 with h1 | h1 | h1
    · rcases h2 with h2 | h2
      · exact h1 h2
      · exact h1 h2
    · rcases h2 with h2 | h2
      · rw [h2.1] at h1; cases h1
      · rw [h2.1] at h1; cases h1
    · rcases h2 with h2 | h2
      · exact h1 h2.2
      · exact h1 h2.2

theorem core_HostBest (W : World) : ∀ l : Option Addr, ∀ ll : Nat, ∀ lc : Nat, SlcArg Try.prog W T_Host l ll lc → ∀ x_0 : Int, InR .i64 x_0 → ∀ x_1 : ByteArray, x_1.size ≤ 9223372036854775807 → ∀ x_2 : ByteArray, x_2.size ≤ 9223372036854775807 → ∀ x_3 : Int, InR .i64 x_3 → ∀ x_4 : Option Addr, ∀ x_4l : Nat, ∀ x_4c : Nat, SlcArg Try.prog W T_Ask x_4 x_4l x_4c → ∀ a_0 : Int, InR .i64 a_0 → ∀ a_1 : Int, InR .i64 a_1 → ∀ a_2 : Int, InR .i64 a_2 → ∀ i : Int, InR .i64 i →
    FnP Try.prog F_shiftbellkeep_HostBest #[(.slice l ll lc), (.agg #[(.int .i64 x_0), (.string x_1), (.string x_2), (.int .i64 x_3), (.slice x_4 x_4l x_4c)]), (.agg #[(.int .i64 a_0), (.int .i64 a_1), (.int .i64 a_2)]), (.int .i64 i)] W fun v W' => v = .bool true ∧ Ext W W' := by
  intro p ll c hl x0 hx0 x1 hx1 x2 hx2 x3 hx3 px lx cx hX a0 _ a1 _ a2 _ i hi
  obtain ⟨t, rfl, rfl, rfl, rfl, rfl, hT, hW⟩ := ask_arg hX hx0 hx1 hx2 hx3
  obtain ⟨L, rfl, h63, hO, hL⟩ := hosts_arg hl
  obtain ⟨a, rfl, rfl, rfl⟩ : ∃ a : Nd, a0 = a.c ∧ a1 = a.m ∧ a2 = a.g := ⟨⟨a0, a1, a2⟩, rfl, rfl, rfl⟩
  refine ok_shiftbellkeep_HostBest p L.length c t.k t.key t.val t.n px t.xs.length cx a.c a.m a.g i W _ fun b0 hb0 b1 hb1 w2 h2 => ?_
  refine (hosts_k w2).mono fun v w3 ⟨e3, hv⟩ => ⟨e3, true, hv, fun h => by (cases h), fun _ w5 h5 => ?_⟩
  refine (Best_k p c L h63 hO t px cx hW a w5 (hL.ext h5) (hT.ext h5 _ _ _)).mono fun v w6 ⟨e6, k, e, hv, hb⟩ => ⟨e6, k, e, hv, fun w9 x9 => ?_⟩
  have h9 := extB_ext x9
  refine (Fit_k p c L h63 hO t px cx hW a w9 (hL.ext h9) (hT.ext h9 _ _ _)).mono fun v w10 ⟨e10, q, n, d, e', hv, he5, hnew, hr⟩ => ⟨e10, q, n, d, e', hv, fun hne w15 h15 => ⟨b_true ?_, (h9.trans e10).trans h15⟩, fun h0 w15 h15 => ?_⟩
  · rcases hb with ⟨_, rfl, h5', hnil⟩ | ⟨h, _⟩
    · rcases hr with ⟨hne', rfl, hno⟩ | ⟨rfl, hok, rfl, _⟩
      · have : e ≠ 5 := fun h => hno (h5'.1 h)
        simp [this, hne']
      · have := h5'.2 hok
        subst this
        rw [hnil hok]; simp
    · exact absurd h hne
  obtain ⟨⟨hok, hc, ha⟩, hk, hall⟩ : okAll L t a ∧ k ∈ fitsTo L t a L.length ∧ ∀ j ∈ fitsTo L t a L.length, 0 ≤ cmpN (leftH L j) (leftH L k) := by
    rcases hb with ⟨h, _⟩ | ⟨_, h⟩
    · exact absurd h0 h
    · exact h
  obtain ⟨rfl, hI⟩ : n = (fitsTo L t a L.length).length ∧ Ints .i64 w10 q (fitsTo L t a L.length) := by
    rcases hr with ⟨_, _, h⟩ | ⟨_, _, h⟩
    · exact absurd ⟨hok, hc, ha⟩ h
    · exact h
  have hln := fits_len L t a L.length
  have h10 := h9.trans e10
  have hk' := mem_fits.1 hk
  refine (ContainsI_k q d _ (by omega) k w15 (hI.ext h15)).mono fun v w16 ⟨e16, hv⟩ => ⟨e16, _, hv, fun hb => ?_, fun _ => ⟨fun _ w18 h18 => ⟨rfl, h10.trans h18⟩, fun ⟨hi0, hi1⟩ w18 h18 => ?_⟩⟩
  · exfalso
    rcases hb with (hb | hb) | hb
    · simp [hk] at hb
    · omega
    · omega
  refine (ContainsI_k q d _ (by omega) i w18 (hI.ext h18)).mono fun v w19 ⟨e19, hv⟩ => ⟨e19, _, hv, fun _ w21 h21 => ⟨rfl, h10.trans h21⟩, fun hin => ?_⟩
  have hin : i ∈ fitsTo L t a L.length := by simpa using hin
  have hL10 := hL.ext h10
  obtain ⟨q1, d1, hp, hp8, g, hLb⟩ := hL10.at hk'.1 hk'.2.1
  obtain ⟨q2, d2, _, hp8', g', hLb'⟩ := hL10.at hi0 hi1
  have hm := getD_mem L default (i := k.toNat) (by omega)
  have hm' := getD_mem L default (i := i.toNat) (by omega)
  have hcm := hall i hin
  have hl1 : leftH L k = subN (L.getD k.toNat default).has (L.getD k.toNat default).used := rfl
  have hl2 : leftH L i = subN (L.getD i.toNat default).has (L.getD i.toNat default).used := rfl
  generalize hHd : L.getD k.toNat default = H at g hLb hm hl1
  generalize hHd' : L.getD i.toNat default = H' at g' hLb' hm' hl2
  refine ⟨hp, hk'.1, hk'.2.1, hp8, _, g 0 _ rfl, _, _, _, g 1 _ rfl, _, g 2 _ rfl, _, g 3 _ rfl, _, g 4 _ rfl, _, g 5 _ rfl, _, g 6 _ rfl, _, g 7 _ rfl, fun w31 h31 => ?_⟩
  refine (Free_k H (hO H hm) q1 d1 w31 (hLb.ext h31)).mono fun v w32 ⟨e32, s, f, hv, hs⟩ => ⟨e32, _, _, _, _, hv, fun b37 hb37 => ?_⟩
  obtain ⟨rfl, rfl⟩ := hs (hok.2.1 H hm)
  refine ⟨hp, hi0, hi1, hp8', _, g' 0 _ rfl, _, _, _, g' 1 _ rfl, _, g' 2 _ rfl, _, g' 3 _ rfl, _, g' 4 _ rfl, _, g' 5 _ rfl, _, g' 6 _ rfl, _, g' 7 _ rfl, fun w48 h48 => ?_⟩
  refine (Free_k H' (hO H' hm') q2 d2 w48 (hLb'.ext h48)).mono fun v w49 ⟨e49, s, f, hv, hs⟩ => ⟨e49, _, _, _, _, hv, fun b54 hb54 w55 x55 => ?_⟩
  obtain ⟨rfl, rfl⟩ := hs (hok.2.1 H' hm')
  refine good_lit (n := 2) [0, 0] rfl rfl (by omega) (by omega) (fun w56 e56 => fun w63 h63' => ⟨b_true ?_, (h10.trans e56).trans h63'⟩) w55 (extB_ext x55)
  have hno : ¬ cmpN (leftH L i) (leftH L k) < 0 := by omega
  rw [cmpN_neg, hl1, hl2] at hno
  have h1 : (subN H.has H.used).c ≤ (subN H'.has H'.used).c := by omega
  have h2 : (subN H.has H.used).c < (subN H'.has H'.used).c ∨ (subN H.has H.used).m ≤ (subN H'.has H'.used).m := by omega
  simp only [Bool.and_eq_true, Bool.or_eq_true, decide_eq_true_iff]
  exact ⟨⟨by simp, h1⟩, h2⟩

theorem core_HostLess (W : World) : ∀ l : Option Addr, ∀ ll : Nat, ∀ lc : Nat, SlcArg Try.prog W T_Host l ll lc → ∀ x_0 : Int, InR .i64 x_0 → ∀ x_1 : ByteArray, x_1.size ≤ 9223372036854775807 → ∀ x_2 : ByteArray, x_2.size ≤ 9223372036854775807 → ∀ x_3 : Int, InR .i64 x_3 → ∀ x_4 : Option Addr, ∀ x_4l : Nat, ∀ x_4c : Nat, SlcArg Try.prog W T_Ask x_4 x_4l x_4c → ∀ a_0 : Int, InR .i64 a_0 → ∀ a_1 : Int, InR .i64 a_1 → ∀ a_2 : Int, InR .i64 a_2 → ∀ b_0 : Int, InR .i64 b_0 → ∀ b_1 : Int, InR .i64 b_1 → ∀ b_2 : Int, InR .i64 b_2 →
    FnP Try.prog F_shiftbellkeep_HostLess #[(.slice l ll lc), (.agg #[(.int .i64 x_0), (.string x_1), (.string x_2), (.int .i64 x_3), (.slice x_4 x_4l x_4c)]), (.agg #[(.int .i64 a_0), (.int .i64 a_1), (.int .i64 a_2)]), (.agg #[(.int .i64 b_0), (.int .i64 b_1), (.int .i64 b_2)])] W fun v W' => v = .bool true ∧ Ext W W' := by
  intro p ll c hl x0 hx0 x1 hx1 x2 hx2 x3 hx3 px lx cx hX a0 _ a1 _ a2 _ b0' _ b1' _ b2' _
  obtain ⟨t, rfl, rfl, rfl, rfl, rfl, hT, hW⟩ := ask_arg hX hx0 hx1 hx2 hx3
  obtain ⟨L, rfl, h63, hO, hL⟩ := hosts_arg hl
  obtain ⟨a, rfl, rfl, rfl⟩ : ∃ a : Nd, a0 = a.c ∧ a1 = a.m ∧ a2 = a.g := ⟨⟨a0, a1, a2⟩, rfl, rfl, rfl⟩
  obtain ⟨b, rfl, rfl, rfl⟩ : ∃ a : Nd, b0' = a.c ∧ b1' = a.m ∧ b2' = a.g := ⟨⟨b0', b1', b2'⟩, rfl, rfl, rfl⟩
  refine ok_shiftbellkeep_HostLess p L.length c t.k t.key t.val t.n px t.xs.length cx a.c a.m a.g b.c b.m b.g W _ fun b0 hb0 b1 hb1 b2 hb2 w3 h3 => ?_
  refine (hosts_k w3).mono fun v w4 ⟨e4, hv⟩ => ⟨e4, true, hv, fun h => by (cases h), fun _ w6 h6 => ?_⟩
  refine (nAdd_k a b w6).mono fun v w7 ⟨e7, s, e, hv, hs⟩ => ⟨e7, _, _, _, _, hv, fun b12 hb12 w13 x13 => ?_⟩
  have h13 := extB_ext x13
  refine (Fit_k p c L h63 hO t px cx hW a w13 (hL.ext h13) (hT.ext h13 _ _ _)).mono fun v w14 ⟨e14, q, n, d, f, hv, _, hnew, hr⟩ => ⟨e14, q, n, d, f, hv, fun w19 x19 => ?_⟩
  have h14 := h13.trans e14
  refine (Held.nil (w0 := w19) (ns := [b0, b1, b2, b12]) (Ext.refl w19)).new_row (by intro v hv; simp at hv; subst hv; rfl) (x19.lt) fun p20 w20 H20 e20 => ?_
  refine H20.store 0 rfl 0 (map_add0 _) (by simp) (by simp) (by intro v hv; simp at hv; subst hv; rfl) (fun b hb => Nat.lt_of_lt_of_le (x19.lt b hb) e20.size) fun w21 H21 g21 w22 x22 => ?_
  have e21 := H21.ext
  have x21' := (extB_ext x19).trans (e21.trans (extB_ext x22))
  have h22 := h14.trans x21'
  have hcell : Go.Sx.cell w22 p20 0 = some (.slice q n d) := ext_cell (extB_ext x22) ((H21.get 0 rfl).cells 0 _ rfl)
  refine (Fit_k p c L h63 hO t px cx hW s w22 (hL.ext h22) (hT.ext h22 _ _ _)).mono fun v w23 ⟨e23, q', n', d', g, hv, _, hnew', hr'⟩ => ⟨e23, q', n', d', g, hv, fun w28 x28 => ?_⟩
  have h28 := (h22.trans e23).trans (extB_ext x28)
  refine good_lit (n := 3) [e, f, g] rfl rfl (by omega) (by omega) (fun w29 e29 => ⟨fun _ w36 h36 => ⟨rfl, (h28.trans e29).trans h36⟩, fun hgd w36 h36 => ?_⟩) w28 (Ext.refl _)
  simp only [decide_eq_true_iff, List.mem_cons, List.not_mem_nil, or_false, forall_eq_or_imp, forall_eq] at hgd
  obtain ⟨rfl, rfl, rfl⟩ := hgd
  have hsum : okN a ∧ okN b ∧ s = addN a b := by
    rcases hs with ⟨h1, h2, _, _, h3⟩ | ⟨_, h, _⟩ | ⟨_, _, _, h, _⟩
    · exact ⟨h1, h2, h3⟩
    · omega
    · omega
  obtain ⟨ha, hb, rfl⟩ := hsum
  obtain ⟨rfl, hI⟩ : n = (fitsTo L t a L.length).length ∧ Ints .i64 w14 q (fitsTo L t a L.length) := by
    rcases hr with ⟨h, _⟩ | ⟨_, _, h⟩
    · exact absurd rfl h
    · exact h
  obtain ⟨rfl, hI'⟩ : n' = (fitsTo L t (addN a b) L.length).length ∧ Ints .i64 w23 q' (fitsTo L t (addN a b) L.length) := by
    rcases hr' with ⟨h, _⟩ | ⟨_, _, h⟩
    · exact absurd rfl h
    · exact h
  have hln := fits_len L t a L.length
  have hln' := fits_len L t (addN a b) L.length
  have hx := (e23.trans (extB_ext x28)).trans (e29.trans h36)
  refine (ContainsF_k q' d' _ (by omega) _ (fun x => !decide (x ∈ fitsTo L t a L.length)) w36 (hI'.ext ((extB_ext x28).trans (e29.trans h36))) fun x hxm w' hw' => ⟨F_shiftbellkeep_HostLess_1, #[.pointer p20], rfl, (ok_shiftbellkeep_HostLess_1 x p20 w' _ ⟨q, _, d, ext_cell (hx.trans hw') hcell, fun w3' h3' => ?_⟩ : FnP Try.prog F_shiftbellkeep_HostLess_1 #[.int .i64 x, .pointer p20] w' _)⟩).mono fun v w37 ⟨e37, bb, hv, hbb⟩ => ⟨e37, bb, hv, fun w39 h39 => ⟨?_, (h28.trans e29).trans h39⟩⟩
  · exact (ContainsI_k q d _ (by omega) x w3' (hI.ext (x21'.trans (hx.trans (hw'.trans h3'))))).mono fun v w4' ⟨e4', hv⟩ => ⟨e4', _, hv, fun w6' h6' => ⟨h6', rfl⟩⟩
  · cases bb with
    | false => rfl
    | true =>
      exfalso
      obtain ⟨x, hxm, hno⟩ := hbb.1 rfl
      have hno : x ∉ fitsTo L t a L.length := by simpa using hno
      refine hno ?_
      rw [mem_fits] at hxm ⊢
      refine ⟨hxm.1, hxm.2.1, ?_⟩
      have := hxm.2.2
      unfold fitI at this ⊢
      simp only [Bool.and_eq_true, decide_eq_true_iff] at this ⊢
      refine ⟨this.1, ?_⟩
      obtain ⟨g1, g2, g3⟩ := this.2
      obtain ⟨⟨k1, _⟩, ⟨k2, _⟩, ⟨k3, _⟩⟩ := hb
      simp only [addN] at g1 g2 g3
      exact ⟨by omega, by omega, by omega⟩
end Go.Proofs.Ytdhhggfplacenaa
