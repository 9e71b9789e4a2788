/- Assignment: the solver, the least cost; the law AssignLeast. -/
import Derived.Test.YtlacdincnpbpdaaAsL
set_option linter.unusedVariables false
set_option linter.unusedSimpArgs false
namespace Go.Proofs.Ytlacdincnpbpdaa
open Go.Sx Go.RowKit

theorem repZ (n : Nat) (k : Int) : g0 (List.replicate n 0) k = 0 := by
  unfold g0
  rw [List.getD_eq_getElem?_getD, List.getElem?_replicate]; split <;> rfl

def J2 (w : World) (pc : Option Addr) (n cc : Nat) (p1 p2 : Option Addr) (w' : World) : Prop :=
  ∃ I : Ids, p1 = Pb I.s ∧ p2 = Pb I.s ∧ Ext w w' ∧ MemS w.heap.size w' I pc n cc (List.replicate (n + 1) 0) (List.replicate (n + 1) 0) (List.replicate (n + 1) 0)

theorem j2_fin {w w' : World} {pc : Option Addr} {n cc : Nat} {a b c : Nat} {K : Option Addr → World → Prop} (hpc : ∀ u ∈ [Value.slice pc n cc], u.oneCell' = true) (hx : Ext w w') (ha : w.heap.size ≤ a) (hb : w.heap.size ≤ b) (hc : w.heap.size ≤ c) (hab : a ≠ b) (hac : a ≠ c) (hbc : b ≠ c)
    (oa : Own w.heap.size w' T_int64 1 (Pb a) (n + 1) (n + 1) ((List.replicate (n + 1) 0).map (.int .i64))) (ob : Own w.heap.size w' T_int64 1 (Pb b) (n + 1) (n + 1) ((List.replicate (n + 1) 0).map (.int .i64))) (oc : Own w.heap.size w' T_int 1 (Pb c) (n + 1) (n + 1) ((List.replicate (n + 1) 0).map (.int .i64)))
    (hk : ∀ p w'', J2 w pc n cc p p w'' → K p w'') : New w' 44 [(.slice pc n cc), (.slice (Pb a) (n + 1) (n + 1)), (.slice (Pb b) (n + 1) (n + 1)), (.slice (Pb c) (n + 1) (n + 1))] K := by
  refine new_own (by intro v hv; simp at hv; rcases hv with rfl | rfl | rfl | rfl <;> rfl) fun w2 o2 e2 => hk _ _ ⟨⟨w'.heap.size, a, b, c⟩, rfl, rfl, hx.trans e2, ?_⟩
  have la := (oa.lt _ rfl).2
  have lb := (ob.lt _ rfl).2
  have lc := (oc.lt _ rfl).2
  exact ⟨o2 _ hx.size, oa.ext e2, ob.ext e2, oc.ext e2, Nat.ne_of_gt la, Nat.ne_of_gt lb, Nat.ne_of_gt lc, hab, hac, hbc⟩

set_option maxHeartbeats 1000000 in
theorem solve_k (pc : Option Addr) (cc : Nat) (C : List (List Int)) (hs : sq C) (w : World) (h : RowsR w pc C) : FnP Try.prog F_assign_solve #[.slice pc C.length cc] w fun v w' =>
    Ext w w' ∧ ∃ (I : Ids) (U V Bl : List Int), v = .pointer (Pb I.s) ∧ MemS w.heap.size w' I pc C.length cc U V Bl ∧ Pot C.length C.length (cst C) (g0 U) (g0 V) (g0 Bl) := by
  have h12 := hs.1
  have hR := h.two hs
  have hC := sq_okC hs
  generalize hn : C.length = n at *
  refine ok_assign_solve pc n cc w _ ⟨i64 (by omega), J2 w pc n cc, ⟨?_, ?_, ?_⟩, ?_⟩
  all_goals have en : ((n : Int) + 1).toNat = n + 1 := by omega
  · intro w4 h4
    refine mk_ints elem_sl_int64 (by omega) (by omega) (by omega) fun w5 o5 e5 => ⟨e5, _, _, _, rfl, fun w9 h9 => ?_, fun w9 h9 => ?_⟩
    all_goals have o5 := ((o5 w.heap.size h4.size).ext h9)
    all_goals have s5 := o5.size_lt
    all_goals have s4 := h4.size
    · refine mk_ints elem_sl_int64 (by omega) (by omega) (by omega) fun w10 o10 e10 => ⟨e10, _, _, _, rfl, fun w14 h14 => ?_⟩
      have o10 := (o10 w.heap.size (by omega)).ext h14
      have s10 := o10.size_lt
      refine mk_ints elem_sl_int (by omega) (by omega) (by omega) fun w15 o15 e15 => ⟨e15, _, _, _, rfl, fun w19 h19 => ?_⟩
      have o15 := (o15 w.heap.size (by omega)).ext h19
      simp only [en] at o5 o10 o15 ⊢
      exact j2_fin (by simp [Value.oneCell']) ((((((h4.trans e5).trans h9).trans e10).trans h14).trans e15).trans h19) (by omega) (by omega) (by omega) (by omega) (by omega) (by omega) (((((o5.ext e10).ext h14).ext e15).ext h19)) ((o10.ext e15).ext h19) o15 fun p w'' hj => hj
    · refine mk_ints elem_sl_int (by omega) (by omega) (by omega) fun w10 o10 e10 => ⟨e10, _, _, _, rfl, fun w14 h14 => ?_⟩
      have o10 := (o10 w.heap.size (by omega)).ext h14
      have s10 := o10.size_lt
      refine mk_ints elem_sl_int64 (by omega) (by omega) (by omega) fun w15 o15 e15 => ⟨e15, _, _, _, rfl, fun w19 h19 => ?_⟩
      have o15 := (o15 w.heap.size (by omega)).ext h19
      simp only [en] at o5 o10 o15 ⊢
      exact j2_fin (by simp [Value.oneCell']) ((((((h4.trans e5).trans h9).trans e10).trans h14).trans e15).trans h19) (by omega) (by omega) (by omega) (by omega) (by omega) (by omega) (((((o5.ext e10).ext h14).ext e15).ext h19)) o15 ((o10.ext e15).ext h19) fun p w'' hj => hj
  · intro w4 h4
    refine mk_ints elem_sl_int64 (by omega) (by omega) (by omega) fun w5 o5 e5 => ⟨e5, _, _, _, rfl, fun w9 h9 => ?_, fun w9 h9 => ?_⟩
    all_goals have o5 := ((o5 w.heap.size h4.size).ext h9)
    all_goals have s5 := o5.size_lt
    all_goals have s4 := h4.size
    · refine mk_ints elem_sl_int64 (by omega) (by omega) (by omega) fun w10 o10 e10 => ⟨e10, _, _, _, rfl, fun w14 h14 => ?_⟩
      have o10 := (o10 w.heap.size (by omega)).ext h14
      have s10 := o10.size_lt
      refine mk_ints elem_sl_int (by omega) (by omega) (by omega) fun w15 o15 e15 => ⟨e15, _, _, _, rfl, fun w19 h19 => ?_⟩
      have o15 := (o15 w.heap.size (by omega)).ext h19
      simp only [en] at o5 o10 o15 ⊢
      exact j2_fin (by simp [Value.oneCell']) ((((((h4.trans e5).trans h9).trans e10).trans h14).trans e15).trans h19) (by omega) (by omega) (by omega) (by omega) (by omega) (by omega) ((o10.ext e15).ext h19) (((((o5.ext e10).ext h14).ext e15).ext h19)) o15 fun p w'' hj => hj
    · refine mk_ints elem_sl_int (by omega) (by omega) (by omega) fun w10 o10 e10 => ⟨e10, _, _, _, rfl, fun w14 h14 => ?_⟩
      have o10 := (o10 w.heap.size (by omega)).ext h14
      have s10 := o10.size_lt
      refine mk_ints elem_sl_int64 (by omega) (by omega) (by omega) fun w15 o15 e15 => ⟨e15, _, _, _, rfl, fun w19 h19 => ?_⟩
      have o15 := (o15 w.heap.size (by omega)).ext h19
      simp only [en] at o5 o10 o15 ⊢
      exact j2_fin (by simp [Value.oneCell']) ((((((h4.trans e5).trans h9).trans e10).trans h14).trans e15).trans h19) (by omega) (by omega) (by omega) (by omega) (by omega) (by omega) o15 (((((o5.ext e10).ext h14).ext e15).ext h19)) ((o10.ext e15).ext h19) fun p w'' hj => hj
  · intro w4 h4
    refine mk_ints elem_sl_int (by omega) (by omega) (by omega) fun w5 o5 e5 => ⟨e5, _, _, _, rfl, fun w9 h9 => ?_, fun w9 h9 => ?_⟩
    all_goals have o5 := ((o5 w.heap.size h4.size).ext h9)
    all_goals have s5 := o5.size_lt
    all_goals have s4 := h4.size
    all_goals refine mk_ints elem_sl_int64 (by omega) (by omega) (by omega) fun w10 o10 e10 => ⟨e10, _, _, _, rfl, fun w14 h14 => ?_⟩
    all_goals have o10 := (o10 w.heap.size (by omega)).ext h14
    all_goals have s10 := o10.size_lt
    all_goals refine mk_ints elem_sl_int64 (by omega) (by omega) (by omega) fun w15 o15 e15 => ⟨e15, _, _, _, rfl, fun w19 h19 => ?_⟩
    all_goals have o15 := (o15 w.heap.size (by omega)).ext h19
    all_goals simp only [en] at o5 o10 o15 ⊢
    · exact j2_fin (by simp [Value.oneCell']) ((((((h4.trans e5).trans h9).trans e10).trans h14).trans e15).trans h19) (by omega) (by omega) (by omega) (by omega) (by omega) (by omega) ((o10.ext e15).ext h19) o15 (((((o5.ext e10).ext h14).ext e15).ext h19)) fun p w'' hj => hj
    · exact j2_fin (by simp [Value.oneCell']) ((((((h4.trans e5).trans h9).trans e10).trans h14).trans e15).trans h19) (by omega) (by omega) (by omega) (by omega) (by omega) (by omega) o15 ((o10.ext e15).ext h19) (((((o5.ext e10).ext h14).ext e15).ext h19)) fun p w'' hj => hj
  · rintro p1 p2 w3 ⟨I, _, rfl, hx3, M3⟩
    refine ⟨fun i w' => ∃ U V Bl, Ext w w' ∧ MemS w.heap.size w' I pc n cc U V Bl ∧ 1 ≤ i ∧ i ≤ n + 1 ∧ Pot n (i - 1) (cst C) (g0 U) (g0 V) (g0 Bl), fun i _ => ((n : Int) + 1 - i).toNat,
      ⟨_, _, _, hx3, M3, by omega, by omega, ⟨⟨fun k _ _ => by rw [repZ]; omega, fun k l _ _ _ _ _ hb => absurd (repZ _ _) hb, fun r _ _ => by omega⟩, fun r k _ _ => by omega, fun k _ _ hb => absurd (repZ _ _) hb, fun k _ _ => by rw [repZ]; omega, fun k _ _ _ => repZ _ _, fun r _ _ => repZ _ _, fun r _ _ => by omega, by rw [repZ]; omega, fun r _ _ => by omega, fun k _ _ => by rw [repZ]; omega⟩⟩, ?_⟩
    rintro i w6 ⟨U, V, Bl, hx6, M6, hi0, hi1, hp⟩
    refine ⟨fun hlt w7 h7 => ?_, fun hge w7 h7 => ⟨hx6.trans h7, I, U, V, Bl, rfl, M6.ext h7, ?_⟩⟩
    · refine (one_k w pc n cc C hR hC i hi0 (by omega) I U V Bl w7 (hx6.trans h7) (M6.ext h7) hp).mono fun v w8 ⟨hv, hx8, U2, V2, B2, M8, hp8⟩ => ⟨hv, i64 (by omega), ⟨U2, V2, B2, hx8, M8, by omega, by omega, by rw [show i + 1 - 1 = i by omega]; exact hp8⟩, by simp only []; omega⟩
    · obtain rfl : i = n + 1 := by omega
      rwa [show (n : Int) + 1 - 1 = n by omega] at hp

/-- All have a job: no job is free. -/
theorem Bys.full {n : Nat} {b : Int → Int} (hp : Bys n n b) {j : Int} (j1 : 1 ≤ j) (j2 : j ≤ n) : b j ≠ 0 := by
  intro hz
  have hch : ∀ r : Int, ∃ k : Int, 1 ≤ r → r ≤ n → 1 ≤ k ∧ k ≤ n ∧ b k = r := fun r => by
    by_cases hr : 1 ≤ r ∧ r ≤ n
    · obtain ⟨k, h⟩ := hp.sur r hr.1 hr.2
      exact ⟨k, fun _ _ => h⟩
    · exact ⟨0, fun h1 h2 => absurd ⟨h1, h2⟩ hr⟩
  let g : Int → Int := fun r => (hch r).choose
  have hg : ∀ r : Int, 1 ≤ r → r ≤ n → 1 ≤ g r ∧ g r ≤ n ∧ b (g r) = r := fun r h1 h2 => (hch r).choose_spec h1 h2
  have := pigeon (n := n) (m := n - 1) (f := fun r => if g r < j then g r else g r - 1) (fun k k1 k2 => by
    have h := hg k k1 k2
    have hne : g k ≠ j := fun he => by rw [he, hz] at h; omega
    split <;> omega) (fun k l k1 k2 l1 l2 he => by
    have h := hg k k1 k2
    have h' := hg l l1 l2
    have hne : g k ≠ j := fun he => by rw [he, hz] at h; omega
    have hne' : g l ≠ j := fun he => by rw [he, hz] at h'; omega
    have : g k = g l := by
      split at he <;> split at he <;> omega
    rw [this] at h
    omega)
  omega

theorem aLeast_k (pc : Option Addr) (cc : Nat) (C : List (List Int)) (h63 : (C.length : Int) ≤ 9223372036854775807) (w : World) (h : RowsR w pc C) : FnP Try.prog F_assign_Least #[.slice pc C.length cc] w fun v w' =>
    Ext w w' ∧ ∃ q n qc t, v = .tuple #[.slice q n qc, .int .i64 t, .int .i64 (errA C)] ∧ (¬ sq C → n = 0 ∧ t = 0) ∧ (sq C → n = C.length ∧ IsLeast C t ∧ ∃ X, Own w.heap.size w' T_int 1 q n qc (X.map (.int .i64)) ∧ okTo C.length X ∧ costN C X = t) := by
  refine ok_assign_Least pc C.length cc w _ ?_
  intro w0 h0
  refine (aCheck_k pc cc C h63 w0 (h.ext h0)).mono fun v w1 ⟨e1, hv⟩ => ⟨e1, _, hv, fun hne w3 h3 => ⟨h3, _, _, _, _, rfl, fun _ => ⟨rfl, rfl⟩, fun hok => absurd (errA_ok.2 hok) hne⟩, fun he w3 h3 => ?_⟩
  have hok := errA_ok.1 he
  have h12 := hok.1
  refine (solve_k pc cc C hok w3 (h.ext h3)).mono fun v w4 ⟨e4, I, U, V, Bl, hv, M, hp⟩ => ⟨e4, _, hv, fun w6 h6 => ?_⟩
  have hx6 := (h3.trans e4).trans h6
  have M6 := M.ext h6
  have nn : ∀ b, Pb b ≠ none := fun b => by simp
  refine mk_ints elem_sl_int (by omega) (by omega) (by omega) fun w7 o7 e7 => ⟨e7, _, _, _, rfl, ?_⟩
  have o7 := o7 w3.heap.size (by have := e4.size; have := h6.size; omega)
  simp only [Int.toNat_natCast] at o7 ⊢
  have M7 := M6.ext e7
  have hside : ∀ y ∈ [I.s, I.u, I.v, I.b], y ≠ w6.heap.size := fun y hy => by
    simp at hy
    rcases hy with rfl | rfl | rfl | rfl
    · have := (M6.os.lt _ rfl).2; simp at this; omega
    · have := (M6.ou.lt _ rfl).2; simp at this; omega
    · have := (M6.ov.lt _ rfl).2; simp at this; omega
    · have := (M6.ob.lt _ rfl).2; simp at this; omega
  have hx7 := hx6.trans e7
  have h3_7 := (e4.trans h6).trans e7
  refine ⟨fun k w' => ∃ X : List Int, Ext w3 w' ∧ MemS w3.heap.size w' I pc C.length cc U V Bl ∧ Own w3.heap.size w' T_int 1 (Pb w6.heap.size) C.length C.length (X.map (.int .i64)) ∧ 1 ≤ k ∧ k ≤ C.length + 1 ∧ ∀ j : Int, 1 ≤ j → j < k → g0 X (g0 Bl j - 1) = j - 1, fun k _ => ((C.length : Int) + 1 - k).toNat,
    ⟨_, h3_7, M7, o7, by omega, by omega, fun j _ _ => by omega⟩, ?_⟩
  rintro k w13 ⟨X, hx, M13, oX, hk0, hk1, hX⟩
  have lenX := oX.leni
  have lenB := M13.lu.2.2
  refine ⟨fun hle => ?_, fun hgt w14 h14 => ?_⟩
  · have gB := M13.ob.int_at (i := k) (by omega) (by omega)
    have eB : Bl.getD k.toNat 0 = g0 Bl k := rfl
    rw [eB] at gB
    have hb1 := hp.bR k hk0 hle
    have hb0 := hp.toBys.full hk0 hle
    refine ⟨nn _, nn _, _, _, _, M13.c3, nn _, by omega, by omega, _, gB, i64 (by omega), i64 (by omega), nn _, by omega, by omega, ?_⟩
    refine store_int oX (by omega) (by omega) (by simp) fun w18 oX' g18 => ⟨i64 (by omega), ⟨_, g18.ext hx oX, M13.aside hside g18, oX', by omega, by omega, fun j j1 j2 => ?_⟩, by simp only []; omega⟩
    have hbj := hp.bR j j1 (by omega)
    have hbjn := hp.toBys.full j1 (show j ≤ C.length by omega)
    by_cases hjk : j = k
    · subst hjk; rw [g0_set (by omega) (by omega) (by omega), if_pos rfl]
    · have hj := hX j j1 (by omega)
      have hbj0 := hp.toBys.full j1 (show j ≤ C.length by omega)
      rw [g0_set (by omega) (by omega) (by omega), if_neg (fun he => hjk (hp.inj j k j1 (by omega) hk0 hle (by omega) hbj0))]
      exact hj
  · obtain rfl : k = C.length + 1 := by omega
    obtain ⟨hL, hmade⟩ := pot_least hok hp
    obtain ⟨hokX, hcX⟩ := hmade X lenX fun j j1 j2 => hX j j1 (by omega)
    have hx14 := hx.trans h14
    have hcost := aCost_k pc cc C h63 (Pb w6.heap.size) C.length X (by omega) w14 (h.ext (h3.trans hx14)) (oX.ext h14).cells
    rw [lenX] at hcost
    refine hcost.mono fun v w15 ⟨e15, t, e, hv, _, _, hgd⟩ => ⟨e15, t, e, hv, fun w18 h18 => ?_⟩
    obtain ⟨rfl, rfl⟩ := hgd hok hokX
    refine ⟨(h3.trans hx).trans h18, _, _, _, _, by rw [he], fun hno => absurd hok hno, fun _ => ⟨rfl, by rw [hcX]; exact hL, X, (oX.weak h3.size).ext h18, hokX, rfl⟩⟩
end Go.Proofs.Ytlacdincnpbpdaa
