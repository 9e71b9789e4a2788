/- FarmAhead, FarmTries. -/
import Derived.Test.YtblafknmfblgfaaFaM
set_option linter.unusedVariables false
set_option linter.unusedSimpArgs false
namespace Go.Proofs.Ytblafknmfblgfaa
open Go.Sx Go.RowKit

theorem row_at {R : List StR} {F : Fm} (h : R.map (·.s) = F.jobs) {k : Nat} {r : StR} (hr : R[k]? = some r) : k < F.jobs.length ∧ jobAt F k = r.s := by
  have : F.jobs[k]? = some r.s := by rw [← h, List.getElem?_map, hr]; rfl
  exact ⟨(List.getElem?_eq_some_iff.1 this).1, jobAt_of this⟩
theorem row_len {R : List StR} {F : Fm} (h : R.map (·.s) = F.jobs) : R.length = F.jobs.length := by have := congrArg List.length h; simpa using this
theorem ev_ext {w w' : World} {q : Option Addr} {E : List EvR} (h : Recs 15 encR w q E) (e : Ext w w') : Recs 15 encR w' q E := fun i x hx j u hu => ext_cell e (h i x hx j u hu)
/-- The beginning of each law: a farm that was played. -/
theorem played_args {W : World} {p : Option Addr} {l c : Nat} (hl : SlcArg Try.prog W T_Host p l c) (x1 x2 x3 x4 : Int) {q : Option Addr} {el d : Nat} (hq : SlcArg Try.prog W T_Event q el d) : ∃ (okn : Prop) (Pl : Fm → Prop), (∀ F, Pl F → F.pol = ⟨x1, x2, x3, x4⟩ ∧ F.hosts.length = l ∧ Inv F) ∧ (∀ F G, Pl F → Pl G → F = G) ∧
    ∀ w, Ext W w → FnP Try.prog F_shiftbellkeep_played #[.agg #[.slice p l c, .int .i64 x1, .int .i64 x2, .int .i64 x3, .int .i64 x4], .slice q el d] w fun v w' => Ext w w' ∧ ∃ (f : Option Addr), v = .pointer f ∧ (f = none ↔ ¬ okn) ∧
      (okn → ∃ B fb P F, f = ptr fb ∧ w.heap.size ≤ B ∧ B ≤ w'.heap.size ∧ FX B w' fb P F ∧ Pl F) := by
  have hlm := hq.max
  have hll := hq.le
  obtain ⟨L, rfl, h63, hO, hL⟩ := hosts_arg hl
  obtain ⟨E, rfl, hE, hEw⟩ := evs_arg hq
  refine ⟨okNew L ⟨x1, x2, x3, x4⟩, fun F => okNew L ⟨x1, x2, x3, x4⟩ ∧ Plays (newF L ⟨x1, x2, x3, x4⟩) (E.map fun r : EvR => r.x) F, fun F h => ⟨?_, ?_, plays_inv h.2 (new_inv h.1)⟩, fun F G h g => plays_one h.2 g.2, fun w e => (played_k p c L h63 hO ⟨x1, x2, x3, x4⟩ q d E (by omega) w (hL.ext e) (ev_ext hE e) (fun r hr => ⟨(hEw r hr).1, (hEw r hr).2.ext e⟩)).mono fun v w' ⟨e', f, hv, h1, h2⟩ => ⟨e', f, hv, h1, fun hok => ?_⟩⟩
  · exact plays_ind (Mot := fun G => G.pol = ⟨x1, x2, x3, x4⟩) (fun F G x d m => (did_keeps d).1.trans m) h.2 rfl
  · exact plays_ind (Mot := fun G => G.hosts.length = L.length) (fun F G x d m => (did_keeps d).2.trans m) h.2 rfl
  · obtain ⟨B, fb, P, F, h3, h4, h5, h6, h7⟩ := h2 hok
    exact ⟨B, fb, P, F, h3, h4, h5, h6, hok, h7⟩

theorem core_FarmAhead (W : World) : ∀ x_0 : Option Addr, ∀ x_0l : Nat, ∀ x_0c : Nat, SlcArg Try.prog W T_Host x_0 x_0l x_0c → ∀ x_1 : Int, InR .i64 x_1 → ∀ x_2 : Int, InR .i64 x_2 → ∀ x_3 : Int, InR .i64 x_3 → ∀ x_4 : Int, InR .i64 x_4 → ∀ l : Option Addr, ∀ ll : Nat, ∀ lc : Nat, SlcArg Try.prog W T_Event l ll lc →
    FnP Try.prog F_shiftbellkeep_FarmAhead #[(.agg #[(.slice x_0 x_0l x_0c), (.int .i64 x_1), (.int .i64 x_2), (.int .i64 x_3), (.int .i64 x_4)]), (.slice l ll lc)] W fun v W' => v = .bool true ∧ Ext W W' := by
  intro p hln c hl x1 _ x2 _ x3 _ x4 _ q el d hq
  obtain ⟨okn, Pl, hPl, _, hplay⟩ := played_args hl x1 x2 x3 x4 hq
  refine ok_shiftbellkeep_FarmAhead p hln c x1 x2 x3 x4 q el d W _ fun b0 hb0 w1 h1 => (farms_k w1).mono fun v w2 ⟨e2, hv⟩ => ⟨e2, true, hv, fun h => (by cases h), fun _ w4 x4' => ?_⟩
  have h4 := extB_ext x4'
  refine (hplay w4 h4).mono fun v w5 ⟨e5, f, hv, hnone, hsome⟩ => ⟨e5, f, hv, fun _ w7 h7 => ⟨rfl, (h4.trans e5).trans h7⟩, fun hgood w7 x7 => ?_⟩
  have hok : okn := by
    by_cases h : okn
    · exact h
    · exact absurd (hnone.2 h) hgood.1
  obtain ⟨B, fb, P, F, rfl, hB, hB', x5, hF⟩ := hsome hok
  obtain ⟨_, _, I⟩ := hPl F hF
  have h7 := extB_ext x7
  refine (Jobs_k (x5.ext h7)).mono fun v w8 ⟨e8, pj, cj, R, hv, hR, J⟩ => ⟨e8, pj, _, cj, hv, ?_⟩
  have hRl := row_len hR
  have hW8 := ((h4.trans e5).trans h7).trans e8
  have hl0 := x5.jO.1
  refine ⟨fun k w' => w' = w8 ∧ 0 ≤ k ∧ k ≤ R.length, fun k _ => (R.length - k).toNat, ⟨rfl, by omega, by omega⟩, ?_⟩
  rintro k w ⟨rfl, hk0, hk1⟩
  refine ⟨fun hlt => ?_, fun hge w15 h15 => ⟨rfl, hW8.trans h15⟩⟩
  obtain ⟨r, hr, n1, n2, g, hJ⟩ := J.st hk0 hlt
  obtain ⟨hkl, hja⟩ := row_at hR hr
  refine ⟨n1, hk0, hlt, n2, _, g 0 _ rfl, _, g 1 _ rfl, _, g 2 _ rfl, _, g 3 _ rfl, _, g 4 _ rfl, _, g 5 _ rfl, _, g 6 _ rfl, _, g 7 _ rfl, _, g 8 _ rfl, _, _, _, g 9 _ rfl, _, _, _, g 10 _ rfl, _, g 11 _ rfl, _, g 12 _ rfl, _, g 13 _ rfl, _, g 14 _ rfl, _, g 15 _ rfl, fun b35 hb35 => ?_⟩
  have haf : r.s.job.aft.length ≤ 8 := by
    have := (x5.jO.2 _ (List.mem_of_getElem? (jobAt_some hkl))).1.len
    rw [hja] at this
    exact this
  refine ⟨fun j w' => w' = w ∧ 0 ≤ j ∧ j ≤ r.s.job.aft.length, fun j _ => (r.s.job.aft.length - j).toNat, ⟨rfl, by omega, by omega⟩, ?_⟩
  rintro j w ⟨rfl, hj0, hj1⟩
  refine ⟨fun hjl => ?_, fun hge => ⟨i64 (by omega), ⟨rfl, by omega, by omega⟩, by simp only []; omega⟩⟩
  have gj := Ints.idx hJ.2 hj0 hjl
  have hy : r.s.job.aft.getD j.toNat 0 ∈ (jobAt F k.toNat).job.aft := by rw [hja]; exact getD_mem _ 0 (by omega)
  generalize hyv : r.s.job.aft.getD j.toNat 0 = y at gj hy
  have hle := I.i0.aft k.toNat hkl y hy
  refine ⟨fun hq => cell_p gj (pIdx_none.2 hq), hj0, hjl, y, gj, fun hbad => by omega, fun hgd => ⟨i64 (by omega), n1, by omega, by omega, ?_⟩⟩
  obtain ⟨r2, hr2, _, n3, g2, _⟩ := J.st (k := y - 1) (by omega) (by omega)
  obtain ⟨hkl2, hja2⟩ := row_at hR hr2
  have h11 : whatAt F y = r2.s.what := by rw [whatAt_job, hja2]
  refine ⟨n3, r2.s.what, by rw [cell_pAdd]; exact g2 11 _ rfl, fun hbad => ?_, fun _ => ⟨i64 (by omega), ⟨rfl, by omega, by omega⟩, by simp only []; omega⟩⟩
  exfalso
  rcases hbad with ⟨ha, hb⟩ | ⟨ha, hb⟩
  · have := I.i0.ahead k.toNat hkl (by rw [hja]; exact ha) y hy
    exact hb (h11 ▸ this)
  · have := I.wt k.toNat hkl (by rw [hja]; exact ha) y hy
    rw [h11] at this
    omega

theorem core_FarmTries (W : World) : ∀ x_0 : Option Addr, ∀ x_0l : Nat, ∀ x_0c : Nat, SlcArg Try.prog W T_Host x_0 x_0l x_0c → ∀ x_1 : Int, InR .i64 x_1 → ∀ x_2 : Int, InR .i64 x_2 → ∀ x_3 : Int, InR .i64 x_3 → ∀ x_4 : Int, InR .i64 x_4 → ∀ l : Option Addr, ∀ ll : Nat, ∀ lc : Nat, SlcArg Try.prog W T_Event l ll lc →
    FnP Try.prog F_shiftbellkeep_FarmTries #[(.agg #[(.slice x_0 x_0l x_0c), (.int .i64 x_1), (.int .i64 x_2), (.int .i64 x_3), (.int .i64 x_4)]), (.slice l ll lc)] W fun v W' => v = .bool true ∧ Ext W W' := by
  intro p hln c hl x1 _ x2 _ x3 _ x4 _ q el d hq
  obtain ⟨okn, Pl, hPl, _, hplay⟩ := played_args hl x1 x2 x3 x4 hq
  refine ok_shiftbellkeep_FarmTries p hln c x1 x2 x3 x4 q el d W _ fun b0 hb0 w1 h1 => (farms_k w1).mono fun v w2 ⟨e2, hv⟩ => ⟨e2, true, hv, fun h => (by cases h), fun _ w4 x4' => ?_⟩
  have h4 := extB_ext x4'
  refine (hplay w4 h4).mono fun v w5 ⟨e5, f, hv, hnone, hsome⟩ => ⟨e5, f, hv, fun _ w7 h7 => ⟨rfl, (h4.trans e5).trans h7⟩, fun hgood w7 x7 => ?_⟩
  have hok : okn := by
    by_cases h : okn
    · exact h
    · exact absurd (hnone.2 h) hgood.1
  obtain ⟨B, fb, P, F, rfl, hB, hB', x5, hF⟩ := hsome hok
  obtain ⟨hpol, _, I⟩ := hPl F hF
  have hpp := I.i0.pol
  have hto := I.i0.tries
  rw [hpol] at hpp hto
  have h50 : 0 ≤ x4 ∧ x4 ≤ 50 := by unfold okPol okP at hpp; simp only at hpp; omega
  have h7 := extB_ext x7
  refine (Jobs_k (x5.ext h7)).mono fun v w8 ⟨e8, pj, cj, R, hv, hR, J⟩ => ⟨e8, pj, _, cj, hv, ?_⟩
  have hRl := row_len hR
  have hW8 := ((h4.trans e5).trans h7).trans e8
  have hl0 := x5.jO.1
  refine ⟨fun k w' => w' = w8 ∧ 0 ≤ k ∧ k ≤ R.length, fun k _ => (R.length - k).toNat, ⟨rfl, by omega, by omega⟩, ?_⟩
  rintro k w ⟨rfl, hk0, hk1⟩
  refine ⟨fun hlt => ?_, fun hge w15 h15 => ⟨rfl, hW8.trans h15⟩⟩
  obtain ⟨r, hr, n1, n2, g, hJ⟩ := J.st hk0 hlt
  obtain ⟨hkl, hja⟩ := row_at hR hr
  have ht := hto k.toNat hkl
  rw [hja] at ht
  obtain ⟨t1, t2, t3, t4, t5⟩ := ht
  simp only at t2 t3 t4
  have nxt : InR .i64 (k + 1) ∧ ((w = w ∧ 0 ≤ k + 1 ∧ k + 1 ≤ R.length) ∧ (R.length - (k + 1)).toNat < (R.length - k).toNat) := ⟨i64 (by omega), ⟨rfl, by omega, by omega⟩, by omega⟩
  refine ⟨n1, hk0, hlt, n2, _, g 0 _ rfl, _, g 1 _ rfl, _, g 2 _ rfl, _, g 3 _ rfl, _, g 4 _ rfl, _, g 5 _ rfl, _, g 6 _ rfl, _, g 7 _ rfl, _, g 8 _ rfl, _, _, _, g 9 _ rfl, _, _, _, g 10 _ rfl, _, g 11 _ rfl, _, g 12 _ rfl, _, g 13 _ rfl, _, g 14 _ rfl, _, g 15 _ rfl, fun b35 hb35 => ⟨i64 (by omega), fun _ _ => i64 (by omega), fun hbad => by omega, fun _ => ⟨fun hw w36 h36 => ?_, fun _ => nxt⟩⟩⟩
  refine (delay_k x1 x2 x3 x4 r.s.tries (i64 (by omega)) w36).mono fun v w37 ⟨e37, a, e, hv, herr, _, hd⟩ => ⟨e37, a, e, hv, fun hbad => ?_, fun _ => nxt⟩
  exfalso
  have he : e = 0 := herr.2.2 hpp ⟨by omega, by have := t4 (.inl hw.1); omega⟩
  have ha := hd he
  have := t5 hw.1 hw.2
  unfold delayP at this
  simp only at this
  omega
end Go.Proofs.Ytblafknmfblgfaa
