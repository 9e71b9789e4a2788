/- FarmStays. -/
import Derived.Test.YtblafknmfblgfaaFaQ
set_option linter.unusedVariables false
set_option linter.unusedSimpArgs false
namespace Go.Proofs.Ytblafknmfblgfaa
open Go.Sx Go.RowKit

structure Stays (F G : Fm) : Prop where
  len : F.jobs.length ≤ G.jobs.length
  now : F.now ≤ G.now
  job : ∀ k, k < F.jobs.length → (jobAt G k).job = (jobAt F k).job
  end_ : ∀ k, k < F.jobs.length → 3 ≤ (jobAt F k).what → jobAt G k = jobAt F k
  tries : ∀ k, k < F.jobs.length → (jobAt F k).tries ≤ (jobAt G k).tries
theorem Stays.refl (F : Fm) : Stays F F := ⟨Nat.le_refl _, Int.le_refl _, fun _ _ => rfl, fun _ _ _ => rfl, fun _ _ => Int.le_refl _⟩
theorem Stays.trans {F G H : Fm} (a : Stays F G) (b : Stays G H) : Stays F H :=
  ⟨Nat.le_trans a.len b.len, Int.le_trans a.now b.now, fun k hk => (b.job k (Nat.lt_of_lt_of_le hk a.len)).trans (a.job k hk), fun k hk h => (b.end_ k (Nat.lt_of_lt_of_le hk a.len) (by rw [a.end_ k hk h]; exact h)).trans (a.end_ k hk h), fun k hk => Int.le_trans (a.tries k hk) (b.tries k (Nat.lt_of_lt_of_le hk a.len))⟩
theorem stays_turn {F G : Fm} {k : Nat} {s : St} (t : Turn F G k s) (h : ¬ 3 ≤ (jobAt F k).what) (ht : (jobAt F k).tries ≤ s.tries) : Stays F G := by
  refine ⟨by rw [t.len]; exact Nat.le_refl _, by rw [t.now]; exact Int.le_refl _, fun i _ => t.jobs i, fun i _ hw => ?_, fun i _ => ?_⟩
  · by_cases hik : i = k
    · subst hik; exact absurd hw h
    · exact t.other hik
  · rw [t.at_]
    split
    · rename_i h; rw [h]; exact ht
    · exact Int.le_refl _
theorem stays_lost (F : Fm) : Stays F (lostF F) := by
  have h : ∀ n, n ≤ F.jobs.length → Stays F (lostTo F n) := by
    intro n
    induction n with
    | zero => intro _; exact Stays.refl F
    | succ n ih =>
      intro hn
      refine (ih (by omega)).trans ?_
      show Stays _ (lostStep (lostTo F n) n)
      unfold lostStep
      split
      · rename_i h
        exact stays_turn (Turn.st _ (m := 11) 5 (by rw [lostTo_len]; omega)) (by omega) (by simp [setS])
      · exact Stays.refl _
  exact h _ (Nat.le_refl _)
theorem did_stays {F G : Fm} {x : Ev} (h : Did F x G) : Stays F G := by
  rcases h with ⟨_, rfl⟩ | ⟨hc, h⟩
  · exact Stays.refl _
  obtain ⟨hE, c1, c2, c4, c5⟩ := hc
  rcases h with ⟨a, rfl⟩ | ⟨a, rfl⟩ | ⟨a, o, h⟩ | ⟨a, rfl⟩ | ⟨a, rfl⟩
  · have e : ∀ k, k < F.jobs.length → jobAt (subF F x.job) k = jobAt F k := fun k hk => by rw [sub_at, if_pos hk]
    exact ⟨by rw [sub_len]; omega, Int.le_refl _, fun k hk => by rw [e k hk], fun k hk _ => e k hk, fun k hk => by rw [e k hk]; exact Int.le_refl _⟩
  · have := c2 a
    exact ⟨Nat.le_refl _, by show F.now ≤ F.now + x.n; omega, fun _ _ => rfl, fun _ _ _ => rfl, fun _ _ => Int.le_refl _⟩
  · refine plan_ind (Mot := fun G => Stays F G) (fun F' id k hin hr hb m => m.trans ?_) h (Stays.refl _)
    obtain ⟨r1, _⟩ := ready_iff.1 hr
    exact stays_turn (Turn.run (k := k) (inJ_lt hin)) (by omega) (by simp)
  · have h4 := c4 a
    have hk := inJ_lt h4.1
    have tl := Turn.left hk
    unfold repF
    split
    · exact stays_turn (tl.then_ hk 11 3) (by omega) (by simp [setS])
    have tt : Turn F (triedF F (x.id - 1).toNat) (x.id - 1).toNat _ := tl.then_ hk 15 ((jobAt F (x.id - 1).toNat).tries + 1)
    split
    · exact stays_turn ((tt.then_ hk 11 1).then_ hk 14 _) (by omega) (by simp [setS]; omega)
    · exact (stays_turn (tt.then_ hk 11 4) (by omega) (by simp [setS]; omega)).trans (stays_lost _)
  · have h5 := c5 a
    have hk := inJ_lt h5.1
    unfold canF
    refine Stays.trans ?_ (stays_lost _)
    split
    · exact stays_turn ((Turn.left hk).then_ hk 11 5) (by omega) (by simp [setS])
    · exact stays_turn (Turn.st F (m := 11) 5 hk) (by omega) (by simp [setS])

theorem core_FarmStays (W : World) : ∀ x_0 : Option Addr, ∀ x_0l : Nat, ∀ x_0c : Nat, SlcArg Try.prog W T_Host x_0 x_0l x_0c → ∀ x_1 : Int, InR .i64 x_1 → ∀ x_2 : Int, InR .i64 x_2 → ∀ x_3 : Int, InR .i64 x_3 → ∀ x_4 : Int, InR .i64 x_4 → ∀ l : Option Addr, ∀ ll : Nat, ∀ lc : Nat, SlcArg Try.prog W T_Event l ll lc → ∀ m : Option Addr, ∀ ml : Nat, ∀ mc : Nat, SlcArg Try.prog W T_Event m ml mc → ll * 176 ≤ 140737488351232 → ml * 176 ≤ 140737488351232 →
    FnP Try.prog F_shiftbellkeep_FarmStays #[(.agg #[(.slice x_0 x_0l x_0c), (.int .i64 x_1), (.int .i64 x_2), (.int .i64 x_3), (.int .i64 x_4)]), (.slice l ll lc), (.slice m ml mc)] W fun v W' => v = .bool true ∧ Ext W W' := by
  intro p hln c hl x1 _ x2 _ x3 _ x4 _ q el d hq m ml mc hm hz1 hz2
  have hlm := hm.max
  have hll := hm.le
  have hlq := hq.max
  have hllq := hq.le
  obtain ⟨okn, Pl, hPl, _, hplay⟩ := played_args hl x1 x2 x3 x4 hq
  obtain ⟨E, rfl, hE, hEw⟩ := evs_arg hm
  refine ok_shiftbellkeep_FarmStays p hln c x1 x2 x3 x4 q el d m E.length mc W _ fun b0 hb0 w1 h1 => (farms_k w1).mono fun v w2 ⟨e2, hv⟩ => ⟨e2, true, hv, fun h => (by cases h), fun _ w4 x4' => ?_⟩
  have h4 := extB_ext x4'
  have lt4 := x4'.lt b0 (by simp)
  refine (hplay w4 h4).mono fun v w5 ⟨e5, f, hv, hnone, hsome⟩ => ⟨e5, f, hv, fun _ => ?_, fun _ w7 h7 => ⟨rfl, (h4.trans e5).trans h7⟩, fun hgood w7 x7 => ?_⟩
  · exact i64 (by omega)
  have hok : okn := by
    by_cases h : okn
    · exact h
    · exact absurd (hnone.2 h) hgood.1
  obtain ⟨B, fb, P, F, rfl, hB, hB', x5, hF⟩ := hsome hok
  obtain ⟨_, hhl, I⟩ := hPl F hF
  have h7 := extB_ext x7
  have hl0 := x5.jO.1
  have x7f := x5.ext h7
  have hft : ∀ b, ft fb P.jp b → w4.heap.size ≤ b ∧ b < w7.heap.size := fun b hb => ⟨Nat.le_trans hB (x7f.foot hb).1, (x7f.foot hb).2⟩
  have hs4 := h4.size
  refine (Jobs_k x7f).mono fun v w8 ⟨e8, pj, cj, R, hv, hR, J⟩ => ⟨e8, pj, _, cj, hv, fun w12 h12 => ?_⟩
  have hRl := row_len hR
  have hW8 := ((h4.trans e5).trans h7).trans e8
  have hB8 : B ≤ w8.heap.size := Nat.le_trans hB' (Nat.le_trans h7.size e8.size)
  refine (now_k (x7f.ext (e8.trans h12))).mono fun v w13 ⟨e13, hv⟩ => ⟨e13, F.now, hv, ?_⟩
  refine ⟨fun k w' => 0 ≤ k ∧ k ≤ E.length ∧ Fr (ft fb P.jp) w8 w' ∧ ∃ P' F', FX B w' fb P' F' ∧ grows w8 fb P.jp P'.jp ∧ Inv F' ∧ Stays F F', fun k _ => (E.length - k).toNat, ⟨by omega, by omega, Fr.refl _ _, P, F, x7f.ext e8, fun b hb => .inl hb, I, Stays.refl F⟩, ?_⟩
  rintro k w17 ⟨hk0, hk1, f17, P', F', x17, hgr, I', hst⟩
  have hW17 : Ext W w17 := f17.ext hW8 fun b hb => by have := (hft b hb).1; omega
  have hs17 := f17.size
  refine ⟨fun hlt => ?_, fun hge w18 x18 => ?_⟩
  · obtain ⟨r, hr⟩ : ∃ r, E[k.toNat]? = some r := ⟨_, List.getElem?_eq_getElem (by omega)⟩
    have g : ∀ (j : Nat) u, (encR r)[j]? = some u → Go.Sx.cell w17 (pIdx m k 15) j = some u := fun j u hu => ext_cell hW17 (hE.at hk0 hr hu)
    have g0 := g 0 _ rfl
    obtain ⟨hW, hJ⟩ := hEw r (List.mem_of_getElem? hr)
    refine ⟨fun h => cell_p g0 (pIdx_none.2 h), hk0, hlt, cell_p g0, _, g 0 _ rfl, _, g 1 _ rfl, _, g 2 _ rfl, _, g 3 _ rfl, _, g 4 _ rfl, _, g 5 _ rfl, _, g 6 _ rfl, _, g 7 _ rfl, _, g 8 _ rfl, _, g 9 _ rfl, _, _, _, g 10 _ rfl, _, _, _, g 11 _ rfl, _, g 12 _ rfl, _, g 13 _ rfl, _, g 14 _ rfl, fun b37 hb37 w38 x38 => ?_⟩
    have h38 := extB_ext x38
    have hs38 := h38.size
    refine (Do_k (x17.ext h38) I'.i0.pre I'.i0.hs r.x r.pa r.ca r.pf r.cf (hJ.ext (hW17.trans h38)) hW (by omega)).mono fun v w39 ⟨e, P2, F2, hv, _, hd, x39, f39, g39⟩ => ⟨f39.kept fun b hb => ?_, e, hv, i64 (by omega), ⟨by omega, by omega, (f17.tr (fr_ext h38)).trans f39 fun b hb => ?_, P2, F2, x39, fun b hb => ?_, did_inv hd I', hst.trans (did_stays hd)⟩, by simp only []; omega⟩
    · refine ⟨x38.lt b hb, fun hf => ?_⟩
      have := x17.foot hf
      simp at hb
      rcases hb with rfl | rfl <;> omega
    · exact hgr b hb
    · rcases g39 b hb with h | h
      · exact hgr b h
      · exact .inr (by omega)
  have h18 := extB_ext x18
  have x18f := x17.ext h18
  have f18 := f17.tr (fr_ext h18)
  have hW18 := hW17.trans h18
  refine (Jobs_k x18f).mono fun v w19 ⟨e19, pk, ck, R2, hv, hR2, J2⟩ => ⟨e19, pk, _, ck, hv, fun hbad => ?_, fun hgd w23 h23 => ?_⟩
  · have := row_len hR2
    have := hst.len
    omega
  have hR2l := row_len hR2
  have hW19 := hW18.trans e19
  have J19 : JRow w7.heap.size w19 pj cj R := (J.fr f18 fun b hb => (hft b hb).2).ext e19
  refine (now_k (x18f.ext (e19.trans h23))).mono fun v w24 ⟨e24, hv⟩ => ⟨e24, F'.now, hv, fun hbad => ?_, fun _ => ?_⟩
  · have := hst.now
    omega
  have hcj := J.own.le.1
  have hck := J2.own.le.1
  have hl2 := x18f.jO.1
  refine ⟨fun k w' => w' = w19 ∧ 0 ≤ k ∧ k ≤ R.length, fun k _ => (R.length - k).toNat, ⟨rfl, by omega, by omega⟩, ?_⟩
  rintro k w28 ⟨rfl, hk0, hk1⟩
  refine ⟨fun hlt => ?_, fun hge w29 h29 => ⟨rfl, hW19.trans h29⟩⟩
  obtain ⟨r, hr, n1, n2, g, hJ⟩ := J19.st hk0 hlt
  obtain ⟨r2, hr2, m1, m2, g2, hJ2⟩ := J2.st (k := k) hk0 (by omega)
  obtain ⟨hkl, hja⟩ := row_at hR hr
  obtain ⟨hkl2, hja2⟩ := row_at hR2 hr2
  have hWf := row_wf x5 hR r (List.mem_of_getElem? hr)
  have hjob : r2.s.job = r.s.job := by rw [← hja, ← hja2]; exact hst.job _ hkl
  have hend : 3 ≤ r.s.what → r2.s = r.s := fun h => by rw [← hja, ← hja2]; exact hst.end_ _ hkl (by rw [hja]; exact h)
  have htr : r.s.tries ≤ r2.s.tries := by rw [← hja, ← hja2]; exact hst.tries _ hkl
  have hcut : ((k + 1) - k).toNat = 1 := by omega
  have hi : InR .i64 (k + 1) := i64 (by omega)
  have nxt : InR .i64 (k + 1) ∧ ((w28 = w28 ∧ 0 ≤ k + 1 ∧ k + 1 ≤ R.length) ∧ (R.length - (k + 1)).toNat < (R.length - k).toNat) := ⟨hi, ⟨rfl, by omega, by omega⟩, by omega⟩
  have g0 : ∀ (j : Nat) u, (encS r2)[j]? = some u → Go.Sx.cell w28 (pAdd (pIdx pk k 16) 0) j = some u := fun j u hu => by rw [pAdd_zero]; exact g2 j u hu
  have m3 : pAdd (pIdx pk k 16) 0 ≠ none := by rw [pAdd_zero]; exact m2
  have same : ∀ w65, Ext w28 w65 → FnP Try.prog F_shiftbellkeep_sameJob #[jv r.s.job r.pa r.ca r.pf r.cf, jv r2.s.job r2.pa r2.ca r2.pf r2.cf] w65 fun v w' => Ext w65 w' ∧ v = .bool true := fun w65 h65 => by
    rw [hjob] at hJ2 ⊢
    exact sameJ_k r.s.job r.pa r.ca r.pf r.cf r2.pa r2.ca r2.pf r2.cf w65 (hJ.ext h65) (hJ2.ext h65) hWf.2
  refine ⟨n1, hk0, hlt, n2, _, g 0 _ rfl, _, g 1 _ rfl, _, g 2 _ rfl, _, g 3 _ rfl, _, g 4 _ rfl, _, g 5 _ rfl, _, g 6 _ rfl, _, g 7 _ rfl, _, g 8 _ rfl, _, _, _, g 9 _ rfl, _, _, _, g 10 _ rfl, _, g 11 _ rfl, _, g 12 _ rfl, _, g 13 _ rfl, _, g 14 _ rfl, _, g 15 _ rfl, fun b49 hb49 => ⟨fun _ => hi, fun _ => hk0, fun _ => by omega, fun _ => by omega, fun _ => hi, fun _ => hk0, fun _ => by omega, fun _ => by omega, fun hw w50 h50 => ?_, fun hw => ?_⟩⟩
  · rw [hcut]
    have he := hend hw
    refine (EqualS_k (pCut pk ck k 16) (ck - k.toNat) (pCut pj cj k 16) (cj - k.toNat) [r2] [r] (by simp) (by simp [he]) w50 (Recs.one' (((J2.own.ext h50).recs fun _ _ => rfl)) hk0 hr2 hck) (Recs.one' (((J19.own.ext h50).recs fun _ _ => rfl)) hk0 hr hcj) (fun z hz => ?_) (fun z hz => ?_)).mono fun v w51 ⟨e51, hv⟩ => ⟨e51, true, hv, fun _ => m1, fun _ => hk0, fun _ => by omega, fun _ => m2, fun h => (by cases h), fun _ => ⟨m3, _, g0 0 _ rfl, _, g0 1 _ rfl, _, g0 2 _ rfl, _, g0 3 _ rfl, _, g0 4 _ rfl, _, g0 5 _ rfl, _, g0 6 _ rfl, _, g0 7 _ rfl, _, g0 8 _ rfl, _, _, _, g0 9 _ rfl, _, _, _, g0 10 _ rfl, fun w68 h68 => ?_⟩⟩
    · simp at hz; subst hz
      exact ⟨by rw [hjob]; exact hWf.2, hJ2.ext h50⟩
    · simp at hz; subst hz
      exact hJ.ext h50
    · exact (same w68 h68).mono fun v w69 ⟨e69, hv⟩ => ⟨e69, true, hv, fun _ => m1, fun _ => hk0, fun _ => by omega, fun _ => m2, fun h => (by cases h), fun _ => ⟨r2.s.tries, by rw [cell_pAdd]; exact g2 15 _ rfl, fun hbad => by omega, fun _ => nxt⟩⟩
  · refine ⟨m1, hk0, by omega, m2, m3, _, g0 0 _ rfl, _, g0 1 _ rfl, _, g0 2 _ rfl, _, g0 3 _ rfl, _, g0 4 _ rfl, _, g0 5 _ rfl, _, g0 6 _ rfl, _, g0 7 _ rfl, _, g0 8 _ rfl, _, _, _, g0 9 _ rfl, _, _, _, g0 10 _ rfl, fun w65 h65 => ?_⟩
    exact (same w65 h65).mono fun v w69 ⟨e69, hv⟩ => ⟨e69, true, hv, fun _ => m1, fun _ => hk0, fun _ => by omega, fun _ => m2, fun h => (by cases h), fun _ => ⟨r2.s.tries, by rw [cell_pAdd]; exact g2 15 _ rfl, fun hbad => by omega, fun _ => nxt⟩⟩
end Go.Proofs.Ytblafknmfblgfaa
