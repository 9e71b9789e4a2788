/- FarmPlan. -/
import Derived.Test.YtblafknmfblgfaaFaQ
import Derived.Test.YtblafknmfblgfaaTxtI
set_option linter.unusedVariables false
set_option linter.unusedSimpArgs false
namespace Go.Proofs.Ytblafknmfblgfaa
open Go.Sx Go.RowKit

/-! ### Hosts that have less and less -/
def HG (A B : List Ht) : Prop := B.length = A.length ∧ ∀ i, i < A.length → (B.getD i default).labels = (A.getD i default).labels ∧ (B.getD i default).has = (A.getD i default).has ∧ fitN (A.getD i default).used (B.getD i default).used
theorem HG.refl (A : List Ht) : HG A A := ⟨rfl, fun i _ => ⟨rfl, rfl, Int.le_refl _, Int.le_refl _, Int.le_refl _⟩⟩
theorem HG.trans {A B C : List Ht} (a : HG A B) (b : HG B C) : HG A C := ⟨b.1.trans a.1, fun i hi => by
  obtain ⟨a1, a2, a3⟩ := a.2 i hi
  obtain ⟨b1, b2, b3⟩ := b.2 i (by rw [a.1]; exact hi)
  refine ⟨b1.trans a1, b2.trans a2, ?_⟩
  unfold fitN at *
  omega⟩
theorem atH_same {h h' : Ht} (h1 : h'.labels = h.labels) (h2 : h'.has = h.has) : atH h' = atH h := by
  funext y
  unfold atH
  rw [h1, h2]
theorem HG.fits {A B : List Ht} (g : HG A B) (t : AT) (a : Nd) (h : fitsTo A t a A.length = []) : fitsTo B t a B.length = [] := by
  refine List.eq_nil_iff_forall_not_mem.2 fun x hx => ?_
  obtain ⟨h0, h1, h2⟩ := mem_fits.1 hx
  rw [g.1] at h1
  obtain ⟨g1, g2, g3⟩ := g.2 x.toNat (by omega)
  have : x ∈ fitsTo A t a A.length := by
    refine mem_fits.2 ⟨h0, h1, ?_⟩
    unfold fitI at h2 ⊢
    rw [Bool.and_eq_true, decide_eq_true_iff] at h2 ⊢
    rw [atH_same g1 g2, g2] at h2
    refine ⟨h2.1, ?_⟩
    have := h2.2
    unfold fitN subN at *
    simp only at *
    omega
  rw [h] at this
  cases this
theorem HG.run {F : Fm} {k0 : Nat} {k : Int} (h0 : 0 ≤ k) (h1 : k < F.hosts.length) (hn : okN (jobAt F k0).job.nd) : HG F.hosts (runF F k0 k).hosts := by
  rw [run_hosts]
  unfold takeF hostAt
  refine ⟨by simp, fun i hi => ?_⟩
  by_cases hki : k.toNat = i
  · subst hki
    simp only [getD_set_self F.hosts default _ hi]
    refine ⟨rfl, rfl, ?_⟩
    unfold okN at hn
    unfold fitN usedH addN
    simp only
    omega
  · rw [getD_set_ne F.hosts default _ hki]
    exact ⟨rfl, rfl, Int.le_refl _, Int.le_refl _, Int.le_refl _⟩

/-! ### What a plan has done -/
structure PEff (F G : Fm) (T : List Int) (outs : List (Int × Int)) : Prop where
  mem : ∀ p ∈ outs, p.1 ∈ T
  nd : (outs.map (·.1)).Nodup
  run : ∀ p ∈ outs, jobAt G (p.1 - 1).toNat = { jobAt F (p.1 - 1).toNat with what := 2, host := p.2, since := F.now }
  oth : ∀ i : Nat, (∀ p ∈ outs, (p.1 - 1).toNat ≠ i) → jobAt G i = jobAt F i
  now : G.now = F.now
  jobs : G.jobs.length = F.jobs.length
  hg : HG F.hosts G.hosts
  left : ∀ id ∈ T, (∀ p ∈ outs, p.1 ≠ id) → fitsJ G id = []
theorem PRun.eff {F G : Fm} {T : List Int} {outs : List (Int × Int)} (h : PRun F T G outs) : T.Nodup → (∀ id ∈ T, inJ F id) → (∀ k, k < F.jobs.length → okN (jobAt F k).job.nd) → PEff F G T outs := by
  induction h with
  | nil F => intro _ _ _; exact ⟨by simp, by simp, by simp, fun _ _ => rfl, rfl, rfl, HG.refl _, by simp⟩
  | @skip F F' id ids out h1 h2 ih =>
    intro hn hin hnd
    have e := ih (List.nodup_cons.1 hn).2 (fun x hx => hin x (List.mem_cons_of_mem _ hx)) hnd
    refine ⟨fun p hp => List.mem_cons_of_mem _ (e.mem p hp), e.nd, e.run, e.oth, e.now, e.jobs, e.hg, fun x hx hno => ?_⟩
    rcases List.mem_cons.1 hx with rfl | hx
    · have hj : jobAt F' (x - 1).toNat = jobAt F (x - 1).toNat := e.oth _ fun p hp hh => by
        have a := hin x (List.mem_cons_self ..)
        have b := hin p.1 (List.mem_cons_of_mem _ (e.mem p hp))
        exact hno p hp (by have := a.1; have := b.1; omega)
      unfold fitsJ at h1 ⊢
      rw [hj]
      exact e.hg.fits _ _ h1
    · exact e.left x hx hno
  | @run F F' id k ids out h1 h2 ih =>
    intro hn hin hnd
    have hid := hin id (List.mem_cons_self ..)
    have hk := inJ_lt hid
    have t := Turn.run (k := k) hk
    obtain ⟨f0, f1, _⟩ := best_fits h1
    have hne : ∀ x ∈ ids, x ≠ id := fun x hx h => (List.nodup_cons.1 hn).1 (h ▸ hx)
    have hin' : ∀ x ∈ ids, inJ (runF F (id - 1).toNat k) x := fun x hx => by
      have := hin x (List.mem_cons_of_mem _ hx)
      exact ⟨this.1, by rw [t.len]; exact this.2⟩
    have e := ih (List.nodup_cons.1 hn).2 hin' (fun i hi => by rw [t.jobs]; exact hnd i (by rw [t.len] at hi; exact hi))
    have hidx : ∀ x ∈ ids, (x - 1).toNat ≠ (id - 1).toNat := fun x hx h => by
      have a := (hin' x hx).1
      have b := hid.1
      exact hne x hx (by omega)
    refine ⟨fun p hp => ?_, ?_, fun p hp => ?_, fun i hi => ?_, e.now.trans t.now, e.jobs.trans t.len, (HG.run f0 f1 (hnd _ hk)).trans e.hg, fun x hx hno => ?_⟩
    · rcases List.mem_cons.1 hp with rfl | hp
      · exact List.mem_cons_self ..
      · exact List.mem_cons_of_mem _ (e.mem p hp)
    · rw [List.map_cons, List.nodup_cons]
      refine ⟨fun h => ?_, e.nd⟩
      obtain ⟨p, hp, he⟩ := List.mem_map.1 h
      exact hne _ (e.mem p hp) he
    · rcases List.mem_cons.1 hp with rfl | hp
      · rw [e.oth _ fun q hq => hidx _ (e.mem q hq), t.self]
      · rw [e.run p hp, t.other (hidx _ (e.mem p hp)), t.now]
    · rw [e.oth i fun p hp => hi p (List.mem_cons_of_mem _ hp)]
      exact t.other fun h => hi (id, k) (List.mem_cons_self ..) h.symm
    · rcases List.mem_cons.1 hx with rfl | hx
      · exact absurd rfl (hno (x, k) (List.mem_cons_self ..))
      · exact e.left x hx fun p hp => hno p (List.mem_cons_of_mem _ hp)
theorem PRun.skips {F G : Fm} {T : List Int} {outs : List (Int × Int)} (h : PRun F T G outs) : (∀ id ∈ T, fitsJ F id = []) → outs = [] := by
  induction h with
  | nil F => intro _; rfl
  | skip h1 _ ih => intro h; exact ih fun id hid => h id (List.mem_cons_of_mem _ hid)
  | run h1 _ _ =>
    intro h
    have := h _ (List.mem_cons_self ..)
    unfold fitsJ at this
    have hm := h1.1
    rw [this] at hm
    cases hm
theorem plan_again {F G G2 : Fm} {T : List Int} {outs outs2 : List (Int × Int)} (I : Inv F) (hT : IsOrd F T) (e : PEff F G T outs) (h : Planned G G2 outs2) : outs2 = [] := by
  obtain ⟨T2, h1, h2⟩ := h
  refine h2.skips fun id hid => ?_
  obtain ⟨hin, hr⟩ := ord_ready h1 id hid
  obtain ⟨r1, r2, r3⟩ := ready_iff.1 hr
  have hpos : ∀ p ∈ outs, 1 ≤ p.1 := fun p hp => (ord_ready hT _ (e.mem p hp)).1.1
  have hno : ∀ p ∈ outs, (p.1 - 1).toNat ≠ (id - 1).toNat := fun p hp he => by
    have := e.run p hp
    rw [he] at this
    rw [this] at r1
    simp at r1
  have hj := e.oth _ hno
  have hinF : inJ F id := ⟨hin.1, by rw [← e.jobs]; exact hin.2⟩
  rw [hj] at r1 r2 r3
  have hrF : readyB F (jobAt F (id - 1).toNat) = true := by
    refine ready_iff.2 ⟨r1, by rw [← e.now]; exact r2, fun y hy => ?_⟩
    have h3 := r3 y hy
    rw [whatAt_job] at h3 ⊢
    by_cases hy' : ∃ p ∈ outs, (p.1 - 1).toNat = (y - 1).toNat
    · obtain ⟨p, hp, he⟩ := hy'
      rw [← he, e.run p hp] at h3
      simp at h3
    · rw [e.oth _ fun p hp he => hy' ⟨p, hp, he⟩] at h3
      exact h3
  have hidT : id ∈ T := hT.1.mem_iff.2 (mem_rdyTo.2 ⟨hinF.1, hinF.2, hrF⟩)
  exact e.left id hidT fun p hp he => hno p hp (by rw [he])

/-! ### A set of numbers, as a map to true -/
def ISet (w : World) (r : Nat) (S : List Int) : Prop := ∃ m : List (Int × Value), MapIs enc64 w r m ∧ ∀ a, (a ∈ S ∧ mget m a = some (.bool true)) ∨ (a ∉ S ∧ mget m a = none)
theorem ISet.ext {w w' : World} {r : Nat} {S : List Int} (h : ISet w r S) (he : Ext w w') : ISet w' r S := by
  obtain ⟨m, h1, h2⟩ := h
  exact ⟨m, h1.ext he, h2⟩
theorem ISet.lt {w : World} {r : Nat} {S : List Int} (h : ISet w r S) : r < w.heap.size := by
  obtain ⟨m, h1, h2⟩ := h
  exact h1.lt
theorem iset_mk {w : World} {K : Value → World → Prop} (hk : ∀ w', ISet w' w.heap.size [] → Ext w w' → K (.map (some w.heap.size)) w') : Run Try.prog (.makeMap T_map_int_bool) w K :=
  run_makeMap (enc := enc64) fun w' h e => hk w' ⟨[], h, fun a => .inr ⟨by simp, rfl⟩⟩ e
theorem iset_look {w : World} {r : Nat} {S : List Int} (h : ISet w r S) (a : Int) {K : Value → World → Prop} (hk : ∀ b : Bool, (b = true ↔ a ∈ S) → K (.bool b) w) : Run Try.prog (.lookup T_map_int_bool (.map (some r)) (.int .i64 a) false) w K := by
  obtain ⟨m, h1, h2⟩ := h
  obtain ⟨i, hi, hz⟩ : ∃ i, Try.prog.info? T_bool = some i ∧ i.zero = some (.bool false) := by
    have : (Try.prog.info? T_bool).map (·.zero) = some (some (.bool false)) := by kernel_rfl
    obtain ⟨i, h1, h2⟩ := Option.map_eq_some_iff.1 this
    exact ⟨i, h1, h2⟩
  refine run_lookup (enc := enc64) kq (e := T_bool) (by kernel_rfl) hi hz h1 ?_
  rcases h2 a with ⟨h3, h4⟩ | ⟨h3, h4⟩
  · rw [h4]; exact hk true ⟨fun _ => h3, fun _ => rfl⟩
  · rw [h4]; exact hk false ⟨fun h => (by cases h), fun h => absurd h h3⟩
theorem iset_put {w : World} {r : Nat} {S : List Int} (h : ISet w r S) (a : Int) {K : Value → World → Prop} (hk : ∀ w', ISet w' r (S ++ [a]) → Grew w w' (some ⟨r, 0, none⟩) (some ⟨r, 0, none⟩) → K undef w') : Run Try.prog (.mapUpdate T_map_int_bool (.map (some r)) (.int .i64 a) (.bool true)) w K := by
  obtain ⟨m, h1, h2⟩ := h
  refine run_mapUpdate (enc := enc64) kq (e := T_bool) (by kernel_rfl) h1 fun w' h3 h4 => hk w' ⟨_, h3, fun b => ?_⟩ h4
  rw [mget_mset]
  by_cases hab : a = b
  · subst hab; exact .inl ⟨by simp, by simp⟩
  · have : b ≠ a := fun h => hab h.symm
    rw [if_neg hab]
    rcases h2 b with ⟨h5, h6⟩ | ⟨h5, h6⟩
    · exact .inl ⟨List.mem_append_left _ h5, h6⟩
    · exact .inr ⟨fun h => by rcases List.mem_append.1 h with h | h; exact h5 h; exact this (by simpa using h), h6⟩

theorem core_FarmPlan (W : World) : ∀ x_0 : Option Addr, ∀ x_0l : Nat, ∀ x_0c : Nat, SlcArg Try.prog W T_Host x_0 x_0l x_0c → ∀ x_1 : Int, InR .i64 x_1 → ∀ x_2 : Int, InR .i64 x_2 → ∀ x_3 : Int, InR .i64 x_3 → ∀ x_4 : Int, InR .i64 x_4 → ∀ l : Option Addr, ∀ ll : Nat, ∀ lc : Nat, SlcArg Try.prog W T_Event l ll lc →
    FnP Try.prog F_shiftbellkeep_FarmPlan #[(.agg #[(.slice x_0 x_0l x_0c), (.int .i64 x_1), (.int .i64 x_2), (.int .i64 x_3), (.int .i64 x_4)]), (.slice l ll lc)] W fun v W' => v = .bool true ∧ Ext W W' := by
  intro p hln c hl x1 _ x2 _ x3 _ x4 _ q el d hq
  obtain ⟨okn, Pl, hPl, _, hplay⟩ := played_args hl x1 x2 x3 x4 hq
  refine ok_shiftbellkeep_FarmPlan p hln c x1 x2 x3 x4 q el d W _ fun b0 hb0 w1 h1 => (farms_k w1).mono fun v w2 ⟨e2, hv⟩ => ⟨e2, true, hv, fun h => (by cases h), fun _ w4 x4' => ?_⟩
  have h4 := extB_ext x4'
  have lt4 := x4'.lt b0 (by simp)
  refine (hplay w4 h4).mono fun v w5 ⟨e5, f, hv, hnone, hsome⟩ => ⟨e5, f, hv, fun _ w7 h7 => ⟨rfl, (h4.trans e5).trans h7⟩, fun hgood w7 x7 => ?_⟩
  have hok : okn := by
    by_cases h : okn
    · exact h
    · exact absurd (hnone.2 h) hgood.1
  obtain ⟨B, fb, P, F, rfl, hB, hB', x5, hF⟩ := hsome hok
  obtain ⟨_, hhl, I⟩ := hPl F hF
  have h7 := extB_ext x7
  have hl0 := x5.jO.1
  have x7f := x5.ext h7
  have hft : ∀ b, ft fb P.jp b → w4.heap.size ≤ b ∧ b < w7.heap.size := fun b hb => ⟨Nat.le_trans hB (x7f.foot hb).1, (x7f.foot hb).2⟩
  have hs4 := h4.size
  refine (Jobs_k x7f).mono fun v w8 ⟨e8, pj, cj, R, hv, hR, J⟩ => ⟨e8, pj, _, cj, hv, fun w12 x12 => ?_⟩
  have h12 := extB_ext x12
  have hRl := row_len hR
  have hW12 := (((h4.trans e5).trans h7).trans e8).trans h12
  have x12f := (x7f.ext e8).ext h12
  have kp : ∀ {w9 w10 : World}, b0 < w9.heap.size → Fr (ft fb P.jp) w9 w10 → Kept [b0] w9 w10 := fun hlt f => f.kept fun b hb => by
    simp at hb; subst hb
    exact ⟨hlt, fun hf => by have := (hft b hf).1; omega⟩
  refine (plan_k x12f (aftOk_iff.2 I.i0.aft) I.i0.hs).mono fun v w13 ⟨G, outs, out, outc, P', hv, hpl, hhG, hjG, hP', x13, f13, o13, hol⟩ => ⟨kp (x12.lt b0 (by simp)) f13, out, _, outc, 0, hv, fun w18 x18 => ?_⟩
  have h18 := extB_ext x18
  have hft4 : ∀ b, ft fb P.jp b → W.heap.size ≤ b := fun b hb => by have := (hft b hb).1; omega
  have hW18 : Ext W w18 := (f13.ext hW12 hft4).trans h18
  have x18f := x13.ext h18
  have IG := plan_inv hpl I
  refine (Jobs_k x18f).mono fun v w19 ⟨e19, pk, ck, R2, hv, hR2, J2⟩ => ⟨e19, pk, _, ck, hv, fun w23 x23 => ?_⟩
  have h23 := extB_ext x23
  have hR2l := row_len hR2
  have hGl := len_of_job hjG
  obtain ⟨T, hT1, hT2⟩ := id hpl
  have eff := hT2.eff (ord_nodup hT1) (fun id hid => (ord_ready hT1 id hid).1) I.i0.nd
  have J23 : JRow w7.heap.size w23 pj cj R := (((J.ext h12).fr f13 fun b hb => (hft b hb).2).ext h18 |>.ext e19).ext h23
  have J223 := J2.ext h23
  have o23 := ((o13.ext h18).ext e19).ext h23
  have x23f := (x18f.ext e19).ext h23
  have hW23 := (hW18.trans e19).trans h23
  refine iset_mk fun w24 S24 e24 => ⟨e24, _, rfl, ?_⟩
  refine ⟨fun k w' => Ext w23 w' ∧ 0 ≤ k ∧ k ≤ outs.length ∧ ISet w' w23.heap.size ((outs.take k.toNat).map (·.1)), fun k _ => (outs.length - k).toNat, ⟨e24, by omega, by omega, S24⟩, ?_⟩
  rintro k w28 ⟨h28, hk0, hk1, S28⟩
  refine ⟨fun hlt => ?_, fun hge => ?_⟩
  · obtain ⟨y, hy⟩ : ∃ y, outs[k.toNat]? = some y := ⟨_, List.getElem?_eq_getElem (by omega)⟩
    obtain ⟨id, kk⟩ := y
    have hmem := List.mem_of_getElem? hy
    obtain ⟨hin, hrd⟩ := ord_ready hT1 id (eff.mem _ hmem)
    obtain ⟨r1, r2, _⟩ := ready_iff.1 hrd
    have hi1 := hin.1
    have hi2 := hin.2
    have hge : ∀ (m : Nat) u, (encO (id, kk))[m]? = some u → Go.Sx.cell w28 (pIdx out k 2) m = some u := fun m u hu => ((o23.ext h28).recs fun _ _ => rfl).at hk0 hy hu
    have g0 := hge 0 _ rfl
    obtain ⟨r, hr, n1, n2, g, _⟩ := (J23.ext h28).st (k := id - 1) (by omega) (by omega)
    obtain ⟨hkl, hja⟩ := row_at hR hr
    obtain ⟨ra, hra, m1, m2, ga, _⟩ := (J223.ext h28).st (k := id - 1) (by omega) (by omega)
    obtain ⟨hkl2, hja2⟩ := row_at hR2 hra
    have hGid := eff.run _ hmem
    have hGid : ra.s = { r.s with what := 2, host := kk, since := F.now } := by rw [← hja, ← hja2]; exact hGid
    rw [hja] at r1 r2
    have hidI : InR .i64 (id - 1) := i64 (by omega)
    have c11 : Go.Sx.cell w28 (pAdd (pIdx pk (id - 1) 16) 11) 0 = some (.int .i64 2) := by
      have := ga 11 _ rfl
      rw [cell_pAdd]
      rw [hGid] at this
      exact this
    have c12 : Go.Sx.cell w28 (pAdd (pIdx pk (id - 1) 16) 12) 0 = some (.int .i64 kk) := by
      have := ga 12 _ rfl
      rw [cell_pAdd]
      rw [hGid] at this
      exact this
    have c13 : Go.Sx.cell w28 (pAdd (pIdx pk (id - 1) 16) 13) 0 = some (.int .i64 F.now) := by
      have := ga 13 _ rfl
      rw [cell_pAdd]
      rw [hGid] at this
      exact this
    have hnot : id ∉ (outs.take k.toNat).map (·.1) := by
      rw [List.map_take]
      refine nodup_take eff.nd k.toNat ?_
      rw [List.getElem?_map, hy]; rfl
    refine ⟨fun h => cell_p g0 (pIdx_none.2 h), hk0, hlt, cell_p g0, id, g0, kk, hge 1 _ rfl, fun b31 hb31 => ⟨fun hbad => by omega, fun _ w32 h32 => ?_⟩⟩
    refine iset_look (S28.ext h32) id fun b hb => ⟨Ext.refl _, b, rfl, fun _ => hidI, fun _ => n1, fun _ => by omega, fun _ => by omega, fun _ => n2, fun h => absurd (hb.1 h) hnot, fun _ => ⟨r.s.what, by rw [cell_pAdd]; exact g 11 _ rfl, fun _ => hidI, fun _ => n1, fun _ => by omega, fun _ => by omega, fun _ => n2, fun h => absurd r1 h, fun _ => ⟨r.s.again, by rw [cell_pAdd]; exact g 14 _ rfl, fun w37 h37 => ?_⟩⟩⟩
    refine (now_k (x23f.ext (h28.trans h37))).mono fun v w38 ⟨e38, hv⟩ => ⟨e38, G.now, hv, fun _ => hidI, fun _ => m1, fun _ => by omega, fun _ => by omega, fun _ => m2, fun h => ?_, fun _ => ⟨2, c11, fun _ => hidI, fun _ => m1, fun _ => by omega, fun _ => by omega, fun _ => m2, fun h => absurd rfl h, fun _ => ⟨kk, c12, fun _ => hidI, fun _ => m1, fun _ => by omega, fun _ => by omega, fun _ => m2, fun h => absurd rfl h, fun _ => ⟨F.now, c13, fun w43 h43 => ?_⟩⟩⟩⟩
    · rw [eff.now] at h; omega
    refine (now_k (x23f.ext (h28.trans h43))).mono fun v w44 ⟨e44, hv⟩ => ⟨e44, G.now, hv, fun h => absurd eff.now.symm h, fun _ w46 x46 => ?_⟩
    have h46 := extB_ext x46
    have lt46 : ∀ b ∈ [b0, b31], b < w46.heap.size := x46.lt
    refine iset_put (S28.ext h46) id fun w47 S47 g47 => ⟨?_, i64 (by omega), ⟨?_, by omega, by omega, ?_⟩, by simp only []; omega⟩
    · have f47 : Fr (fun b => b = w23.heap.size) w46 w47 := fr_grew g47 fun a ha => by cases ha; rfl
      refine f47.kept fun b hb => ⟨lt46 b hb, fun h => ?_⟩
      have hl28 := S28.lt
      have hs23 : w4.heap.size ≤ w23.heap.size := by
        have a := e5.size; have b := h7.size; have c := e8.size; have d := h12.size; have e := f13.size; have f := h18.size; have g := e19.size; have h := h23.size
        omega
      simp at hb
      rcases hb with rfl | rfl <;> omega
    · have f47 : Fr (fun b => b = w23.heap.size) w46 w47 := fr_grew g47 fun a ha => by cases ha; rfl
      exact f47.ext (h28.trans h46) fun b hb => by subst hb; exact Nat.le_refl _
    · rw [show (k + 1).toNat = k.toNat + 1 by omega, List.take_add_one, hy, List.map_append]
      exact S47
  · have htake : outs.take k.toNat = outs := List.take_of_length_le (by omega)
    rw [htake] at S28
    have hcj := J.own.le.1
    have hck := J2.own.le.1
    refine ⟨fun k w' => Ext w28 w' ∧ 0 ≤ k ∧ k ≤ R.length, fun k _ => (R.length - k).toNat, ⟨Ext.refl _, by omega, by omega⟩, ?_⟩
    rintro i w31 ⟨h31, hi0, hi1⟩
    refine ⟨fun hlt => ⟨i64 (by omega), fun w32 h32 => ?_⟩, fun hge' w32 x32 => ?_⟩
    · have hiI : InR .i64 (i + 1) := i64 (by omega)
      have nxt : InR .i64 (i + 1) ∧ ((Ext w28 w31 ∧ 0 ≤ i + 1 ∧ i + 1 ≤ R.length) ∧ (R.length - (i + 1)).toNat < (R.length - i).toNat) := ⟨hiI, ⟨h31, by omega, by omega⟩, by omega⟩
      refine iset_look (S28.ext (h31.trans h32)) (i + 1) fun b hb => ⟨Ext.refl _, b, rfl, fun _ => hiI, fun _ => hi0, fun _ => by omega, fun _ => by omega, fun _ => hiI, fun _ => hi0, fun _ => by omega, fun _ => by omega, fun hbf w35 h35 => ?_, fun _ => nxt⟩
      have hh := (h28.trans h31).trans h35
      obtain ⟨r, hr, n1, n2, g, hJr⟩ := (J23.ext hh).st hi0 hlt
      obtain ⟨ra, hra, m1, m2, ga, hJa⟩ := (J223.ext hh).st (k := i) hi0 (by omega)
      obtain ⟨hkl, hja⟩ := row_at hR hr
      obtain ⟨hkl2, hja2⟩ := row_at hR2 hra
      have he : r.s = ra.s := by
        rw [← hja, ← hja2]
        refine (eff.oth _ fun p hp hpi => ?_).symm
        have hpos := (ord_ready hT1 _ (eff.mem p hp)).1.1
        have : i + 1 ∈ outs.map (·.1) := List.mem_map.2 ⟨p, hp, by omega⟩
        have := hb.2 this
        rw [hbf] at this; cases this
      rw [show ((i + 1) - i).toNat = 1 by omega]
      refine (EqualS_k (pCut pj cj i 16) (cj - i.toNat) (pCut pk ck i 16) (ck - i.toNat) [r] [ra] (by simp) (by simp [he]) w35 (Recs.one' (((J23.own.ext hh).recs fun _ _ => rfl)) hi0 hr hcj) (Recs.one' (((J223.own.ext hh).recs fun _ _ => rfl)) hi0 hra hck) (fun z hz => ?_) (fun z hz => ?_)).mono fun v w36 ⟨e36, hv⟩ => ⟨e36, true, hv, fun h => (by cases h), fun _ => nxt⟩
      · simp at hz; subst hz
        exact ⟨(row_wf x5 hR z (List.mem_of_getElem? hr)).2, hJr⟩
      · simp at hz; subst hz
        exact hJa
    · have h32 := extB_ext x32
      have x32f := x23f.ext ((h28.trans h31).trans h32)
      refine (plan_k x32f (aftOk_iff.2 IG.i0.aft) hhG).mono fun v w33 ⟨G2, outs2, out2, outc2, P2, hv, hpl2, _, _, _, x33, f33, o33, _⟩ => ⟨?_, out2, _, outc2, 0, hv, fun w38 x38 => ?_⟩
      · rw [hP'] at f33
        exact kp (x32.lt b0 (by simp)) f33
      have hnil := plan_again I hT1 eff hpl2
      subst hnil
      rw [hP'] at f33
      have hW33 : Ext W w33 := f33.ext (((hW23.trans h28).trans h31).trans h32) hft4
      exact good_lit (n := 2) [0, 0] rfl rfl (by omega) (by omega) (fun w39 e39 w46 h46 => ⟨by simp, (hW33.trans e39).trans h46⟩) w38 (extB_ext x38)
end Go.Proofs.Ytblafknmfblgfaa
