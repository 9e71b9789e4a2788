/- FarmFirst. -/
import Derived.Test.YtblafknmfblgfaaFaN
set_option linter.unusedVariables false
set_option linter.unusedSimpArgs false
namespace Go.Proofs.Ytblafknmfblgfaa
open Go.Sx Go.RowKit

theorem lbB_size {s : ByteArray} (h : lbB s = true) : s.size ≤ 20 := by
  unfold lbB at h
  simp only [Bool.and_eq_true, decide_eq_true_eq] at h
  exact h.1.1.1.2
theorem ht_ok {L : List Ht} (h : okHs L) : ∀ x ∈ L, HtOk x := fun x hx => by
  obtain ⟨a, b, c, _⟩ := h.2.1 x hx
  have := lbB_size a
  exact ⟨by omega, by omega, fun l hl => by
    have h1 := lbB_size (c.1 l hl).1
    have h2 := lbB_size (c.1 l hl).2
    omega⟩
theorem PRun.uncons {F G : Fm} {ids : List Int} {o : List (Int × Int)} (h : PRun F ids G o) : ∀ {id k : Int} {out : List (Int × Int)}, o = (id, k) :: out → ∃ pre T, ids = pre ++ id :: T ∧ BestIs F.hosts (jobAt F (id - 1).toNat).job.ask (jobAt F (id - 1).toNat).job.nd k ∧ PRun (runF F (id - 1).toNat k) T G out := by
  induction h with
  | nil F => intro id k out h; cases h
  | @skip F F' i ids out' h1 h2 ih =>
    intro id k out h
    obtain ⟨pre, T, e, a, b⟩ := ih h
    exact ⟨i :: pre, T, by rw [e]; rfl, a, b⟩
  | run h1 h2 ih =>
    intro id k out h
    cases h
    exact ⟨[], _, rfl, h1, h2⟩
theorem PRun.none {F G : Fm} {ids : List Int} {o : List (Int × Int)} (h : PRun F ids G o) : o = [] → G = F := by
  induction h with
  | nil F => intro _; rfl
  | skip _ _ ih => exact ih
  | run _ _ _ => intro h; cases h

theorem core_FarmFirst (W : World) : ∀ x_0 : Option Addr, ∀ x_0l : Nat, ∀ x_0c : Nat, SlcArg Try.prog W T_Host x_0 x_0l x_0c → ∀ x_1 : Int, InR .i64 x_1 → ∀ x_2 : Int, InR .i64 x_2 → ∀ x_3 : Int, InR .i64 x_3 → ∀ x_4 : Int, InR .i64 x_4 → ∀ l : Option Addr, ∀ ll : Nat, ∀ lc : Nat, SlcArg Try.prog W T_Event l ll lc →
    FnP Try.prog F_shiftbellkeep_FarmFirst #[(.agg #[(.slice x_0 x_0l x_0c), (.int .i64 x_1), (.int .i64 x_2), (.int .i64 x_3), (.int .i64 x_4)]), (.slice l ll lc)] W fun v W' => v = .bool true ∧ Ext W W' := by
  intro p hln c hl x1 _ x2 _ x3 _ x4 _ q el d hq
  obtain ⟨okn, Pl, hPl, _, hplay⟩ := played_args hl x1 x2 x3 x4 hq
  refine ok_shiftbellkeep_FarmFirst p hln c x1 x2 x3 x4 q el d W _ fun b0 hb0 w1 h1 => (farms_k w1).mono fun v w2 ⟨e2, hv⟩ => ⟨e2, true, hv, fun h => (by cases h), fun _ w4 x4' => ?_⟩
  have h4 := extB_ext x4'
  have lt4 := x4'.lt b0 (by simp)
  refine (hplay w4 h4).mono fun v w5 ⟨e5, f, hv, hnone, hsome⟩ => ⟨e5, f, hv, fun _ w7 h7 => ⟨rfl, (h4.trans e5).trans h7⟩, fun hgood w7 x7 => ?_⟩
  have hok : okn := by
    by_cases h : okn
    · exact h
    · exact absurd (hnone.2 h) hgood.1
  obtain ⟨B, fb, P, F, rfl, hB, hB', x5, hF⟩ := hsome hok
  obtain ⟨_, hhl, I⟩ := hPl F hF
  have h7 := extB_ext x7
  have hl0 := x5.jO.1
  have x7f := x5.ext h7
  refine (Hosts_k x7f I.i0.hs).mono fun v w8 ⟨e8, ph, ch, hv, hch, hS⟩ => ⟨e8, ph, _, ch, hv, fun w12 x12 => ?_⟩
  have h12 := extB_ext x12
  have hW12 := (((h4.trans e5).trans h7).trans e8).trans h12
  have x12f := (x7f.ext e8).ext h12
  have hft7 : ∀ b, ft fb P.jp b → b < w7.heap.size := fun b hb => (x7f.foot hb).2
  have hftB : ∀ b, ft fb P.jp b → w4.heap.size ≤ b := fun b hb => Nat.le_trans hB (x7f.foot hb).1
  have hs4W := h4.size
  refine (plan_k x12f (aftOk_iff.2 I.i0.aft) I.i0.hs).mono fun v w13 ⟨G, outs, out, outc, P', hv, hpl, hhG, hjG, hP', x13, f13, o13, hol⟩ => ⟨f13.kept fun b hb => ?_, out, _, outc, 0, hv, fun w18 x18 => ?_⟩
  · simp at hb; subst hb
    refine ⟨x12.lt b (by simp), fun hf => ?_⟩
    have := hftB b hf
    omega
  have h18 := extB_ext x18
  have hW18 : Ext W w18 := (f13.ext hW12 fun b hb => by have := hftB b hb; omega).trans h18
  have hS18 : HsAt w18 ph F.hosts := (((hS.ext h12) (ft fb P.jp) hft7 w13 f13)).ext h18
  have x18f := x13.ext h18
  refine (Jobs_k x18f).mono fun v w19 ⟨e19, pj, cj, R, hv, hR, J⟩ => ⟨e19, pj, _, cj, hv, ?_⟩
  have hRl := row_len hR
  have hGl := len_of_job hjG
  obtain ⟨T, hT1, hT2⟩ := hpl
  have hTr := ord_ready hT1
  have o19 := (o13.ext h18).ext e19
  refine ⟨fun last hp hl' hc k w' => Ext w19 w' ∧ 0 ≤ k ∧ k ≤ outs.length ∧ ∃ Fi Ti, hl' = Fi.hosts.length ∧ HsAt w' hp Fi.hosts ∧ okHs Fi.hosts ∧ Fi.jobs.map (·.job) = F.jobs.map (·.job) ∧ PRun Fi Ti G (outs.drop k.toNat) ∧ Ti.Pairwise (before F) ∧ (∀ id ∈ Ti, inJ F id ∧ prioAt F id ≤ last),
    fun _ _ _ _ k _ => (outs.length - k).toNat, ⟨Ext.refl _, by omega, by omega, F, T, rfl, hS18.ext e19, I.i0.hs, rfl, hT2, hT1.2, fun id hid => ⟨(hTr id hid).1, ?_⟩⟩, ?_⟩
  · have hp := (x5.jO.2 _ (List.mem_of_getElem? (jobAt_some (inJ_lt (hTr id hid).1)))).1.prio
    unfold prioAt
    omega
  rintro last hp hl' hc k w27 ⟨h27, hk0, hk1, Fi, Ti, rfl, hSi, hhi, hji, hrun, hpw, hmem⟩
  refine ⟨fun hlt => ?_, fun hge w28 x28 => ?_⟩
  · have hdrop : outs.drop k.toNat = outs[k.toNat] :: outs.drop (k.toNat + 1) := List.drop_eq_getElem_cons (by omega)
    obtain ⟨⟨id, kk⟩, hidk⟩ : ∃ y, outs[k.toNat]'(by omega) = y := ⟨_, rfl⟩
    rw [hidk] at hdrop
    obtain ⟨pre, T', hTi, hbest, hrun'⟩ := hrun.uncons hdrop
    have hidT : id ∈ Ti := by rw [hTi]; simp
    obtain ⟨hin, hprio⟩ := hmem id hidT
    have hge : ∀ (m : Nat) u, (encO (id, kk))[m]? = some u → Go.Sx.cell w27 (pIdx out k 2) m = some u := fun m u hu => ((o19.ext h27).recs fun _ _ => rfl).at hk0 (by rw [← hidk]; exact List.getElem?_eq_getElem _) hu
    have g0 := hge 0 _ rfl
    obtain ⟨hf0, hf1, hfit⟩ := best_fits hbest
    have hi1 := hin.1
    have hi2 := hin.2
    refine ⟨fun h => cell_p g0 (pIdx_none.2 h), hk0, hlt, cell_p g0, id, g0, kk, hge 1 _ rfl, fun b30 hb30 => ⟨fun hbad => by omega, fun _ => ⟨i64 (by omega), ?_⟩⟩⟩
    obtain ⟨r, hr, n1, n2, g, hJ⟩ := (J.ext h27).st (k := id - 1) (by omega) (by omega)
    obtain ⟨hkl, hja⟩ := row_at hR hr
    have hokr := x18f.jO.2 _ (List.mem_of_getElem? (jobAt_some hkl))
    rw [hja] at hokr
    have hlF : (id - 1).toNat < F.jobs.length := inJ_lt hin
    have hjr : (jobAt Fi (id - 1).toNat).job = r.s.job := by rw [job_of hji _ hlF, ← job_of hjG _ hlF, hja]
    rw [hjr] at hbest hfit
    refine ⟨n1, by omega, by omega, n2, _, g 0 _ rfl, _, g 1 _ rfl, _, g 2 _ rfl, _, g 3 _ rfl, _, g 4 _ rfl, _, g 5 _ rfl, _, g 6 _ rfl, _, g 7 _ rfl, _, g 8 _ rfl, _, _, _, g 9 _ rfl, _, _, _, g 10 _ rfl, _, g 11 _ rfl, _, g 12 _ rfl, _, g 13 _ rfl, _, g 14 _ rfl, _, g 15 _ rfl, fun b51 hb51 w52 h52 => ?_⟩
    have hl30 := hhi.1
    refine (Best_k hp hc Fi.hosts (by omega) (ht_ok hhi) r.s.job.ask r.pa r.ca hokr.2.ask r.s.job.nd w52 (hSi.ext h52) (hJ.1.ext h52)).mono fun v w53 ⟨e53, k', e, hv, hres⟩ => ⟨e53, k', e, hv, ?_⟩
    have hall : okAll Fi.hosts r.s.job.ask r.s.job.nd := ⟨hhi, hokr.1.ask, hokr.1.nd⟩
    obtain ⟨he, hk'⟩ : e = 0 ∧ k' = kk := by
      rcases hres with ⟨_, _, _, h⟩ | ⟨h, _, h'⟩
      · have := h hall
        have hm := hbest.1
        rw [this] at hm
        cases hm
      · exact ⟨h, best_one h' hbest⟩
    have hpr : prioAt F id = r.s.job.prio := by
      unfold prioAt
      rw [← job_of hjG _ hlF, hja]
    subst hk'
    refine ⟨fun hbad => by omega, fun _ w56 x56 => ?_⟩
    have h56 := extB_ext x56
    refine (Take_k hp hc Fi.hosts (by omega) (ht_ok hhi) k' r.s.job.nd w56 (hSi.ext h56)).mono fun v w57 ⟨e57, p', n', c', e', hv, htk⟩ => ⟨e57, p', n', c', e', hv, ?_⟩
    rcases htk with ⟨_, _, hno⟩ | ⟨hz, _, _, _, rfl, _, _, _, hS'⟩
    · exact absurd ⟨hokr.1.nd, hfit⟩ (hno hhi hf0 hf1)
    refine ⟨fun hne => absurd hz hne, fun _ => ⟨i64 (by omega), ⟨(h27.trans h56).trans e57, by omega, by omega, runF Fi (id - 1).toNat k', T', ?_, ?_, ?_, ?_, ?_, ?_, fun id' hid' => ?_⟩, by simp only []; omega⟩⟩
    · rw [run_hosts]; unfold takeF; simp
    · rw [run_hosts]
      have := hS'.at
      unfold takeF hostAt
      rw [hjr]
      exact this
    · rw [run_hosts]
      exact okHs_take hhi hf0 hf1 (by rw [hjr]; exact hokr.1.nd) (by rw [hjr]; exact hfit)
    · exact (run_jobs (by rw [len_of_job hji]; exact hlF) k').trans hji
    · rw [show (k + 1).toNat = k.toNat + 1 by omega]; exact hrun'
    · rw [hTi] at hpw
      exact (List.pairwise_cons.1 (List.pairwise_append.1 hpw).2.1).2
    · rw [hTi] at hpw
      have hb := (List.pairwise_cons.1 (List.pairwise_append.1 hpw).2.1).1 id' hid'
      refine ⟨(hmem id' (by rw [hTi]; simp [hid'])).1, ?_⟩
      unfold before at hb
      omega
  · have h28 := extB_ext x28
    have hG : G = Fi := hrun.none (by rw [List.drop_eq_nil_iff]; omega)
    subst hG
    refine (Hosts_k (x18f.ext ((e19.trans h27).trans h28)) hhG).mono fun v w29 ⟨e29, pg, cg, hv, _, hSg⟩ => ⟨e29, pg, _, cg, hv, fun w33 h33 => ?_⟩
    have hl30 := hhG.1
    refine (sameH_k hp hc pg cg G.hosts (by omega) (ht_ok hhG) w33 (((hSi.ext h28).ext e29).ext h33) (hSg.ext h33).at).mono fun v w34 ⟨e34, hv⟩ => ⟨e34, true, hv, fun w36 h36 => ⟨rfl, ((((hW18.trans e19).trans h27).trans h28).trans e29).trans h36⟩⟩
end Go.Proofs.Ytblafknmfblgfaa
