/- Submit, Report, Cancel. -/
import Derived.Test.YtblafknmfblgfaaFaE
set_option linter.unusedVariables false
set_option linter.unusedSimpArgs false
namespace Go.Proofs.Ytblafknmfblgfaa
open Go.Sx Go.RowKit

def newS (j : Jb) : St := ⟨j, 1, 0, 0, 0, 0⟩
def subF (F : Fm) (j : Jb) : Fm := { F with jobs := F.jobs ++ [newS j] }
def okSub (F : Fm) (j : Jb) : Prop := okJ j ∧ F.jobs.length ≠ 60 ∧ ∀ y ∈ j.aft, y ≤ F.jobs.length ∧ whatAt F y ≠ 4 ∧ whatAt F y ≠ 5
structure Pre (F : Fm) : Prop where
  aft : aftOk F
  pol : okPol F.pol
  now : 0 ≤ F.now ∧ F.now ≤ 1099511627776
  run : ∀ k, k < F.jobs.length → (jobAt F k).what = 2 → LvOk F k
  tries : ∀ k, k < F.jobs.length → 0 ≤ (jobAt F k).tries ∧ (jobAt F k).tries ≤ 100
/-- Blocks that a farm has now, and had not. -/
def grows (w : World) (fb : Nat) (jp jp' : Option Addr) : Prop := ∀ b, ft fb jp' b → ft fb jp b ∨ w.heap.size ≤ b

section
variable {O : Nat → Prop} {B fb : Nat} {w : World} {P : Pl} {F : Fm}
theorem submit_k (x : FXO O B w fb P F) (j : Jb) (pa : Option Addr) (ca : Nat) (pf : Option Addr) (cf : Nat) (hJ : IsJ w j pa ca pf) (hW : WfJ j) (hB : B ≤ w.heap.size) :
    FnP Try.prog F_farm_Farm_Submit #[.pointer (ptr fb), jv j pa ca pf cf] w fun v w' => ∃ id e : Int, v = .tuple #[.int .i64 id, .int .i64 e] ∧ (e = 0 ↔ okSub F j) ∧ ((e ≠ 0 ∧ Ext w w') ∨ (e = 0 ∧ id = F.jobs.length + 1 ∧ ∃ P', FXO O B w' fb P' (subF F j) ∧ Fr (ft fb P.jp) w w' ∧ grows w fb P.jp P'.jp)) := by
  have ne := ptr_ne fb
  have hl0 := x.jO.1
  refine ok_farm_Farm_Submit (ptr fb) j.user j.prio j.nd.c j.nd.m j.nd.g j.ask.k j.ask.key j.ask.val j.ask.n pa j.ask.xs.length ca pf j.aft.length cf w _ fun b0 hb0 w1 h1 => ?_
  refine (jCheck_k j pa ca pf cf w1 (hJ.ext h1) hW).mono fun v w2 ⟨e2, e, hv, he⟩ => ⟨e2, e, hv, fun hne w4 h4 => ⟨0, e, rfl, ⟨fun h => absurd h hne, fun h => absurd (he.2 h.1) hne⟩, .inl ⟨hne, h4⟩⟩, fun hz => ?_⟩
  have hok := he.1 hz
  have hlen := hok.len
  have hup := upA_mem hok.up
  refine ⟨ne, ne, _, _, _, x.cell (i := 6) rfl, fun h60 w7 h7 => ⟨0, 7, rfl, ⟨fun h => (by cases h), fun h => absurd (by have := x.len; omega) h.2.1⟩, .inl ⟨by decide, h7⟩⟩, fun h60 => ?_⟩
  refine ⟨fun k w' => Ext w w' ∧ 0 ≤ k ∧ k ≤ j.aft.length ∧ ∀ i : Nat, (i : Int) < k → j.aft.getD i 0 ≤ F.jobs.length, fun k _ => (j.aft.length - k).toNat, ⟨Ext.refl _, by omega, by omega, fun i hi => by omega⟩, ?_⟩
  rintro k w9 ⟨x9, hk0, hk1, hrng⟩
  have gmem : ∀ {k : Int}, 0 ≤ k → k < j.aft.length → j.aft.getD k.toNat 0 ∈ j.aft := fun h0 h1 => getD_mem j.aft 0 (by omega)
  refine ⟨fun hlt => ?_, fun hge => ?_⟩
  · have g := Ints.idx (hJ.2.ext x9) hk0 hlt
    have hy := hup _ (gmem hk0 hlt)
    refine ⟨fun h => cell_p g (pIdx_none.2 h), hk0, hlt, _, g, fun w11 x11 => ?_⟩
    have h11 := x9.trans (extB_ext x11)
    refine (at_k (x.ext h11) _ (i64 (by omega))).mono fun v w12 ⟨e12, hv⟩ => ⟨e12, ?_⟩
    rcases hv with ⟨hno, rfl⟩ | ⟨_, hin, rfl⟩
    · exact ⟨_, rfl, fun _ w14 h14 => ⟨0, 5, rfl, ⟨fun h => (by cases h), fun h => absurd ⟨hy.1, (h.2.2 _ (gmem hk0 hlt)).1⟩ hno⟩, .inl ⟨by decide, (h11.trans e12).trans h14⟩⟩, fun h => absurd rfl h⟩
    · obtain ⟨q, hq, hne, _⟩ := at_what x ⟨hy.1, hin⟩ (h11.trans e12)
      refine ⟨_, rfl, fun h => absurd (hq.symm.trans h) hne, fun _ => ⟨i64 (by omega), ⟨h11.trans e12, by omega, by omega, fun i hi => ?_⟩, by simp only []; omega⟩⟩
      by_cases hik : (i : Int) < k
      · exact hrng i hik
      · obtain rfl : i = k.toNat := by omega
        exact hin
  have hall : ∀ y ∈ j.aft, y ≤ F.jobs.length := fun y hy => by
    obtain ⟨i, hi, rfl⟩ := List.mem_iff_getElem.1 hy
    have := hrng i (by omega)
    simpa [List.getD_eq_getElem?_getD, hi] using this
  refine ⟨fun k w' => Ext w w' ∧ 0 ≤ k ∧ k ≤ j.aft.length ∧ ∀ i : Nat, (i : Int) < k → whatAt F (j.aft.getD i 0) ≠ 4 ∧ whatAt F (j.aft.getD i 0) ≠ 5, fun k _ => (j.aft.length - k).toNat, ⟨x9, by omega, by omega, fun i hi => by omega⟩, ?_⟩
  clear hrng hge hk0 hk1
  rintro k w12 ⟨x12, hk0, hk1, hrng⟩
  refine ⟨fun hlt => ?_, fun hge => ?_⟩
  · have g := Ints.idx (hJ.2.ext x12) hk0 hlt
    have hy := hup _ (gmem hk0 hlt)
    have hy2 := hall _ (gmem hk0 hlt)
    refine ⟨fun h => cell_p g (pIdx_none.2 h), hk0, hlt, _, g, fun w14 x14 => ?_⟩
    have h14 := x12.trans (extB_ext x14)
    refine (at_k (x.ext h14) _ (i64 (by omega))).mono fun v w15 ⟨e15, hv⟩ => ⟨e15, ?_⟩
    rcases hv with ⟨hno, _⟩ | ⟨_, hin, rfl⟩
    · exact absurd ⟨hy.1, hy2⟩ hno
    · obtain ⟨q, hq, hne, hg⟩ := at_what x ⟨hy.1, hin⟩ (h14.trans e15)
      refine ⟨_, rfl, by rw [hq]; exact hne, by rw [hq]; exact hne, _, by rw [hq]; exact hg, fun hbad w18 h18 => ⟨0, 9, rfl, ⟨fun h => (by cases h), fun h => ?_⟩, .inl ⟨by decide, (h14.trans e15).trans h18⟩⟩, fun hgd => ⟨i64 (by omega), ⟨h14.trans e15, by omega, by omega, fun i hi => ?_⟩, by simp only []; omega⟩⟩
      · have := (h.2.2 _ (gmem hk0 hlt)).2
        rcases hbad with h | h
        · exact absurd h this.1
        · exact absurd h this.2
      · by_cases hik : (i : Int) < k
        · exact hrng i hik
        · obtain rfl : i = k.toNat := by omega
          exact hgd
  have hall2 : ∀ y ∈ j.aft, whatAt F y ≠ 4 ∧ whatAt F y ≠ 5 := fun y hy => by
    obtain ⟨i, hi, rfl⟩ := List.mem_iff_getElem.1 hy
    have := hrng i (by omega)
    simpa [List.getD_eq_getElem?_getD, hi] using this
  have hoks : okSub F j := ⟨hok, by have := x.len; omega, fun y hy => ⟨hall y hy, hall2 y hy⟩⟩
  have x12' := x.ext x12
  refine ⟨ne, ne, _, _, _, x12'.cell (i := 6) rfl, fun w16 x16 => ?_⟩
  have h16 := x12.trans (extB_ext x16)
  have hE : errA j.ask = 0 := by
    have := hok.ask
    unfold errC at this
    split at this
    · cases this
    · exact this
  refine (ownS_k ⟨newS j, pa, ca, pf, cf⟩ w16 (hJ.ext h16) hE hok.len).mono fun v w17 ⟨e17, r, hv, hrs, hF⟩ => ⟨e17, r.s.job.user, r.s.job.prio, r.s.job.nd.c, r.s.job.nd.m, r.s.job.nd.g, r.s.job.ask.k, r.s.job.ask.key, r.s.job.ask.val, r.s.job.ask.n, r.pa, r.s.job.ask.xs.length, r.ca, r.pf, r.s.job.aft.length, r.cf, r.s.what, r.s.host, r.s.since, r.s.again, r.s.tries, hv, ?_⟩
  have h17 := h16.trans e17
  have x17 := x.ext h17
  have hlR := x.len
  have hn60 : F.jobs.length ≠ 60 := hoks.2.1
  have hbj : ∀ b ∈ [b0], ∀ y, P.jp = some y → y.block ≠ b := fun b hb y hy => by simp at hb; subst hb; have := (x.arr.lt y hy).2; omega
  refine push_B (v := sv r) elem_sl_State (by omega) x17.arr (Nat.le_trans hB h17.size) hbj rfl (encS_one r) (by omega) (by omega) (by omega) fun p' c' w44 o44 g44 hp' hb44 => ⟨ne, ne, ?_⟩
  have apF : Apart (ptr fb) P.jp := fun u y hu hy => by cases hu; exact fun h => x.ap y hy h.symm
  have s44 := x17.slot.st apF g44
  have hfb := (x.slot.lt _ rfl).2
  have apP : ∀ a, p' = some a → a.block ≠ fb := fun a ha he => by
    rcases g44.new with hn | hn
    · rw [ha] at hn
      cases hj : P.jp with
      | none => rw [hj] at hn; simp [blk] at hn
      | some y => rw [hj] at hn; simp [blk] at hn; exact x.ap y hj (hn ▸ he)
    · have h1 := hn a ha
      have h2 := h17.size
      have h3 : fb < w.heap.size := hfb
      omega
  refine store_own (off := 6) s44 rfl (by simp) (by simp) (by intro u hu; simp at hu; subst hu; rfl) (fun b hb y hy he => by cases hy; simp at hb; subst hb; have h3 : fb < w.heap.size := hfb; have he : fb = b := he; omega) fun w48 o48 g48 => ?_
  have f48 : Fr (ft fb P.jp) w17 w48 := (fr_grew g44 fun a ha => .inr ⟨a, ha, rfl⟩).tr (fr_grew g48 fun a ha => by cases ha; exact .inl rfl)
  have hft : ∀ b, ft fb p' b → ft fb P.jp b ∨ w17.heap.size ≤ b := fun b hb => by
    rcases hb with h | ⟨a, ha, rfl⟩
    · exact .inl (.inl h)
    · rcases g44.new with hn | hn
      · left
        rw [ha] at hn
        cases hj : P.jp with
        | none => rw [hj] at hn; simp [blk] at hn
        | some y => rw [hj] at hn; simp [blk] at hn; exact .inr ⟨y, rfl, hn.symm⟩
      · exact .inr (hn a ha)
  have step : ∀ {w'' w0 : World}, Ext w0 w17 → Fr (ftO O fb p') w48 w'' → Fr (ftO O fb P.jp) w0 w'' := fun h0 kf => ((fr_ext h0).tr (f48.mono fun b hb => .inr hb)).trans kf fun b hb => by
    rcases hb with hb | hb
    · exact .inl (.inl hb)
    · rcases hft b hb with h | h
      · exact .inl (.inr h)
      · exact .inr (Nat.le_trans h0.size h)
  have y48 : FXO O B w48 fb ⟨P.hp, P.hc, p', c', P.R ++ [r]⟩ (subF F j) := by
    refine ⟨?_, ?_, ?_, fun w'' kf => x.hs w'' (step h17 kf), fun r' hr' w'' kf => ?_, apP, x.hO, ?_, fun b hb => by have := x.olt b hb; have := h17.size; have := f48.size; omega, fun b hb hf => (hft b hf).elim (x.odis b hb) fun h => by have := x.olt b hb; have := h17.size; omega⟩
    · show Own B w48 T_farm_Farm 7 (ptr fb) 1 1 [_, _, _, _, _, _, .slice p' (P.R ++ [r]).length c']
      rw [List.length_append]
      exact o48
    · show Own B w48 T_State 16 p' (P.R ++ [r]).length c' ((P.R ++ [r]).flatMap encS)
      rw [List.length_append, List.flatMap_append]
      have := o44.st (fun u v hu hv => by cases hv; exact apP u hu) g48
      simpa [Value.cells] using this
    · show (P.R ++ [r]).map (·.s) = F.jobs ++ [newS j]
      rw [List.map_append, x.map]; simp [hrs]
    · have hr' : r' ∈ P.R ++ [r] := hr'
      rcases List.mem_append.1 hr' with hr' | hr'
      · exact x.js r' hr' w'' (step h17 kf)
      · simp at hr'; subst hr'
        have := hF (ftO O fb P.jp) (fun b hb => by
          rcases hb with hb | hb
          · have := x.olt b hb; have := h16.size; omega
          · have := (x.foot hb).2; have := h16.size; omega) w'' (step (Ext.refl _) kf)
        rw [hrs]
        exact this
    · refine ⟨by show (F.jobs ++ [newS j]).length ≤ 60; rw [List.length_append]; simp; omega, fun s hs => ?_⟩
      have hs : s ∈ F.jobs ++ [newS j] := hs
      rcases List.mem_append.1 hs with hs | hs
      · exact x.jO.2 s hs
      · simp at hs; subst hs; exact ⟨hok, hW⟩
  refine ⟨ne, ne, _, _, _, y48.cell (i := 6) rfl, fun w52 h52 => ⟨_, 0, rfl, ⟨fun _ => hoks, fun _ => rfl⟩, .inr ⟨rfl, ?_, _, y48.ext h52, ((fr_ext h17).tr f48).tr (fr_ext h52), fun b hb => ?_⟩⟩⟩
  · simp; omega
  · rcases hft b hb with h | h
    · exact .inl h
    · exact .inr (Nat.le_trans h17.size h)

/-! ### Report and Cancel -/
theorem leave_len (F : Fm) (k : Nat) : (leaveF F k).jobs.length = F.jobs.length := by unfold leaveF; rw [st_len, st_len]; rfl
theorem leave_at {F : Fm} {k : Nat} (hk : k < F.jobs.length) (i : Nat) : jobAt (leaveF F k) i = if i = k then { jobAt F k with host := 0, since := 0 } else jobAt F i := by
  unfold leaveF
  have hk' : k < (giveF F k).jobs.length := hk
  rw [st_at _ _ (by rw [st_len]; exact hk'), st_at _ _ hk', if_pos rfl]
  split
  · rfl
  · rename_i h
    rw [st_at _ _ hk', if_neg h]; rfl
theorem aft_leave {F : Fm} {k : Nat} (hk : k < F.jobs.length) (ha : aftOk F) : aftOk (leaveF F k) := by
  unfold leaveF
  have hk' : k < (giveF F k).jobs.length := hk
  exact aft_st (by rw [st_len]; exact hk') (aft_st hk' ha)
def triedF (F : Fm) (k : Nat) : Fm := stF (leaveF F k) k 15 ((jobAt F k).tries + 1)
def repF (F : Fm) (k : Nat) (ok : Bool) : Fm :=
  if ok = true then stF (leaveF F k) k 11 3
  else if (jobAt F k).tries + 1 ≤ F.pol.tries then stF (stF (triedF F k) k 11 1) k 14 (F.now + delayP F.pol ((jobAt F k).tries + 1))
  else lostF (stF (triedF F k) k 11 4)
def canF (F : Fm) (k : Nat) : Fm := lostF (stF (if (jobAt F k).what = 2 then leaveF F k else F) k 11 5)
def inJ (F : Fm) (id : Int) : Prop := 1 ≤ id ∧ id ≤ F.jobs.length
theorem FXO.at_ (x : FXO O B w fb P F) {id : Int} (h : inJ F id) : pIdx P.jp (id - 1) 16 ≠ none ∧ (∀ (m : Nat) u, (encS ⟨jobAt F (id - 1).toNat, none, 0, none, 0⟩)[m]? = some u → 11 ≤ m → Go.Sx.cell w (pAdd (pIdx P.jp (id - 1) 16) m) 0 = some u) := by
  obtain ⟨r, hr, hF, _, hne, _, g, _⟩ := x.st (k := id - 1) (by have := h.1; omega) (by have := h.2; omega)
  refine ⟨hne, fun m u hu hm => g m u ?_⟩
  rw [jobAt_of hF] at hu
  match m, hm with
  | m + 11, _ =>
    rw [← hu]
    rfl
theorem report_k (x : FXO O B w fb P F) (hp : Pre F) (id : Int) (hid : InR .i64 id) (ok : Bool) :
    FnP Try.prog F_farm_Farm_Report #[.pointer (ptr fb), .int .i64 id, .bool ok] w fun v w' => ∃ e : Int, v = .int .i64 e ∧ (e = 0 ↔ inJ F id ∧ (jobAt F (id - 1).toNat).what = 2) ∧ ((e ≠ 0 ∧ Ext w w') ∨ (e = 0 ∧ ∃ P', P'.jp = P.jp ∧ FXO O B w' fb P' (repF F (id - 1).toNat ok) ∧ Fr (ft fb P.jp) w w')) := by
  have ne := ptr_ne fb
  refine ok_farm_Farm_Report (ptr fb) id ok w _ fun w0 h0 => (at_k (x.ext h0) id hid).mono fun v w1 ⟨e1, hv⟩ => ⟨e1, ?_⟩
  have h1 := h0.trans e1
  rcases hv with ⟨hno, rfl⟩ | ⟨hi0, hi1, rfl⟩
  · exact ⟨_, rfl, fun _ w3 h3 => ⟨5, rfl, ⟨fun h => (by cases h), fun h => absurd h.1 hno⟩, .inl ⟨by decide, h1.trans h3⟩⟩, fun h => absurd rfl h⟩
  have hin : inJ F id := ⟨hi0, hi1⟩
  have x1 := x.ext h1
  obtain ⟨hne, g⟩ := x1.at_ hin
  have hk : (id - 1).toNat < F.jobs.length := by omega
  refine ⟨_, rfl, fun h => absurd h hne, fun _ => ⟨hne, hne, _, g 11 _ rfl (by omega), fun hw w4 h4 => ⟨9, rfl, ⟨fun h => (by cases h), fun h => absurd h.2 hw⟩, .inl ⟨by decide, h1.trans h4⟩⟩, fun hw w4 h4 => ?_⟩⟩
  have hiff : (0 : Int) = 0 ↔ inJ F id ∧ (jobAt F (id - 1).toNat).what = 2 := ⟨fun _ => ⟨hin, hw⟩, fun _ => rfl⟩
  refine (leave_k (x1.ext h4) (k := id - 1) (by omega) (by omega) (hp.run _ hk hw)).mono fun v w5 ⟨hv, P1, hP1, y5, f5⟩ => ⟨hv, fun hok => ⟨hne, hne, ?_⟩, fun hok => ?_⟩
  · have hin5 : inJ (leaveF F (id - 1).toNat) id := ⟨hi0, by rw [leave_len]; exact hi1⟩
    have := y5.put (k := id - 1) (m := 11) (by omega) (by rw [leave_len]; omega) (by omega) 3 (ns := []) (by simp) (K := fun w6 => ∀ w7, Ext w6 w7 → ∃ e : Int, Value.int .i64 0 = .int .i64 e ∧ (e = 0 ↔ inJ F id ∧ (jobAt F (id - 1).toNat).what = 2) ∧ ((e ≠ 0 ∧ Ext w w7) ∨ (e = 0 ∧ ∃ P', P'.jp = P.jp ∧ FXO O B w7 fb P' (repF F (id - 1).toNat ok) ∧ Fr (ft fb P.jp) w w7))) fun w6 P2 hP2 y6 f6 w7 h7 => ⟨0, rfl, hiff, .inr ⟨rfl, P2, hP2.trans hP1, ?_, ?_⟩⟩
    · rw [hP1] at this; exact this
    · unfold repF; rw [if_pos hok]; exact y6.ext h7
    · rw [hP1] at f6
      exact ((((fr_ext h1).tr (fr_ext h4)).tr f5).tr f6).tr (fr_ext h7)
  have hkl : (id - 1).toNat < (leaveF F (id - 1).toNat).jobs.length := by rw [leave_len]; exact hk
  have hin5 : inJ (leaveF F (id - 1).toNat) id := ⟨hi0, by rw [leave_len]; exact hi1⟩
  obtain ⟨_, g5⟩ := y5.at_ hin5
  rw [hP1, leave_at hk, if_pos rfl] at g5
  have htr := hp.tries _ hk
  refine ⟨hne, hne, _, g5 15 _ rfl (by omega), i64 (by simp only []; omega), hne, hne, ?_⟩
  have goal : ∀ {w7 : World} {P2 : Pl}, P2.jp = P.jp → FXO O B w7 fb P2 (triedF F (id - 1).toNat) → Fr (ft fb P.jp) w w7 → (ptr fb ≠ none ∧ ptr fb ≠ none ∧ (pAdd (ptr fb) 1) ≠ none ∧
      ∃ t8 : Int, Go.Sx.cell w7 (pAdd (ptr fb) 1) 0 = some (.int .i64 t8) ∧ ∃ t9 : Int, Go.Sx.cell w7 (pAdd (ptr fb) 1) 1 = some (.int .i64 t9) ∧ ∃ t10 : Int, Go.Sx.cell w7 (pAdd (ptr fb) 1) 2 = some (.int .i64 t10) ∧ ∃ t11 : Int, Go.Sx.cell w7 (pAdd (ptr fb) 1) 3 = some (.int .i64 t11) ∧
      (pIdx P.jp (id - 1) 16) ≠ none ∧ (pIdx P.jp (id - 1) 16) ≠ none ∧ ∃ t12 : Int, Go.Sx.cell w7 (pAdd (pIdx P.jp (id - 1) 16) 15) 0 = some (.int .i64 t12) ∧
      ∀ w13, Ext w7 w13 → FnP Try.prog F_retry_Delay #[(.agg #[(.int .i64 t8), (.int .i64 t9), (.int .i64 t10), (.int .i64 t11)]), (.int .i64 t12)] w13 fun v14 w14 => Ext w13 w14 ∧ ∃ t15 : Int, ∃ t16 : Int, v14 = (.tuple #[(.int .i64 t15), (.int .i64 t16)]) ∧
        (((t16 ≠ 0) → (pIdx P.jp (id - 1) 16) ≠ none ∧ (pIdx P.jp (id - 1) 16) ≠ none ∧ Store w7 (pAdd (pIdx P.jp (id - 1) 16) 11) [(.int .i64 4)] [] fun w17 => ∀ w18, Ext w17 w18 →
           FnP Try.prog F_farm_Farm_lost #[(.pointer (ptr fb))] w18 fun v19 w19 => v19 = (.tuple #[]) ∧ ∀ w20, Ext w19 w20 → ∃ e : Int, Value.int .i64 0 = .int .i64 e ∧ (e = 0 ↔ inJ F id ∧ (jobAt F (id - 1).toNat).what = 2) ∧ ((e ≠ 0 ∧ Ext w w20) ∨ (e = 0 ∧ ∃ P', P'.jp = P.jp ∧ FXO O B w20 fb P' (repF F (id - 1).toNat ok) ∧ Fr (ft fb P.jp) w w20)))) ∧
        ((t16 = 0) → ptr fb ≠ none ∧ ptr fb ≠ none ∧ ∃ t17 : Int, Go.Sx.cell w7 (pAdd (ptr fb) 5) 0 = some (.int .i64 t17) ∧ InR .i64 (t17 + t15) ∧ (pIdx P.jp (id - 1) 16) ≠ none ∧ (pIdx P.jp (id - 1) 16) ≠ none ∧
          Store w7 (pAdd (pIdx P.jp (id - 1) 16) 11) [(.int .i64 1)] [] fun w18 => (pIdx P.jp (id - 1) 16) ≠ none ∧ (pIdx P.jp (id - 1) 16) ≠ none ∧ Store w18 (pAdd (pIdx P.jp (id - 1) 16) 14) [(.int .i64 (t17 + t15))] [] fun w19 => ∀ w20, Ext w19 w20 →
            ∃ e : Int, Value.int .i64 0 = .int .i64 e ∧ (e = 0 ↔ inJ F id ∧ (jobAt F (id - 1).toNat).what = 2) ∧ ((e ≠ 0 ∧ Ext w w20) ∨ (e = 0 ∧ ∃ P', P'.jp = P.jp ∧ FXO O B w20 fb P' (repF F (id - 1).toNat ok) ∧ Fr (ft fb P.jp) w w20)))) := by
    intro w7 P2 hP2 y7 f7
    have hin7 : inJ (triedF F (id - 1).toNat) id := ⟨hi0, by unfold triedF; rw [st_len, leave_len]; exact hi1⟩
    obtain ⟨_, g7⟩ := y7.at_ hin7
    have hat7 : jobAt (triedF F (id - 1).toNat) (id - 1).toNat = { jobAt F (id - 1).toNat with host := 0, since := 0, tries := (jobAt F (id - 1).toNat).tries + 1 } := by
      unfold triedF
      rw [st_at _ _ hkl, if_pos rfl, leave_at hk, if_pos rfl]; rfl
    rw [hP2, hat7] at g7
    have hlt : (triedF F (id - 1).toNat).jobs.length = F.jobs.length := by unfold triedF; rw [st_len, leave_len]
    have hpl : (triedF F (id - 1).toNat).pol = F.pol := rfl
    have hnw : (triedF F (id - 1).toNat).now = F.now := rfl
    have pc : ∀ (i : Nat) (v : Value), (fcs P2 (triedF F (id - 1).toNat))[1 + i]? = some v → Go.Sx.cell w7 (pAdd (ptr fb) 1) i = some v := fun i v hv => by
      have := y7.cell hv
      rw [cell_pAdd] at this ⊢
      exact this
    have hdly : 1 ≤ (jobAt F (id - 1).toNat).tries + 1 := by omega
    refine ⟨ne, ne, (fun h => ne (pAdd_none.1 h)), _, pc 0 _ rfl, _, pc 1 _ rfl, _, pc 2 _ rfl, _, pc 3 _ rfl, hne, hne, _, g7 15 _ rfl (by omega), fun w13 h13 => ?_⟩
    refine (delay_k F.pol.first F.pol.times F.pol.most F.pol.tries _ (i64 (by simp only []; omega)) w13).mono fun v w14 ⟨e14, d, e, hv, herr, _, hd⟩ => ⟨e14, d, e, hv, fun hne' => ⟨hne, hne, ?_⟩, fun hz => ⟨ne, ne, _, y7.cell (i := 5) rfl, ?_, hne, hne, ?_⟩⟩
    · have hgt : ¬ (jobAt F (id - 1).toNat).tries + 1 ≤ F.pol.tries := fun h => hne' (herr.2.2 hp.pol ⟨hdly, h⟩)
      have := y7.put (k := id - 1) (m := 11) (by omega) (by rw [hlt]; omega) (by omega) 4 (ns := []) (by simp) (K := fun w17 => ∀ w18, Ext w17 w18 →
           FnP Try.prog F_farm_Farm_lost #[(.pointer (ptr fb))] w18 fun v19 w19 => v19 = (.tuple #[]) ∧ ∀ w20, Ext w19 w20 → ∃ e : Int, Value.int .i64 0 = .int .i64 e ∧ (e = 0 ↔ inJ F id ∧ (jobAt F (id - 1).toNat).what = 2) ∧ ((e ≠ 0 ∧ Ext w w20) ∨ (e = 0 ∧ ∃ P', P'.jp = P.jp ∧ FXO O B w20 fb P' (repF F (id - 1).toNat ok) ∧ Fr (ft fb P.jp) w w20))) fun w17 P3 hP3 y17 f17 w18 h18 => (lost_k (y17.ext h18) (aft_st (by rw [hlt]; exact hk) (aft_st hkl (aft_leave hk hp.aft)))).mono fun v w19 ⟨hv, P4, hP4, y19, f19⟩ => ⟨hv, fun w20 h20 => ⟨0, rfl, hiff, .inr ⟨rfl, P4, hP4.trans (hP3.trans hP2), ?_, ?_⟩⟩⟩
      · rw [hP2] at this; exact this
      · unfold repF; rw [if_neg (by rw [hok]; simp), if_neg hgt]; exact y19.ext h20
      · rw [hP3, hP2] at f19
        rw [hP2] at f17
        exact (((f7.tr f17).tr (fr_ext h18)).tr f19).tr (fr_ext h20)
    · have hle : (jobAt F (id - 1).toNat).tries + 1 ≤ F.pol.tries := by
        by_cases h : (jobAt F (id - 1).toNat).tries + 1 ≤ F.pol.tries
        · exact h
        · have := herr.2.1 hp.pol (.inr (by simp only []; omega)); omega
      have hdb := dl_bounds hp.pol ((jobAt F (id - 1).toNat).tries + 1 - 1).toNat
      have hd' : d = dl F.pol.first F.pol.times F.pol.most ((jobAt F (id - 1).toNat).tries + 1 - 1).toNat := hd hz
      have hpp := hp.pol
      have hnn := hp.now
      unfold okPol okP at hpp
      rw [hnw]
      exact i64 (by omega)
    · have hle : (jobAt F (id - 1).toNat).tries + 1 ≤ F.pol.tries := by
        by_cases h : (jobAt F (id - 1).toNat).tries + 1 ≤ F.pol.tries
        · exact h
        · have := herr.2.1 hp.pol (.inr (by simp only []; omega)); omega
      have hd' : d = delayP F.pol ((jobAt F (id - 1).toNat).tries + 1) := hd hz
      have := y7.put (k := id - 1) (m := 11) (by omega) (by rw [hlt]; omega) (by omega) 1 (ns := []) (by simp) (K := fun w18 => (pIdx P.jp (id - 1) 16) ≠ none ∧ (pIdx P.jp (id - 1) 16) ≠ none ∧ Store w18 (pAdd (pIdx P.jp (id - 1) 16) 14) [(.int .i64 (F.now + d))] [] fun w19 => ∀ w20, Ext w19 w20 →
            ∃ e : Int, Value.int .i64 0 = .int .i64 e ∧ (e = 0 ↔ inJ F id ∧ (jobAt F (id - 1).toNat).what = 2) ∧ ((e ≠ 0 ∧ Ext w w20) ∨ (e = 0 ∧ ∃ P', P'.jp = P.jp ∧ FXO O B w20 fb P' (repF F (id - 1).toNat ok) ∧ Fr (ft fb P.jp) w w20))) fun w18 P3 hP3 y18 f18 => ⟨hne, hne, ?_⟩
      · rw [hP2] at this; exact this
      have hP3 := hP3.trans hP2
      have := y18.put (k := id - 1) (m := 14) (by omega) (by rw [st_len, hlt]; omega) (by omega) (F.now + d) (ns := []) (by simp) (K := fun w19 => ∀ w20, Ext w19 w20 →
            ∃ e : Int, Value.int .i64 0 = .int .i64 e ∧ (e = 0 ↔ inJ F id ∧ (jobAt F (id - 1).toNat).what = 2) ∧ ((e ≠ 0 ∧ Ext w w20) ∨ (e = 0 ∧ ∃ P', P'.jp = P.jp ∧ FXO O B w20 fb P' (repF F (id - 1).toNat ok) ∧ Fr (ft fb P.jp) w w20))) fun w19 P4 hP4 y19 f19 w20 h20 => ⟨0, rfl, hiff, .inr ⟨rfl, P4, hP4.trans hP3, ?_, ?_⟩⟩
      · rw [hP3] at this; exact this
      · unfold repF; rw [if_neg (by rw [hok]; simp), if_pos hle, ← hd']; exact y19.ext h20
      · rw [hP3] at f19
        rw [hP2] at f18
        exact ((f7.tr f18).tr f19).tr (fr_ext h20)
  have := y5.put (k := id - 1) (m := 15) (by omega) (by rw [leave_len]; omega) (by omega) ((jobAt F (id - 1).toNat).tries + 1) (ns := []) (by simp) fun w7 P2 hP2 y7 f7 => goal (hP2.trans hP1) y7 (by
    rw [hP1] at f7
    exact (((fr_ext h1).tr (fr_ext h4)).tr f5).tr f7)
  rw [hP1] at this
  exact this

theorem cancel_k (x : FXO O B w fb P F) (hp : Pre F) (id : Int) (hid : InR .i64 id) :
    FnP Try.prog F_farm_Farm_Cancel #[.pointer (ptr fb), .int .i64 id] w fun v w' => ∃ e : Int, v = .int .i64 e ∧ (e = 0 ↔ inJ F id ∧ ((jobAt F (id - 1).toNat).what = 1 ∨ (jobAt F (id - 1).toNat).what = 2)) ∧ ((e ≠ 0 ∧ Ext w w') ∨ (e = 0 ∧ ∃ P', P'.jp = P.jp ∧ FXO O B w' fb P' (canF F (id - 1).toNat) ∧ Fr (ft fb P.jp) w w')) := by
  have ne := ptr_ne fb
  refine ok_farm_Farm_Cancel (ptr fb) id w _ fun w0 h0 => (at_k (x.ext h0) id hid).mono fun v w1 ⟨e1, hv⟩ => ⟨e1, ?_⟩
  have h1 := h0.trans e1
  rcases hv with ⟨hno, rfl⟩ | ⟨hi0, hi1, rfl⟩
  · exact ⟨_, rfl, fun _ w3 h3 => ⟨5, rfl, ⟨fun h => (by cases h), fun h => absurd h.1 hno⟩, .inl ⟨by decide, h1.trans h3⟩⟩, fun h => absurd rfl h⟩
  have hin : inJ F id := ⟨hi0, hi1⟩
  have x1 := x.ext h1
  obtain ⟨hne, g⟩ := x1.at_ hin
  have hk : (id - 1).toNat < F.jobs.length := by omega
  have g11 := g 11 _ rfl (by omega)
  have fin : ∀ {w6 : World} {P1 : Pl} {G : Fm}, P1.jp = P.jp → FXO O B w6 fb P1 G → G.jobs.length = F.jobs.length → aftOk G → Fr (ft fb P.jp) w w6 → canF F (id - 1).toNat = lostF (stF G (id - 1).toNat 11 5) → ((jobAt F (id - 1).toNat).what = 1 ∨ (jobAt F (id - 1).toNat).what = 2) →
      Store w6 (pAdd (pIdx P.jp (id - 1) 16) 11) [(.int .i64 5)] [] fun w7 => ∀ w8, Ext w7 w8 → FnP Try.prog F_farm_Farm_lost #[(.pointer (ptr fb))] w8 fun v9 w9 => v9 = (.tuple #[]) ∧ ∀ w10, Ext w9 w10 →
        ∃ e : Int, Value.int .i64 0 = .int .i64 e ∧ (e = 0 ↔ inJ F id ∧ ((jobAt F (id - 1).toNat).what = 1 ∨ (jobAt F (id - 1).toNat).what = 2)) ∧ ((e ≠ 0 ∧ Ext w w10) ∨ (e = 0 ∧ ∃ P', P'.jp = P.jp ∧ FXO O B w10 fb P' (canF F (id - 1).toNat) ∧ Fr (ft fb P.jp) w w10)) := by
    intro w6 P1 G hP1 y6 hGl hGa f6 hc hw
    have := y6.put (k := id - 1) (m := 11) (by omega) (by omega) (by omega) 5 (ns := []) (by simp) (K := fun w7 => ∀ w8, Ext w7 w8 → FnP Try.prog F_farm_Farm_lost #[(.pointer (ptr fb))] w8 fun v9 w9 => v9 = (.tuple #[]) ∧ ∀ w10, Ext w9 w10 →
        ∃ e : Int, Value.int .i64 0 = .int .i64 e ∧ (e = 0 ↔ inJ F id ∧ ((jobAt F (id - 1).toNat).what = 1 ∨ (jobAt F (id - 1).toNat).what = 2)) ∧ ((e ≠ 0 ∧ Ext w w10) ∨ (e = 0 ∧ ∃ P', P'.jp = P.jp ∧ FXO O B w10 fb P' (canF F (id - 1).toNat) ∧ Fr (ft fb P.jp) w w10))) fun w7 P2 hP2 y7 f7 w8 h8 => (lost_k (y7.ext h8) (aft_st (by omega) hGa)).mono fun v w9 ⟨hv, P3, hP3, y9, f9⟩ => ⟨hv, fun w10 h10 => ⟨0, rfl, ⟨fun _ => ⟨hin, hw⟩, fun _ => rfl⟩, .inr ⟨rfl, P3, hP3.trans (hP2.trans hP1), ?_, ?_⟩⟩⟩
    · rw [hP1] at this; exact this
    · rw [hc]; exact y9.ext h10
    · rw [hP2, hP1] at f9
      rw [hP1] at f7
      exact (((f6.tr f7).tr (fr_ext h8)).tr f9).tr (fr_ext h10)
  refine ⟨_, rfl, fun h => absurd h hne, fun _ => ⟨hne, hne, _, g11, fun _ => hne, fun _ => hne, fun hw1 => ⟨_, g11, fun hw2 w5 h5 => ⟨9, rfl, ⟨fun h => (by cases h), fun h => (h.2.elim (fun h => hw1 h) (fun h => hw2 h)).elim⟩, .inl ⟨by decide, h1.trans h5⟩⟩, fun hw2 => ⟨hne, hne, _, g11, fun _ w6 h6 => ?_, fun h => absurd hw2 h⟩⟩, fun hw1 => ⟨hne, hne, _, g11, fun h => by omega, fun hw2 => ⟨hne, hne, ?_⟩⟩⟩⟩
  · refine (leave_k (x1.ext h6) (k := id - 1) (by omega) (by omega) (hp.run _ hk hw2)).mono fun v w7 ⟨hv, P1, hP1, y7, f7⟩ => ⟨hv, hne, hne, ?_⟩
    exact fin hP1 y7 (leave_len _ _) (aft_leave hk hp.aft) (((fr_ext h1).tr (fr_ext h6)).tr f7) (by unfold canF; rw [if_pos hw2]) (.inr hw2)
  · exact fin rfl x1 rfl hp.aft (fr_ext h1) (by unfold canF; rw [if_neg hw2]) (.inl hw1)
end
end Go.Proofs.Ytblafknmfblgfaa
