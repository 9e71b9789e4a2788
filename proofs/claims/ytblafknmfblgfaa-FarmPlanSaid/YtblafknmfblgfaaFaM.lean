/- What is told of a farm; farms that were played. -/
import Derived.Test.YtblafknmfblgfaaFaL
import Derived.Test.YtblafknmfblgfaaTxtH
set_option linter.unusedVariables false
set_option linter.unusedSimpArgs false
namespace Go.Proofs.Ytblafknmfblgfaa
open Go.Sx Go.RowKit

/-- Rows of states in new memory. -/
structure JRow (n : Nat) (w : World) (p : Option Addr) (c : Nat) (R : List StR) : Prop where
  own : Own n w T_State 16 p R.length c (R.flatMap encS)
  far : ∀ r ∈ R, Far n w fun w'' => IsJ w'' r.s.job r.pa r.ca r.pf
theorem JRow.ext {n : Nat} {w w' : World} {p : Option Addr} {c : Nat} {R : List StR} (h : JRow n w p c R) (e : Ext w w') : JRow n w' p c R := ⟨h.own.ext e, fun r hr => (h.far r hr).ext e⟩
theorem JRow.fr {n : Nat} {w w' : World} {p : Option Addr} {c : Nat} {R : List StR} {S : Nat → Prop} (h : JRow n w p c R) (f : Fr S w w') (hS : ∀ b, S b → b < n) : JRow n w' p c R :=
  ⟨h.own.fr f fun a ha hs => by have := (h.own.lt a ha).1; have := hS _ hs; omega, fun r hr => (h.far r hr).fr f hS⟩
theorem JRow.st {n : Nat} {w : World} {p : Option Addr} {c : Nat} {R : List StR} (h : JRow n w p c R) {k : Int} (h0 : 0 ≤ k) (h1 : k < R.length) : ∃ r, R[k.toNat]? = some r ∧ p ≠ none ∧ pIdx p k 16 ≠ none ∧ (∀ (m : Nat) u, (encS r)[m]? = some u → Go.Sx.cell w (pIdx p k 16) m = some u) ∧ IsJ w r.s.job r.pa r.ca r.pf := by
  obtain ⟨r, hr⟩ : ∃ r, R[k.toNat]? = some r := ⟨_, List.getElem?_eq_getElem (by omega)⟩
  have g : ∀ (m : Nat) u, (encS r)[m]? = some u → Go.Sx.cell w (pIdx p k 16) m = some u := fun m u hu => (h.own.recs fun _ _ => rfl).at h0 hr hu
  have g0 := g 0 _ rfl
  exact ⟨r, hr, fun h => cell_p g0 (pIdx_none.2 h), cell_p g0, g, (h.far r (List.mem_of_getElem? hr)).at⟩

theorem errC_errA {t : AT} (h : errC t = 0) : errA t = 0 := by
  unfold errC at h
  split at h
  · omega
  · exact h
section
variable {O : Nat → Prop} {B fb : Nat} {w : World} {P : Pl} {F : Fm}
theorem Jobs_k (x : FXO O B w fb P F) : FnP Try.prog F_farm_Farm_Jobs #[.pointer (ptr fb)] w fun v w' => Ext w w' ∧ ∃ (p : Option Addr) (c : Nat) (R : List StR), v = .slice p R.length c ∧ R.map (·.s) = F.jobs ∧ JRow w.heap.size w' p c R := by
  have ne := ptr_ne fb
  have hl := x.len
  have hl0 := x.jO.1
  refine ok_farm_Farm_Jobs (ptr fb) w _ ⟨ne, ne, _, _, _, x.cell (i := 6) rfl, ?_⟩
  rw [hl]
  refine ⟨fun out outl outc k w' => Ext w w' ∧ 0 ≤ k ∧ k ≤ F.jobs.length ∧ outl = k.toNat ∧ ∃ R : List StR, R.map (·.s) = F.jobs.take k.toNat ∧ Own w.heap.size w' T_State 16 out outl outc (R.flatMap encS) ∧
      ∀ r ∈ R, ∀ w'', Fr (fun b => b < w.heap.size ∨ ∃ a, out = some a ∧ a.block = b) w' w'' → IsJ w'' r.s.job r.pa r.ca r.pf,
    fun _ _ _ k _ => (F.jobs.length - k).toNat, ⟨Ext.refl _, by omega, by omega, rfl, [], rfl, Own.nil, fun x hx => (by cases hx)⟩, ?_⟩
  rintro out outl outc k w6 ⟨x6, hk0, hk1, rfl, R, hR, oR, hT⟩
  have hRl : R.length = k.toNat := by have := congrArg List.length hR; rw [List.length_map, List.length_take] at this; omega
  refine ⟨fun hlt => ?_, fun hge w7 h7 => ?_⟩
  · obtain ⟨r, hr, hF, hjp, hne, g, _, hJ, hok, hwf⟩ := (x.ext x6).st hk0 hlt
    refine ⟨hjp, hk0, hlt, hne, _, g 0 _ rfl, _, g 1 _ rfl, _, g 2 _ rfl, _, g 3 _ rfl, _, g 4 _ rfl, _, g 5 _ rfl, _, g 6 _ rfl, _, g 7 _ rfl, _, g 8 _ rfl, _, _, _, g 9 _ rfl, _, _, _, g 10 _ rfl, _, g 11 _ rfl, _, g 12 _ rfl, _, g 13 _ rfl, _, g 14 _ rfl, _, g 15 _ rfl, fun b27 hb27 w28 x28 => ?_⟩
    have h28 := extB_ext x28
    refine (ownS_k r w28 (hJ.ext h28) (errC_errA hok.ask) hok.len).mono fun v w29 ⟨e29, r', hv, hrs, hF'⟩ => ⟨e29, _, _, _, _, _, _, _, _, _, r'.pa, _, r'.ca, r'.pf, _, r'.cf, _, _, _, _, _, hv, ?_⟩
    have h629 := h28.trans e29
    have hw29 := x6.trans h629
    have oR29 := oR.ext h629
    have hns : ∀ b ∈ [b27], ∀ y, out = some y → y.block ≠ b := fun b hb y hy => by
      simp at hb; subst hb
      have := (oR.lt y hy).2; omega
    refine push_B (v := sv r') elem_sl_State (by omega) oR29 hw29.size hns rfl (by intro u hu; simp [Value.cells] at hu; rcases hu with rfl | rfl | rfl | rfl | rfl | rfl | rfl | rfl | rfl | rfl | rfl | rfl | rfl | rfl | rfl | rfl <;> rfl) (by omega) (by omega) (by omega) fun out' outc' w56 o56 g56 _ hb56 => ⟨i64 (by omega), ⟨g56.ext hw29 oR29, by omega, by omega, by omega, R ++ [r'], ?_, ?_, ?_⟩, by simp only []; omega⟩
    · rw [show (k + 1).toNat = k.toNat + 1 by omega, List.map_append, hR, List.take_add_one, hF]
      simp [hrs]
    · rw [List.flatMap_append]
      simpa [Value.cells, encS] using o56
    · have step : ∀ (w0 w'' : World), Ext w0 w29 → w0.heap.size ≤ w29.heap.size → Fr (fun b => b < w.heap.size ∨ ∃ a, out' = some a ∧ a.block = b) w56 w'' → Fr (fun b => b < w.heap.size ∨ ∃ a, out = some a ∧ a.block = b) w0 w'' := fun w0 w'' h0 hs fw => by
        have f1 : Fr (fun b => b < w.heap.size ∨ ∃ a, out = some a ∧ a.block = b) w0 w56 := (fr_ext h0).tr (fr_grew g56 fun a ha => .inr ⟨a, ha, rfl⟩)
        refine f1.trans fw fun b hb => ?_
        rcases hb with h | ⟨a2, ha2, hk2⟩
        · exact .inl (.inl h)
        rcases g56.new with hn | hn
        · left
          rw [ha2] at hn
          cases hout : out with
          | none => rw [hout] at hn; simp [blk] at hn
          | some y => rw [hout] at hn; simp [blk] at hn; exact .inr ⟨y, rfl, by omega⟩
        · right
          have := hn a2 ha2
          omega
      intro y hy w'' fw
      rcases List.mem_append.1 hy with hy | hy
      · exact hT y hy w'' (step w6 w'' h629 h629.size fw)
      · simp at hy; subst hy
        rw [hrs]
        refine hF' _ (fun b hb => ?_) w'' (step w29 w'' (Ext.refl _) (Nat.le_refl _) fw)
        rcases hb with h | ⟨a, ha, rfl⟩
        · have := x6.size; have := h28.size; omega
        · have := (oR.lt a ha).2; have := h28.size; omega
  · have hkl : k.toNat = F.jobs.length := by omega
    rw [hkl, List.take_length] at hR
    refine ⟨x6.trans h7, out, outc, R, by rw [hRl], hR, ⟨by rw [hRl]; exact oR.ext h7, fun r hr S hS w'' fw => hT r hr w'' ((fr_ext h7).tr (fw.mono fun b hb => .inl (hS b hb)))⟩⟩
theorem Hosts_k (x : FXO O B w fb P F) (hh : okHs F.hosts) : FnP Try.prog F_farm_Farm_Hosts #[.pointer (ptr fb)] w fun v w' => Ext w w' ∧ ∃ (p : Option Addr) (c : Nat), v = .slice p F.hosts.length c ∧ F.hosts.length ≤ c ∧ HsS w.heap.size w' p F.hosts := by
  have ne := ptr_ne fb
  refine ok_farm_Farm_Hosts (ptr fb) w _ ⟨ne, ne, _, _, _, x.cell (i := 0) rfl, fun w3 h3 => ?_⟩
  refine (ownH_k P.hp P.hc F.hosts hh.1 (fun h hx => (hh.2.1 h hx).2.1) w3 ((x.ext h3).hs w3 (Fr.refl _ _))).mono fun v w4 ⟨e4, p', c', M, hv, hM, o4, hA, hN⟩ => ⟨e4, p', _, c', hv, fun w8 h8 => ⟨(h3.trans e4).trans h8, p', c', rfl, o4.le.1, ?_⟩⟩
  have hS := (hsS_of o4 (fun m hm => (hA m hm).1) hN).weak h3.size
  rw [hM] at hS
  exact hS.ext h8
end

/-! ### Farms that were played -/
theorem played_k (p : Option Addr) (c : Nat) (L : List Ht) (h63 : (L.length : Int) ≤ 9223372036854775807) (hO : ∀ h ∈ L, HtOk h) (pol : Pol) (q : Option Addr) (d : Nat) (E : List EvR) (hE63 : (E.length : Int) ≤ 9223372036854775807) (w : World) (hL : HsAt w p L) (hE : Recs 15 encR w q E) (hEw : ∀ r ∈ E, WfJ r.x.job ∧ IsJ w r.x.job r.pa r.ca r.pf) :
    FnP Try.prog F_shiftbellkeep_played #[.agg #[.slice p L.length c, .int .i64 pol.first, .int .i64 pol.times, .int .i64 pol.most, .int .i64 pol.tries], .slice q E.length d] w fun v w' => Ext w w' ∧ ∃ (f : Option Addr), v = .pointer f ∧ (f = none ↔ ¬ okNew L pol) ∧
      (okNew L pol → ∃ B fb P F, f = ptr fb ∧ w.heap.size ≤ B ∧ B ≤ w'.heap.size ∧ FX B w' fb P F ∧ Plays (newF L pol) (E.map (·.x)) F) := by
  refine ok_shiftbellkeep_played p L.length c pol.first pol.times pol.most pol.tries q E.length d w _ fun b0 hb0 w1 x1 => ?_
  have h1 := extB_ext x1
  refine (New_k p c L h63 hO pol w1 (hL.ext h1)).mono fun v w2 ⟨e2, f, e, hv, hiff, hno, hyes⟩ => ⟨e2, f, e, hv, fun hne w5 h5 => ⟨(h1.trans e2).trans h5, none, rfl, ⟨fun _ h => hne (hiff.2 h), fun _ => rfl⟩, fun h => absurd (hiff.2 h) hne⟩, fun hz => ?_⟩
  have hok := hiff.1 hz
  obtain ⟨fb, P0, rfl, x2⟩ := hyes hz
  have lt1 := x1.lt b0 (by simp)
  refine ⟨fun k w' => 0 ≤ k ∧ k ≤ E.length ∧ Ext w w' ∧ w1.heap.size ≤ w'.heap.size ∧ ∃ P F, FX w1.heap.size w' fb P F ∧ Plays (newF L pol) ((E.map (·.x)).take k.toNat) F, fun k _ => (E.length - k).toNat, ⟨by omega, by omega, h1.trans e2, e2.size, P0, _, x2, rfl⟩, ?_⟩
  rintro k w7 ⟨hk0, hk1, h7, hs7, P, F, x7, hp⟩
  have I := plays_inv hp (new_inv hok)
  refine ⟨fun hlt => ?_, fun hge w8 h8 => ?_⟩
  · obtain ⟨r, hr⟩ : ∃ r, E[k.toNat]? = some r := ⟨_, List.getElem?_eq_getElem (by omega)⟩
    have g : ∀ (m : Nat) u, (encR r)[m]? = some u → Go.Sx.cell w7 (pIdx q k 15) m = some u := fun m u hu => ext_cell h7 (hE.at hk0 hr hu)
    have g0 := g 0 _ rfl
    obtain ⟨hW, hJ⟩ := hEw r (List.mem_of_getElem? hr)
    refine ⟨fun h => cell_p g0 (pIdx_none.2 h), hk0, hlt, cell_p g0, _, g 0 _ rfl, _, g 1 _ rfl, _, g 2 _ rfl, _, g 3 _ rfl, _, g 4 _ rfl, _, g 5 _ rfl, _, g 6 _ rfl, _, g 7 _ rfl, _, g 8 _ rfl, _, g 9 _ rfl, _, _, _, g 10 _ rfl, _, _, _, g 11 _ rfl, _, g 12 _ rfl, _, g 13 _ rfl, _, g 14 _ rfl, fun b27 hb27 w28 x28 => ?_⟩
    have h28 := extB_ext x28
    refine (Do_k (x7.ext h28) I.i0.pre I.i0.hs r.x r.pa r.ca r.pf r.cf (hJ.ext (h7.trans h28)) hW (Nat.le_trans hs7 h28.size)).mono fun v w29 ⟨e, P', F', hv, _, hd, x29, f29, _⟩ => ⟨f29.kept fun b hb => ?_, e, hv, i64 (by omega), ⟨by omega, by omega, f29.ext (h7.trans h28) (fun b hb => ?_), Nat.le_trans hs7 (Nat.le_trans h28.size f29.size), P', F', x29, ?_⟩, by simp only []; omega⟩
    · refine ⟨x28.lt b hb, fun hf => ?_⟩
      have := x7.foot hf
      simp at hb
      rcases hb with rfl | rfl <;> omega
    · have := (x7.foot hb).1
      have := h1.size
      omega
    · rw [show (k + 1).toNat = k.toNat + 1 by omega, List.take_add_one, List.getElem?_map, hr]
      exact plays_snoc hp hd
  · refine ⟨h7.trans h8, ptr fb, rfl, ⟨fun h => absurd h (ptr_ne fb), fun h => absurd hok h⟩, fun _ => ⟨w1.heap.size, fb, P, F, rfl, h1.size, Nat.le_trans hs7 h8.size, x7.ext h8, ?_⟩⟩
    rw [show k.toNat = (E.map (·.x)).length by simp; omega, List.take_length] at hp
    exact hp

/-! ### That there are farms -/
theorem bare_k (w : World) : FnP Try.prog F_shiftbellkeep_bare #[] w fun v w' => Ext w w' ∧ v = .agg #[.slice none 0 0, .int .i64 1, .int .i64 1, .int .i64 1, .int .i64 0] :=
  ok_shiftbellkeep_bare w _ fun b0 hb0 w1 h1 => ⟨h1, rfl⟩
def aS : ByteArray := ⟨#[97]⟩
def xS : ByteArray := ⟨#[120]⟩
def oneJ : Jb := ⟨aS, 0, zeroN, .mk 1 xS emS 0 [], []⟩
theorem one_k (w : World) : FnP Try.prog F_shiftbellkeep_one #[] w fun v w' => Ext w w' ∧ v = jv oneJ none 0 none 0 :=
  ok_shiftbellkeep_one w _ fun b0 hb0 w1 h1 => ⟨h1, rfl⟩
theorem oneJ_at (w : World) : IsJ w oneJ none 0 none := ⟨by unfold oneJ IsT; exact ⟨by simp, by unfold IsL; trivial⟩, Cells.nil⟩
theorem oneJ_wf : WfJ oneJ := ⟨by decide, i64 (by decide), fun i hi => by
  match i, hi with
  | 0, _ => decide
  | 1, _ => decide
  | 2, _ => decide, by
    unfold oneJ WfA
    exact ⟨i64 (by omega), by decide, by decide, i64 (by omega), by simp, by unfold WfL; trivial⟩, by simp [oneJ], by simp [oneJ]⟩
theorem oneJ_ok : okJ oneJ := ⟨by decide, by simp [oneJ], by decide, by decide, by simp [oneJ], by simp [oneJ, upA]⟩
def barePol : Pol := ⟨1, 1, 1, 0⟩
theorem bare_ok : okNew [] barePol := ⟨⟨by simp, by simp, by simp⟩, by simp, by unfold okPol okP barePol; simp⟩
theorem farms_k (w : World) : FnP Try.prog F_shiftbellkeep_farms #[] w fun v w' => Ext w w' ∧ v = .bool true := by
  refine ok_shiftbellkeep_farms w _ fun w0 h0 => (bare_k w0).mono fun v w1 ⟨e1, hv⟩ => ⟨e1, none, 0, 0, 1, 1, 1, 0, hv, fun w9 h9 => ?_⟩
  have h09 := (h0.trans e1).trans h9
  refine (New_k none 0 [] (by simp) (by simp) barePol w9 (fun i h hi => (by simp at hi))).mono fun v w10 ⟨e10, f, e, hv, hiff, _, hyes⟩ => ⟨e10, f, e, hv, fun hbad => ?_, fun hgood w13 h13 => ?_⟩
  · have hz := hiff.2 bare_ok
    obtain ⟨fb, P, rfl, _⟩ := hyes hz
    rcases hbad with h | h
    · exact absurd hz h
    · exact absurd h (ptr_ne fb)
  obtain ⟨fb, P, rfl, x10⟩ := hyes hgood.1
  have x13 := x10.ext h13
  refine (one_k w13).mono fun v w14 ⟨e14, hv⟩ => ⟨e14, _, _, _, _, _, _, _, _, _, _, _, _, _, _, _, hv, fun w30 h30 => ?_⟩
  have x30 := (x13.ext e14).ext h30
  have hs : w9.heap.size ≤ w30.heap.size := Nat.le_trans e10.size (Nat.le_trans h13.size (Nat.le_trans e14.size h30.size))
  refine (submit_k x30 oneJ none 0 none 0 (oneJ_at w30) oneJ_wf hs).mono fun v w31 ⟨id, e, hv, hiff', hc⟩ => ⟨id, e, hv, fun w34 h34 => ?_⟩
  have hz : e = 0 := hiff'.2 ⟨oneJ_ok, by simp [newF], by simp [oneJ]⟩
  rcases hc with ⟨hne, _⟩ | ⟨_, hid, P', _, f31, _⟩
  · exact absurd hz hne
  refine ⟨(f31.ext (((h09.trans e10).trans h13).trans (e14.trans h30)) fun b hb => ?_).trans h34, ?_⟩
  · have := (x30.foot hb).1
    have := h09.size
    omega
  · subst hz
    have : id = 1 := by rw [hid]; simp [newF]
    subst this
    rfl
end Go.Proofs.Ytblafknmfblgfaa
