/- What is done to a farm: time, leaving, losing. -/
import Derived.Test.YtblafknmfblgfaaFaD
import Derived.Test.YtblafknmfblgfaaTxtG
set_option linter.unusedVariables false
set_option linter.unusedSimpArgs false
namespace Go.Proofs.Ytblafknmfblgfaa
open Go.Sx Go.RowKit

/-! ### Delays -/
def okP (p0 p1 p2 p3 : Int) : Prop := 1 ≤ p0 ∧ p0 ≤ 1000000000 ∧ 1 ≤ p1 ∧ p1 ≤ 10 ∧ p0 ≤ p2 ∧ p2 ≤ 1000000000 ∧ 0 ≤ p3 ∧ p3 ≤ 50

def dl (p0 p1 p2 : Int) : Nat → Int
  | 0 => p0
  | k + 1 => min (dl p0 p1 p2 k * p1) p2

theorem mul_ge {a b : Int} (ha : 0 ≤ a) (hb : 1 ≤ b) : a ≤ a * b := by
  have := Int.mul_le_mul_of_nonneg_left hb ha
  omega

theorem mul_le10 {a b : Int} (ha : 0 ≤ a) (hb : b ≤ 10) : a * b ≤ a * 10 := Int.mul_le_mul_of_nonneg_left hb ha

theorem dl_bounds {p0 p1 p2 p3 : Int} (h : okP p0 p1 p2 p3) : ∀ k, p0 ≤ dl p0 p1 p2 k ∧ dl p0 p1 p2 k ≤ p2
  | 0 => by unfold okP at h; simp only [dl]; omega
  | k + 1 => by
    have ih := dl_bounds h k
    unfold okP at h
    have := mul_ge (a := dl p0 p1 p2 k) (b := p1) (by omega) (by omega)
    simp only [dl]
    omega

theorem inR_i64 {x : Int} (h : -9223372036854775808 ≤ x ∧ x ≤ 9223372036854775807) : InR .i64 x := h
theorem inR_i64' {x : Int} (h : InR .i64 x) : -9223372036854775808 ≤ x ∧ x ≤ 9223372036854775807 := h
theorem rcheck_k (p0 p1 p2 p3 : Int) (w : World) : FnP Try.prog F_retry_Check #[.agg #[.int .i64 p0, .int .i64 p1, .int .i64 p2, .int .i64 p3]] w fun v w' => Ext w w' ∧ ∃ e, v = .int .i64 e ∧ (okP p0 p1 p2 p3 → e = 0) ∧ (¬ okP p0 p1 p2 p3 → e = 4) := by
  refine ok_retry_Check _ _ _ _ w _ ?_
  intro b0 hb
  refine ⟨fun h w1 he => ⟨he, 4, rfl, fun hk => ?_, fun _ => rfl⟩, fun h w1 he => ⟨he, 0, rfl, fun _ => rfl, fun hn => ?_⟩⟩ <;> unfold okP at * <;> omega

def errD (p0 p1 p2 p3 n e : Int) : Prop := (¬ okP p0 p1 p2 p3 → e = 4) ∧ (okP p0 p1 p2 p3 → (n < 1 ∨ p3 < n) → e = 5) ∧ (okP p0 p1 p2 p3 → (1 ≤ n ∧ n ≤ p3) → e = 0)

theorem delay_k (p0 p1 p2 p3 n : Int) (hn : InR .i64 n) (w : World) : FnP Try.prog F_retry_Delay #[.agg #[.int .i64 p0, .int .i64 p1, .int .i64 p2, .int .i64 p3], .int .i64 n] w fun v w' =>
    Ext w w' ∧ ∃ a e, v = .tuple #[.int .i64 a, .int .i64 e] ∧ errD p0 p1 p2 p3 n e ∧ (e ≠ 0 → a = 0) ∧ (e = 0 → a = dl p0 p1 p2 (n - 1).toNat) := by
  refine ok_retry_Delay _ _ _ _ _ w _ ?_
  have hn := inR_i64' hn
  intro b0 hb w1 h1
  refine (rcheck_k _ _ _ _ w1).mono fun v w2 ⟨h2, e, he, ho, hno⟩ => ⟨h2, e, he, fun hne w4 h4 => ⟨h4, 0, e, rfl, ?_, fun _ => rfl, fun h0 => absurd h0 hne⟩, fun he0 => ?_⟩
  · have : ¬ okP p0 p1 p2 p3 := fun h => hne (ho h)
    exact ⟨hno, fun h => absurd h this, fun h => absurd h this⟩
  · have hok : okP p0 p1 p2 p3 := by
      by_cases h : okP p0 p1 p2 p3
      · exact h
      · have := hno h; omega
    refine ⟨fun hr w4 h4 => ⟨h4, 0, 5, rfl, ⟨fun h => absurd hok h, fun _ _ => rfl, fun _ h => by omega⟩, fun _ => rfl, fun h => by omega⟩, fun hr => ⟨inR_i64 (by omega), ?_⟩⟩
    refine ⟨fun d k w' => Ext w w' ∧ 0 ≤ k ∧ k ≤ n - 1 ∧ d = dl p0 p1 p2 k.toNat, fun d k _ => (n - 1 - k).toNat, ⟨Ext.refl w, by omega, by omega, rfl⟩, ?_⟩
    rintro d k w7 ⟨hw, hk0, hk1, rfl⟩
    have hd := dl_bounds hok k.toNat
    have hm1 := mul_le10 (a := dl p0 p1 p2 k.toNat) (b := p1) (by unfold okP at hok; omega) (by unfold okP at hok; omega)
    have hm2 := mul_ge (a := dl p0 p1 p2 k.toNat) (b := p1) (by unfold okP at hok; omega) (by unfold okP at hok; omega)
    unfold okP at hok
    refine ⟨fun hlt => ⟨inR_i64 (by omega), inR_i64 (by omega), ⟨hw, by omega, by omega, ?_⟩, by simp only []; omega⟩, fun hge w8 h8 => ⟨hw.trans h8, _, 0, rfl, ⟨fun h => absurd hok h, fun _ h => by omega, fun _ _ => rfl⟩, fun h => absurd rfl h, fun _ => ?_⟩⟩
    · rw [show (k + 1).toNat = k.toNat + 1 by omega]; rfl
    · rw [show k = n - 1 by omega]


abbrev okPol (p : Pol) : Prop := okP p.first p.times p.most p.tries
def delayP (p : Pol) (n : Int) : Int := dl p.first p.times p.most (n - 1).toNat

/-! ### One job turned -/
/-- The job of a place is turned in one of its numbers. -/
def stF (F : Fm) (k m : Nat) (v : Int) : Fm := setF F k (setS m v (F.jobs.getD k default))
def jobAt (F : Fm) (k : Nat) : St := F.jobs.getD k default
theorem st_len (F : Fm) (k m : Nat) (v : Int) : (stF F k m v).jobs.length = F.jobs.length := by simp [stF, setF]
theorem st_hosts (F : Fm) (k m : Nat) (v : Int) : (stF F k m v).hosts = F.hosts := rfl
theorem st_now (F : Fm) (k m : Nat) (v : Int) : (stF F k m v).now = F.now := rfl
theorem st_pol (F : Fm) (k m : Nat) (v : Int) : (stF F k m v).pol = F.pol := rfl
theorem st_at (F : Fm) {k m : Nat} (v : Int) (hk : k < F.jobs.length) (i : Nat) : jobAt (stF F k m v) i = if i = k then setS m v (jobAt F k) else jobAt F i := by
  unfold jobAt stF setF
  simp only [List.getD_eq_getElem?_getD, List.getElem?_set]
  by_cases h : k = i
  · subst h; simp [hk]
  · have h' : ¬ i = k := fun h2 => h h2.symm
    simp [h, h']
theorem st_jobs (F : Fm) {k m : Nat} (v : Int) (hk : k < F.jobs.length) : (stF F k m v).jobs.map (·.job) = F.jobs.map (·.job) := by
  unfold stF setF
  rw [List.map_set, setS_job]
  refine List.ext_getElem? fun i => ?_
  rw [List.getElem?_set]
  by_cases h : k = i
  · subst h
    simp [List.getD_eq_getElem?_getD, hk]
  · simp [h]
theorem aft_same {F G : Fm} (h : G.jobs.map (·.job) = F.jobs.map (·.job)) (ha : aftOk F) : aftOk G := by
  intro i s hs y hy
  have h1 : (G.jobs.map (·.job))[i]? = some s.job := by rw [List.getElem?_map, hs]; rfl
  rw [h, List.getElem?_map] at h1
  obtain ⟨s', hs', e⟩ := Option.map_eq_some_iff.1 h1
  exact ha i s' hs' y (by rw [e]; exact hy)
theorem aft_st {F : Fm} {k m : Nat} {v : Int} (hk : k < F.jobs.length) (ha : aftOk F) : aftOk (stF F k m v) := aft_same (st_jobs F v hk) ha
theorem jobAt_some {F : Fm} {k : Nat} (h : k < F.jobs.length) : F.jobs[k]? = some (jobAt F k) := by simp [jobAt, List.getD_eq_getElem?_getD, h]
theorem jobAt_of {F : Fm} {k : Nat} {s : St} (h : F.jobs[k]? = some s) : jobAt F k = s := by simp [jobAt, List.getD_eq_getElem?_getD, h]

section
variable {O : Nat → Prop} {B fb : Nat} {w : World} {P : Pl} {F : Fm}
theorem tick_k (x : FXO O B w fb P F) (hn0 : 0 ≤ F.now ∧ F.now ≤ 1099511627776) (n : Int) : FnP Try.prog F_farm_Farm_Tick #[.pointer (ptr fb), .int .i64 n] w fun v w' => ∃ e : Int, v = .int .i64 e ∧
    ((e ≠ 0 ∧ Ext w w') ∨ (e = 0 ∧ (0 ≤ n ∧ n ≤ 1000000000 ∧ F.now + n ≤ 1099511627776) ∧ FXO O B w' fb P { F with now := F.now + n } ∧ Fr (ft fb P.jp) w w')) ∧ (e = 0 ↔ (0 ≤ n ∧ n ≤ 1000000000 ∧ F.now + n ≤ 1099511627776)) := by
  have ne := ptr_ne fb
  refine ok_farm_Farm_Tick (ptr fb) n w _ ⟨fun _ => ne, fun _ => ne, fun h w0 h0 => ⟨4, rfl, .inl ⟨by decide, h0⟩, by omega⟩, fun h => ⟨_, x.cell (i := 5) rfl, i64 (by omega), fun h2 w1 h1 => ⟨4, rfl, .inl ⟨by decide, h1⟩, by omega⟩, fun h2 => ⟨ne, ne, _, x.cell (i := 5) rfl, i64 (by omega), ne, ne, ?_⟩⟩⟩
  refine store_own (off := 5) x.slot rfl (by simp) (by simp) (by intro u hu; simp at hu; subst hu; rfl) (by simp) fun w2 o2 g2 w3 h3 => ?_
  obtain ⟨y, f⟩ := x.slot_to (F' := { F with now := F.now + n }) (P' := P) o2 g2 rfl rfl rfl rfl (fun w'' k => x.hs w'' (((fr_grew g2 fun a ha => by cases ha; exact .inr (.inl rfl))).tr k)) x.hO
  exact ⟨0, rfl, .inr ⟨rfl, ⟨h.1, h.2, h2⟩, y.ext h3, f.tr (fr_ext h3)⟩, by omega⟩

/-! ### Lost ones -/
def badB (F : Fm) (s : St) : Bool := s.job.aft.any fun y => decide (whatAt F y = 4) || decide (whatAt F y = 5)
def lostStep (F : Fm) (k : Nat) : Fm := if (jobAt F k).what = 1 ∧ badB F (jobAt F k) = true then stF F k 11 5 else F
def lostTo (F : Fm) : Nat → Fm
  | 0 => F
  | n + 1 => lostStep (lostTo F n) n
def lostF (F : Fm) : Fm := lostTo F F.jobs.length
theorem lostStep_len (F : Fm) (k : Nat) : (lostStep F k).jobs.length = F.jobs.length := by unfold lostStep; split <;> simp [st_len]
theorem lostTo_len (F : Fm) : ∀ n, (lostTo F n).jobs.length = F.jobs.length
  | 0 => rfl
  | n + 1 => by rw [lostTo, lostStep_len, lostTo_len F n]
theorem lostTo_aft {F : Fm} (ha : aftOk F) : ∀ n, n ≤ F.jobs.length → aftOk (lostTo F n)
  | 0, _ => ha
  | n + 1, h => by
    have ih := lostTo_aft ha n (by omega)
    rw [lostTo, lostStep]
    split
    · exact aft_st (by rw [lostTo_len]; omega) ih
    · exact ih
theorem FXO.put (x : FXO O B w fb P F) {k : Int} (h0 : 0 ≤ k) (h1 : k < F.jobs.length) {m : Nat} (hm : 11 ≤ m ∧ m ≤ 15) (v : Int) {ns : List Nat} (hns : ∀ b ∈ ns, ¬ ft fb P.jp b) {K : World → Prop}
    (hk : ∀ w' P', P'.jp = P.jp → FXO O B w' fb P' (stF F k.toNat m v) → Fr (ft fb P.jp) w w' → K w') : Store w (pAdd (pIdx P.jp k 16) m) [.int .i64 v] ns K := x.set h0 h1 hm v hns fun w' y f => hk w' (setP P k.toNat (setS m v (F.jobs.getD k.toNat default))) rfl y f
theorem lost_k (x : FXO O B w fb P F) (ha : aftOk F) : FnP Try.prog F_farm_Farm_lost #[.pointer (ptr fb)] w fun v w' => v = .tuple #[] ∧ ∃ P', P'.jp = P.jp ∧ FXO O B w' fb P' (lostF F) ∧ Fr (ft fb P.jp) w w' := by
  have ne := ptr_ne fb
  refine ok_farm_Farm_lost (ptr fb) w _ fun w0 e0 => new_own (by simp [Value.oneCell']) fun w1 o1 e1 => ?_
  have e01 := e0.trans e1
  have x1 := x.ext e01
  generalize hp1 : (some ⟨w0.heap.size, 0, none⟩ : Option Addr) = p1
  rw [hp1] at o1
  have o1' := o1 w0.heap.size (Nat.le_refl _)
  have c1 : Go.Sx.cell w1 p1 0 = some (.pointer (ptr fb)) := o1'.cells 0 _ rfl
  have np : ∀ a, p1 = some a → ¬ ft fb P.jp a.block := fun a ha hf => by
    have := (x.foot hf).2
    have := (o1'.lt a ha).1
    have := e0.size
    omega
  have hl0 := x.jO.1
  refine ⟨_, c1, ne, ne, _, _, _, x1.cell (i := 6) rfl, ?_⟩
  rw [x1.len]
  refine ⟨fun k w' => 0 ≤ k ∧ k ≤ F.jobs.length ∧ Fr (ft fb P.jp) w1 w' ∧ ∃ P', P'.jp = P.jp ∧ FXO O B w' fb P' (lostTo F k.toNat), fun k _ => (F.jobs.length - k).toNat, ⟨by omega, by omega, Fr.refl _ _, P, rfl, x1⟩, ?_⟩
  rintro k w8 ⟨hk0, hk1, f8, P', hP, x8⟩
  have ll := lostTo_len F k.toNat
  refine ⟨fun hlt => ?_, fun hge w9 h9 => ⟨rfl, P', hP, ?_, ((fr_ext e01).tr f8).tr (fr_ext h9)⟩⟩
  · have c8 : Go.Sx.cell w8 p1 0 = some (.pointer (ptr fb)) := cell_fr c1 f8 np
    obtain ⟨r, hr, hF, hjp, hne, _, g, hJ, hok, hwf⟩ := x8.st hk0 (by omega)
    have hja : jobAt (lostTo F k.toNat) k.toNat = r.s := jobAt_of hF
    have nxt : ∀ {w}, FXO O B w fb P' (lostStep (lostTo F k.toNat) k.toNat) → FXO O B w fb P' (lostTo F (k + 1).toNat) := fun h => by rw [show (k + 1).toNat = k.toNat + 1 by omega]; exact h
    have same : ¬ (r.s.what = 1 ∧ badB (lostTo F k.toNat) r.s = true) → lostTo F (k + 1).toNat = lostTo F k.toNat := fun h => by
      rw [show (k + 1).toNat = k.toNat + 1 by omega, lostTo, lostStep, hja, if_neg h]
    refine ⟨_, c8, ne, ne, _, _, _, x8.cell (i := 6) rfl, hjp, hk0, by rw [x8.len]; omega, hne, hne, _, g 11 _ rfl, fun _ => hne, fun _ => hne, fun _ => by rw [pAdd_zero]; exact hne, fun hw => ?_, fun hw => ⟨i64 (by omega), ⟨by omega, by omega, f8, P', hP, by rw [same fun h => hw h.1]; exact x8⟩, by simp only []; omega⟩⟩
    refine ⟨_, _, _, by rw [pAdd_zero]; exact g 10 _ rfl, fun w17 h17 => ?_⟩
    have hin : ∀ y ∈ r.s.job.aft, 1 ≤ y ∧ y ≤ (lostTo F k.toNat).jobs.length := fun y hy => by have := lostTo_aft ha k.toNat (by omega) _ _ hF y hy; omega
    have hlen := hok.len
    refine (ContainsF_k r.pf r.cf r.s.job.aft (by omega) _ (fun y => decide (whatAt (lostTo F k.toNat) y = 4) || decide (whatAt (lostTo F k.toNat) y = 5)) w17 (hJ.2.ext h17) fun y hy w' hw' => ⟨F_farm_Farm_lost_1, #[.pointer p1], rfl, lost1_k (x8.ext (h17.trans hw')) (ext_cell (h17.trans hw') c8) (hin y hy)⟩).mono fun v w18 ⟨e18, b, hv, hb⟩ => ⟨e18, b, hv, fun hbt => ⟨hne, hne, ?_⟩, fun hbf => ⟨i64 (by omega), ⟨by omega, by omega, f8, P', hP, ?_⟩, by simp only []; omega⟩⟩
    · have hbad : badB (lostTo F k.toNat) r.s = true := by
        obtain ⟨y, hy, h3⟩ := hb.1 hbt
        exact List.any_eq_true.2 ⟨y, hy, h3⟩
      refine x8.put hk0 (by omega) (by omega) 5 (by simp) fun w20 P'' hP'' x20 f20 => ⟨i64 (by omega), ⟨by omega, by omega, f8.tr (by rw [hP] at f20; exact f20), P'', hP''.trans hP, ?_⟩, by simp only []; omega⟩
      rw [show (k + 1).toNat = k.toNat + 1 by omega, lostTo, lostStep, hja, if_pos ⟨hw, hbad⟩]
      exact x20
    · rw [same fun h => ?_]
      · exact x8
      · obtain ⟨y, hy, h3⟩ := List.any_eq_true.1 h.2
        have := hb.2 ⟨y, hy, h3⟩
        rw [hbf] at this; cases this
  · have : k.toNat = F.jobs.length := by omega
    rw [this] at x8
    exact x8.ext h9

/-! ### Leaving a host -/
def LvOk (F : Fm) (k : Nat) : Prop := okHs F.hosts ∧ 0 ≤ (jobAt F k).host ∧ (jobAt F k).host < F.hosts.length ∧ fitN (jobAt F k).job.nd (F.hosts.getD (jobAt F k).host.toNat default).used
def giveF (F : Fm) (k : Nat) : Fm := { F with hosts := F.hosts.set (jobAt F k).host.toNat (usedH (F.hosts.getD (jobAt F k).host.toNat default) (subN (F.hosts.getD (jobAt F k).host.toNat default).used (jobAt F k).job.nd)) }
def leaveF (F : Fm) (k : Nat) : Fm := stF (stF (giveF F k) k 12 0) k 13 0
theorem leave_k (x : FXO O B w fb P F) {k : Int} (h0 : 0 ≤ k) (h1 : k < F.jobs.length) (hv : LvOk F k.toNat) : FnP Try.prog F_farm_Farm_leave #[.pointer (ptr fb), .pointer (pIdx P.jp k 16)] w fun v w' => v = .tuple #[] ∧ ∃ P', P'.jp = P.jp ∧ FXO O B w' fb P' (leaveF F k.toNat) ∧ Fr (ft fb P.jp) w w' := by
  have ne := ptr_ne fb
  obtain ⟨r, hr, hF, hjp, hne, _, g, hJ, hok, hwf⟩ := x.st h0 h1
  have hja : jobAt F k.toNat = r.s := jobAt_of hF
  unfold LvOk at hv
  rw [hja] at hv
  refine ok_farm_Farm_leave (ptr fb) (pIdx P.jp k 16) w _ ⟨ne, ne, _, _, _, x.cell (i := 0) rfl, hne, hne, _, g 12 _ rfl, hne, hne, by rw [pAdd_zero]; exact hne, by rw [pAdd_zero]; exact fun h => hne (pAdd_none.1 h), _, by rw [pAdd_zero]; exact g 2 _ rfl, _, by rw [pAdd_zero, cell_pAdd]; have := g 3 _ rfl; rw [cell_pAdd] at this; exact this, _, by rw [pAdd_zero, cell_pAdd]; have := g 4 _ rfl; rw [cell_pAdd] at this; exact this, fun w7 h7 => ?_⟩
  have x7 := x.ext h7
  have hO := x.hO
  refine (Give_k P.hp P.hc F.hosts (by omega) hO.2 r.s.host r.s.job.nd w7 (x7.hs w7 (Fr.refl _ _))).mono fun v w8 ⟨e8, p', n', c', e, hv', hcase⟩ => ⟨e8, p', n', c', e, hv', ne, ne, ?_⟩
  rcases hcase with ⟨_, _, hno⟩ | ⟨_, _, _, _, rfl, _, hS⟩
  · exact absurd ⟨hok.nd, hv.2.2.2⟩ (hno hv.1 hv.2.1 hv.2.2.1)
  have x8 := x7.ext e8
  refine store_own (off := 0) x8.slot rfl (by simp) (by simp) (by intro u hu; simp at hu; subst hu; rfl) (by simp) fun w13 o13 g13 => ⟨hne, hne, ?_⟩
  have hG : giveF F k.toNat = { F with hosts := F.hosts.set r.s.host.toNat (usedH (F.hosts.getD r.s.host.toNat default) (subN (F.hosts.getD r.s.host.toNat default).used r.s.job.nd)) } := by unfold giveF; rw [hja]
  have fg : Fr (ft fb P.jp) w8 w13 := fr_grew g13 fun a ha => by cases ha; exact .inl rfl
  obtain ⟨y, f13⟩ := x8.slot_to (F' := giveF F k.toNat) (P' := { P with hp := p', hc := c' }) (by
    rw [hG]
    show Own B w13 T_farm_Farm 7 (ptr fb) 1 1 [.slice p' (F.hosts.set _ _).length c', _, _, _, _, _, _]
    rw [List.length_set]; exact o13) g13 rfl rfl rfl rfl (fun w'' kf => by
      rw [hG]
      exact hS (ftO O fb P.jp) (fun b hb => by
        rcases hb with hb | hb
        · exact x7.olt b hb
        · exact (x7.foot hb).2) w'' ((fg.mono fun b hb => .inr hb).tr kf)) (by
    rw [hG]
    refine ⟨by show (F.hosts.set _ _).length ≤ 30; rw [List.length_set]; exact hO.1, fun h hh => ?_⟩
    have hh : h ∈ F.hosts.set r.s.host.toNat (usedH (F.hosts.getD r.s.host.toNat default) (subN (F.hosts.getD r.s.host.toNat default).used r.s.job.nd)) := hh
    rcases List.mem_or_eq_of_mem_set hh with hh | rfl
    · exact hO.2 h hh
    · have := hO.2 _ (getD_mem F.hosts default (i := r.s.host.toNat) (by omega))
      exact ⟨this.1, this.2.1, this.2.2⟩)
  refine y.put (k := k) h0 h1 (by omega) 0 (by simp) fun w14 P1 hP1 y14 f14 => ⟨hne, hne, ?_⟩
  have hP1 : P1.jp = P.jp := hP1
  have := y14.put (k := k) (m := 13) h0 (by rw [st_len]; exact h1) (by omega) 0 (ns := []) (by simp) (K := fun w15 => ∀ w16, Ext w15 w16 → Value.tuple #[] = .tuple #[] ∧ ∃ P', P'.jp = P.jp ∧ FXO O B w16 fb P' (leaveF F k.toNat) ∧ Fr (ft fb P.jp) w w16) fun w15 P2 hP2 y15 f15 w16 h16 => ⟨rfl, P2, hP2.trans hP1, y15.ext h16, ?_⟩
  · rw [hP1] at this; exact this
  · rw [hP1] at f15
    exact (((((fr_ext h7).tr (fr_ext e8)).tr f13).tr f14).tr f15).tr (fr_ext h16)
end
end Go.Proofs.Ytblafknmfblgfaa
