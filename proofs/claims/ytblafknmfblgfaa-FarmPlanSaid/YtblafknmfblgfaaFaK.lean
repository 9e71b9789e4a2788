/- What holds of a farm, whatever is done to it: plain. -/
import Derived.Test.YtblafknmfblgfaaFaJ
set_option linter.unusedVariables false
set_option linter.unusedSimpArgs false
namespace Go.Proofs.Ytblafknmfblgfaa
open Go.Sx Go.RowKit

theorem ndAt_add (a b : Nd) (p : Nat) : ndAt (addN a b) p = ndAt a p + ndAt b p := by unfold ndAt addN; split <;> rfl
theorem ndAt_sub (a b : Nd) (p : Nat) : ndAt (subN a b) p = ndAt a p - ndAt b p := by unfold ndAt subN; split <;> rfl
theorem fitN_at {a b : Nd} : fitN a b ↔ ∀ p, p < 3 → ndAt a p ≤ ndAt b p := by
  constructor
  · rintro ⟨h1, h2, h3⟩ i hi
    match i, hi with
    | 0, _ => exact h1
    | 1, _ => exact h2
    | 2, _ => exact h3
  · intro h
    exact ⟨h 0 (by omega), h 1 (by omega), h 2 (by omega)⟩
theorem ndAt_ext {a b : Nd} (h : ∀ p, p < 3 → ndAt a p = ndAt b p) : a = b := by
  have h0 := h 0 (by omega); have h1 := h 1 (by omega); have h2 := h 2 (by omega)
  cases a; cases b
  simp only [ndAt] at h0 h1 h2
  simp [h0, h1, h2]
/-- What a job takes of a host. -/
def termS (s : St) (i : Int) (p : Nat) : Int := if s.what = 2 ∧ s.host = i then ndAt s.job.nd p else 0
def use (F : Fm) (i : Int) (p : Nat) : Nat → Int
  | 0 => 0
  | n + 1 => use F i p n + termS (jobAt F n) i p
theorem termS_nn {s : St} (h : okN s.job.nd) (i : Int) {p : Nat} (hp : p < 3) : 0 ≤ termS s i p := by
  unfold termS
  split
  · exact (okN_at.1 h p hp).1
  · omega
theorem use_nn {F : Fm} (h : ∀ k, k < F.jobs.length → okN (jobAt F k).job.nd) (i : Int) {p : Nat} (hp : p < 3) : ∀ {n : Nat}, n ≤ F.jobs.length → 0 ≤ use F i p n
  | 0, _ => by simp [use]
  | n + 1, hn => by
    have := use_nn h i hp (n := n) (by omega)
    have := termS_nn (h n (by omega)) i hp
    unfold use; omega
theorem use_ge {F : Fm} (h : ∀ k, k < F.jobs.length → okN (jobAt F k).job.nd) (i : Int) {p : Nat} (hp : p < 3) {k : Nat} : ∀ {n : Nat}, n ≤ F.jobs.length → k < n → termS (jobAt F k) i p ≤ use F i p n
  | 0, _, hk => by omega
  | n + 1, hn, hk => by
    unfold use
    by_cases hkn : k = n
    · subst hkn
      have := use_nn h i hp (n := k) (by omega)
      omega
    · have := use_ge h i hp (n := n) (by omega) (by omega : k < n)
      have := termS_nn (h n (by omega)) i hp
      omega
/-- One job of a farm was turned. -/
structure Turn (F G : Fm) (k : Nat) (s : St) : Prop where
  len : G.jobs.length = F.jobs.length
  pol : G.pol = F.pol
  now : G.now = F.now
  hlen : G.hosts.length = F.hosts.length
  at_ : ∀ i, jobAt G i = if i = k then s else jobAt F i
  job : s.job = (jobAt F k).job
theorem Turn.self {F G : Fm} {k : Nat} {s : St} (t : Turn F G k s) : jobAt G k = s := by rw [t.at_, if_pos rfl]
theorem Turn.other {F G : Fm} {k : Nat} {s : St} (t : Turn F G k s) {i : Nat} (h : i ≠ k) : jobAt G i = jobAt F i := by rw [t.at_, if_neg h]
theorem Turn.jobs {F G : Fm} {k : Nat} {s : St} (t : Turn F G k s) (i : Nat) : (jobAt G i).job = (jobAt F i).job := by
  rw [t.at_]
  split
  · rename_i h; rw [h]; exact t.job
  · rfl
theorem use_turn {F G : Fm} {k : Nat} {s : St} (t : Turn F G k s) (i : Int) (p : Nat) : ∀ n, use G i p n = use F i p n + (if k < n then termS s i p - termS (jobAt F k) i p else 0)
  | 0 => by simp [use]
  | n + 1 => by
    unfold use
    rw [use_turn t i p n, t.at_ n]
    by_cases h1 : n = k
    · subst h1
      rw [if_pos rfl, if_neg (by omega), if_pos (by omega)]; omega
    · rw [if_neg h1]
      by_cases h2 : k < n
      · rw [if_pos h2, if_pos (by omega)]; omega
      · rw [if_neg h2, if_neg (by omega)]; omega
def triesOk (p : Pol) (s : St) : Prop := 0 ≤ s.tries ∧ s.tries ≤ p.tries + 1 ∧ (s.what = 4 → s.tries = p.tries + 1) ∧ (s.what = 1 ∨ s.what = 2 → s.tries ≤ p.tries) ∧ (s.what = 1 → 0 < s.tries → delayP p s.tries ≤ s.again)
def aftJ (F : Fm) : Prop := ∀ k, k < F.jobs.length → ∀ y ∈ (jobAt F k).job.aft, 1 ≤ y ∧ y ≤ k
theorem aftOk_iff {F : Fm} : aftOk F ↔ aftJ F := by
  constructor
  · intro h k hk y hy
    exact h k _ (jobAt_some hk) y hy
  · intro h i s hs y hy
    have hi : i < F.jobs.length := (List.getElem?_eq_some_iff.1 hs).1
    rw [← jobAt_of hs] at hy
    exact h i hi y hy
structure Inv0 (F : Fm) : Prop where
  aft : aftJ F
  pol : okPol F.pol
  now : 0 ≤ F.now ∧ F.now ≤ 1099511627776
  hs : okHs F.hosts
  nd : ∀ k, k < F.jobs.length → okN (jobAt F k).job.nd
  hrun : ∀ k, k < F.jobs.length → (jobAt F k).what = 2 → 0 ≤ (jobAt F k).host ∧ (jobAt F k).host < F.hosts.length
  use : ∀ i : Nat, i < F.hosts.length → ∀ p, p < 3 → ndAt (F.hosts.getD i default).used p = use F i p F.jobs.length
  ahead : ∀ k, k < F.jobs.length → (jobAt F k).what = 2 ∨ (jobAt F k).what = 3 → ∀ y ∈ (jobAt F k).job.aft, whatAt F y = 3
  tries : ∀ k, k < F.jobs.length → triesOk F.pol (jobAt F k)
def waits (F : Fm) (n : Nat) : Prop := ∀ k, k < n → (jobAt F k).what = 1 → ∀ y ∈ (jobAt F k).job.aft, whatAt F y ≠ 4 ∧ whatAt F y ≠ 5
structure Inv (F : Fm) : Prop where
  i0 : Inv0 F
  wt : waits F F.jobs.length
theorem Inv0.lv {F : Fm} (I : Inv0 F) {k : Nat} (hk : k < F.jobs.length) (hw : (jobAt F k).what = 2) : LvOk F k := by
  obtain ⟨h0, h1⟩ := I.hrun k hk hw
  refine ⟨I.hs, h0, h1, fitN_at.2 fun p hp => ?_⟩
  rw [I.use _ (by omega) p hp]
  have := use_ge I.nd (((jobAt F k).host.toNat : Nat) : Int) hp (k := k) (n := F.jobs.length) (Nat.le_refl _) hk
  unfold termS at this
  rw [if_pos ⟨hw, by omega⟩] at this
  exact this
theorem Inv0.pre {F : Fm} (I : Inv0 F) : Pre F := ⟨aftOk_iff.2 I.aft, I.pol, I.now, fun k hk hw => I.lv hk hw, fun k hk => by
  have h := I.tries k hk
  have hp := I.pol
  unfold triesOk at h
  unfold okPol okP at hp
  omega⟩
theorem whatAt_job (F : Fm) (y : Int) : whatAt F y = (jobAt F (y - 1).toNat).what := rfl
theorem inv0_turn {F G : Fm} {k : Nat} {s : St} (I : Inv0 F) (t : Turn F G k s) (hk : k < F.jobs.length) (hhs : okHs G.hosts) (hrun : s.what = 2 → 0 ≤ s.host ∧ s.host < F.hosts.length)
    (huse : ∀ i : Nat, i < F.hosts.length → ∀ p, p < 3 → ndAt (G.hosts.getD i default).used p = ndAt (F.hosts.getD i default).used p + (termS s i p - termS (jobAt F k) i p))
    (ha : s.what = 2 ∨ s.what = 3 → ∀ y ∈ s.job.aft, whatAt F y = 3) (hb : (jobAt F k).what = 3 → s.what = 3) (ht : triesOk F.pol s) : Inv0 G := by
  have haft : aftJ G := fun i hi y hy => by
    rw [t.jobs] at hy
    rw [t.len] at hi
    exact I.aft i hi y hy
  refine ⟨haft, by rw [t.pol]; exact I.pol, by rw [t.now]; exact I.now, hhs, fun i hi => by rw [t.jobs]; exact I.nd i (by rw [t.len] at hi; exact hi), fun i hi hw => ?_, fun i hi p hp => ?_, fun i hi hw y hy => ?_, fun i hi => ?_⟩
  · rw [t.hlen]
    rw [t.len] at hi
    rw [t.at_] at hw ⊢
    split at hw
    · rename_i h; rw [if_pos h]; exact hrun hw
    · rename_i h; rw [if_neg h]; exact I.hrun i hi hw
  · rw [t.hlen] at hi
    rw [huse i hi p hp, I.use i hi p hp, t.len, use_turn t, if_pos hk]
  · rw [t.len] at hi
    have hy' := hy
    rw [t.jobs] at hy'
    have hle := I.aft i hi y hy'
    rw [whatAt_job, t.at_]
    by_cases hik : i = k
    · subst hik
      rw [if_neg (by omega), ← whatAt_job]
      rw [t.self] at hw hy
      exact ha hw y hy
    · rw [t.other hik] at hw
      have h3 := I.ahead i hi hw y hy'
      split
      · rename_i h
        rw [whatAt_job, h] at h3
        exact hb h3
      · exact h3
  · rw [t.len] at hi
    rw [t.pol, t.at_]
    split
    · exact ht
    · exact I.tries i hi
theorem Turn.st (F : Fm) {k m : Nat} (v : Int) (hk : k < F.jobs.length) : Turn F (stF F k m v) k (setS m v (jobAt F k)) := ⟨st_len F k m v, rfl, rfl, rfl, fun i => st_at F v hk i, setS_job m v _⟩

/-! ### Lost ones -/
theorem badB_iff {F : Fm} {s : St} : badB F s = true ↔ ∃ y ∈ s.job.aft, whatAt F y = 4 ∨ whatAt F y = 5 := by
  unfold badB
  rw [List.any_eq_true]
  simp [Bool.or_eq_true]
theorem lost_step {F : Fm} (I : Inv0 F) {n : Nat} (hn : n < F.jobs.length) (hw : waits F n) : Inv0 (lostStep F n) ∧ waits (lostStep F n) (n + 1) := by
  unfold lostStep
  split
  · rename_i h
    have t := Turn.st F (m := 11) 5 hn
    have h5 : (setS 11 5 (jobAt F n)).what = 5 := rfl
    refine ⟨inv0_turn I t hn I.hs (fun h2 => by rw [h5] at h2; omega) (fun i hi p hp => ?_) (fun h2 => by rw [h5] at h2; omega) (fun h3 => by rw [h.1] at h3; omega) ?_, fun k hk h1 y hy => ?_⟩
    · have e1 : termS (setS 11 5 (jobAt F n)) i p = 0 := by unfold termS; rw [if_neg (fun h => by rw [h5] at h; omega)]
      have e2 : termS (jobAt F n) i p = 0 := by unfold termS; rw [if_neg (fun g => by rw [h.1] at g; omega)]
      rw [e1, e2, st_hosts]; omega
    · have := I.tries n hn
      unfold triesOk at this ⊢
      simp only [setS]
      omega
    · rw [t.at_] at h1
      rw [t.jobs] at hy
      split at h1
      · rw [h5] at h1; omega
      · rename_i hkn
        have hle := I.aft k (by omega) y hy
        have := hw k (by omega) h1 y hy
        rw [whatAt_job, t.other (by omega), ← whatAt_job]
        exact this
  · rename_i h
    refine ⟨I, fun k hk h1 y hy => ?_⟩
    by_cases hkn : k = n
    · subst hkn
      have : badB F (jobAt F k) ≠ true := fun hb => h ⟨h1, hb⟩
      rw [Ne, badB_iff] at this
      exact ⟨fun h => this ⟨y, hy, .inl h⟩, fun h => this ⟨y, hy, .inr h⟩⟩
    · exact hw k (by omega) h1 y hy
theorem lost_inv {F : Fm} (I : Inv0 F) : Inv (lostF F) := by
  have h : ∀ n, n ≤ F.jobs.length → Inv0 (lostTo F n) ∧ waits (lostTo F n) n := by
    intro n
    induction n with
    | zero => intro _; exact ⟨I, fun k hk => by omega⟩
    | succ n ih =>
      intro hn
      obtain ⟨a, b⟩ := ih (by omega)
      exact lost_step a (by rw [lostTo_len]; omega) b
  obtain ⟨a, b⟩ := h _ (Nat.le_refl _)
  refine ⟨a, ?_⟩
  unfold lostF
  rw [lostTo_len]
  exact b

/-! ### A job leaves its host -/
theorem give_use {F : Fm} {k : Nat} (i : Nat) (p : Nat) (h0 : 0 ≤ (jobAt F k).host) (h1 : (jobAt F k).host < F.hosts.length) (hw : (jobAt F k).what = 2) : ndAt ((giveF F k).hosts.getD i default).used p = ndAt (F.hosts.getD i default).used p - termS (jobAt F k) i p := by
  unfold giveF termS
  by_cases hi : (jobAt F k).host.toNat = i
  · rw [if_pos ⟨hw, by omega⟩]
    subst hi
    simp only [List.getD_eq_getElem?_getD, List.getElem?_set_self (show (jobAt F k).host.toNat < F.hosts.length by omega)]
    simp only [Option.getD_some, usedH]
    rw [ndAt_sub]
  · rw [if_neg (fun h => by omega)]
    simp only [List.getD_eq_getElem?_getD, List.getElem?_set_ne hi]
    omega
theorem give_ok {F : Fm} (I : Inv0 F) {k : Nat} (hk : k < F.jobs.length) (hw : (jobAt F k).what = 2) : okHs (giveF F k).hosts := by
  obtain ⟨_, h0, h1, hf⟩ := I.lv hk hw
  have hm := getD_mem F.hosts default (i := (jobAt F k).host.toNat) (by omega)
  obtain ⟨_, _, _, c, d, e⟩ := I.hs.2.1 _ hm
  have hn := I.nd k hk
  refine okHs_used I.hs (by omega) ?_ ?_
  · unfold okN fitN subN at *; simp only; omega
  · unfold okN fitN subN at *; simp only; omega
/-- Who ran is turned, and its host has its part again. -/
theorem inv0_left {F G : Fm} {k : Nat} {s : St} (I : Inv0 F) (hk : k < F.jobs.length) (hw : (jobAt F k).what = 2) (t : Turn F G k s) (hG : G.hosts = (giveF F k).hosts) (hs : s.what ≠ 2) (ht : triesOk F.pol s) : Inv0 G := by
  obtain ⟨h0, h1⟩ := I.hrun k hk hw
  refine inv0_turn I t hk (by rw [hG]; exact give_ok I hk hw) (fun h => absurd h hs) (fun i hi p hp => ?_) (fun h y hy => ?_) (fun h => by omega) ht
  · rw [hG, give_use i p h0 h1 hw]
    have : termS s i p = 0 := by unfold termS; rw [if_neg (fun h => hs h.1)]
    rw [this]; omega
  · rw [t.job] at hy
    exact I.ahead k hk (.inl hw) y hy
/-- Who is behind one that ran, or was turned so, still waits behind none that is no more. -/
theorem waits_turn {F G : Fm} {k : Nat} {s : St} (I : Inv F) (t : Turn F G k s) (hk : k < F.jobs.length) (hs : s.what ≠ 4 ∧ s.what ≠ 5) (h1 : s.what = 1 → ∀ y ∈ s.job.aft, whatAt F y ≠ 4 ∧ whatAt F y ≠ 5) : waits G G.jobs.length := fun i hi hw y hy => by
  rw [t.len] at hi
  have hy' := hy
  rw [t.jobs] at hy'
  have hle := I.i0.aft i hi y hy'
  rw [whatAt_job, t.at_]
  split
  · exact hs
  · rw [← whatAt_job]
    by_cases hik : i = k
    · subst hik
      rw [t.self] at hw hy
      exact h1 hw y hy
    · rw [t.other hik] at hw
      exact I.wt i hi hw y hy'

theorem Turn.left {F : Fm} {k : Nat} (hk : k < F.jobs.length) : Turn F (leaveF F k) k { jobAt F k with host := 0, since := 0 } := ⟨leave_len F k, rfl, rfl, by unfold leaveF; rw [st_hosts, st_hosts]; unfold giveF; simp, fun i => leave_at hk i, rfl⟩
theorem Turn.then_ {F G : Fm} {k : Nat} {s : St} (t : Turn F G k s) (hk : k < F.jobs.length) (m : Nat) (v : Int) : Turn F (stF G k m v) k (setS m v s) := by
  have u := Turn.st G (m := m) v (by rw [t.len]; exact hk)
  refine ⟨u.len.trans t.len, u.pol.trans t.pol, u.now.trans t.now, u.hlen.trans t.hlen, fun i => ?_, (setS_job m v s).trans t.job⟩
  rw [u.at_]
  split
  · rw [t.self]
  · rename_i h; rw [t.other h]
theorem rep_inv {F : Fm} (I : Inv F) {k : Nat} (hk : k < F.jobs.length) (hw : (jobAt F k).what = 2) (ok : Bool) : Inv (repF F k ok) := by
  have ht := I.i0.tries k hk
  have hp := I.i0.pol
  have tl := Turn.left hk
  have h3 := I.i0.ahead k hk (.inl hw)
  have hn := I.i0.now
  unfold repF
  split
  · have t := tl.then_ hk 11 3
    refine ⟨inv0_left I.i0 hk hw t rfl (by simp [setS]) ?_, waits_turn I t hk (by simp [setS]) (by simp [setS])⟩
    unfold triesOk at ht ⊢
    simp only [setS]
    omega
  have tt : Turn F (triedF F k) k _ := tl.then_ hk 15 ((jobAt F k).tries + 1)
  split
  · rename_i hle
    have t := (tt.then_ hk 11 1).then_ hk 14 (F.now + delayP F.pol ((jobAt F k).tries + 1))
    refine ⟨inv0_left I.i0 hk hw t rfl (by simp [setS]) ?_, waits_turn I t hk (by simp [setS]) (fun _ y hy => ?_)⟩
    · unfold triesOk at ht ⊢
      simp only [setS]
      refine ⟨by omega, by omega, by omega, by omega, fun _ _ => by omega⟩
    · have := h3 y hy
      omega
  · rename_i hgt
    have t := tt.then_ hk 11 4
    refine lost_inv (inv0_left I.i0 hk hw t rfl (by simp [setS]) ?_)
    unfold triesOk at ht ⊢
    simp only [setS]
    omega
theorem can_inv {F : Fm} (I : Inv F) {k : Nat} (hk : k < F.jobs.length) (hw : (jobAt F k).what = 1 ∨ (jobAt F k).what = 2) : Inv (canF F k) := by
  have ht := I.i0.tries k hk
  unfold canF
  refine lost_inv ?_
  split
  · rename_i h2
    have t := (Turn.left hk).then_ hk 11 5
    refine inv0_left I.i0 hk h2 t rfl (by simp [setS]) ?_
    unfold triesOk at ht ⊢
    simp only [setS]
    omega
  · rename_i h2
    have h1 : (jobAt F k).what = 1 := by omega
    have t := Turn.st F (m := 11) 5 hk
    refine inv0_turn I.i0 t hk I.i0.hs (by simp [setS]) (fun i hi p hp => ?_) (by simp [setS]) (fun h => by omega) ?_
    · have e1 : termS (setS 11 5 (jobAt F k)) i p = 0 := by unfold termS; rw [if_neg (by simp [setS])]
      have e2 : termS (jobAt F k) i p = 0 := by unfold termS; rw [if_neg (by omega)]
      rw [e1, e2, st_hosts]; omega
    · unfold triesOk at ht ⊢
      simp only [setS]
      omega
end Go.Proofs.Ytblafknmfblgfaa
