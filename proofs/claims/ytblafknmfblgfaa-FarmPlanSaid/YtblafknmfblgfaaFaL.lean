/- What holds of a farm, whatever is done to it: plain, the second part. -/
import Derived.Test.YtblafknmfblgfaaFaK
set_option linter.unusedVariables false
set_option linter.unusedSimpArgs false
namespace Go.Proofs.Ytblafknmfblgfaa
open Go.Sx Go.RowKit

theorem sub_at {F : Fm} {j : Jb} (i : Nat) : jobAt (subF F j) i = if i < F.jobs.length then jobAt F i else if i = F.jobs.length then newS j else default := by
  unfold jobAt subF
  simp only [List.getD_eq_getElem?_getD]
  split
  · rename_i h; rw [List.getElem?_append_left h]
  · rename_i h
    rw [List.getElem?_append_right (by omega)]
    split
    · rename_i h2; rw [h2]; simp
    · rename_i h2
      rw [List.getElem?_eq_none (by simp; omega)]; rfl
theorem sub_len (F : Fm) (j : Jb) : (subF F j).jobs.length = F.jobs.length + 1 := by simp [subF]
theorem use_sub {F : Fm} {j : Jb} (i : Int) (p : Nat) : ∀ n, n ≤ F.jobs.length → use (subF F j) i p n = use F i p n
  | 0, _ => rfl
  | n + 1, h => by
    unfold use
    rw [use_sub i p n (by omega), sub_at, if_pos (by omega)]
theorem upA_ge {l : List Int} (h : upA 0 l) : ∀ x ∈ l, 1 ≤ x := fun x hx => (upA_mem h x hx).1
theorem sub_inv {F : Fm} {j : Jb} (I : Inv F) (h : okSub F j) : Inv (subF F j) := by
  have hup : ∀ x ∈ j.aft, 1 ≤ x := upA_ge h.1.up
  have wh : ∀ y : Int, 1 ≤ y → y ≤ F.jobs.length → whatAt (subF F j) y = whatAt F y := fun y h1 h2 => by rw [whatAt_job, sub_at, if_pos (by omega), ← whatAt_job]
  have cs : ∀ {k}, k < (subF F j).jobs.length → k < F.jobs.length ∧ jobAt (subF F j) k = jobAt F k ∨ k = F.jobs.length ∧ jobAt (subF F j) k = newS j := fun {k} hk => by
    rw [sub_len] at hk
    rw [sub_at]
    by_cases h : k < F.jobs.length
    · exact .inl ⟨h, if_pos h⟩
    · exact .inr ⟨by omega, by rw [if_neg h, if_pos (by omega)]⟩
  refine ⟨⟨fun k hk y hy => ?_, I.i0.pol, I.i0.now, I.i0.hs, fun k hk => ?_, fun k hk hw => ?_, fun i hi p hp => ?_, fun k hk hw y hy => ?_, fun k hk => ?_⟩, fun k hk hw y hy => ?_⟩
  · rcases cs hk with ⟨hk, e⟩ | ⟨hk, e⟩ <;> rw [e] at hy
    · exact I.i0.aft k hk y hy
    · have := (h.2.2 y hy).1
      exact ⟨hup y hy, by omega⟩
  · rcases cs hk with ⟨hk, e⟩ | ⟨hk, e⟩ <;> rw [e]
    · exact I.i0.nd k hk
    · exact h.1.nd
  · rcases cs hk with ⟨hk, e⟩ | ⟨hk, e⟩ <;> rw [e] at hw ⊢
    · exact I.i0.hrun k hk hw
    · simp [newS] at hw
  · rw [sub_len]
    unfold use
    rw [use_sub _ _ _ (Nat.le_refl _), sub_at, if_neg (by omega), if_pos rfl]
    have : termS (newS j) i p = 0 := by unfold termS; rw [if_neg (by simp [newS])]
    rw [this]
    have := I.i0.use i hi p hp
    show ndAt (F.hosts.getD i default).used p = _
    omega
  · rcases cs hk with ⟨hk, e⟩ | ⟨hk, e⟩ <;> rw [e] at hw hy
    · have := I.i0.aft k hk y hy
      rw [wh y this.1 (by omega)]
      exact I.i0.ahead k hk hw y hy
    · simp [newS] at hw
  · rcases cs hk with ⟨hk, e⟩ | ⟨hk, e⟩ <;> rw [e]
    · exact I.i0.tries k hk
    · have hp := I.i0.pol
      unfold okPol okP at hp
      show triesOk F.pol (newS j)
      unfold triesOk newS
      simp only
      omega
  · rcases cs hk with ⟨hk, e⟩ | ⟨hk, e⟩ <;> rw [e] at hw hy
    · have := I.i0.aft k hk y hy
      rw [wh y this.1 (by omega)]
      exact I.wt k hk hw y hy
    · have h1 := h.2.2 y hy
      rw [wh y (hup y hy) h1.1]
      exact h1.2

/-! ### Plan -/
theorem ready_iff {F : Fm} {s : St} : readyB F s = true ↔ s.what = 1 ∧ s.again ≤ F.now ∧ ∀ y ∈ s.job.aft, whatAt F y = 3 := by
  unfold readyB
  simp [Bool.and_eq_true, List.all_eq_true, and_assoc]
theorem Turn.run {F : Fm} {k0 : Nat} {k : Int} (hk : k0 < F.jobs.length) : Turn F (runF F k0 k) k0 { jobAt F k0 with what := 2, host := k, since := F.now } := ⟨run_len F k0 k, rfl, rfl, by show (takeF F k0 k).hosts.length = _; unfold takeF; simp, fun i => run_at hk k i, rfl⟩
theorem run_hosts (F : Fm) (k0 : Nat) (k : Int) : (runF F k0 k).hosts = (takeF F k0 k).hosts := rfl
theorem best_fits {L : List Ht} {t : AT} {a : Nd} {k : Int} (h : BestIs L t a k) : 0 ≤ k ∧ k < L.length ∧ fitN a (subN (L.getD k.toNat default).has (L.getD k.toNat default).used) := by
  obtain ⟨h0, h1, h2⟩ := mem_fits.1 h.1
  unfold fitI at h2
  rw [Bool.and_eq_true, decide_eq_true_iff] at h2
  exact ⟨h0, h1, h2.2⟩
theorem take_use {F : Fm} {k0 : Nat} {k : Int} (i : Nat) (p : Nat) (h0 : 0 ≤ k) (h1 : k < F.hosts.length) : ndAt ((takeF F k0 k).hosts.getD i default).used p = ndAt (F.hosts.getD i default).used p + (if k = i then ndAt (jobAt F k0).job.nd p else 0) := by
  unfold takeF hostAt
  by_cases hi : k.toNat = i
  · rw [if_pos (by omega)]
    subst hi
    simp only [List.getD_eq_getElem?_getD, List.getElem?_set_self (show k.toNat < F.hosts.length by omega)]
    simp only [Option.getD_some, usedH]
    rw [ndAt_add]
  · rw [if_neg (fun h => by omega)]
    simp only [List.getD_eq_getElem?_getD, List.getElem?_set_ne hi]
    omega
theorem run_inv {F : Fm} (I : Inv F) {k0 : Nat} (hk : k0 < F.jobs.length) (hr : readyB F (jobAt F k0) = true) {k : Int} (hb : BestIs F.hosts (jobAt F k0).job.ask (jobAt F k0).job.nd k) : Inv (runF F k0 k) := by
  obtain ⟨h0, h1, hf⟩ := best_fits hb
  obtain ⟨r1, r2, r3⟩ := ready_iff.1 hr
  have t := Turn.run (k := k) hk
  have ht := I.i0.tries k0 hk
  refine ⟨inv0_turn I.i0 t hk (by rw [run_hosts]; exact okHs_take I.i0.hs h0 h1 (I.i0.nd k0 hk) hf) (fun _ => ⟨h0, h1⟩) (fun i hi p hp => ?_) (fun _ y hy => r3 y hy) (fun h => by omega) ?_, waits_turn I t hk (by simp) (by simp)⟩
  · rw [run_hosts, take_use i p h0 h1]
    have e2 : termS (jobAt F k0) i p = 0 := by unfold termS; rw [if_neg (by omega)]
    rw [e2]
    unfold termS
    simp only [true_and]
    omega
  · unfold triesOk at ht ⊢
    simp only
    omega
/-- What a plan's steps keep is kept by the plan. -/
theorem PRun.ind {Mot : Fm → Prop} (step : ∀ F id k, inJ F id → readyB F (jobAt F (id - 1).toNat) = true → BestIs F.hosts (jobAt F (id - 1).toNat).job.ask (jobAt F (id - 1).toNat).job.nd k → Mot F → Mot (runF F (id - 1).toNat k)) :
    ∀ {F G : Fm} {ids : List Int} {outs : List (Int × Int)}, PRun F ids G outs → ids.Nodup → (∀ id ∈ ids, inJ F id ∧ readyB F (jobAt F (id - 1).toNat) = true) → Mot F → Mot G := by
  intro F G ids outs h
  induction h with
  | nil F => intro _ _ m; exact m
  | skip h1 _ ih =>
    intro hn hr m
    exact ih (List.nodup_cons.1 hn).2 (fun id h => hr id (List.mem_cons_of_mem _ h)) m
  | @run F F' id k ids out h1 _ ih =>
    intro hn hr m
    obtain ⟨hin, hrd⟩ := hr id (List.mem_cons_self ..)
    have hk : (id - 1).toNat < F.jobs.length := by have := hin.1; have := hin.2; omega
    have t := Turn.run (k := k) hk
    refine ih (List.nodup_cons.1 hn).2 (fun id' h => ?_) (step F id k hin hrd h1 m)
    obtain ⟨hin', hrd'⟩ := hr id' (List.mem_cons_of_mem _ h)
    have hne : id' ≠ id := fun h2 => (List.nodup_cons.1 hn).1 (h2 ▸ h)
    have hk' : (id' - 1).toNat ≠ (id - 1).toNat := by have := hin.1; have := hin'.1; omega
    refine ⟨⟨hin'.1, by rw [t.len]; exact hin'.2⟩, ?_⟩
    rw [t.other hk']
    rw [ready_iff] at hrd' hrd ⊢
    refine ⟨hrd'.1, by rw [t.now]; exact hrd'.2.1, fun y hy => ?_⟩
    have := hrd'.2.2 y hy
    rw [whatAt_job] at this ⊢
    rw [t.at_]
    split
    · rename_i h; rw [h] at this; omega
    · exact this
theorem ord_nodup {F : Fm} {T : List Int} (h : IsOrd F T) : T.Nodup := (h.1.nodup_iff).2 (rdyTo_nodup F _)
theorem ord_ready {F : Fm} {T : List Int} (h : IsOrd F T) : ∀ id ∈ T, inJ F id ∧ readyB F (jobAt F (id - 1).toNat) = true := fun id hi => by
  obtain ⟨a, b, c⟩ := mem_rdyTo.1 (h.1.mem_iff.1 hi)
  exact ⟨⟨a, b⟩, c⟩
theorem plan_ind {Mot : Fm → Prop} (step : ∀ F id k, inJ F id → readyB F (jobAt F (id - 1).toNat) = true → BestIs F.hosts (jobAt F (id - 1).toNat).job.ask (jobAt F (id - 1).toNat).job.nd k → Mot F → Mot (runF F (id - 1).toNat k)) {F G : Fm} {outs : List (Int × Int)} (h : Planned F G outs) (m : Mot F) : Mot G := by
  obtain ⟨T, h1, h2⟩ := h
  exact h2.ind step (ord_nodup h1) (ord_ready h1) m
theorem inJ_lt {F : Fm} {id : Int} (h : inJ F id) : (id - 1).toNat < F.jobs.length := by have := h.1; have := h.2; omega
theorem plan_inv {F G : Fm} {outs : List (Int × Int)} (h : Planned F G outs) (I : Inv F) : Inv G :=
  plan_ind (fun F id k hin hr hb I => run_inv I (inJ_lt hin) hr hb) h I
theorem did_inv {F G : Fm} {x : Ev} (h : Did F x G) (I : Inv F) : Inv G := by
  rcases h with ⟨_, rfl⟩ | ⟨hc, h⟩
  · exact I
  obtain ⟨hE, c1, c2, c4, c5⟩ := hc
  rcases h with ⟨a, rfl⟩ | ⟨a, rfl⟩ | ⟨a, o, h⟩ | ⟨a, rfl⟩ | ⟨a, rfl⟩
  · exact sub_inv I (c1 a)
  · have h2 := c2 a
    have hn := I.i0.now
    exact ⟨⟨I.i0.aft, I.i0.pol, by show 0 ≤ F.now + x.n ∧ F.now + x.n ≤ 1099511627776; omega, I.i0.hs, I.i0.nd, I.i0.hrun, by
      intro i hi p hp
      have := I.i0.use i hi p hp
      have e : ∀ n, use { F with now := F.now + x.n } i p n = use F i p n := fun n => by
        induction n with
        | zero => rfl
        | succ n ih => unfold use; rw [ih]; rfl
      rw [e]; exact this, I.i0.ahead, I.i0.tries⟩, I.wt⟩
  · exact plan_inv h I
  · exact rep_inv I (inJ_lt (c4 a).1) (c4 a).2 x.ok
  · exact can_inv I (inJ_lt (c5 a).1) (c5 a).2
theorem new_inv {L : List Ht} {pol : Pol} (h : okNew L pol) : Inv (newF L pol) := by
  refine ⟨⟨fun k hk => (by simp [newF] at hk), h.2.2, by simp [newF], h.1, fun k hk => (by simp [newF] at hk), fun k hk => (by simp [newF] at hk), fun i hi p hp => ?_, fun k hk => (by simp [newF] at hk), fun k hk => (by simp [newF] at hk)⟩, fun k hk => (by simp [newF] at hk)⟩
  have hm := h.2.1 _ (getD_mem L default (i := i) hi)
  show ndAt (L.getD i default).used p = 0
  rw [hm]
  unfold ndAt zeroN
  split <;> rfl

/-! ### What stays -/
theorem lostStep_keeps (F : Fm) (k : Nat) : (lostStep F k).pol = F.pol ∧ (lostStep F k).hosts = F.hosts ∧ (lostStep F k).now = F.now := by unfold lostStep; split <;> exact ⟨rfl, rfl, rfl⟩
theorem lost_keeps (F : Fm) : (lostF F).pol = F.pol ∧ (lostF F).hosts = F.hosts ∧ (lostF F).now = F.now := by
  have h : ∀ n, (lostTo F n).pol = F.pol ∧ (lostTo F n).hosts = F.hosts ∧ (lostTo F n).now = F.now := fun n => by
    induction n with
    | zero => exact ⟨rfl, rfl, rfl⟩
    | succ n ih =>
      obtain ⟨a, b, c⟩ := lostStep_keeps (lostTo F n) n
      exact ⟨a.trans ih.1, b.trans ih.2.1, c.trans ih.2.2⟩
  exact h _
theorem give_hlen (F : Fm) (k : Nat) : (giveF F k).hosts.length = F.hosts.length := by unfold giveF; simp
theorem did_keeps {F G : Fm} {x : Ev} (h : Did F x G) : G.pol = F.pol ∧ G.hosts.length = F.hosts.length := by
  rcases h with ⟨_, rfl⟩ | ⟨hc, h⟩
  · exact ⟨rfl, rfl⟩
  rcases h with ⟨a, rfl⟩ | ⟨a, rfl⟩ | ⟨a, o, h⟩ | ⟨a, rfl⟩ | ⟨a, rfl⟩
  · exact ⟨rfl, rfl⟩
  · exact ⟨rfl, rfl⟩
  · exact plan_ind (Mot := fun G => G.pol = F.pol ∧ G.hosts.length = F.hosts.length) (fun F' id k hin hr hb m => ⟨m.1, by rw [(Turn.run (k := k) (inJ_lt hin)).hlen]; exact m.2⟩) h ⟨rfl, rfl⟩
  · unfold repF
    split
    · exact ⟨rfl, give_hlen F _⟩
    · split
      · exact ⟨rfl, give_hlen F _⟩
      · obtain ⟨a, b, _⟩ := lost_keeps (stF (triedF F (x.id - 1).toNat) (x.id - 1).toNat 11 4)
        exact ⟨a, by rw [b]; exact give_hlen F _⟩
  · unfold canF
    obtain ⟨a, b, _⟩ := lost_keeps (stF (if (jobAt F (x.id - 1).toNat).what = 2 then leaveF F (x.id - 1).toNat else F) (x.id - 1).toNat 11 5)
    rw [a, b]
    split
    · exact ⟨rfl, give_hlen F _⟩
    · exact ⟨rfl, rfl⟩
/-! ### Many events -/
def Plays (F : Fm) : List Ev → Fm → Prop
  | [], G => G = F
  | x :: L, G => ∃ F1, Did F x F1 ∧ Plays F1 L G
theorem plays_snoc {x : Ev} {H : Fm} : ∀ {L : List Ev} {F G : Fm}, Plays F L G → Did G x H → Plays F (L ++ [x]) H
  | [], F, G, h, d => by
    have : G = F := h
    subst this
    exact ⟨H, d, rfl⟩
  | y :: L, F, G, ⟨F1, h1, h2⟩, d => ⟨F1, h1, plays_snoc h2 d⟩
theorem plays_one {L : List Ev} : ∀ {F G1 G2 : Fm}, Plays F L G1 → Plays F L G2 → G1 = G2 := by
  induction L with
  | nil => intro F G1 G2 h g; exact (show G1 = F from h).trans (show G2 = F from g).symm
  | cons x L ih =>
    rintro F G1 G2 ⟨F1, h1, h2⟩ ⟨F2, g1, g2⟩
    obtain rfl := did_one h1 g1
    exact ih h2 g2
theorem plays_ind {Mot : Fm → Prop} (step : ∀ F G x, Did F x G → Mot F → Mot G) : ∀ {L : List Ev} {F G : Fm}, Plays F L G → Mot F → Mot G
  | [], F, G, h, m => by have : G = F := h; subst this; exact m
  | x :: L, F, G, ⟨F1, h1, h2⟩, m => plays_ind step h2 (step _ _ _ h1 m)
theorem plays_inv {L : List Ev} {F G : Fm} (h : Plays F L G) (I : Inv F) : Inv G := plays_ind (fun _ _ _ d I => did_inv d I) h I
end Go.Proofs.Ytblafknmfblgfaa
