/- A farm: what is done to it, as one; new farms; what is told of it. -/
import Derived.Test.YtblafknmfblgfaaFaI
set_option linter.unusedVariables false
set_option linter.unusedSimpArgs false
namespace Go.Proofs.Ytblafknmfblgfaa
open Go.Sx Go.RowKit

/-! ### New -/
theorem neN_k {a b : Nd} {w : World} {K : Value → World → Prop} (hk : K (.bool (!decide (a = b))) w) : Run Try.prog (.eq .neq T_Need false false (nv a) (nv b)) w K :=
  run_nes (n := 3) (k := .i64) (by kernel_rfl) (by kernel_rfl) (by kernel_rfl) (by kernel_rfl) [a.c, a.m, a.g] [b.c, b.m, b.g] rfl rfl (by
    have : decide (a = b) = decide ([a.c, a.m, a.g] = [b.c, b.m, b.g]) := decide_eq_decide.2 nd_eq
    rwa [this] at hk)
theorem New1_k (h : Ht) (q : Option Addr) (d : Nat) (w : World) : FnP Try.prog F_farm_New_1 #[.agg #[.string h.name, .slice q h.labels.length d, .int .i64 h.has.c, .int .i64 h.has.m, .int .i64 h.has.g, .int .i64 h.used.c, .int .i64 h.used.m, .int .i64 h.used.g]] w fun v w' => Ext w w' ∧ v = .bool (!decide (h.used = zeroN)) := by
  refine ok_farm_New_1 h.name q h.labels.length d h.has.c h.has.m h.has.g h.used.c h.used.m h.used.g w _ fun b0 hb0 w1 h1 => ?_
  refine neN_k (a := h.used) (b := zeroN) ⟨Ext.refl _, _, rfl, fun w4 h4 => ⟨h4, rfl⟩⟩
theorem IndexH_k (p : Option Addr) (c : Nat) (L : List Ht) (h63 : (L.length : Int) ≤ 9223372036854775807) (w : World) (hL : HsAt w p L) :
    FnP Try.prog F_slices_IndexFunc_api_Host_api_Host #[.slice p L.length c, .func (.func F_farm_New_1) #[] #[]] w fun v w' => Ext w w' ∧ ∃ t, v = .int .i64 t ∧ (0 ≤ t ↔ ∃ x ∈ L, x.used ≠ zeroN) := by
  refine ok_slices_IndexFunc_api_Host_api_Host p L.length c _ w _ ?_
  refine ⟨fun k w' => w' = w ∧ 0 ≤ k ∧ k ≤ L.length ∧ ∀ j : Nat, (j : Int) < k → (L.getD j default).used = zeroN, fun k _ => (L.length - k).toNat, ⟨rfl, by omega, by omega, fun j hj => by omega⟩, ?_⟩
  rintro k w ⟨rfl, hk0, hk1, hno⟩
  refine ⟨fun hlt => ?_, fun hge w4 h4 => ⟨h4, _, rfl, ?_⟩⟩
  · obtain ⟨q, d, n1, n2, g, _⟩ := hL.at hk0 hlt
    refine ⟨n1, hk0, hlt, n2, _, g 0 _ rfl, _, _, _, g 1 _ rfl, _, g 2 _ rfl, _, g 3 _ rfl, _, g 4 _ rfl, _, g 5 _ rfl, _, g 6 _ rfl, _, g 7 _ rfl, fun w4 h4 => ?_⟩
    refine ⟨F_farm_New_1, #[], rfl, (New1_k (L.getD k.toNat default) q d w4).mono fun v w5 ⟨e5, hv⟩ => ⟨e5, _, hv, fun hyes w9 h9 => ⟨h9, _, rfl, fun _ => ⟨_, getD_mem L default (i := k.toNat) (by omega), by simpa using hyes⟩, fun _ => hk0⟩, fun hn => ⟨i64 (by omega), ⟨rfl, by omega, by omega, fun j hj => ?_⟩, by simp only []; omega⟩⟩⟩
    by_cases hjk : (j : Int) < k
    · exact hno j hjk
    · obtain rfl : j = k.toNat := by omega
      simpa using hn
  · constructor
    · intro h; omega
    · rintro ⟨x, hm, hx⟩
      obtain ⟨j, hj, rfl⟩ := List.getElem_of_mem hm
      have := hno j (by omega)
      rw [show L.getD j default = L[j] by simp [List.getD_eq_getElem?_getD, hj]] at this
      exact absurd this hx
theorem ContainsH_k (p : Option Addr) (c : Nat) (L : List Ht) (h63 : (L.length : Int) ≤ 9223372036854775807) (w : World) (hL : HsAt w p L) :
    FnP Try.prog F_slices_ContainsFunc_api_Host_api_Host #[.slice p L.length c, .func (.func F_farm_New_1) #[] #[]] w fun v w' => Ext w w' ∧ ∃ b : Bool, v = .bool b ∧ (b = true ↔ ∃ x ∈ L, x.used ≠ zeroN) := by
  refine ok_slices_ContainsFunc_api_Host_api_Host p L.length c _ w _ fun w1 h1 => ?_
  refine (IndexH_k p c L h63 w1 (hL.ext h1)).mono fun v w2 ⟨e2, t, hv, ht⟩ => ⟨e2, t, hv, fun w4 h4 => ⟨h4, _, rfl, ?_⟩⟩
  rw [decide_eq_true_iff]; exact ht
def okNew (L : List Ht) (pol : Pol) : Prop := okHs L ∧ (∀ x ∈ L, x.used = zeroN) ∧ okPol pol
def newF (L : List Ht) (pol : Pol) : Fm := ⟨L, pol, 0, []⟩
theorem New_k (p : Option Addr) (c : Nat) (L : List Ht) (h63 : (L.length : Int) ≤ 9223372036854775807) (hO : ∀ h ∈ L, HtOk h) (pol : Pol) (w : World) (hL : HsAt w p L) :
    FnP Try.prog F_farm_New #[.agg #[.slice p L.length c, .int .i64 pol.first, .int .i64 pol.times, .int .i64 pol.most, .int .i64 pol.tries]] w fun v w' => Ext w w' ∧ ∃ (q : Option Addr) (e : Int), v = .tuple #[.pointer q, .int .i64 e] ∧ (e = 0 ↔ okNew L pol) ∧ (e ≠ 0 → q = none) ∧
      (e = 0 → ∃ fb P, q = ptr fb ∧ FX w.heap.size w' fb P (newF L pol)) := by
  refine ok_farm_New p L.length c pol.first pol.times pol.most pol.tries w _ fun b0 hb0 w1 h1 => (hcheck_k p c L h63 hO w1 (hL.ext h1)).mono fun v w2 ⟨e2, e, hv, he, _⟩ => ⟨e2, e, hv, fun hne w4 h4 => ⟨h4, none, e, rfl, ⟨fun h => absurd h hne, fun h => absurd (he.2 h.1) hne⟩, fun _ => rfl, fun h => absurd h hne⟩, fun hz w4 h4 => ?_⟩
  have hok := he.1 hz
  refine (ContainsH_k p c L h63 w4 (hL.ext h4)).mono fun v w5 ⟨e5, b, hv, hb⟩ => ⟨e5, b, hv, fun hbt w7 h7 => ⟨h7, none, 9, rfl, ⟨fun h => (by cases h), fun h => ?_⟩, fun _ => rfl, fun h => (by cases h)⟩, fun hbf w7 h7 => ?_⟩
  · obtain ⟨x, hx, hu⟩ := hb.1 hbt
    exact absurd (h.2.1 x hx) hu
  have hu : ∀ x ∈ L, x.used = zeroN := fun x hx => by
    by_cases h : x.used = zeroN
    · exact h
    · have := hb.2 ⟨x, hx, h⟩; rw [hbf] at this; cases this
  refine (rcheck_k pol.first pol.times pol.most pol.tries w7).mono fun v w8 ⟨e8, e, hv, hy, hn⟩ => ⟨e8, e, hv, fun hne w10 h10 => ⟨h10, none, e, rfl, ⟨fun h => absurd h hne, fun h => absurd (hy h.2.2) hne⟩, fun _ => rfl, fun h => absurd h hne⟩, fun hz w10 x10 => ?_⟩
  have hp : okPol pol := by
    by_cases h : okPol pol
    · exact h
    · have := hn h; omega
  have h10 := extB_ext x10
  refine (ownH_k p c L hok.1 (fun h hh => (hok.2.1 h hh).2.1) w10 (hL.ext h10)).mono fun v w11 ⟨e11, p', c', M, hv, hM, o11, hA, hN⟩ => ⟨e11, p', _, c', hv, fun w15 x15 => ?_⟩
  have h15 := extB_ext x15
  refine new_own (by intro v hv; simp at hv; rcases hv with rfl | rfl | rfl | rfl | rfl | rfl | rfl <;> rfl) fun w16 o16 e16 w17 e17 => ?_
  have h1117 := (h15.trans e16).trans e17
  have hall : Ext w w17 := (h10.trans e11).trans h1117
  have hs15 : w.heap.size ≤ w15.heap.size := Nat.le_trans h10.size (Nat.le_trans e11.size h15.size)
  have hs11 : w11.heap.size ≤ w15.heap.size := h15.size
  refine ⟨hall, _, 0, rfl, ⟨fun _ => ⟨hok, hu, hp⟩, fun _ => rfl⟩, fun h => absurd rfl h, fun _ => ⟨w15.heap.size, ⟨p', c', none, 0, []⟩, rfl, ?_⟩⟩
  have hS := (hsS_of o11 (fun m hm => (hA m hm).1) hN).weak h10.size
  rw [hM] at hS
  refine ⟨((o16 _ hs15).ext e17), Own.nil, rfl, fun w'' k => ?_, fun r hr => (by cases hr), fun a ha => (by cases ha), ⟨hok.1, hO⟩, ⟨by simp [newF], fun s hs => by simp [newF] at hs⟩, fun b hb => Nat.lt_of_lt_of_le hb hall.size, fun b hb hf => ?_⟩
  · refine hS (fun b => b < w.heap.size) (fun b hb => hb) w'' ((fr_ext h1117).trans k fun b hb => ?_)
    rcases hb with hb | hb | ⟨a, ha, _⟩
    · exact .inl hb
    · subst hb; exact .inr hs11
    · cases ha
  · rcases hf with hf | ⟨a, ha, _⟩
    · subst hf; have : w15.heap.size < w.heap.size := hb; omega
    · cases ha

/-! ### Do -/
def can (F : Fm) (x : Ev) : Prop := okE x ∧ (x.kind = 1 → okSub F x.job) ∧ (x.kind = 2 → 0 ≤ x.n ∧ x.n ≤ 1000000000 ∧ F.now + x.n ≤ 1099511627776) ∧ (x.kind = 4 → inJ F x.id ∧ (jobAt F (x.id - 1).toNat).what = 2) ∧ (x.kind = 5 → inJ F x.id ∧ ((jobAt F (x.id - 1).toNat).what = 1 ∨ (jobAt F (x.id - 1).toNat).what = 2))
def Did (F : Fm) (x : Ev) (F' : Fm) : Prop := (¬ can F x ∧ F' = F) ∨ (can F x ∧ ((x.kind = 1 ∧ F' = subF F x.job) ∨ (x.kind = 2 ∧ F' = { F with now := F.now + x.n }) ∨ (x.kind = 3 ∧ ∃ outs, Planned F F' outs) ∨ (x.kind = 4 ∧ F' = repF F (x.id - 1).toNat x.ok) ∨ (x.kind = 5 ∧ F' = canF F (x.id - 1).toNat)))
theorem did_one {F F1 F2 : Fm} {x : Ev} (h : Did F x F1) (g : Did F x F2) : F1 = F2 := by
  rcases h with ⟨h, rfl⟩ | ⟨h, h'⟩ <;> rcases g with ⟨g, rfl⟩ | ⟨g, g'⟩
  · rfl
  · exact absurd g h
  · exact absurd h g
  · rcases h' with ⟨a, rfl⟩ | ⟨a, rfl⟩ | ⟨a, o, h'⟩ | ⟨a, rfl⟩ | ⟨a, rfl⟩ <;> rcases g' with ⟨b, rfl⟩ | ⟨b, rfl⟩ | ⟨b, o2, g'⟩ | ⟨b, rfl⟩ | ⟨b, rfl⟩ <;> first | rfl | omega | exact (planned_one h' g').1

section
variable {O : Nat → Prop} {B fb : Nat} {w : World} {P : Pl} {F : Fm}
theorem Do_k (x : FXO O B w fb P F) (hp : Pre F) (hh : okHs F.hosts) (y : Ev) (pa : Option Addr) (ca : Nat) (pf : Option Addr) (cf : Nat) (hJ : IsJ w y.job pa ca pf) (hW : WfJ y.job) (hB : B ≤ w.heap.size) :
    FnP Try.prog F_farm_Farm_Do #[.pointer (ptr fb), evv y pa ca pf cf] w fun v w' => ∃ (e : Int) (P' : Pl) (F' : Fm), v = .int .i64 e ∧ (e = 0 ↔ can F y) ∧ Did F y F' ∧ FXO O B w' fb P' F' ∧ Fr (ft fb P.jp) w w' ∧ grows w fb P.jp P'.jp := by
  have gsame : ∀ {jp}, jp = P.jp → grows w fb P.jp jp := fun h => by subst h; exact fun b hb => .inl hb
  refine ok_farm_Farm_Do (ptr fb) y.kind y.job.user y.job.prio y.job.nd.c y.job.nd.m y.job.nd.g y.job.ask.k y.job.ask.key y.job.ask.val y.job.ask.n pa y.job.ask.xs.length ca pf y.job.aft.length cf y.n y.id y.ok w _ fun b0 hb0 w1 h1 => (eCheck_k y pa ca pf cf w1 (hJ.ext h1) hW).mono fun v w2 ⟨e2, e, hv, he⟩ => ⟨e2, e, hv, fun hne w4 h4 => ?_, fun hz => ?_⟩
  · have hno : ¬ can F y := fun h => hne (he.2 h.1)
    exact ⟨e, P, F, rfl, ⟨fun h => absurd h hne, fun h => absurd h hno⟩, .inl ⟨hno, rfl⟩, x.ext h4, fr_ext h4, fun b hb => .inl hb⟩
  have hE := he.1 hz
  have kp : ∀ {w4 w5 : World}, ExtB [] [b0] w w4 → Fr (ft fb P.jp) w4 w5 → Kept [b0] w4 w5 := fun x4 f => f.kept fun b hb => by
    simp at hb; subst hb
    refine ⟨x4.lt b (by simp), fun hf => ?_⟩
    have := (x.foot hf).2
    omega
  have kE : ∀ {w4 w5 : World}, ExtB [] [b0] w w4 → Ext w4 w5 → Kept [b0] w4 w5 := fun x4 f => kp x4 (fr_ext f)
  have hk := okE_kind hE
  refine ⟨fun h1 w4 x4 => ?_, fun h1 => ⟨fun h2 w4 x4 => ?_, fun h2 => ⟨fun h3 w4 x4 => ?_, fun h3 => ⟨fun h4 w4 x4 => ?_, fun h4 w4 x4 => ?_⟩⟩⟩⟩
  · have h4 := extB_ext x4
    refine (submit_k (x.ext h4) y.job pa ca pf cf (hJ.ext h4) hW (Nat.le_trans hB h4.size)).mono fun v w5 ⟨id, e, hv, hiff, hc⟩ => ?_
    have hcan : e = 0 ↔ can F y := hiff.trans ⟨fun h => ⟨hE, fun _ => h, fun h => by omega, fun h => by omega, fun h => by omega⟩, fun h => h.2.1 h1⟩
    rcases hc with ⟨hne, e5⟩ | ⟨hz, _, P', x5, f5, g5⟩
    · exact ⟨kE x4 e5, id, e, hv, fun w8 h8 => ⟨e, P, F, rfl, hcan, .inl ⟨fun h => hne (hcan.2 h), rfl⟩, x.ext ((h4.trans e5).trans h8), fr_ext ((h4.trans e5).trans h8), fun b hb => .inl hb⟩⟩
    · exact ⟨kp x4 f5, id, e, hv, fun w8 h8 => ⟨e, P', _, rfl, hcan, .inr ⟨hcan.1 hz, .inl ⟨h1, rfl⟩⟩, x5.ext h8, ((fr_ext h4).tr f5).tr (fr_ext h8), fun b hb => (g5 b hb).imp (fun h => h) fun h => Nat.le_trans h4.size h⟩⟩
  · have h4 := extB_ext x4
    refine (tick_k (x.ext h4) hp.now y.n).mono fun v w5 ⟨e, hv, hc, hiff⟩ => ?_
    have hcan : e = 0 ↔ can F y := hiff.trans ⟨fun h => ⟨hE, fun h => by omega, fun _ => h, fun h => by omega, fun h => by omega⟩, fun h => h.2.2.1 h2⟩
    rcases hc with ⟨hne, e5⟩ | ⟨hz, _, x5, f5⟩
    · exact ⟨kE x4 e5, e, hv, fun w8 h8 => ⟨e, P, F, rfl, hcan, .inl ⟨fun h => hne (hcan.2 h), rfl⟩, x.ext ((h4.trans e5).trans h8), fr_ext ((h4.trans e5).trans h8), fun b hb => .inl hb⟩⟩
    · exact ⟨kp x4 f5, e, hv, fun w8 h8 => ⟨e, P, _, rfl, hcan, .inr ⟨hcan.1 hz, .inr (.inl ⟨h2, rfl⟩)⟩, x5.ext h8, ((fr_ext h4).tr f5).tr (fr_ext h8), fun b hb => .inl hb⟩⟩
  · have h4 := extB_ext x4
    refine (plan_k (x.ext h4) hp.aft hh).mono fun v w5 ⟨G, outs, out, outc, P', hv, hpl, _, _, hP, x5, f5, _⟩ => ?_
    have hcan : (0 : Int) = 0 ↔ can F y := ⟨fun _ => ⟨hE, fun h => by omega, fun h => by omega, fun h => by omega, fun h => by omega⟩, fun _ => rfl⟩
    exact ⟨kp x4 f5, out, _, outc, 0, hv, fun w8 h8 => ⟨0, P', G, rfl, hcan, .inr ⟨hcan.1 rfl, .inr (.inr (.inl ⟨h3, outs, hpl⟩))⟩, x5.ext h8, ((fr_ext h4).tr f5).tr (fr_ext h8), gsame hP⟩⟩
  · have h4' := extB_ext x4
    refine (report_k (x.ext h4') hp y.id (by unfold okE at hE; exact i64 (by omega)) y.ok).mono fun v w5 ⟨e, hv, hiff, hc⟩ => ?_
    have hcan : e = 0 ↔ can F y := hiff.trans ⟨fun h => ⟨hE, fun h => by omega, fun h => by omega, fun _ => h, fun h => by omega⟩, fun h => h.2.2.2.1 h4⟩
    rcases hc with ⟨hne, e5⟩ | ⟨hz, P', hP, x5, f5⟩
    · exact ⟨kE x4 e5, e, hv, fun w8 h8 => ⟨e, P, F, rfl, hcan, .inl ⟨fun h => hne (hcan.2 h), rfl⟩, x.ext ((h4'.trans e5).trans h8), fr_ext ((h4'.trans e5).trans h8), fun b hb => .inl hb⟩⟩
    · exact ⟨kp x4 f5, e, hv, fun w8 h8 => ⟨e, P', _, rfl, hcan, .inr ⟨hcan.1 hz, .inr (.inr (.inr (.inl ⟨h4, rfl⟩)))⟩, x5.ext h8, ((fr_ext h4').tr f5).tr (fr_ext h8), gsame hP⟩⟩
  · have h5 : y.kind = 5 := by omega
    have h4' := extB_ext x4
    refine (cancel_k (x.ext h4') hp y.id (by unfold okE at hE; exact i64 (by omega))).mono fun v w5 ⟨e, hv, hiff, hc⟩ => ?_
    have hcan : e = 0 ↔ can F y := hiff.trans ⟨fun h => ⟨hE, fun h => by omega, fun h => by omega, fun h => by omega, fun _ => h⟩, fun h => h.2.2.2.2 h5⟩
    rcases hc with ⟨hne, e5⟩ | ⟨hz, P', hP, x5, f5⟩
    · exact ⟨kE x4 e5, e, hv, fun w8 h8 => ⟨e, P, F, rfl, hcan, .inl ⟨fun h => hne (hcan.2 h), rfl⟩, x.ext ((h4'.trans e5).trans h8), fr_ext ((h4'.trans e5).trans h8), fun b hb => .inl hb⟩⟩
    · exact ⟨kp x4 f5, e, hv, fun w8 h8 => ⟨e, P', _, rfl, hcan, .inr ⟨hcan.1 hz, .inr (.inr (.inr (.inr ⟨h5, rfl⟩)))⟩, x5.ext h8, ((fr_ext h4').tr f5).tr (fr_ext h8), gsame hP⟩⟩
end
end Go.Proofs.Ytblafknmfblgfaa
