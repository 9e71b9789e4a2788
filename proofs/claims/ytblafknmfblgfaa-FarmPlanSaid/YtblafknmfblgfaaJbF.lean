/- Jobs and events: what is checked of them. -/
import Derived.Test.YtblafknmfblgfaaHtE
import Derived.Test.YtblafknmfblgfaaTxtE
import Derived.Test.YtblafknmfblgfaaSxF
set_option linter.unusedVariables false
set_option linter.unusedSimpArgs false
namespace Go.Proofs.Ytblafknmfblgfaa
open Go.Sx Go.RowKit

def rng (x : Nd) : Prop := ∀ i, i < 3 → -9223372036854775808 ≤ ndAt x i ∧ ndAt x i ≤ 9223372036854775807
abbrev zeroA : AT := .mk 0 emS emS 0 []
theorem zero_wf : WfA zeroA := by
  unfold WfA
  exact ⟨i64 (by omega), by decide, by decide, i64 (by omega), by simp, by unfold WfL; trivial⟩
theorem zero_isT (w : World) : IsT w zeroA none 0 := by unfold IsT; exact ⟨by simp, by unfold IsL; trivial⟩
theorem sameA_k : ∀ (t : AT) (p : Option Addr) (c : Nat) (q : Option Addr) (d : Nat) (w : World), IsT w t p c → IsT w t q d → WfA t →
    FnP Try.prog F_shiftbellkeep_sameAsk #[av t p c, av t q d] w fun v w' => Ext w w' ∧ v = .bool true := by
  intro t
  induction t using AT.ind with
  | h k key val n xs ih =>
    intro p c q d w hp hq hW
    have h63 : xs.length ≤ 9223372036854775807 := hW.len
    refine ok_shiftbellkeep_sameAsk k key val n p xs.length c k key val n q xs.length d w _ fun b0 _ b1 _ => ⟨fun _ w2 h2 => ?_, fun h => ?_⟩
    · refine FnP.mono (K := fun v w' => Ext w2 w' ∧ v = .bool true) ?_ fun v w3 ⟨e3, hv⟩ => ⟨e3, _, hv, fun w5 h5 => ⟨h5, rfl⟩⟩
      refine ok_slices_EqualFunc_api_Ask_api_Ask_api_Ask_api_Ask p xs.length c q xs.length d _ w2 _ ⟨fun h => absurd rfl h, fun _ => ?_⟩
      refine ⟨fun k w' => w' = w2 ∧ 0 ≤ k ∧ k ≤ xs.length, fun k _ => (xs.length - k).toNat, ⟨rfl, by omega, by omega⟩, ?_⟩
      rintro j w2' ⟨rfl, hj0, hj1⟩
      refine ⟨fun hlt => ?_, fun _ w3 h3 => ⟨h3, rfl⟩⟩
      have hp2 := hp.ext h2 _ _ _
      have hq2 := hq.ext h2 _ _ _
      obtain ⟨x, p', c', hx, hmem, hIx, a1, a2, g0, g1, g2, g3, g4⟩ := hp2.at hj0 (by exact hlt)
      obtain ⟨y, q', d', hy, _, hIy, b1, b2, f0, f1, f2, f3, f4⟩ := hq2.at hj0 (by exact hlt)
      obtain rfl : x = y := Option.some.inj (hx.symm.trans hy)
      refine ⟨a1, hj0, hlt, a2, _, g0, _, g1, _, g2, _, g3, _, _, _, g4, fun b10 _ => ⟨b1, hj0, hlt, b2, _, f0, _, f1, _, f2, _, f3, _, _, _, f4, fun b18 _ w19 h19 => ?_⟩⟩
      exact ⟨F_shiftbellkeep_sameAsk, #[], rfl, (ih x hmem p' c' q' d' w19 (hIx.ext h19 _ _ _) (hIy.ext h19 _ _ _) (hW.sub x hmem)).mono fun v w20 ⟨e20, hv⟩ => ⟨e20, _, hv, fun h => by (cases h), fun _ => ⟨i64 (by omega), ⟨rfl, by omega, by omega⟩, by simp only []; omega⟩⟩⟩
    · rcases h with ((h | h) | h) | h <;> exact absurd rfl h

/-! ### Jobs -/
structure Jb where
  user : ByteArray
  prio : Int
  nd : Nd
  ask : AT
  aft : List Int
abbrev jcs (j : Jb) (pa : Option Addr) (ca : Nat) (pf : Option Addr) (cf : Nat) : List Value := [.string j.user, .int .i64 j.prio, .int .i64 j.nd.c, .int .i64 j.nd.m, .int .i64 j.nd.g, .int .i64 j.ask.k, .string j.ask.key, .string j.ask.val, .int .i64 j.ask.n, .slice pa j.ask.xs.length ca, .slice pf j.aft.length cf]
abbrev jv (j : Jb) (pa : Option Addr) (ca : Nat) (pf : Option Addr) (cf : Nat) : Value := .agg #[.string j.user, .int .i64 j.prio, .int .i64 j.nd.c, .int .i64 j.nd.m, .int .i64 j.nd.g, .int .i64 j.ask.k, .string j.ask.key, .string j.ask.val, .int .i64 j.ask.n, .slice pa j.ask.xs.length ca, .slice pf j.aft.length cf]
/-- Where a job's inner parts lie. -/
def IsJ (w : World) (j : Jb) (pa : Option Addr) (ca : Nat) (pf : Option Addr) : Prop := IsT w j.ask pa ca ∧ Ints .i64 w pf j.aft
theorem IsJ.ext {w w' : World} {j : Jb} {pa : Option Addr} {ca : Nat} {pf : Option Addr} (h : IsJ w j pa ca pf) (e : Ext w w') : IsJ w' j pa ca pf := ⟨h.1.ext e, h.2.ext e⟩
/-- All is of a size that there can be. -/
structure WfJ (j : Jb) : Prop where
  user : j.user.size ≤ 9223372036854775807
  prio : InR .i64 j.prio
  nd : rng j.nd
  ask : WfA j.ask
  len : j.aft.length ≤ 9223372036854775807
  aft : ∀ x ∈ j.aft, InR .i64 x
/-- Rising numbers of jobs, above one that is told. -/
def upA : Int → List Int → Prop
  | _, [] => True
  | a, x :: r => 1 ≤ x ∧ x ≤ 60 ∧ a < x ∧ upA x r
theorem upA_take {l : List Int} : ∀ {a : Int} (k : Nat), upA a l → upA a (l.take k) := by
  induction l with
  | nil => intro a k _; simp [upA]
  | cons x r ih =>
    intro a k h
    cases k with
    | zero => simp [upA]
    | succ k => exact ⟨h.1, h.2.1, h.2.2.1, ih k h.2.2.2⟩
def lastA (a : Int) (l : List Int) : Int := l.getLast?.getD a
theorem upA_snoc {x : Int} : ∀ {l : List Int} {a : Int}, upA a (l ++ [x]) ↔ upA a l ∧ 1 ≤ x ∧ x ≤ 60 ∧ lastA a l < x
  | [], a => by simp [upA, lastA]
  | y :: r, a => by
    have ih := upA_snoc (l := r) (a := y) (x := x)
    simp only [List.cons_append, upA, ih]
    have : lastA a (y :: r) = lastA y r := by
      unfold lastA
      cases r with
      | nil => rfl
      | cons z r => simp [List.getLast?_cons]
    rw [this]
    constructor
    · rintro ⟨h1, h2, h3, h4, h5⟩; exact ⟨⟨h1, h2, h3, h4⟩, h5⟩
    · rintro ⟨⟨h1, h2, h3, h4⟩, h5⟩; exact ⟨h1, h2, h3, h4, h5⟩
theorem upA_mem {l : List Int} : ∀ {a : Int}, upA a l → ∀ x ∈ l, 1 ≤ x ∧ x ≤ 60 := by
  induction l with
  | nil => intro a _ x hx; cases hx
  | cons y r ih =>
    intro a h x hx
    rcases List.mem_cons.1 hx with rfl | hx
    · exact ⟨h.1, h.2.1⟩
    · exact ih h.2.2.2 x hx
structure okJ (j : Jb) : Prop where
  user : lbB j.user = true
  prio : -1000 ≤ j.prio ∧ j.prio ≤ 1000
  nd : okN j.nd
  ask : errC j.ask = 0
  len : j.aft.length ≤ 8
  up : upA 0 j.aft

theorem jCheck_k (j : Jb) (pa : Option Addr) (ca : Nat) (pf : Option Addr) (cf : Nat) (w : World) (hJ : IsJ w j pa ca pf) (hW : WfJ j) : FnP Try.prog F_job_Check #[jv j pa ca pf cf] w fun v w' => Ext w w' ∧ ∃ e : Int, v = .int .i64 e ∧ (e = 0 ↔ okJ j) := by
  refine ok_job_Check j.user j.prio j.nd.c j.nd.m j.nd.g j.ask.k j.ask.key j.ask.val j.ask.n pa j.ask.xs.length ca pf j.aft.length cf w _ fun b0 hb0 w1 h1 => (Label_k j.user hW.user w1).mono fun v w2 ⟨e2, hv⟩ => ⟨e2, _, hv, fun hno w4 h4 => ?_, fun hyes => ⟨fun hbad w4 h4 => ?_, fun hpr w4 h4 => ?_⟩⟩
  · exact ⟨h4, 3, rfl, by simp, fun h => by rw [h.user] at hno; cases hno⟩
  · exact ⟨h4, 4, rfl, by simp, fun h => by have := h.prio; omega⟩
  refine (ncheck_k j.nd w4).mono fun v w5 ⟨e5, hv⟩ => ⟨e5, _, hv, fun hne w7 h7 => ⟨h7, _, rfl, fun h => absurd h hne, fun h => absurd (errN_ok.2 h.nd) hne⟩, fun hz w7 h7 => ?_⟩
  refine (Check_k j.ask pa ca w7 (hJ.1.ext h7) hW.ask).mono fun v w8 ⟨e8, hv⟩ => ⟨e8, _, hv, fun hne w10 h10 => ⟨h10, _, rfl, fun h => absurd h hne, fun h => absurd h.ask hne⟩, fun hz2 => ⟨fun hbig w10 h10 => ⟨h10, 2, rfl, by simp, fun h => by have := h.len; omega⟩, fun hle => ?_⟩⟩
  refine ⟨fun last k w' => w' = w ∧ 0 ≤ k ∧ k ≤ j.aft.length ∧ upA 0 (j.aft.take k.toNat) ∧ last = lastA 0 (j.aft.take k.toNat), fun _ k _ => (j.aft.length - k).toNat, ⟨rfl, by omega, by omega, by simp [upA], by simp [lastA]⟩, ?_⟩
  rintro last k w' ⟨rfl, hk0, hk1, hup, rfl⟩
  have all : ∀ e : Int, (upA 0 j.aft → False) → e ≠ 0 → (e = 0 ↔ okJ j) := fun e h he => ⟨fun h' => absurd h' he, fun h' => (h h'.up).elim⟩
  refine ⟨fun hlt => ?_, fun hge w14 h14 => ⟨h14, 0, rfl, fun _ => ⟨hyes, ⟨by omega, by omega⟩, errN_ok.1 hz, hz2, by omega, by rw [List.take_of_length_le (by omega)] at hup; exact hup⟩, fun _ => rfl⟩⟩
  have g := Ints.idx hJ.2 hk0 hlt
  have hget : j.aft.take (k.toNat + 1) = j.aft.take k.toNat ++ [j.aft.getD k.toNat 0] := by
    rw [List.take_succ_eq_append_getElem (by omega)]
    congr 2
    simp [List.getD_eq_getElem?_getD, show k.toNat < j.aft.length by omega]
  refine ⟨fun hq => cell_p g (pIdx_none.2 hq), hk0, hlt, _, g, fun hbad w15 h15 => ⟨h15, 4, rfl, all 4 (fun h => ?_) (by decide)⟩, fun hin => ⟨fun hle2 w15 h15 => ⟨h15, 6, rfl, all 6 (fun h => ?_) (by decide)⟩, fun hgt => ⟨i64 (by omega), ⟨rfl, by omega, by omega, ?_, ?_⟩, by simp only []; omega⟩⟩⟩
  · have := upA_take (k.toNat + 1) h
    rw [hget, upA_snoc] at this
    omega
  · have := upA_take (k.toNat + 1) h
    rw [hget, upA_snoc] at this
    omega
  · rw [show (k + 1).toNat = k.toNat + 1 by omega, hget, upA_snoc]
    exact ⟨hup, hin.1, hin.2, hgt⟩
  · rw [show (k + 1).toNat = k.toNat + 1 by omega, hget]
    simp [lastA]

def zeroJ : Jb := ⟨emS, 0, zeroN, zeroA, []⟩
theorem zeroJ_wf : WfJ zeroJ := ⟨by decide, i64 (by decide), fun i hi => by
  match i, hi with
  | 0, _ => simp [ndAt, zeroJ, zeroN]
  | 1, _ => simp [ndAt, zeroJ, zeroN]
  | 2, _ => simp [ndAt, zeroJ, zeroN], zero_wf, by decide, fun x hx => by cases hx⟩
theorem zeroJ_at (w : World) : IsJ w zeroJ none 0 none := ⟨zero_isT w, Cells.nil⟩
theorem EqualI_k (l : List Int) (p q : Option Addr) (c d : Nat) (w : World) (hp : Ints .i64 w p l) (hq : Ints .i64 w q l) (h63 : l.length ≤ 9223372036854775807) : FnP Try.prog F_slices_Equal_int_int #[.slice p l.length c, .slice q l.length d] w fun v w' => Ext w w' ∧ v = .bool true := by
  refine ok_slices_Equal_int_int p l.length c q l.length d w _ ⟨fun h => absurd rfl h, fun _ => ?_⟩
  refine ⟨fun k w' => w' = w ∧ 0 ≤ k ∧ k ≤ l.length, fun k _ => (l.length - k).toNat, ⟨rfl, by omega, by omega⟩, ?_⟩
  rintro k w' ⟨rfl, hk0, hk1⟩
  refine ⟨fun hlt => ?_, fun hge w3 h3 => ⟨h3, rfl⟩⟩
  have g1 := Ints.idx hp hk0 hlt
  have g2 := Ints.idx hq hk0 hlt
  exact ⟨fun h => cell_p g1 (pIdx_none.2 h), hk0, hlt, _, g1, fun h => cell_p g2 (pIdx_none.2 h), hk0, hlt, _, g2, fun h => absurd rfl h, fun _ => ⟨i64 (by omega), ⟨rfl, by omega, by omega⟩, by simp only []; omega⟩⟩
theorem sameJ_k (j : Jb) (pa : Option Addr) (ca : Nat) (pf : Option Addr) (cf : Nat) (qa : Option Addr) (da : Nat) (qf : Option Addr) (df : Nat) (w : World) (h1 : IsJ w j pa ca pf) (h2 : IsJ w j qa da qf) (hW : WfJ j) :
    FnP Try.prog F_shiftbellkeep_sameJob #[jv j pa ca pf cf, jv j qa da qf df] w fun v w' => Ext w w' ∧ v = .bool true := by
  refine ok_shiftbellkeep_sameJob j.user j.prio j.nd.c j.nd.m j.nd.g j.ask.k j.ask.key j.ask.val j.ask.n pa j.ask.xs.length ca pf j.aft.length cf j.user j.prio j.nd.c j.nd.m j.nd.g j.ask.k j.ask.key j.ask.val j.ask.n qa j.ask.xs.length da qf j.aft.length df w _ fun b0 _ b1 _ => ⟨fun _ w2 e2 => ?_, fun h => by rcases h with h | h <;> exact absurd rfl h⟩
  refine eqN_k (a := j.nd) (b := j.nd) ⟨Ext.refl _, _, rfl, fun _ w5 e5 => ?_, fun h => by simp at h⟩
  refine (sameA_k j.ask pa ca qa da w5 (h1.1.ext e5) (h2.1.ext e5) hW.ask).mono fun v w6 ⟨e6, hv⟩ => ⟨e6, true, hv, fun _ w8 e8 => ?_, fun h => by cases h⟩
  exact (EqualI_k j.aft pf qf cf df w8 (h1.2.ext e8) (h2.2.ext e8) hW.len).mono fun v w9 ⟨e9, hv⟩ => ⟨e9, true, hv, fun w11 e11 => ⟨e11, rfl⟩⟩

theorem job_arg {W : World} {j_0 : ByteArray} (h0 : j_0.size ≤ 9223372036854775807) {j_1 : Int} (h1 : InR .i64 j_1) {j_2 : Int} (h2 : InR .i64 j_2) {j_3 : Int} (h3 : InR .i64 j_3) {j_4 : Int} (h4 : InR .i64 j_4) {j_5 : Int} (h5 : InR .i64 j_5) {j_6 : ByteArray} (h6 : j_6.size ≤ 9223372036854775807) {j_7 : ByteArray} (h7 : j_7.size ≤ 9223372036854775807) {j_8 : Int} (h8 : InR .i64 j_8)
    {p : Option Addr} {l c : Nat} (hA : SlcArg Try.prog W T_Ask p l c) {q : Option Addr} {m d : Nat} (hF : SlcArg Try.prog W T_int q m d) :
    ∃ j : Jb, IsJ W j p c q ∧ WfJ j ∧ jcs j p c q d = [.string j_0, .int .i64 j_1, .int .i64 j_2, .int .i64 j_3, .int .i64 j_4, .int .i64 j_5, .string j_6, .string j_7, .int .i64 j_8, .slice p l c, .slice q m d] := by
  obtain ⟨x, rfl, rfl, rfl, rfl, rfl, hT, hW⟩ := ask_arg hA h5 h6 h7 h8
  obtain ⟨xs, rfl, hx, hi⟩ := hF.ints (k := .i64) (by kernel_rfl) (by kernel_rfl)
  refine ⟨⟨j_0, j_1, ⟨j_2, j_3, j_4⟩, x, xs⟩, ⟨hT, hi⟩, ⟨h0, h1, fun i hi => ?_, hW, by have := hF.le; have := hF.max; show xs.length ≤ _; omega, hx⟩, rfl⟩
  match i, hi with
  | 0, _ => exact of64 h2
  | 1, _ => exact of64 h3
  | 2, _ => exact of64 h4

structure Ev where
  kind : Int
  job : Jb
  n : Int
  id : Int
  ok : Bool
abbrev evcs (x : Ev) (pa : Option Addr) (ca : Nat) (pf : Option Addr) (cf : Nat) : List Value := [.int .i64 x.kind, .string x.job.user, .int .i64 x.job.prio, .int .i64 x.job.nd.c, .int .i64 x.job.nd.m, .int .i64 x.job.nd.g, .int .i64 x.job.ask.k, .string x.job.ask.key, .string x.job.ask.val, .int .i64 x.job.ask.n, .slice pa x.job.ask.xs.length ca, .slice pf x.job.aft.length cf, .int .i64 x.n, .int .i64 x.id, .bool x.ok]
abbrev evv (x : Ev) (pa : Option Addr) (ca : Nat) (pf : Option Addr) (cf : Nat) : Value := .agg #[.int .i64 x.kind, .string x.job.user, .int .i64 x.job.prio, .int .i64 x.job.nd.c, .int .i64 x.job.nd.m, .int .i64 x.job.nd.g, .int .i64 x.job.ask.k, .string x.job.ask.key, .string x.job.ask.val, .int .i64 x.job.ask.n, .slice pa x.job.ask.xs.length ca, .slice pf x.job.aft.length cf, .int .i64 x.n, .int .i64 x.id, .bool x.ok]
def zeroE : Ev := ⟨0, zeroJ, 0, 0, false⟩

theorem zero_nd {x : Nd} : x = zeroN ↔ [x.c, x.m, x.g] = [0, 0, 0] := nd_eq
theorem zeroJ_iff {j : Jb} : j = zeroJ ↔ j.user = emS ∧ j.prio = 0 ∧ j.nd = zeroN ∧ j.aft.length = 0 ∧ j.ask.k = 0 ∧ j.ask.key = emS ∧ j.ask.val = emS ∧ j.ask.n = 0 ∧ j.ask.xs.length = 0 := by
  constructor
  · rintro rfl; exact ⟨rfl, rfl, rfl, rfl, rfl, rfl, rfl, rfl, rfl⟩
  · rintro ⟨h1, h2, h3, h4, h5, h6, h7, h8, h9⟩
    obtain ⟨u, p, nd, t, af⟩ := j
    simp only at h1 h2 h3 h4 h5 h6 h7 h8 h9
    subst h1 h2 h3
    have h4' : af = [] := List.eq_nil_of_length_eq_zero h4
    subst h4'
    have : t = zeroA := by
      rw [AT.eta t, h5, h6, h7, h8, List.eq_nil_of_length_eq_zero h9]
    rw [this]; rfl
theorem plain_k (j : Jb) (pa : Option Addr) (ca : Nat) (pf : Option Addr) (cf : Nat) (w : World) : FnP Try.prog F_event_plain #[jv j pa ca pf cf] w fun v w' => Ext w w' ∧ ∃ b : Bool, v = .bool b ∧ (b = true ↔ j = zeroJ) := by
  refine ok_event_plain j.user j.prio j.nd.c j.nd.m j.nd.g j.ask.k j.ask.key j.ask.val j.ask.n pa j.ask.xs.length ca pf j.aft.length cf w _ fun b0 hb0 => ⟨fun h w1 h1 => ?_, fun h w1 h1 => ⟨h1, false, rfl, by simp, fun hj => ?_⟩⟩
  · refine eqN_k (a := j.nd) (b := zeroN) ⟨Ext.refl _, _, rfl, fun w4 h4 => ⟨h4, _, rfl, ?_⟩⟩
    simp only [Bool.and_eq_true, decide_eq_true_eq]
    rw [zeroJ_iff]
    constructor
    · rintro ⟨⟨⟨⟨⟨⟨a1, a2⟩, a3⟩, a4⟩, a5⟩, a6⟩, a7⟩
      exact ⟨h.1, h.2, a1, by omega, a3, a4, a5, a6, by omega⟩
    · rintro ⟨_, _, a1, a2, a3, a4, a5, a6, a7⟩
      exact ⟨⟨⟨⟨⟨⟨a1, by omega⟩, a3⟩, a4⟩, a5⟩, a6⟩, by omega⟩
  · rw [hj] at h
    rcases h with h | h <;> exact absurd rfl h

/-- A well formed event. -/
def okE (x : Ev) : Prop := (x.kind = 1 ∧ okJ x.job ∧ x.n = 0 ∧ x.id = 0 ∧ x.ok = false) ∨ (x.kind = 2 ∧ x.job = zeroJ ∧ (0 ≤ x.n ∧ x.n ≤ 1000000000) ∧ x.id = 0 ∧ x.ok = false) ∨ (x.kind = 3 ∧ x.job = zeroJ ∧ x.n = 0 ∧ x.id = 0 ∧ x.ok = false) ∨
  (x.kind = 4 ∧ x.job = zeroJ ∧ x.n = 0 ∧ (0 ≤ x.id ∧ x.id ≤ 65535)) ∨ (x.kind = 5 ∧ x.job = zeroJ ∧ x.n = 0 ∧ (0 ≤ x.id ∧ x.id ≤ 65535) ∧ x.ok = false)
theorem okE_kind {x : Ev} (h : okE x) : 1 ≤ x.kind ∧ x.kind ≤ 5 := by
  rcases h with h | h | h | h | h <;> omega
theorem eCheck_k (x : Ev) (pa : Option Addr) (ca : Nat) (pf : Option Addr) (cf : Nat) (w : World) (hJ : IsJ w x.job pa ca pf) (hW : WfJ x.job) : FnP Try.prog F_event_Check #[evv x pa ca pf cf] w fun v w' => Ext w w' ∧ ∃ e : Int, v = .int .i64 e ∧ (e = 0 ↔ okE x) := by
  refine ok_event_Check x.kind x.job.user x.job.prio x.job.nd.c x.job.nd.m x.job.nd.g x.job.ask.k x.job.ask.key x.job.ask.val x.job.ask.n pa x.job.ask.xs.length ca pf x.job.aft.length cf x.n x.id x.ok w _ fun b0 hb0 => ⟨fun hbad w1 h1 => ⟨h1, 1, rfl, by simp, fun h => by have := okE_kind h; omega⟩, fun hk => ⟨fun h1 w1 e1 => ?_, fun h1 => ?_⟩⟩
  · refine (plain_k x.job pa ca pf cf w1).mono fun v w2 ⟨e2, b, hv, hb⟩ => ⟨e2, b, hv, fun hbad w4 h4 => ⟨h4, 1, rfl, by simp, fun ho => ?_⟩, fun hgd => ⟨fun h => absurd h h1, fun _ => ⟨fun hbad w4 h4 => ⟨h4, 4, rfl, by simp, fun ho => ?_⟩, fun hin w4 h4 => ⟨h4, 0, rfl, fun _ => ?_, fun _ => rfl⟩⟩⟩⟩
    · exfalso
      have hz : x.job = zeroJ := by
        rcases ho with h | h | h | h | h
        · exact absurd h.1 h1
        all_goals exact h.2.1
      rcases hbad with ((h | h) | h) | h
      · rw [hb.2 hz] at h; cases h
      · rcases ho with g | g | g | g | g
        · exact h1 g.1
        · exact h.1 g.1
        · exact h.2 g.2.2.1
        · exact h.2 g.2.2.1
        · exact h.2 g.2.2.1
      · rcases ho with g | g | g | g | g
        · exact h1 g.1
        · exact h.2 g.2.2.2.1
        · exact h.2 g.2.2.2.1
        · exact h.1.1 g.1
        · exact h.1.2 g.1
      · rcases ho with g | g | g | g | g
        · exact h1 g.1
        · rw [g.2.2.2.2] at h; cases h.2
        · rw [g.2.2.2.2] at h; cases h.2
        · exact h.1 g.1
        · rw [g.2.2.2.2] at h; cases h.2
    · exfalso
      rcases ho with g | g | g | g | g
      · exact h1 g.1
      · have := g.2.2; omega
      · have := g.2.2; omega
      · have := g.2.2; omega
      · have := g.2.2; omega
    · obtain ⟨⟨⟨a1, a2⟩, a3⟩, a4⟩ := hgd
      have hz := hb.1 a1
      have hk5 : x.kind = 2 ∨ x.kind = 3 ∨ x.kind = 4 ∨ x.kind = 5 := by omega
      rcases hk5 with g | g | g | g
      · exact .inr (.inl ⟨g, hz, by omega, a3.resolve_left (by omega), a4.resolve_left (by omega)⟩)
      · exact .inr (.inr (.inl ⟨g, hz, a2.resolve_left (by omega), a3.resolve_left (by omega), a4.resolve_left (by omega)⟩))
      · exact .inr (.inr (.inr (.inl ⟨g, hz, a2.resolve_left (by omega), by omega⟩)))
      · exact .inr (.inr (.inr (.inr ⟨g, hz, a2.resolve_left (by omega), by omega, a4.resolve_left (by omega)⟩)))
  · refine ⟨fun hbad w1 e1 => ⟨e1, 1, rfl, by simp, fun ho => ?_⟩, fun hgd => ⟨fun _ w1 e1 => ?_, fun h => absurd h1 h⟩⟩
    · exfalso
      rcases ho with g | g | g | g | g
      · rcases hbad with (h | h) | h
        · exact h.2 g.2.2.1
        · exact h.2 g.2.2.2.1
        · rw [g.2.2.2.2] at h; cases h.2
      all_goals have := g.1; omega
    · refine (jCheck_k x.job pa ca pf cf w1 (hJ.ext e1) hW).mono fun v w2 ⟨e2, e, hv, he⟩ => ⟨e2, e, hv, fun w4 h4 => ⟨h4, e, rfl, ?_⟩⟩
      rw [he]
      obtain ⟨⟨a2, a3⟩, a4⟩ := hgd
      constructor
      · intro h; exact .inl ⟨h1, h, a2.resolve_left (by omega), a3.resolve_left (by omega), a4.resolve_left (by omega)⟩
      · intro h
        rcases h with g | g | g | g | g
        · exact g.2.1
        all_goals have := g.1; omega

/-- An event's bytes. -/
structure EvR where
  x : Ev
  pa : Option Addr
  ca : Nat
  pf : Option Addr
  cf : Nat
abbrev encR (r : EvR) : List Value := evcs r.x r.pa r.ca r.pf r.cf
theorem ev_cells {W : World} {n : Nat} {es : List Value} (hg : Go.Sx.Good Try.prog W n T_Event es) : ∃ r : EvR, es = encR r ∧ WfJ r.x.job ∧ IsJ W r.x.job r.pa r.ca r.pf := by
  have hlv := leaves_ok (P := Try.prog) 6 T_Event [T_int, T_string, T_int, T_int64, T_int64, T_int64, T_int, T_string, T_string, T_int64, T_sl_Ask, T_sl_int, T_int64, T_int, T_bool] n es (by kernel_rfl) hg
  obtain ⟨v0, r0, rfl, l0, hlv⟩ := lvs_cons hlv
  obtain ⟨v1, r1, rfl, l1, hlv⟩ := lvs_cons hlv
  obtain ⟨v2, r2, rfl, l2, hlv⟩ := lvs_cons hlv
  obtain ⟨v3, r3, rfl, l3, hlv⟩ := lvs_cons hlv
  obtain ⟨v4, r4, rfl, l4, hlv⟩ := lvs_cons hlv
  obtain ⟨v5, r5, rfl, l5, hlv⟩ := lvs_cons hlv
  obtain ⟨v6, r6, rfl, l6, hlv⟩ := lvs_cons hlv
  obtain ⟨v7, r7, rfl, l7, hlv⟩ := lvs_cons hlv
  obtain ⟨v8, r8, rfl, l8, hlv⟩ := lvs_cons hlv
  obtain ⟨v9, r9, rfl, l9, hlv⟩ := lvs_cons hlv
  obtain ⟨va, ra, rfl, la, hlv⟩ := lvs_cons hlv
  obtain ⟨vb, rb, rfl, lb, hlv⟩ := lvs_cons hlv
  obtain ⟨vc, rc, rfl, lc, hlv⟩ := lvs_cons hlv
  obtain ⟨vd, rd, rfl, ld, hlv⟩ := lvs_cons hlv
  obtain ⟨ve, re, rfl, le, hlv⟩ := lvs_cons hlv
  obtain rfl := lvs_nil hlv
  obtain ⟨x0, rfl, h0⟩ := leaf_int (k := .i64) (by kernel_rfl) l0
  obtain ⟨x1, rfl, h1⟩ := leaf_str (by kernel_rfl) l1
  obtain ⟨x2, rfl, h2⟩ := leaf_int (k := .i64) (by kernel_rfl) l2
  obtain ⟨x3, rfl, h3⟩ := leaf_int (k := .i64) (by kernel_rfl) l3
  obtain ⟨x4, rfl, h4⟩ := leaf_int (k := .i64) (by kernel_rfl) l4
  obtain ⟨x5, rfl, h5⟩ := leaf_int (k := .i64) (by kernel_rfl) l5
  obtain ⟨x6, rfl, h6⟩ := leaf_int (k := .i64) (by kernel_rfl) l6
  obtain ⟨x7, rfl, h7⟩ := leaf_str (by kernel_rfl) l7
  obtain ⟨x8, rfl, h8⟩ := leaf_str (by kernel_rfl) l8
  obtain ⟨x9, rfl, h9⟩ := leaf_int (k := .i64) (by kernel_rfl) l9
  obtain ⟨pa, na, ca, rfl, a1, a2, a3, a4⟩ := leaf_slice (e := T_Ask) (by kernel_rfl) la
  obtain ⟨pf, nf, cf, rfl, f1, f2, f3, f4⟩ := leaf_slice (e := T_int) (by kernel_rfl) lb
  obtain ⟨xc, rfl, hc⟩ := leaf_int (k := .i64) (by kernel_rfl) lc
  obtain ⟨xd, rfl, hd⟩ := leaf_int (k := .i64) (by kernel_rfl) ld
  obtain ⟨xe, rfl⟩ := leaf_bool (by kernel_rfl) le
  obtain ⟨j, hJ, hW, e⟩ := job_arg h1 h2 h3 h4 h5 h6 h7 h8 h9 ⟨a1, a2, a3, a4⟩ ⟨f1, f2, f3, f4⟩
  have e1 : encR ⟨⟨x0, j, xc, xd, xe⟩, pa, ca, pf, cf⟩ = .int .i64 x0 :: (jcs j pa ca pf cf ++ [.int .i64 xc, .int .i64 xd, .bool xe]) := rfl
  rw [e] at e1
  exact ⟨⟨⟨x0, j, xc, xd, xe⟩, pa, ca, pf, cf⟩, e1.symm, hW, hJ⟩
theorem evs_arg {W : World} {p : Option Addr} {l c : Nat} (h : SlcArg Try.prog W T_Event p l c) : ∃ L : List EvR, L.length = l ∧ Recs 15 encR W p L ∧ ∀ r ∈ L, WfJ r.x.job ∧ IsJ W r.x.job r.pa r.ca r.pf := by
  obtain ⟨L, h1, h2, h3⟩ := h.list (α := EvR) encR (fun r => WfJ r.x.job ∧ IsJ W r.x.job r.pa r.ca r.pf) (fun n es hg _ => ev_cells hg)
  refine ⟨L, h1, fun i x hx j u hu => ?_, h2⟩
  have := h3 i x hx j u hu
  rwa [show Try.prog.cellsOf T_Event = 15 by kernel_rfl] at this
end Go.Proofs.Ytblafknmfblgfaa
