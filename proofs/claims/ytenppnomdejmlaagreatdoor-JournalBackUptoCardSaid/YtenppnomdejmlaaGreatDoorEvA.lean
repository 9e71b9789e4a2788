/- Events: what is checked of them, and their bytes. -/
import Derived.Test.YtenppnomdejmlaaGreatDoorJbC
import Derived.Test.YtenppnomdejmlaaGreatDoorJcB
import Derived.Lib.AppendStr
import Derived.Laws.BitsLemmas
set_option linter.unusedVariables false
set_option linter.unusedSimpArgs false
namespace Go.Proofs.YtenppnomdejmlaaGreatDoor
open Go.Sx Go.RowKit

theorem ext_below {w w1 w2 : World} {B : Nat} (h : Ext w w1) (b : Below B w1 w2) (hB : w.heap.size ≤ B) : Ext w w2 := Below.trans h (b.mono hB)
theorem run_appS {B : Nat} {w : World} {p : Option Addr} {n c : Nat} {a : Bs} {s : ByteArray} {K : Value → World → Prop} (ho : Own B w T_uint8 1 p n c ((bI a).map (.int .u8))) (hB : B ≤ w.heap.size) (hb : n + s.size ≤ 140737488355328)
    (hk : ∀ p' c' w', Own B w' T_uint8 1 p' (n + s.size) c' ((bI (a ++ s.data.toList)).map (.int .u8)) → Below B w w' → (∀ b, b < w.heap.size → (∀ x, p = some x → x.block ≠ b) → w'.heap[b]? = w.heap[b]?) → K (.slice p' (n + s.size) c') w') : Run Tryz.prog (.append #[T_sl_uint8, T_string] T_sl_uint8 [.slice p n c, .string s]) w K := by
  obtain ⟨i, g1, g2, g3, g4, g5, g6⟩ := slEl_some elem_sl_uint8
  obtain ⟨v', w', hr, ho', hg, _⟩ := Lib.run_append_own_string (P := Tryz.prog) w B T_sl_uint8 T_string T_sl_uint8 T_uint8 i g1 (by kernel_rfl) g2 g3 g4 g5 (.slice p n c) n _ ho s (by simp only [maxLen]; omega) hb hB
  have hst : Lib.strCells s = (bI s.data.toList).map (.int .u8) := by simp [Lib.strCells, bI]
  rw [hst, ← List.map_append, ← bI_app] at ho'
  have hbel : Below B w w' := Below.grown (Below.refl B w) hg hB fun k hk => by
    cases p with
    | none => simp [Value.ownBlock] at hk
    | some x => simp [Value.ownBlock] at hk; have := (ho.lt x rfl).1; omega
  have hkeep : ∀ b, b < w.heap.size → (∀ x, p = some x → x.block ≠ b) → w'.heap[b]? = w.heap[b]? := fun b hb' hp => hg.block b hb' fun h => by
    cases p with
    | none => simp [Value.ownBlock] at h
    | some x => simp [Value.ownBlock] at h; exact hp x rfl h.symm
  rcases ho'.2 with ⟨hv, hn⟩ | ⟨g, cap, cur, hv, hrest⟩
  · subst hv
    have : n + s.size = 0 := hn
    refine ⟨_, w', hr, ?_⟩
    have := hk none 0 w' (by rw [this]; rw [this] at ho'; exact ho') hbel hkeep
    rwa [‹n + s.size = 0›] at this
  · subst hv
    exact ⟨_, w', hr, hk (some ⟨g, 0, none⟩) cap w' ho' hbel hkeep⟩

/-! ### Numbers as bytes -/
def num (n : Int) (k : Nat) : Bs := (List.range k).map fun (j : Nat) => ub (iBit .shr .i64 n (8 * ((k : Int) - 1 - j)))
theorem num_len (n : Int) (k : Nat) : (num n k).length = k := by simp [num]
theorem number_k {B : Nat} {w : World} {p : Option Addr} {n c : Nat} {a : Bs} (x : Int) (k : Nat) (ho : Own B w T_uint8 1 p n c ((bI a).map (.int .u8))) (hB : B ≤ w.heap.size) (hn : n ≤ 1000) (hk : k ≤ 8) :
    FnP Tryz.prog F_event_number #[.slice p n c, .int .i64 x, .int .i64 (k : Int)] w fun v w' => Below B w w' ∧ ∃ p' c', v = .slice p' (n + k) c' ∧ Own B w' T_uint8 1 p' (n + k) c' ((bI (a ++ num x k)).map (.int .u8)) := by
  refine ok_event_number p n c x k w _ ⟨i64 (by omega), ?_⟩
  refine ⟨fun out outl outc m w' => Below B w w' ∧ ∃ j : Nat, j ≤ k ∧ m = (k : Int) - 1 - j ∧ outl = n + j ∧ Own B w' T_uint8 1 out outl outc ((bI (a ++ (num x k).take j)).map (.int .u8)), fun _ _ _ m _ => (m + 1).toNat, ⟨Below.refl _ _, 0, by omega, by omega, rfl, by simpa using ho⟩, ?_⟩
  rintro out outl outc m w3 ⟨h3, j, hj, rfl, rfl, o3⟩
  refine ⟨fun h0 => ⟨i64 (by omega), by omega, ?_⟩, fun hneg w4 h4 => ?_⟩
  · rw [wrap8]
    refine push_int elem_sl_uint8 o3 (Nat.le_trans hB h3.size) (by omega) (by omega) fun p' c' w' o' g' _ => ⟨i64 (by omega), ⟨g'.below h3 (Nat.le_trans hB h3.size) (fun y hy => (o3.lt y hy).1), j + 1, by omega, by omega, by omega, ?_⟩, by simp only []; omega⟩
    have hget : (num x k).take (j + 1) = (num x k).take j ++ [ub (iBit .shr .i64 x (8 * ((k : Int) - 1 - j)))] := by
      rw [List.take_succ_eq_append_getElem (by rw [num_len]; omega)]
      congr 2
      simp [num]
    rw [hget, ← List.append_assoc, bI_app (a ++ _)]
    exact o'
  · obtain rfl : j = k := by omega
    rw [List.take_of_length_le (by rw [num_len]; exact Nat.le_refl _)] at o3
    exact ⟨h3.trans (h4.mono (Nat.le_trans hB h3.size)), out, outc, rfl, o3.ext h4⟩

/-! ### Events -/
structure Ev where
  kind : Int
  job : Jb
  n : Int
  id : Int
  ok : Bool
abbrev evcs (x : Ev) (pa : Option Addr) (ca : Nat) (pf : Option Addr) (cf : Nat) : List Value := [.int .i64 x.kind, .string x.job.user, .int .i64 x.job.prio, .int .i64 x.job.nd.c, .int .i64 x.job.nd.m, .int .i64 x.job.nd.g, .int .i64 x.job.ask.k, .string x.job.ask.key, .string x.job.ask.val, .int .i64 x.job.ask.n, .slice pa x.job.ask.xs.length ca, .slice pf x.job.aft.length cf, .int .i64 x.n, .int .i64 x.id, .bool x.ok]
abbrev evv (x : Ev) (pa : Option Addr) (ca : Nat) (pf : Option Addr) (cf : Nat) : Value := .agg #[.int .i64 x.kind, .string x.job.user, .int .i64 x.job.prio, .int .i64 x.job.nd.c, .int .i64 x.job.nd.m, .int .i64 x.job.nd.g, .int .i64 x.job.ask.k, .string x.job.ask.key, .string x.job.ask.val, .int .i64 x.job.ask.n, .slice pa x.job.ask.xs.length ca, .slice pf x.job.aft.length cf, .int .i64 x.n, .int .i64 x.id, .bool x.ok]
def zeroE : Ev := ⟨0, zeroJ, 0, 0, false⟩

theorem zero_nd {x : Nd} : x = zeroN ↔ [x.c, x.m, x.g] = [0, 0, 0] := nd_eq
theorem zeroJ_iff {j : Jb} : j = zeroJ ↔ j.user = emS ∧ j.prio = 0 ∧ j.nd = zeroN ∧ j.aft.length = 0 ∧ j.ask.k = 0 ∧ j.ask.key = emS ∧ j.ask.val = emS ∧ j.ask.n = 0 ∧ j.ask.xs.length = 0 := by
  constructor
  · rintro rfl; exact ⟨rfl, rfl, rfl, rfl, rfl, rfl, rfl, rfl, rfl⟩
  · rintro ⟨h1, h2, h3, h4, h5, h6, h7, h8, h9⟩
    obtain ⟨u, p, nd, t, af⟩ := j
    simp only at h1 h2 h3 h4 h5 h6 h7 h8 h9
    subst h1 h2 h3
    have h4' : af = [] := List.eq_nil_of_length_eq_zero h4
    subst h4'
    have : t = zeroA := by
      rw [AT.eta t, h5, h6, h7, h8, List.eq_nil_of_length_eq_zero h9]
    rw [this]; rfl
theorem plain_k (j : Jb) (pa : Option Addr) (ca : Nat) (pf : Option Addr) (cf : Nat) (w : World) : FnP Tryz.prog F_event_plain #[jv j pa ca pf cf] w fun v w' => Ext w w' ∧ ∃ b : Bool, v = .bool b ∧ (b = true ↔ j = zeroJ) := by
  refine ok_event_plain j.user j.prio j.nd.c j.nd.m j.nd.g j.ask.k j.ask.key j.ask.val j.ask.n pa j.ask.xs.length ca pf j.aft.length cf w _ fun b0 hb0 => ⟨fun h w1 h1 => ?_, fun h w1 h1 => ⟨h1, false, rfl, by simp, fun hj => ?_⟩⟩
  · refine eqN_k (a := j.nd) (b := zeroN) ⟨Ext.refl _, _, rfl, fun w4 h4 => ⟨h4, _, rfl, ?_⟩⟩
    simp only [Bool.and_eq_true, decide_eq_true_eq]
    rw [zeroJ_iff]
    constructor
    · rintro ⟨⟨⟨⟨⟨⟨a1, a2⟩, a3⟩, a4⟩, a5⟩, a6⟩, a7⟩
      exact ⟨h.1, h.2, a1, by omega, a3, a4, a5, a6, by omega⟩
    · rintro ⟨_, _, a1, a2, a3, a4, a5, a6, a7⟩
      exact ⟨⟨⟨⟨⟨⟨a1, by omega⟩, a3⟩, a4⟩, a5⟩, a6⟩, by omega⟩
  · rw [hj] at h
    rcases h with h | h <;> exact absurd rfl h

/-- A well formed event. -/
def okE (x : Ev) : Prop := (x.kind = 1 ∧ okJ x.job ∧ x.n = 0 ∧ x.id = 0 ∧ x.ok = false) ∨ (x.kind = 2 ∧ x.job = zeroJ ∧ (0 ≤ x.n ∧ x.n ≤ 1000000000) ∧ x.id = 0 ∧ x.ok = false) ∨ (x.kind = 3 ∧ x.job = zeroJ ∧ x.n = 0 ∧ x.id = 0 ∧ x.ok = false) ∨
  (x.kind = 4 ∧ x.job = zeroJ ∧ x.n = 0 ∧ (0 ≤ x.id ∧ x.id ≤ 65535)) ∨ (x.kind = 5 ∧ x.job = zeroJ ∧ x.n = 0 ∧ (0 ≤ x.id ∧ x.id ≤ 65535) ∧ x.ok = false)
theorem okE_kind {x : Ev} (h : okE x) : 1 ≤ x.kind ∧ x.kind ≤ 5 := by
  rcases h with h | h | h | h | h <;> omega
theorem eCheck_k (x : Ev) (pa : Option Addr) (ca : Nat) (pf : Option Addr) (cf : Nat) (w : World) (hJ : IsJ w x.job pa ca pf) (hW : WfJ x.job) : FnP Tryz.prog F_event_Check #[evv x pa ca pf cf] w fun v w' => Ext w w' ∧ ∃ e : Int, v = .int .i64 e ∧ (e = 0 ↔ okE x) := by
  refine ok_event_Check x.kind x.job.user x.job.prio x.job.nd.c x.job.nd.m x.job.nd.g x.job.ask.k x.job.ask.key x.job.ask.val x.job.ask.n pa x.job.ask.xs.length ca pf x.job.aft.length cf x.n x.id x.ok w _ fun b0 hb0 => ⟨fun hbad w1 h1 => ⟨h1, 1, rfl, by simp, fun h => by have := okE_kind h; omega⟩, fun hk => ⟨fun h1 w1 e1 => ?_, fun h1 => ?_⟩⟩
  · refine (plain_k x.job pa ca pf cf w1).mono fun v w2 ⟨e2, b, hv, hb⟩ => ⟨e2, b, hv, fun hbad w4 h4 => ⟨h4, 1, rfl, by simp, fun ho => ?_⟩, fun hgd => ⟨fun h => absurd h h1, fun _ => ⟨fun hbad w4 h4 => ⟨h4, 4, rfl, by simp, fun ho => ?_⟩, fun hin w4 h4 => ⟨h4, 0, rfl, fun _ => ?_, fun _ => rfl⟩⟩⟩⟩
    · exfalso
      have hz : x.job = zeroJ := by
        rcases ho with h | h | h | h | h
        · exact absurd h.1 h1
        all_goals exact h.2.1
      rcases hbad with ((h | h) | h) | h
      · rw [hb.2 hz] at h; cases h
      · rcases ho with g | g | g | g | g
        · exact h1 g.1
        · exact h.1 g.1
        · exact h.2 g.2.2.1
        · exact h.2 g.2.2.1
        · exact h.2 g.2.2.1
      · rcases ho with g | g | g | g | g
        · exact h1 g.1
        · exact h.2 g.2.2.2.1
        · exact h.2 g.2.2.2.1
        · exact h.1.1 g.1
        · exact h.1.2 g.1
      · rcases ho with g | g | g | g | g
        · exact h1 g.1
        · rw [g.2.2.2.2] at h; cases h.2
        · rw [g.2.2.2.2] at h; cases h.2
        · exact h.1 g.1
        · rw [g.2.2.2.2] at h; cases h.2
    · exfalso
      rcases ho with g | g | g | g | g
      · exact h1 g.1
      · have := g.2.2; omega
      · have := g.2.2; omega
      · have := g.2.2; omega
      · have := g.2.2; omega
    · obtain ⟨⟨⟨a1, a2⟩, a3⟩, a4⟩ := hgd
      have hz := hb.1 a1
      have hk5 : x.kind = 2 ∨ x.kind = 3 ∨ x.kind = 4 ∨ x.kind = 5 := by omega
      rcases hk5 with g | g | g | g
      · exact .inr (.inl ⟨g, hz, by omega, a3.resolve_left (by omega), a4.resolve_left (by omega)⟩)
      · exact .inr (.inr (.inl ⟨g, hz, a2.resolve_left (by omega), a3.resolve_left (by omega), a4.resolve_left (by omega)⟩))
      · exact .inr (.inr (.inr (.inl ⟨g, hz, a2.resolve_left (by omega), by omega⟩)))
      · exact .inr (.inr (.inr (.inr ⟨g, hz, a2.resolve_left (by omega), by omega, a4.resolve_left (by omega)⟩)))
  · refine ⟨fun hbad w1 e1 => ⟨e1, 1, rfl, by simp, fun ho => ?_⟩, fun hgd => ⟨fun _ w1 e1 => ?_, fun h => absurd h1 h⟩⟩
    · exfalso
      rcases ho with g | g | g | g | g
      · rcases hbad with (h | h) | h
        · exact h.2 g.2.2.1
        · exact h.2 g.2.2.2.1
        · rw [g.2.2.2.2] at h; cases h.2
      all_goals have := g.1; omega
    · refine (jCheck_k x.job pa ca pf cf w1 (hJ.ext e1) hW).mono fun v w2 ⟨e2, e, hv, he⟩ => ⟨e2, e, hv, fun w4 h4 => ⟨h4, e, rfl, ?_⟩⟩
      rw [he]
      obtain ⟨⟨a2, a3⟩, a4⟩ := hgd
      constructor
      · intro h; exact .inl ⟨h1, h, a2.resolve_left (by omega), a3.resolve_left (by omega), a4.resolve_left (by omega)⟩
      · intro h
        rcases h with g | g | g | g | g
        · exact g.2.1
        all_goals have := g.1; omega

/-- An event's bytes. -/
def enc (x : Ev) : Bs := ub x.kind :: (if x.kind = 1 then jtx x.job else if x.kind = 2 then num x.n 4 else if x.kind = 4 then num x.id 2 ++ [if x.ok = true then 1 else 0] else if x.kind = 5 then num x.id 2 else [])
theorem ub_small {x : Int} (h : 0 ≤ x ∧ x ≤ 255) : ((ub x).toNat : Int) = x := by rw [ub_nat]; omega
theorem jtx_le {j : Jb} (h : okJ j) (hn : nod j.ask ≤ 1048576) : (jtx j).length ≤ 15005 := by
  have := join_len (c := 32) (m := 3000) (jps j) (jps_len h hn)
  simp only [jps, List.length_cons, List.length_nil] at this
  exact Nat.le_trans this (by omega)
theorem eEncode_k (x : Ev) (pa : Option Addr) (ca : Nat) (pf : Option Addr) (cf : Nat) (w : World) (hJ : IsJ w x.job pa ca pf) (hW : WfJ x.job) (hn : nod x.job.ask ≤ 1048576) (g : GB w) : FnP Tryz.prog F_event_Encode #[evv x pa ca pf cf] w fun v w' => Ext w w' ∧ ∃ p n c e, v = .tuple #[.slice p n c, .int .i64 e] ∧ (e = 0 ↔ okE x) ∧ (e ≠ 0 → p = none ∧ n = 0 ∧ c = 0) ∧ (e = 0 → n = (enc x).length ∧ Own w.heap.size w' T_uint8 1 p n c ((bI (enc x)).map (.int .u8))) := by
  refine ok_event_Encode x.kind x.job.user x.job.prio x.job.nd.c x.job.nd.m x.job.nd.g x.job.ask.k x.job.ask.key x.job.ask.val x.job.ask.n pa x.job.ask.xs.length ca pf x.job.aft.length cf x.n x.id x.ok w _ fun b0 hb0 w1 h1 => (eCheck_k x pa ca pf cf w1 (hJ.ext h1) hW).mono fun v w2 ⟨e2, e, hv, he⟩ => ⟨e2, e, hv, fun hne w4 h4 => ⟨h4, none, 0, 0, e, rfl, he, fun _ => ⟨rfl, rfl, rfl⟩, fun h => absurd h hne⟩, fun hz => ?_⟩
  have ho := he.1 hz
  have hk := okE_kind ho
  have hub := ub_small (x := x.kind) (by omega)
  refine ⟨⟨by show (0 : Int) ≤ _; omega, by show _ ≤ (255 : Int); omega⟩, fun w4 x4 => run_litB [ub x.kind] (by simp [bI, partsOf, hub]) rfl (by omega) (by omega) fun w5 o5 e5 => ⟨e5, _, _, _, rfl, ?_⟩⟩
  have h4 := extB_ext x4
  have hb04 : b0 < w4.heap.size := x4.lt b0 (by simp)
  have o5 := o5 w4.heap.size (Nat.le_refl _)
  have h45 : Ext w4 w5 := e5
  have hw5 : Ext w w5 := h4.trans e5
  have hnb : ∀ {w' : World} {p : Option Addr} {n c : Nat} {xs : List Value}, Own w4.heap.size w' T_uint8 1 p n c xs → ∀ x, p = some x → x.block ≠ b0 := fun o x hx => by have := (o.lt x hx).1; omega
  have fin : ∀ (p : Option Addr) (c : Nat) (w' : World) (l : Bs), Own w4.heap.size w' T_uint8 1 p l.length c ((bI l).map (.int .u8)) → Ext w w' → enc x = l → (Ext w w' ∧ ∃ p' n' c' e', Value.tuple #[.slice p l.length c, .int .i64 0] = .tuple #[.slice p' n' c', .int .i64 e'] ∧ (e' = 0 ↔ okE x) ∧ (e' ≠ 0 → p' = none ∧ n' = 0 ∧ c' = 0) ∧ (e' = 0 → n' = (enc x).length ∧ Own w.heap.size w' T_uint8 1 p' n' c' ((bI (enc x)).map (.int .u8)))) := fun p c w' l o hx hl => by
    subst hl
    exact ⟨hx, p, _, c, 0, rfl, ⟨fun _ => ho, fun _ => rfl⟩, fun h => absurd rfl h, fun _ => ⟨rfl, o.weak h4.size⟩⟩
  refine ⟨fun hk1 w9 h9 => ?_, fun hk1 => ⟨fun hk2 w9 x9 => ?_, fun hk2 => ⟨fun hk4 w9 x9 => ?_, fun hk4 => ⟨fun hk5 w9 x9 => ?_, fun hk5 w9 h9 => ?_⟩⟩⟩⟩
  · have hoj : okJ x.job := by
      rcases ho with g | g | g | g | g
      · exact g.2.1
      all_goals have := g.1; omega
    refine (jText_k x.job pa ca pf cf w9 (hJ.ext (hw5.trans h9)) hW hn (g.ext (hw5.trans h9))).mono fun v w10 ⟨e10, t, f, hv, hf, _, ht⟩ => ⟨e10, t, f, hv, fun w13 x13 => ?_⟩
    have ht := ht (hf.2 hoj)
    have h13 := extB_ext x13
    have hjl := jtx_le hoj hn
    have hts : t.size = (jtx x.job).length := by rw [ht, ofL_size]
    have o13 := Own.ext o5 h13
    refine run_appS o13 (h45.trans h13).size (by omega) fun p' c' w14 o14 b14 _ => ⟨fun b hb => ?_, p', _, c', rfl, fun w18 h18 => ?_⟩
    · simp at hb; subst hb
      exact b14.block _ hb04
    · have hx14 : Ext w w14 := ext_below (hw5.trans h13) b14 h4.size
      have hl : 1 + t.size = (ub x.kind :: jtx x.job).length := by rw [hts]; simp; omega
      rw [hl] at o14 ⊢
      refine fin p' c' w18 (ub x.kind :: jtx x.job) ?_ (hx14.trans h18) (by unfold enc; rw [if_pos hk1])
      have := Own.ext o14 h18
      rw [ht, ofL_list] at this
      exact this
  · have h9 := extB_ext x9
    have o9 := Own.ext o5 h9
    refine (number_k (a := [ub x.kind]) x.n 4 o9 (h45.trans h9).size (by omega) (by omega)).mono fun v w10 ⟨b10, p', c', hv, o10⟩ => ⟨fun b hb => by simp at hb; subst hb; exact b10.block _ hb04, p', _, c', hv, fun w14 h14 => ?_⟩
    exact fin p' c' w14 (ub x.kind :: num x.n 4) (Own.ext o10 h14) ((ext_below (hw5.trans h9) b10 h4.size).trans h14) (by unfold enc; rw [if_neg hk1, if_pos hk2])
  · have h9 := extB_ext x9
    have o9 := Own.ext o5 h9
    refine (number_k (a := [ub x.kind]) x.id 2 o9 (h45.trans h9).size (by omega) (by omega)).mono fun v w10 ⟨b10, p', c', hv, o10⟩ => ⟨fun b hb => by simp at hb; subst hb; exact b10.block _ hb04, p', _, c', hv, ?_⟩
    have hw10 : Ext w w10 := ext_below (hw5.trans h9) b10 h4.size
    have s10 : w4.heap.size ≤ w10.heap.size := Nat.le_trans (h45.trans h9).size b10.size
    have last : ∀ (y : UInt8), enc x = ub x.kind :: (num x.id 2 ++ [y]) → ∀ w14, ExtB [] [b0] w10 w14 → Run Tryz.prog (.buildSlice T_sl_uint8 1 [(0, (.int .u8 (y.toNat : Int)))]) w14 fun v15 w15 => Ext w14 w15 ∧ ∃ t16 : Option Addr, ∃ tl17 : Nat, ∃ tc18 : Nat, v15 = (.slice t16 tl17 tc18) ∧
        ∀ w19, ExtB [] [b0] w15 w19 → Run Tryz.prog (.append #[T_sl_uint8, T_sl_uint8] T_sl_uint8 [(.slice p' (1 + 2) c'), (.slice t16 tl17 tc18)]) w19 fun v20 w20 => Kept [b0] w19 w20 ∧ ∃ t21 : Option Addr, ∃ tl22 : Nat, ∃ tc23 : Nat, v20 = (.slice t21 tl22 tc23) ∧
          ∀ w24, Ext w20 w24 → (Ext w w24 ∧ ∃ p n c e, Value.tuple #[(.slice t21 tl22 tc23), (.int .i64 0)] = .tuple #[.slice p n c, .int .i64 e] ∧ (e = 0 ↔ okE x) ∧ (e ≠ 0 → p = none ∧ n = 0 ∧ c = 0) ∧ (e = 0 → n = (enc x).length ∧ Own w.heap.size w24 T_uint8 1 p n c ((bI (enc x)).map (.int .u8)))) := by
      intro y hy
      refine push_intB elem_sl_uint8 o10 s10 (fun b hb z hz => by simp at hb; subst hb; exact hnb o10 z hz) (by omega) (by omega) fun p2 c2 w20 o20 g20 _ _ => fun w24 h24 => ?_
      refine fin p2 c2 w24 (ub x.kind :: (num x.id 2 ++ [y])) ?_ ((ext_below hw10 (g20.below (Below.refl w4.heap.size w10) s10 fun z hz => (o10.lt z hz).1) h4.size).trans h24) hy
      have : bI (ub x.kind :: (num x.id 2 ++ [y])) = bI ([ub x.kind] ++ num x.id 2) ++ [(y.toNat : Int)] := by simp [bI]
      rw [this]
      exact Own.ext o20 h24
    refine ⟨fun hok => last 1 (by unfold enc; rw [if_neg hk1, if_neg hk2, if_pos hk4, if_pos hok]), fun hok => last 0 (by unfold enc; rw [if_neg hk1, if_neg hk2, if_pos hk4, if_neg (by simp [hok])])⟩
  · have h9 := extB_ext x9
    have o9 := Own.ext o5 h9
    refine (number_k (a := [ub x.kind]) x.id 2 o9 (h45.trans h9).size (by omega) (by omega)).mono fun v w10 ⟨b10, p', c', hv, o10⟩ => ⟨fun b hb => by simp at hb; subst hb; exact b10.block _ hb04, p', _, c', hv, fun w14 h14 => ?_⟩
    exact fin p' c' w14 (ub x.kind :: num x.id 2) (Own.ext o10 h14) ((ext_below (hw5.trans h9) b10 h4.size).trans h14) (by unfold enc; rw [if_neg hk1, if_neg hk2, if_neg hk4, if_pos hk5])
  · exact fin _ _ w9 [ub x.kind] (Own.ext o5 h9) (hw5.trans h9) (by unfold enc; rw [if_neg hk1, if_neg hk2, if_neg hk4, if_neg hk5])
end Go.Proofs.YtenppnomdejmlaaGreatDoor
