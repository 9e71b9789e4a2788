/- Jobs are read. -/
import Derived.Test.YtenppnomdejmlaaGreatDoorJbA
set_option linter.unusedVariables false
set_option linter.unusedSimpArgs false
namespace Go.Proofs.YtenppnomdejmlaaGreatDoor
open Go.Sx Go.RowKit

theorem mem_join {c d : UInt8} : ∀ (L : List (List UInt8)), c ∈ Lib.join L [d] → c = d ∨ ∃ y ∈ L, c ∈ y
  | [], h => by rw [Lib.join_nil] at h; cases h
  | [x], h => by rw [Lib.join_one] at h; exact .inr ⟨x, List.mem_cons_self .., h⟩
  | x :: y :: L, h => by
    have e : Lib.join (x :: y :: L) [d] = x ++ d :: Lib.join (y :: L) [d] := by
      rw [Lib.join_cons, Lib.join_cons]
      simp [Lib.joinTail]
    rw [e] at h
    rcases List.mem_append.1 h with h | h
    · exact .inr ⟨x, List.mem_cons_self .., h⟩
    · rcases List.mem_cons.1 h with h | h
      · exact .inl h
      · rcases mem_join (y :: L) h with h | ⟨z, hz, h⟩
        · exact .inl h
        · exact .inr ⟨z, List.mem_cons_of_mem _ hz, h⟩


/-! ### Where no blank is -/
theorem lb_not {s : ByteArray} (h : lbB s = true) {c : UInt8} (hc : okC (c.toNat : Int) = false) : c ∉ s.data.toList := fun hm => by
  unfold lbB at h
  simp only [Bool.and_eq_true] at h
  have := List.all_eq_true.1 h.2 (c.toNat : Int) (List.mem_map.2 ⟨c, hm, rfl⟩)
  rw [hc] at this; cases this
theorem un_not {s : ByteArray} (h : unB s = true) {c : UInt8} (h1 : c ∉ cpuS.data.toList) (h2 : c ∉ memS.data.toList) (h3 : c ∉ gpuS.data.toList) : c ∉ s.data.toList := by
  unfold unB at h
  simp only [Bool.or_eq_true, decide_eq_true_eq] at h
  rcases h with (h | h) | h <;> (subst h; assumption)
theorem itoa_not {n : Int} {c : UInt8} (h1 : c ≠ 45) (h2 : c.toNat < 48 ∨ 57 < c.toNat) : c ∉ Lib.itoa n := fun hm => by
  rcases itoa_any c hm with h | h
  · exact h1 h
  · omega
theorem nd_not {x : Nd} : (32 : UInt8) ∉ textL x := fun hm => by
  unfold textL at hm
  split at hm
  · simp at hm
  · rcases mem_join _ hm with h | ⟨y, hy, h⟩
    · exact absurd h (by decide)
    · obtain ⟨i, hi, rfl⟩ := List.mem_map.1 hy
      have hi := (idx_lt hi).1
      unfold piece at h
      rcases List.mem_append.1 h with h | h
      · revert h
        match i, hi with
        | 0, _ => decide
        | 1, _ => decide
        | 2, _ => decide
      · rcases List.mem_cons.1 h with h | h
        · exact absurd h (by decide)
        · exact itoa_not (by decide) (by decide) h
theorem aft_not {l : List Int} : (32 : UInt8) ∉ aftL l := fun hm => by
  unfold aftL at hm
  split at hm
  · simp at hm
  · rcases mem_join _ hm with h | ⟨y, hy, h⟩
    · exact absurd h (by decide)
    · obtain ⟨x, hx, rfl⟩ := List.mem_map.1 hy
      exact itoa_not (by decide) (by decide) h
theorem ask_not : ∀ t : AT, errA t = 0 → (32 : UInt8) ∉ txt t := by
  intro t
  induction t using AT.ind with
  | h k key val n xs ih =>
    intro he hm
    rcases txt_inv he with ⟨key, h, hkey, ht⟩ | ⟨key, val, h, hkey, hval, ht⟩ | ⟨key, m, h, hkey, hm0, _, ht⟩ | ⟨x, h, hx, ht, hnx⟩ | ⟨k, x, y', hk', h, hx, hy, ht, hnx⟩
    · rw [ht] at hm
      rcases List.mem_cons.1 hm with h | h
      · exact absurd h (by decide)
      · exact lb_not hkey (by decide) h
    · rw [ht] at hm
      rcases List.mem_append.1 hm with h | h
      · exact lb_not hkey (by decide) h
      · rcases List.mem_cons.1 h with h | h
        · exact absurd h (by decide)
        · exact lb_not hval (by decide) h
    · rw [ht] at hm
      rcases List.mem_append.1 hm with h | h
      · exact un_not hkey (by decide) (by decide) (by decide) h
      · simp only [List.mem_cons] at h
        rcases h with h | h | h
        · exact absurd h (by decide)
        · exact absurd h (by decide)
        · exact itoa_not (by decide) (by decide) h
    · injection h with _ _ _ _ h5
      rw [ht] at hm
      rcases List.mem_cons.1 hm with h | h
      · exact absurd h (by decide)
      · exact ih x (by rw [h5]; simp) hx h
    · injection h with _ _ _ _ h5
      rw [ht] at hm
      simp only [List.mem_cons, List.mem_append, List.not_mem_nil, or_false] at hm
      rcases hm with h | h | h | h | h
      · exact absurd h (by decide)
      · exact ih x (by rw [h5]; simp) hx h
      · rcases hk' with rfl | rfl
        · exact absurd h (by decide)
        · exact absurd h (by decide)
      · exact ih y' (by rw [h5]; simp) hy h
      · exact absurd h (by decide)
theorem jps_not {j : Jb} (h : okJ j) : ∀ y ∈ jps j, (32 : UInt8) ∉ y := by
  intro y hy
  unfold jps at hy
  simp only [List.mem_cons, List.not_mem_nil, or_false] at hy
  rcases hy with rfl | rfl | rfl | rfl | rfl
  · exact lb_not h.user (by decide)
  · exact itoa_not (by decide) (by decide)
  · exact nd_not
  · exact aft_not
  · exact ask_not _ (errC_ok.1 h.ask).2
theorem aft_dash {l : List Int} (h : aftL l = [45]) : l = [] ∨ ∃ x, l = [x] ∧ Lib.itoa x = [45] := by
  unfold aftL at h
  split at h
  · rename_i h0; exact .inl h0
  · cases l with
    | nil => exact .inl rfl
    | cons x r =>
      cases r with
      | nil => exact .inr ⟨x, rfl, by simpa [Lib.join_one] using h⟩
      | cons y r =>
        simp only [List.map_cons] at h
        rw [Lib.join_cons] at h
        have hx : Lib.itoa x ≠ [] := by
          unfold Lib.itoa
          split
          · simp
          · exact dec_ne _
        have hy : Lib.joinTail [44] (Lib.itoa y :: r.map Lib.itoa) ≠ [] := by
          intro h0
          have := Lib.joinTail_length [44] (Lib.itoa y :: r.map Lib.itoa)
          rw [h0] at this
          simp at this
          omega
        have := congrArg List.length h
        rw [List.length_append] at this
        have h1 := List.length_pos_iff.2 hx
        have h2 := List.length_pos_iff.2 hy
        simp at this
        omega

def zeroJ : Jb := ⟨emS, 0, zeroN, zeroA, []⟩
theorem zeroJ_wf : WfJ zeroJ := ⟨by decide, i64 (by decide), fun i hi => by
  match i, hi with
  | 0, _ => simp [ndAt, zeroJ, zeroN]
  | 1, _ => simp [ndAt, zeroJ, zeroN]
  | 2, _ => simp [ndAt, zeroJ, zeroN], zero_wf, by decide, fun x hx => by cases hx⟩
theorem zeroJ_at (w : World) : IsJ w zeroJ none 0 none := ⟨zero_isT w, Cells.nil⟩
/-- What a text of a job is. -/
structure JT (s : ByteArray) (j : Jb) : Prop where
  ok : okJ j
  nod : nod j.ask ≤ 1048576
  is : s = ofL (jtx j)
  ask : (txt j.ask).length ≤ 2000
def JRes (w : World) (s : ByteArray) (v : Value) (w' : World) : Prop := Ext w w' ∧ ∃ j pa ca pf cf e, v = .tuple #[jv j pa ca pf cf, .int .i64 e] ∧ WfJ j ∧ (∀ S : Nat → Prop, (∀ b, S b → b < w.heap.size) → ∀ w'', Fr S w' w'' → IsJ w'' j pa ca pf) ∧
  ((e ≠ 0 ∧ j = zeroJ ∧ pa = none ∧ ca = 0 ∧ pf = none ∧ cf = 0) ∨ (e = 0 ∧ okJ j ∧ nod j.ask ≤ 60 ∧ s = ofL (jtx j) ∧ (txt j.ask).length ≤ 2000)) ∧ (∀ j0, JT s j0 → s.size ≤ 3000 → e = 0 ∧ j = j0)
theorem jres_zero {w w' : World} {s : ByteArray} (x : Ext w w') {e : Int} (he : e ≠ 0) (hno : ∀ j0, JT s j0 → s.size ≤ 3000 → False) : JRes w s (.tuple #[jv zeroJ none 0 none 0, .int .i64 e]) w' :=
  ⟨x, zeroJ, none, 0, none, 0, e, rfl, zeroJ_wf, fun _ _ _ _ => zeroJ_at _, .inl ⟨he, rfl, rfl, rfl, rfl, rfl⟩, fun j0 h hs => (hno j0 h hs).elim⟩

theorem split_pieces {s : ByteArray} {j : Jb} (h : JT s j) : Lib.countB s (one 32) = 4 ∧ Lib.splitB (one 32) 0 4 s = (jps j).map ofL := by
  have := join_split (c := 32) [Lib.itoa j.prio, textL j.nd, aftL j.aft, txt j.ask] j.user.data.toList (by simpa [jps] using jps_not h.ok)
  rw [h.is]
  exact this
theorem split_after {l : List Int} (hl : l ≠ []) : Lib.countB (ofL (aftL l)) (one 44) + 1 = l.length ∧ Lib.splitB (one 44) 0 (Lib.countB (ofL (aftL l)) (one 44)) (ofL (aftL l)) = (l.map Lib.itoa).map ofL := by
  cases l with
  | nil => exact absurd rfl hl
  | cons a r =>
    have h := join_split (c := 44) (r.map Lib.itoa) (Lib.itoa a) (by
      intro y hy
      rw [← List.map_cons] at hy
      obtain ⟨x, _, rfl⟩ := List.mem_map.1 hy
      exact itoa_not (by decide) (by decide))
    have e : aftL (a :: r) = Lib.join (Lib.itoa a :: r.map Lib.itoa) [44] := by unfold aftL; rw [if_neg (by simp)]; rfl
    rw [e, h.1]
    refine ⟨by simp, ?_⟩
    rw [List.length_map] at h ⊢
    simpa using h.2

theorem jRead_k (s : ByteArray) (hs63 : s.size ≤ 9223372036854775807) (w : World) (g : GB w) : FnP Tryz.prog F_job_Read #[.string s] w (JRes w s) := by
  refine ok_job_Read s w _ fun b0 hb0 => ⟨fun hbig w1 h1 => jres_zero h1 (by decide) fun j0 _ h => by omega, fun hsm w1 x1 => ?_⟩
  have h1 := extB_ext x1
  have hb01 : b0 < w1.heap.size := x1.lt b0 (by simp)
  refine (Split_k 32 s (by omega) w1 (g.ext h1)).mono fun v w2 ⟨e2, hv, hc2, hlt2⟩ => ⟨e2, _, _, _, hv, fun hne w6 x6 => ?_, fun h5 => ?_⟩
  · refine jres_zero (but_ext x6 (h1.trans e2) (by intro d hd; simp at hd; omega)) (by decide) fun j0 hj _ => hne ?_
    rw [(split_pieces hj).1]; rfl
  have hw2 : Ext w w2 := h1.trans e2
  have hcnt : Lib.countB s (one 32) = 4 := by omega
  rw [hcnt] at hc2
  have hlen := split_len (c := 32) 4 s hcnt
  have hsz : ∀ i q, (Lib.splitB (one 32) 0 4 s)[i]? = some q → q.size + i ≤ s.size := fun i q h => split_size _ s i q h
  have hjt : ∀ j0, JT s j0 → Lib.splitB (one 32) 0 4 s = (jps j0).map ofL := fun j0 hj => (split_pieces hj).2
  generalize Lib.splitB (one 32) 0 4 s = Ps at hc2 hlen hsz hjt
  have spn : (some (⟨w1.heap.size, 0, none⟩ : Addr)) ≠ none := by simp
  have spb : ∀ a, (some (⟨w1.heap.size, 0, none⟩ : Addr)) = some a → a.block < w2.heap.size := fun a ha => by obtain rfl := Option.some.inj ha; exact hlt2
  generalize (some (⟨w1.heap.size, 0, none⟩ : Addr)) = sp at hc2 spn spb ⊢
  obtain ⟨P0, P1, P2, P3, P4, rfl⟩ : ∃ a b c d e, Ps = [a, b, c, d, e] := by
    match Ps, hlen with
    | [a, b, c, d, e], _ => exact ⟨a, b, c, d, e, rfl⟩
  have cellP : ∀ {w' : World} (i : Nat) (q : ByteArray), Ext w2 w' → ([P0, P1, P2, P3, P4] : List ByteArray)[i]? = some q → Go.Sx.cell w' (pIdx sp (i : Int) 1) 0 = some (.string q) := fun {w'} i q hx hq => by
    rw [cell_pIdx]
    have := hc2.ext hx i (.string q) (by rw [List.getElem?_map, hq]; rfl)
    simpa using this
  have s0 := hsz 0 P0 rfl
  have s1 := hsz 1 P1 rfl
  have s2 := hsz 2 P2 rfl
  have s3 := hsz 3 P3 rfl
  have s4 := hsz 4 P4 rfl
  refine ⟨spn, by omega, by omega, P0, cellP 0 P0 (Ext.refl _) rfl, fun b7 hb7 => ⟨spn, by omega, by omega, P1, cellP 1 P1 (Ext.refl _) rfl, fun w9 x9 => ?_⟩⟩
  have hfree : ∀ i : Int, Free [b7] (pIdx sp i 1) := fun i b hb a ha => by
    simp at hb; subst hb
    cases sp with
    | none => exact absurd rfl spn
    | some x =>
      have := spb x rfl
      simp [pIdx] at ha
      rw [← ha, add_block]; omega
  have h9 := extB_ext x9
  have hw9 := hw2.trans h9
  refine (Atoi_k P1 (by omega) w9 (g.ext hw9)).mono fun v w10 ⟨e10, n1, ev, hv, hcase⟩ => ⟨e10, n1, ev, hv, spn, by omega, by omega, P2, ⟨cellP 2 P2 (h9.trans e10) rfl, hfree 2⟩, fun w14 x14 => ?_⟩
  have hw10 := hw9.trans e10
  have h210 : Ext w2 w10 := h9.trans e10
  have hb7w : w.heap.size ≤ b7 := Nat.le_trans hw2.size hb7
  have hw14 : Ext w w14 := but_ext x14 hw10 (by intro d hd; simp at hd; omega)
  refine (nRead_k P2 (by omega) w14 (g.ext hw14)).mono fun v w15 ⟨e15, nd, en, hv, hnz, hnok, hncomp⟩ => ⟨e15, nd.c, nd.m, nd.g, en, hv, spn, by omega, by omega, P4, ⟨cellP 4 P4 h210 rfl, hfree 4⟩, fun w21 x21 => ?_⟩
  have hw21 : Ext w w21 := but_ext x21 hw10 (by intro d hd; simp at hd; omega)
  have h221 : Ext w2 w21 := but_ext x21 h210 (by intro d hd; simp at hd; omega)
  have hb0_21 : b0 < w21.heap.size := x21.lt b0 (by simp)
  have hb7_21 : b7 < w21.heap.size := x21.lt b7 (by simp)
  refine (Read_kS P4 w21 (g.ext hw21)).mono fun v w22 ⟨e22, t, pa, ca, ea, hv, hWt, hTt, horA, hcompA⟩ => ⟨e22, t.k, t.key, t.val, t.n, pa, t.xs.length, ca, ea, hv, fun w31 x31 => ?_⟩
  have hw22 : Ext w w22 := hw21.trans e22
  have h222 : Ext w2 w22 := h221.trans e22
  have hn1 : InR .i64 n1 ∨ ev ≠ .nilIface := by
    rcases hcase with ⟨_, h⟩ | ⟨⟨a, b, h⟩, _⟩
    · exact .inl (parse_rng h)
    · exact .inr (by rw [h]; simp)
  have parts : ∀ j0, JT s j0 → P0 = j0.user ∧ P1 = ofL (Lib.itoa j0.prio) ∧ P2 = ofL (textL j0.nd) ∧ P3 = ofL (aftL j0.aft) ∧ P4 = ofL (txt j0.ask) := fun j0 hj => by
    have := hjt j0 hj
    simp only [jps, List.map_cons, List.map_nil, List.cons.injEq, and_true] at this
    rw [ofL_of] at this
    exact this
  have good0 : ∀ j0, JT s j0 → s.size ≤ 3000 → ev = .nilIface ∧ n1 = j0.prio ∧ en = 0 ∧ nd = j0.nd ∧ ea = 0 ∧ t = j0.ask := fun j0 hj hs => by
    obtain ⟨q0, q1, q2, q3, q4⟩ := parts j0 hj
    have hp := parse_any (n := j0.prio) (by have := hj.ok.prio; omega)
    have ha := hcompA j0.ask hj.ok.ask hj.nod q4 (by rw [q4, ofL_size]; exact hj.ask)
    have hd := hncomp j0.nd hj.ok.nd q2
    rcases hcase with ⟨h, h'⟩ | ⟨_, h'⟩
    · rw [q1, ofL_list, hp] at h'
      cases h'
      exact ⟨h, rfl, hd.1, hd.2, ha.1, ha.2⟩
    · rw [q1, ofL_list] at h'
      exact absurd hp (h' _)
  refine ne_nilB (by kernel_rfl) (hcase.elim (fun h => .inl h.1) fun h => .inr h.1) fun tb htb => ⟨Ext.refl _, tb, rfl, fun hbad w34 x34 => ?_, fun hgd => ?_⟩
  · refine jres_zero (but_ext x34 hw22 (by intro d hd; simp at hd; omega)) (by decide) fun j0 hj hs => ?_
    obtain ⟨a1, _, a3, _, a5, _⟩ := good0 j0 hj hs
    rcases hbad with (h | h) | h
    · rw [htb.2 a1] at h; cases h
    · exact h a3
    · exact h a5
  have hev : ev = .nilIface := htb.1 hgd.1.1
  have hn1 : InR .i64 n1 := hn1.resolve_right fun h => h hev
  have hnd := hnok hgd.1.2
  obtain ⟨htC, htn, htx, _⟩ : errC t = 0 ∧ nod t ≤ 60 ∧ P4 = ofL (txt t) ∧ P4.size ≤ 2000 := by
    rcases horA with ⟨h, _⟩ | ⟨_, h⟩
    · exact absurd hgd.2 h
    · exact h
  have htl : (txt t).length ≤ 2000 := by rw [← ofL_size, ← htx]; assumption
  -- the job is told again
  have tail : ∀ (xs : List Int) (pf : Option Addr) (cf : Nat) (wt : World), Ext w wt → Fr (fun b => b = b7) w22 wt → Own w21.heap.size wt T_int 1 pf xs.length cf (xs.map (.int .i64)) → (∀ x ∈ xs, InR .i64 x) → xs.length ≤ 9223372036854775807 → (∀ j0, JT s j0 → s.size ≤ 3000 → xs = j0.aft) →
      ∀ w55, ExtB [b7] [] wt w55 → FnP Tryz.prog F_job_Text #[jv ⟨P0, n1, nd, t, xs⟩ pa ca pf cf] w55 fun v56 w56 => Ext w55 w56 ∧ ∃ t57 : ByteArray, ∃ t58 : Int, v56 = (.tuple #[(.string t57), (.int .i64 t58)]) ∧
        (((t58 ≠ 0) ∨ (t57 ≠ s)) → ∀ w59, ExtB [b0, b7] [] wt w59 → JRes w s (.tuple #[jv zeroJ none 0 none 0, .int .i64 3]) w59) ∧
        (((t58 = 0) ∧ (t57 = s)) → ∀ w59, ExtB [b0, b7] [] wt w59 → JRes w s (.tuple #[jv ⟨P0, n1, nd, t, xs⟩ pa ca pf cf, .int .i64 0]) w59) := by
    intro xs pf cf wt hwt ft o hxr hxl hcx w55 x55
    have hW : WfJ ⟨P0, n1, nd, t, xs⟩ := ⟨by show P0.size ≤ _; omega, hn1, hnd.1.rng, hWt, hxl, hxr⟩
    have key : ∀ (S : Nat → Prop), (∀ b, S b → b < w21.heap.size) → ∀ w'', Fr S wt w'' → IsJ w'' ⟨P0, n1, nd, t, xs⟩ pa ca pf := fun S hS w'' fw => by
      refine ⟨hTt (fun b => b = b7 ∨ S b) (fun b hb => by rcases hb with rfl | hb; (· exact hb7_21); exact hS b hb) w'' ((ft.mono fun b hb => .inl hb).tr (fw.mono fun b hb => .inr hb)), ?_⟩
      exact (Own.fr o fw fun a ha hb => by have := (o.lt a ha).1; have := hS _ hb; omega).cells
    have f55 : Fr (fun b => b = b7) wt w55 := fr_extB x55 (by intro d hd; simp at hd; exact .inl hd)
    have hw55 : Ext w w55 := but_ext x55 hwt (by intro d hd; simp at hd; omega)
    refine (jText_k ⟨P0, n1, nd, t, xs⟩ pa ca pf cf w55 (key (fun b => b = b7) (fun b hb => by omega) w55 f55) hW (by show nod t ≤ _; omega) (g.ext hw55)).mono fun v w56 ⟨e56, tt, e, hv, heq, hem, htt⟩ => ⟨e56, tt, e, hv, fun hbad w59 x59 => ?_, fun hgood w59 x59 => ?_⟩
    · refine jres_zero (but_ext x59 hwt (by intro d hd; simp at hd; omega)) (by decide) fun j0 hj hs => ?_
      obtain ⟨q0, _⟩ := parts j0 hj
      obtain ⟨_, a2, _, a4, _, a6⟩ := good0 j0 hj hs
      have hxa := hcx j0 hj hs
      have hj0 : (⟨P0, n1, nd, t, xs⟩ : Jb) = j0 := by rw [q0, a2, a4, a6, hxa]
      have he0 : e = 0 := heq.2 (by rw [hj0]; exact hj.ok)
      rcases hbad with h | h
      · exact h he0
      · exact h (by rw [htt he0, hj0]; exact hj.is.symm)
    · refine ⟨but_ext x59 hwt (by intro d hd; simp at hd; omega), ⟨P0, n1, nd, t, xs⟩, pa, ca, pf, cf, 0, rfl, hW, fun S hS w'' fw => ?_, .inr ⟨rfl, heq.1 hgood.1, htn, by rw [← hgood.2]; exact htt hgood.1, htl⟩, fun j0 hj hs => ⟨rfl, ?_⟩⟩
      · refine key (fun b => S b ∨ b = b0 ∨ b = b7) (fun b hb => ?_) w'' ((fr_extB x59 (by intro d hd; simp at hd; exact .inl (.inr hd))).tr (fw.mono fun b hb => .inl hb))
        have := hw21.size
        rcases hb with hb | rfl | rfl
        · have := hS b hb; omega
        · exact hb0_21
        · exact hb7_21
      · obtain ⟨q0, _⟩ := parts j0 hj
        obtain ⟨_, a2, _, a4, _, a6⟩ := good0 j0 hj hs
        rw [q0, a2, a4, a6, hcx j0 hj hs]
  refine ⟨spn, by omega, by omega, P3, ⟨cellP 3 P3 h222 rfl, hfree 3⟩, fun hne3 => ⟨spn, by omega, by omega, P3, ⟨cellP 3 P3 h222 rfl, hfree 3⟩, fun w36 x36 => ?_⟩, fun heq3 w35 x35 => ?_⟩
  rotate_left
  · refine tail [] none 0 w22 hw22 (Fr.refl _ _) Own.nil (fun x hx => by cases hx) (by simp) (fun j0 hj hs => ?_) w35 x35
    obtain ⟨_, _, _, q3, _⟩ := parts j0 hj
    have : aftL j0.aft = [45] := ofL_inj (q3.symm.trans heq3)
    rcases aft_dash this with h | ⟨x, h, hx⟩
    · exact h.symm
    · have hup := upA_mem hj.ok.up x (by rw [h]; simp)
      rw [itoa_dec (by omega)] at hx
      have := dec_digits x.toNat 45 (by rw [hx]; simp)
      exact absurd this (by decide)
  -- the numbers of the jobs ahead
  have f36 : Fr (fun b => b = b7) w22 w36 := fr_extB x36 (by intro d hd; simp at hd; exact .inl hd)
  have hw36 : Ext w w36 := but_ext x36 hw22 (by intro d hd; simp at hd; omega)
  have hb0_36 : b0 < w36.heap.size := x36.lt b0 (by simp)
  have hb7_36 : b7 < w36.heap.size := x36.lt b7 (by simp)
  refine (Split_k 44 P3 (by omega) w36 (g.ext hw36)).mono fun v w37 ⟨e37, hv, hc37, hlt37⟩ => ⟨e37, _, _, _, hv, ?_⟩
  have qlen := split_len (c := 44) _ P3 rfl
  have qsz : ∀ i q, (Lib.splitB (one 44) 0 (Lib.countB P3 (one 44)) P3)[i]? = some q → q.size + i ≤ P3.size := fun i q h => split_size _ P3 i q h
  have qjt : ∀ j0, JT s j0 → Lib.countB P3 (one 44) + 1 = j0.aft.length ∧ Lib.splitB (one 44) 0 (Lib.countB P3 (one 44)) P3 = (j0.aft.map Lib.itoa).map ofL := fun j0 hj => by
    obtain ⟨_, _, _, q3, _⟩ := parts j0 hj
    have hne : j0.aft ≠ [] := fun h => hne3 (by rw [q3, h]; rfl)
    rw [q3]
    exact split_after hne
  generalize Lib.splitB (one 44) 0 (Lib.countB P3 (one 44)) P3 = Qs at hc37 qlen qsz qjt
  generalize Lib.countB P3 (one 44) = m at qlen qjt ⊢
  have qpn : (some (⟨w36.heap.size, 0, none⟩ : Addr)) ≠ none := by simp
  have qpb : ∀ a, (some (⟨w36.heap.size, 0, none⟩ : Addr)) = some a → a.block ≠ b7 := fun a ha => by obtain rfl := Option.some.inj ha; show w36.heap.size ≠ b7; omega
  generalize (some (⟨w36.heap.size, 0, none⟩ : Addr)) = qp at hc37 qpn qpb ⊢
  have hw37 : Ext w w37 := hw36.trans e37
  have hb37 : b0 < w37.heap.size ∧ b7 < w37.heap.size := by have := e37.size; omega
  refine ⟨fun k c43 c44 c45 c46 c47 c48 c49 c50 c51 c52 cl52 cc52 c53 cl53 cc53 w' => (c43 = P0 ∧ c44 = n1 ∧ c45 = nd.c ∧ c46 = nd.m ∧ c47 = nd.g ∧ c48 = t.k ∧ c49 = t.key ∧ c50 = t.val ∧ c51 = t.n ∧ c52 = pa ∧ cl52 = t.xs.length ∧ cc52 = ca) ∧ 0 ≤ k ∧ k ≤ (m + 1 : Nat) ∧ Ext w w' ∧ Fr (fun b => b = b7) w37 w' ∧
      ∃ xs : List Int, cl53 = xs.length ∧ xs.length = k.toNat ∧ Own w37.heap.size w' T_int 1 c53 cl53 cc53 (xs.map (.int .i64)) ∧ ∀ (i : Nat) x, xs[i]? = some x → ∃ q, Qs[i]? = some q ∧ Lib.parseIntB 64 q.data.toList = .ok x, fun k _ _ _ _ _ _ _ _ _ _ _ _ _ _ _ _ => (m + 1 - k).toNat,
    ⟨⟨rfl, rfl, rfl, rfl, rfl, rfl, rfl, rfl, rfl, rfl, rfl, rfl⟩, by omega, by omega, hw37, Fr.refl _ _, [], rfl, rfl, Own.nil, fun i x h => by simp at h⟩, ?_⟩
  rintro k c43 c44 c45 c46 c47 c48 c49 c50 c51 c52 cl52 cc52 c53 cl53 cc53 w54 ⟨⟨rfl, rfl, rfl, rfl, rfl, rfl, rfl, rfl, rfl, rfl, rfl, rfl⟩, hk0, hk1, hw54, f54, xs, rfl, hxk, o54, hxs⟩
  have c54 : Cells w54 qp (Qs.map Value.string) := hc37.fr f54 fun a ha => qpb a ha
  refine ⟨fun hlt => ?_, fun hge => ?_⟩
  rotate_left
  · have f22 : Fr (fun b => b = b7) w22 w54 := (f36.tr (fr_ext e37)).tr f54
    have sz : w21.heap.size ≤ w37.heap.size := by have := e22.size; have := f36.size; have := e37.size; omega
    refine tail xs c53 cc53 w54 hw54 f22 (o54.weak sz) (fun x hx => ?_) ?_ fun j0 hj hs => ?_
    · obtain ⟨i, hi⟩ := List.getElem?_of_mem hx
      obtain ⟨q, _, hq⟩ := hxs i x hi
      exact parse_rng hq
    · have := o54.le; omega
    · obtain ⟨h1, h2⟩ := qjt j0 hj
      have hkl : xs.length = j0.aft.length := by omega
      refine List.ext_getElem? fun i => ?_
      rcases Nat.lt_or_ge i xs.length with hi | hi
      · obtain ⟨q, hq, hp⟩ := hxs i xs[i] (List.getElem?_eq_getElem hi)
        rw [h2, List.map_map, List.getElem?_map, List.getElem?_eq_getElem (by omega : i < j0.aft.length)] at hq
        simp only [Option.map_some, Option.some.injEq] at hq
        have hup := upA_mem hj.ok.up (j0.aft[i]'(by omega)) (List.getElem_mem _)
        rw [← hq] at hp
        have hp2 := parse_any (n := j0.aft[i]'(by omega)) (by omega)
        have hp3 : Lib.parseIntB 64 (Lib.itoa (j0.aft[i]'(by omega))) = .ok xs[i] := hp
        rw [hp2] at hp3
        injection hp3 with h3
        rw [List.getElem?_eq_getElem hi, List.getElem?_eq_getElem (by omega : i < j0.aft.length), h3]
      · rw [List.getElem?_eq_none hi, List.getElem?_eq_none (by omega)]
  obtain ⟨pc, hpc⟩ : ∃ pc, Qs[k.toNat]? = some pc := ⟨_, List.getElem?_eq_getElem (by omega)⟩
  have hcell : Go.Sx.cell w54 (pIdx qp k 1) 0 = some (.string pc) := by
    rw [cell_pIdx]
    exact c54 _ _ (by simp [hpc])
  have hpsz := qsz _ _ hpc
  have hqfree : Free [b7] (pIdx qp k 1) := fun b hb a ha => by
    simp at hb; subst hb
    cases qp with
    | none => exact absurd rfl qpn
    | some x =>
      simp [pIdx] at ha
      rw [← ha, add_block]; exact qpb x rfl
  refine ⟨qpn, hk0, hlt, pc, ⟨hcell, hqfree⟩, fun w56 x56 => ?_⟩
  have hw56 : Ext w w56 := but_ext x56 hw54 (by intro d hd; simp at hd; omega)
  have f56 : Fr (fun b => b = b7) w37 w56 := f54.tr (fr_extB x56 (by intro d hd; simp at hd; exact .inl hd))
  refine (Atoi_k pc (by omega) w56 (g.ext hw56)).mono fun v w57 ⟨e57, x, ev2, hv, hcase2⟩ => ⟨e57, x, ev2, hv, fun w60 h60 => ?_⟩
  have hw57 := hw56.trans e57
  refine ne_nilB (by kernel_rfl) (hcase2.elim (fun h => .inl h.1) fun h => .inr h.1) fun tb2 htb2 => ⟨Ext.refl _, tb2, rfl, fun hbad w63 x63 => ?_, fun hok => ?_⟩
  · refine jres_zero (but_ext x63 hw57 (by intro d hd; simp at hd; omega)) (by decide) fun j0 hj hs => ?_
    obtain ⟨h1, h2⟩ := qjt j0 hj
    rw [h2, List.map_map, List.getElem?_map, List.getElem?_eq_getElem (by omega : k.toNat < j0.aft.length)] at hpc
    simp only [Option.map_some, Option.some.injEq] at hpc
    have hup := upA_mem hj.ok.up (j0.aft[k.toNat]'(by omega)) (List.getElem_mem _)
    have hp2 := parse_any (n := j0.aft[k.toNat]'(by omega)) (by omega)
    rcases hcase2 with ⟨h, _⟩ | ⟨_, h⟩
    · rw [htb2.2 h] at hbad; cases hbad
    · rw [← hpc] at h
      exact h _ hp2
  · have hx : Lib.parseIntB 64 pc.data.toList = .ok x := by
      have := htb2.1 hok
      rcases hcase2 with ⟨_, h⟩ | ⟨⟨a, b, h⟩, _⟩
      · exact h
      · rw [this] at h; cases h
    have f57 : Fr (fun b => b = b7) w37 w57 := f56.tr (fr_ext e57)
    have o57 : Own w37.heap.size w57 T_int 1 c53 xs.length cc53 (xs.map (.int .i64)) := Own.ext (Own.fr o54 (fr_extB x56 (by intro d hd; simp at hd; exact .inl hd) : Fr (fun b => b = b7) w54 w56) fun a ha hb => by have := (o54.lt a ha).1; omega) e57
    refine push_intB elem_sl_int o57 f57.size (fun b hb y hy => by have := (o57.lt y hy).1; simp at hb; rcases hb with rfl | rfl <;> omega) (by omega) (by omega) fun p' c' w' o' g' _ _ => ⟨i64 (by omega), ⟨⟨rfl, rfl, rfl, rfl, rfl, rfl, rfl, rfl, rfl, rfl, rfl, rfl⟩, by omega, by omega, ?_, ?_, xs ++ [x], by simp, by simp; omega, o', fun i y hy => ?_⟩, by simp only []; omega⟩
    · have hsz37 := hw37.size
      exact g'.ext hw57 (o57.weak hsz37)
    · have hB : Below w37.heap.size w57 w' := ⟨g'.by_.os, g'.by_.tape, g'.by_.output, g'.by_.size, fun b hb => g'.by_.block b (by have := f57.size; omega) fun h => by
        cases hp : c53 with
        | none => rw [hp] at h; simp [blk] at h
        | some a => rw [hp] at h; simp [blk] at h; have := (o57.lt a hp).1; omega⟩
      exact ⟨hB.os.trans f57.os, hB.tape.trans f57.tape, hB.output.trans f57.output, Nat.le_trans f57.size hB.size, fun b hb hn => (hB.block b hb).trans (f57.block b hb hn)⟩
    · rcases Nat.lt_or_ge i xs.length with hi | hi
      · rw [List.getElem?_append_left hi] at hy
        exact hxs i y hy
      · rw [List.getElem?_append_right hi] at hy
        obtain ⟨hi2, hy2⟩ := List.getElem?_eq_some_iff.1 hy
        simp at hi2 hy2
        obtain rfl : i = k.toNat := by omega
        exact ⟨pc, hpc, by rw [← hy2]; exact hx⟩
end Go.Proofs.YtenppnomdejmlaaGreatDoor
