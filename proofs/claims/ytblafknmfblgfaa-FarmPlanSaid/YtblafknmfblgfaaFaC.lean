/- Copies in new memory: asks, states, hosts. -/
import Derived.Test.YtblafknmfblgfaaJbF
import Derived.Test.YtblafknmfblgfaaQuC
import Derived.Test.YtblafknmfblgfaaTxtF
set_option linter.unusedVariables false
set_option linter.unusedSimpArgs false
namespace Go.Proofs.Ytblafknmfblgfaa
open Go.Sx Go.RowKit

/-! ### What lies in new memory -/
/-- It holds now, and is kept by whoever turns only what was ahead of n. -/
def Far (n : Nat) (w : World) (X : World → Prop) : Prop := ∀ S : Nat → Prop, (∀ b, S b → b < n) → ∀ w'', Fr S w w'' → X w''
theorem Far.at {n : Nat} {w : World} {X : World → Prop} (h : Far n w X) : X w := h (fun _ => False) (fun _ h => h.elim) w (Fr.refl _ w)
theorem Far.ext {n : Nat} {w w' : World} {X : World → Prop} (h : Far n w X) (e : Ext w w') : Far n w' X := fun S hS w'' f => h S hS w'' ((fr_ext e).tr f)
theorem Far.weak {n m : Nat} {w : World} {X : World → Prop} (h : Far n w X) (e : m ≤ n) : Far m w X := fun S hS w'' f => h S (fun b hb => Nat.lt_of_lt_of_le (hS b hb) e) w'' f
theorem Far.fr {n : Nat} {w w' : World} {X : World → Prop} {S : Nat → Prop} (h : Far n w X) (f : Fr S w w') (hS : ∀ b, S b → b < n) : Far n w' X := fun S' hS' w'' f' =>
  h (fun b => S b ∨ S' b) (fun b hb => hb.elim (hS b) (hS' b)) w'' ((f.mono fun b hb => .inl hb).tr (f'.mono fun b hb => .inr hb))

/-! ### Asks -/
structure AR where
  t : AT
  p : Option Addr
  c : Nat
abbrev encR5 (x : AR) : List Value := encA x.t x.p x.c
theorem encR5_len (x : AR) : (encR5 x).length = 5 := rfl
theorem isT_row {w : World} {t : AT} {q : Option Addr} {d : Nat} {L : List AR} (hm : L.map (·.t) = t.xs) (hle : t.xs.length ≤ d) (hR : Recs 5 encR5 w q L) (hT : ∀ x ∈ L, IsT w x.t x.p x.c) : IsT w t q d := by
  rw [AT.eta t]
  unfold IsT
  refine ⟨hle, IsL.of fun j x hx => ?_⟩
  rw [← hm, List.getElem?_map] at hx
  obtain ⟨r, hr, rfl⟩ := Option.map_eq_some_iff.1 hx
  exact ⟨r.p, r.c, fun m u hu => by rw [Nat.zero_add]; exact hR j r hr m u hu, hT r (List.mem_of_getElem? hr)⟩

def AOut (w : World) (t : AT) (v : Value) (w' : World) : Prop := Ext w w' ∧ ∃ q d, v = av t q d ∧ Far w.heap.size w' fun w'' => IsT w'' t q d
theorem ownAsk_k : ∀ (t : AT) (p : Option Addr) (c : Nat) (w : World), IsT w t p c → errA t = 0 → FnP Try.prog F_farm_ownAsk #[av t p c] w (AOut w t) := by
  intro t
  induction t using AT.ind with
  | h k key val n xs ih =>
    intro p c w hT hE
    have hEx := (errA_node hE).2
    have h2 : xs.length ≤ 2 := by
      have := err1_len (errA_node hE).1
      have h3 : inner k ≤ 2 := by unfold inner; split <;> (try split) <;> omega
      show xs.length ≤ 2
      have h4 : xs.length = inner k := this
      omega
    refine ok_farm_ownAsk k key val n p xs.length c w _ fun b0 hb0 b1 hb1 => ?_
    refine ⟨fun l ll lc k' w' => Ext w w' ∧ 0 ≤ k' ∧ k' ≤ xs.length ∧ ll = k'.toNat ∧ (∀ b ∈ [b0, b1], ∀ y, l = some y → y.block ≠ b) ∧ ∃ L : List AR, L.map (·.t) = xs.take k'.toNat ∧ Own w.heap.size w' T_Ask 5 l ll lc (L.flatMap encR5) ∧
        ∀ x ∈ L, ∀ w'', Fr (fun b => b < w.heap.size ∨ b = b0 ∨ b = b1 ∨ ∃ a, l = some a ∧ a.block = b) w' w'' → IsT w'' x.t x.p x.c,
      fun _ _ _ k' _ => (xs.length - k').toNat, ⟨Ext.refl _, by omega, by omega, rfl, fun b _ y hy => (by cases hy), [], rfl, Own.nil, fun x hx => (by cases hx)⟩, ?_⟩
    rintro l ll lc k' w5 ⟨x5, hk0, hk1, rfl, hbl, L, hL, oL, hTL⟩
    have hLl : L.length = k'.toNat := by have := congrArg List.length hL; rw [List.length_map, List.length_take] at this; omega
    refine ⟨fun hlt => ?_, fun hge w6 x6 => ?_⟩
    · have hT5 := hT.ext x5 _ _ _
      obtain ⟨x, p', c', hx, hmem, hIx, a1, a2, g0, g1, g2, g3, g4⟩ := hT5.at hk0 (by exact hlt)
      refine ⟨a1, hk0, hlt, a2, _, g0, _, g1, _, g2, _, g3, _, _, _, g4, fun b13 hb13 w14 x14 => ?_⟩
      have h14 := extB_ext x14
      have hw14 := x5.trans h14
      refine (ih x hmem p' c' w14 (hIx.ext h14 _ _ _) (hEx x hmem)).mono fun v w15 ⟨e15, q, d, hv, hF⟩ => ⟨e15, x.k, x.key, x.val, x.n, q, x.xs.length, d, hv, ?_⟩
      have h515 := h14.trans e15
      have hw15 := x5.trans h515
      have oL15 := oL.ext h515
      have hns : ∀ b ∈ [b0, b1, b13], ∀ y, l = some y → y.block ≠ b := fun b hb y hy => by
        simp only [List.mem_cons, List.not_mem_nil, or_false] at hb
        rcases hb with rfl | rfl | rfl
        · exact hbl _ (by simp) y hy
        · exact hbl _ (by simp) y hy
        · have := (oL.lt y hy).2; omega
      refine push_B (v := av x q d) elem_sl_Ask (by omega) oL15 hw15.size hns rfl (by intro u hu; simp [Value.cells] at hu; rcases hu with rfl | rfl | rfl | rfl | rfl <;> rfl) (by omega) (by omega) (by omega) fun l' lc' w29 o29 g29 _ hb29 => ⟨i64 (by omega), ⟨g29.ext hw15 oL15, by omega, by omega, by omega, fun b hb y hy => hb29 b (by simp at hb ⊢; omega) y hy, L ++ [⟨x, q, d⟩], ?_, ?_, ?_⟩, by simp only []; omega⟩
      · rw [show (k' + 1).toNat = k'.toNat + 1 by omega, List.map_append, hL, List.take_add_one]
        have hx' : xs[k'.toNat]? = some x := hx
        rw [hx']; rfl
      · rw [List.flatMap_append]
        simpa [Value.cells, encR5, encA] using o29
      · have step : ∀ (w0 w'' : World), Ext w0 w15 → w0.heap.size ≤ w15.heap.size → (∀ b, b < w.heap.size ∨ b = b0 ∨ b = b1 ∨ (∃ a, l = some a ∧ a.block = b) → True) → Fr (fun b => b < w.heap.size ∨ b = b0 ∨ b = b1 ∨ ∃ a, l' = some a ∧ a.block = b) w29 w'' → Fr (fun b => b < w.heap.size ∨ b = b0 ∨ b = b1 ∨ ∃ a, l = some a ∧ a.block = b) w0 w'' := fun w0 w'' h0 hs _ fw => by
          have f1 : Fr (fun b => b < w.heap.size ∨ b = b0 ∨ b = b1 ∨ ∃ a, l = some a ∧ a.block = b) w0 w29 := (fr_ext h0).tr (fr_grew g29 fun a ha => .inr (.inr (.inr ⟨a, ha, rfl⟩)))
          refine f1.trans fw fun b hb => ?_
          rcases hb with h | h | h | ⟨a2, ha2, hk2⟩
          · exact .inl (.inl h)
          · exact .inl (.inr (.inl h))
          · exact .inl (.inr (.inr (.inl h)))
          rcases g29.new with hn | hn
          · left
            rw [ha2] at hn
            cases hout : l with
            | none => rw [hout] at hn; simp [blk] at hn
            | some y => rw [hout] at hn; simp [blk] at hn; exact .inr (.inr (.inr ⟨y, rfl, by omega⟩))
          · right
            have := hn a2 ha2
            omega
        intro y hy w'' fw
        rcases List.mem_append.1 hy with hy | hy
        · exact hTL y hy w'' (step w5 w'' h515 h515.size (fun _ _ => trivial) fw)
        · simp at hy; subst hy
          refine hF _ (fun b hb => ?_) w'' (step w15 w'' (Ext.refl _) (Nat.le_refl _) (fun _ _ => trivial) fw)
          rcases hb with h | h | h | ⟨a, ha, rfl⟩
          · have := hw14.size; omega
          · subst h; exact x14.lt _ (by simp)
          · subst h; exact x14.lt _ (by simp)
          · have := (oL.lt a ha).2; have := h14.size; omega
    · have hkl : k'.toNat = xs.length := by omega
      rw [hkl, List.take_length] at hL
      rw [hkl] at oL hLl
      have hx6 : Ext w w6 := but_ext x6 x5 (by intro d hd; simp at hd; omega)
      have f6 : Fr (fun b => b < w.heap.size ∨ b = b0 ∨ b = b1 ∨ ∃ a, l = some a ∧ a.block = b) w5 w6 := fr_extB x6 (fun d hd => by simp at hd; rcases hd with rfl | rfl <;> simp)
      refine ⟨hx6, l, lc, by rw [hkl]; rfl, fun S hS w'' fw => ?_⟩
      have fall : Fr (fun b => b < w.heap.size ∨ b = b0 ∨ b = b1 ∨ ∃ a, l = some a ∧ a.block = b) w5 w'' := f6.tr (fw.mono fun b hb => .inl (hS b hb))
      have ol6 := (oL.but x6.toBut (fun d hd y hy => hbl d (by simp at hd ⊢; omega) y hy)).fr fw (fun a ha hs => by
        have := hS _ hs
        have := (oL.lt a ha).1
        omega)
      exact isT_row (t := .mk k key val n xs) hL (by show xs.length ≤ lc; have := oL.le; omega) (ol6.recs fun _ _ => rfl) fun x hx => hTL x hx w'' fall

/-! ### States of jobs -/
structure St where
  job : Jb
  what : Int
  host : Int
  since : Int
  again : Int
  tries : Int
structure StR where
  s : St
  pa : Option Addr
  ca : Nat
  pf : Option Addr
  cf : Nat
abbrev encS (r : StR) : List Value := [.string r.s.job.user, .int .i64 r.s.job.prio, .int .i64 r.s.job.nd.c, .int .i64 r.s.job.nd.m, .int .i64 r.s.job.nd.g, .int .i64 r.s.job.ask.k, .string r.s.job.ask.key, .string r.s.job.ask.val, .int .i64 r.s.job.ask.n, .slice r.pa r.s.job.ask.xs.length r.ca, .slice r.pf r.s.job.aft.length r.cf,
  .int .i64 r.s.what, .int .i64 r.s.host, .int .i64 r.s.since, .int .i64 r.s.again, .int .i64 r.s.tries]
abbrev sv (r : StR) : Value := .agg #[.string r.s.job.user, .int .i64 r.s.job.prio, .int .i64 r.s.job.nd.c, .int .i64 r.s.job.nd.m, .int .i64 r.s.job.nd.g, .int .i64 r.s.job.ask.k, .string r.s.job.ask.key, .string r.s.job.ask.val, .int .i64 r.s.job.ask.n, .slice r.pa r.s.job.ask.xs.length r.ca, .slice r.pf r.s.job.aft.length r.cf,
  .int .i64 r.s.what, .int .i64 r.s.host, .int .i64 r.s.since, .int .i64 r.s.again, .int .i64 r.s.tries]
theorem encS_len (r : StR) : (encS r).length = 16 := rfl
theorem encS_one (r : StR) : ∀ u ∈ encS r, u.oneCell' = true := by
  intro u hu
  simp only [List.mem_cons, List.not_mem_nil, or_false] at hu
  rcases hu with rfl | rfl | rfl | rfl | rfl | rfl | rfl | rfl | rfl | rfl | rfl | rfl | rfl | rfl | rfl | rfl <;> rfl

theorem CloneI_k (q : Option Addr) (c : Nat) (D : List Int) (h60 : D.length ≤ 1000) (w : World) (hD : Ints .i64 w q D) :
    FnP Try.prog F_slices_Clone_int_int #[.slice q D.length c] w fun v w' => Ext w w' ∧ ∃ p' c', v = .slice p' D.length c' ∧ Own w.heap.size w' T_int 1 p' D.length c' (D.map (.int .i64)) := by
  refine ok_slices_Clone_int_int q D.length c w _ ⟨fun hn w0 h0 => ?_, fun hn => ?_⟩
  · cases D with
    | nil => exact ⟨h0, none, 0, rfl, Own.nil⟩
    | cons x r => exact absurd hn fun hq => cell_p (Ints.idx hD (i := 0) (by omega) (by simp)) (pIdx_none.2 hq)
  · exact clone_txt (Q := fun v w' => Ext w w' ∧ ∃ p' c', v = .slice p' D.length c' ∧ Own w.heap.size w' T_int 1 p' D.length c' (D.map (.int .i64))) elem_sl_int (by omega) hD (by simp) (by intro u hu; simp at hu; obtain ⟨x, _, rfl⟩ := hu; rfl) (by omega) (by omega) hn fun p' c' w' hx o => ⟨hx, p', c', rfl, o⟩
def SOut (w : World) (s : St) (v : Value) (w' : World) : Prop := Ext w w' ∧ ∃ r : StR, v = sv r ∧ r.s = s ∧ Far w.heap.size w' fun w'' => IsJ w'' s.job r.pa r.ca r.pf
theorem ownS_k (r : StR) (w : World) (hJ : IsJ w r.s.job r.pa r.ca r.pf) (hE : errA r.s.job.ask = 0) (h8 : r.s.job.aft.length ≤ 8) : FnP Try.prog F_farm_own #[sv r] w (SOut w r.s) := by
  refine ok_farm_own r.s.job.user r.s.job.prio r.s.job.nd.c r.s.job.nd.m r.s.job.nd.g r.s.job.ask.k r.s.job.ask.key r.s.job.ask.val r.s.job.ask.n r.pa r.s.job.ask.xs.length r.ca r.pf r.s.job.aft.length r.cf r.s.what r.s.host r.s.since r.s.again r.s.tries w _ fun b0 hb0 b1 hb1 w2 x2 => ?_
  have h2 := extB_ext x2
  refine (CloneI_k r.pf r.cf r.s.job.aft (by omega) w2 (hJ.2.ext h2)).mono fun v w3 ⟨e3, pf, cf, hv, oF⟩ => ⟨e3, pf, _, cf, hv, fun w7 x7 => ?_⟩
  have h7 : Ext w w7 := but_ext x7 (h2.trans e3) (by intro d hd; simp at hd; omega)
  have oF7 := oF.but x7.toBut (fun d hd y hy => by simp at hd; subst hd; have := (oF.lt y hy).1; have := x2.lt d (by simp); omega)
  refine (ownAsk_k r.s.job.ask r.pa r.ca w7 (hJ.1.ext h7 _ _ _) hE).mono fun v w8 ⟨e8, pa, ca, hv, hF⟩ => ⟨e8, _, _, _, _, pa, _, ca, hv, fun w16 x16 => ?_⟩
  have h16 : Ext w w16 := but_ext x16 (h7.trans e8) (by intro d hd; simp at hd; omega)
  refine ⟨h16, ⟨r.s, pa, ca, pf, cf⟩, rfl, rfl, fun S hS w'' fw => ?_⟩
  have f816 : Fr (fun b => b = b0 ∨ b = b1) w8 w16 := fr_extB x16 (fun d hd => by simp at hd; rcases hd with rfl | rfl <;> simp)
  have fall : Fr (fun b => b < w.heap.size ∨ b = b0 ∨ b = b1) w8 w'' := (f816.mono fun b hb => .inr hb).tr (fw.mono fun b hb => .inl (hS b hb))
  have hb0' : b0 < w2.heap.size := x2.lt b0 (by simp)
  have hb1' : b1 < w2.heap.size := x2.lt b1 (by simp)
  have h27 : w2.heap.size ≤ w7.heap.size := Nat.le_trans e3.size x7.size
  refine ⟨hF _ (fun b hb => ?_) w'' fall, ?_⟩
  · rcases hb with h | rfl | rfl
    · have := h2.size; omega
    · omega
    · omega
  · exact ((oF7.ext e8).fr fall (fun a ha hs => by
      have := (oF.lt a ha).1
      have := h2.size
      omega)).cells

/-! ### Hosts -/
theorem ownH_k (p : Option Addr) (c : Nat) (L : List Ht) (h30 : L.length ≤ 30) (h8 : ∀ h ∈ L, h.labels.length ≤ 8) (w : World) (hL : HsAt w p L) :
    FnP Try.prog F_farm_ownHosts #[.slice p L.length c] w fun v w' => Ext w w' ∧ ∃ p' c', ∃ M : List Hm, v = .slice p' L.length c' ∧ M.map (·.h) = L ∧ Own w.heap.size w' T_Host 8 p' L.length c' (M.flatMap encM) ∧ (∀ m ∈ M, LbA w' p' m) ∧ ∀ m ∈ M, LbN w.heap.size m := by
  refine ok_farm_ownHosts p L.length c w _ fun w0 h0 => ?_
  obtain ⟨M0, hM0, hR0, hl0⟩ := hs_ms (hL.ext h0)
  have hlen0 : M0.length = L.length := by rw [← hM0]; simp
  rw [← hlen0]
  refine (CloneH_k p c M0 (by omega) w0 hR0).mono fun v w1 ⟨e1, p', c', hv, o1⟩ => ⟨e1, p', M0.length, c', hv, ?_⟩
  have lt0 : ∀ m ∈ M0, LbA w1 p' m := fun m hm => ⟨(hl0 m hm).ext e1, by
    cases hlb : m.h.labels with
    | nil => exact .inl rfl
    | cons x r =>
      refine .inr fun a b ha hb => ?_
      have := (hl0 m hm).lt (x := x) (by rw [hlb]; exact List.mem_cons_self ..) (by simp) a ha
      have := (o1.lt b hb).1
      omega⟩
  refine ⟨fun k w' => Ext w w' ∧ 0 ≤ k ∧ k ≤ M0.length ∧ ∃ M : List Hm, M.map (·.h) = L ∧ Own w0.heap.size w' T_Host 8 p' M0.length c' (M.flatMap encM) ∧ (∀ m ∈ M, LbA w' p' m) ∧ ∀ j, j < k.toNat → ∀ m, M[j]? = some m → LbN w.heap.size m, fun k _ => (M0.length - k).toNat, ⟨h0.trans e1, by omega, by omega, M0, hM0, o1, lt0, fun j hj => by simp at hj⟩, ?_⟩
  rintro k w7 ⟨x7, hk0, hk1, M, hM, o7, hA7, hN7⟩
  have hlen : M.length = M0.length := by rw [hlen0, ← hM]; simp
  refine ⟨fun hlt => ?_, fun hge w8 h8 => ⟨x7.trans h8, p', c', M, rfl, hM, (o7.ext h8).weak h0.size, fun m hm => ⟨(hA7 m hm).1.ext h8, (hA7 m hm).2⟩, fun m hm => by
    obtain ⟨j, hj⟩ := List.mem_iff_getElem?.1 hm
    have hjl := (List.getElem?_eq_some_iff.1 hj).1
    exact hN7 j (by omega) m hj⟩⟩
  have r7 : Recs 8 encM w7 p' M := o7.recs fun _ _ => rfl
  have g := r7.idx default hk0 (by omega) (j := 1) rfl
  have hp' := o7.ne1 (by omega) (by omega)
  have hm := getD_mem M default (i := k.toNat) (by omega)
  generalize hmd : M.getD k.toNat default = m at g hm
  have hml : m.h ∈ L := by rw [← hM]; exact List.mem_map_of_mem hm
  refine ⟨hp', hk0, hlt, fun hq => hp' (pIdx_none.1 hq), m.q, m.h.labels.length, m.d, by rw [cell_pAdd]; exact g, fun w11 h11 => ?_⟩
  refine (CloneL_k m.q m.d m.h.labels (h8 _ hml) w11 ((hA7 m hm).1.ext h11)).mono fun v w12 ⟨e12, q', d', hv, hl', hn'⟩ => ⟨e12, q', _, d', hv, hp', hk0, hlt, fun hq => hp' (pIdx_none.1 hq), ?_⟩
  have x12 := h11.trans e12
  have o12 := o7.ext x12
  refine store_own o12 pAdd_map (by rw [recs_len encM_len]; simp; omega) (by simp) (by intro v hv; simp at hv; subst hv; rfl) (by simp) fun w16 o16 g16 => ?_
  rw [recs_part encM_len M k.toNat 1 [.slice q' m.h.labels.length d'] ⟨m.h, q', d'⟩ default (by omega) (by simp) (by rw [hmd]; rfl)] at o16
  have hmap : (M.set k.toNat ⟨m.h, q', d'⟩).map (·.h) = L := by
    rw [List.map_set, hM]
    have hk : k.toNat < L.length := by omega
    have : L[k.toNat] = m.h := by
      have h1 : (M.map (·.h)).getD k.toNat default = m.h := by
        rw [← hmd, List.getD_eq_getElem?_getD, List.getD_eq_getElem?_getD, List.getElem?_map, List.getElem?_eq_getElem (by omega : k.toNat < M.length)]; rfl
      rw [hM] at h1
      simpa [List.getD_eq_getElem?_getD, hk] using h1
    rw [← this, List.set_getElem_self]
  refine ⟨i64 (by omega), ⟨?_, by omega, by omega, _, hmap, o16, fun m' hm' => ?_, fun j hj m' hm' => ?_⟩, by simp only []; omega⟩
  · exact g16.ext (x7.trans x12) (o12.weak (by have := h0.size; omega))
  · rcases List.mem_or_eq_of_mem_set hm' with hm' | rfl
    · exact ⟨lbs_grew ((hA7 m' hm').1.ext x12) (hA7 m' hm').2 g16, (hA7 m' hm').2⟩
    · have ha : Apart q' p' := fun a b ha hb => by
        have := hn' a ha
        have := (o7.lt b hb).2
        have := h11.size
        omega
      exact ⟨lbs_grew hl' (.inr ha) g16, .inr ha⟩
  · by_cases hjk : j = k.toNat
    · subst hjk
      rw [List.getElem?_set_self (by omega)] at hm'
      obtain rfl := Option.some.inj hm'
      exact .inr fun a ha => (by have := hn' a ha; have := x7.size; have := h11.size; omega)
    · rw [List.getElem?_set_ne (by omega)] at hm'
      exact hN7 j (by omega) m' hm'

end Go.Proofs.Ytblafknmfblgfaa
