/- Asks are read as they were told. -/
import Derived.Test.YtenppnomdejmlaaGreatDoorAbC
set_option linter.unusedVariables false
set_option linter.unusedSimpArgs false
namespace Go.Proofs.YtenppnomdejmlaaGreatDoor
open Go.Sx Go.RowKit

theorem sameA_k : ∀ (t : AT) (p : Option Addr) (c : Nat) (q : Option Addr) (d : Nat) (w : World), IsT w t p c → IsT w t q d → WfA t →
    FnP Tryz.prog F_shiftbellkeep_sameAsk #[av t p c, av t q d] w fun v w' => Ext w w' ∧ v = .bool true := by
  intro t
  induction t using AT.ind with
  | h k key val n xs ih =>
    intro p c q d w hp hq hW
    have h63 : xs.length ≤ 9223372036854775807 := hW.len
    refine ok_shiftbellkeep_sameAsk k key val n p xs.length c k key val n q xs.length d w _ fun b0 _ b1 _ => ⟨fun _ w2 h2 => ?_, fun h => ?_⟩
    · refine FnP.mono (K := fun v w' => Ext w2 w' ∧ v = .bool true) ?_ fun v w3 ⟨e3, hv⟩ => ⟨e3, _, hv, fun w5 h5 => ⟨h5, rfl⟩⟩
      refine ok_slices_EqualFunc_api_Ask_api_Ask_api_Ask_api_Ask p xs.length c q xs.length d _ w2 _ ⟨fun h => absurd rfl h, fun _ => ?_⟩
      refine ⟨fun k w' => w' = w2 ∧ 0 ≤ k ∧ k ≤ xs.length, fun k _ => (xs.length - k).toNat, ⟨rfl, by omega, by omega⟩, ?_⟩
      rintro j w2' ⟨rfl, hj0, hj1⟩
      refine ⟨fun hlt => ?_, fun _ w3 h3 => ⟨h3, rfl⟩⟩
      have hp2 := hp.ext h2 _ _ _
      have hq2 := hq.ext h2 _ _ _
      obtain ⟨x, p', c', hx, hmem, hIx, a1, a2, g0, g1, g2, g3, g4⟩ := hp2.at hj0 (by exact hlt)
      obtain ⟨y, q', d', hy, _, hIy, b1, b2, f0, f1, f2, f3, f4⟩ := hq2.at hj0 (by exact hlt)
      obtain rfl : x = y := Option.some.inj (hx.symm.trans hy)
      refine ⟨a1, hj0, hlt, a2, _, g0, _, g1, _, g2, _, g3, _, _, _, g4, fun b10 _ => ⟨b1, hj0, hlt, b2, _, f0, _, f1, _, f2, _, f3, _, _, _, f4, fun b18 _ w19 h19 => ?_⟩⟩
      exact ⟨F_shiftbellkeep_sameAsk, #[], rfl, (ih x hmem p' c' q' d' w19 (hIx.ext h19 _ _ _) (hIy.ext h19 _ _ _) (hW.sub x hmem)).mono fun v w20 ⟨e20, hv⟩ => ⟨e20, _, hv, fun h => by (cases h), fun _ => ⟨i64 (by omega), ⟨rfl, by omega, by omega⟩, by simp only []; omega⟩⟩⟩
    · rcases h with ((h | h) | h) | h <;> exact absurd rfl h


mutual
theorem cnt_nod : ∀ t : AT, nod t ≤ 1048576 → cntA t = nod t
  | .mk k key val n xs, h => by
    unfold cntA nod
    unfold nod at h
    rw [cntL_nod xs 1 (by omega)]
    omega
theorem cntL_nod : ∀ (xs : List AT) (a : Int), 0 ≤ a ∧ a + nodL xs ≤ 1048576 → cntL xs a = a + nodL xs
  | [], a, _ => by unfold cntL nodL; simp
  | x :: r, a, h => by
    unfold cntL nodL
    unfold nodL at h
    have hx := cnt_nod x (by omega)
    rw [hx, wrap64 (by omega), cntL_nod r (a + nod x) (by omega)]
    omega
end
theorem errC_ok {t : AT} : errC t = 0 ↔ cntA t ≤ 60 ∧ errA t = 0 := by
  unfold errC
  constructor
  · intro h
    split at h
    · cases h
    · exact ⟨by omega, h⟩
  · rintro ⟨h1, h2⟩
    rw [if_neg (by omega), h2]
theorem lb_asc {s : ByteArray} (h : lbB s = true) : asc s.data.toList := fun x hx => by
  unfold lbB at h
  simp only [Bool.and_eq_true] at h
  have := List.all_eq_true.1 h.2 (x.toNat : Int) (List.mem_map.2 ⟨x, hx, rfl⟩)
  unfold okC at this
  simp only [Bool.or_eq_true, Bool.and_eq_true, decide_eq_true_eq] at this
  omega
theorem un_asc {s : ByteArray} (h : unB s = true) : asc s.data.toList := by
  unfold unB at h
  simp only [Bool.or_eq_true, decide_eq_true_eq] at h
  rcases h with (h | h) | h <;> (subst h; unfold asc; decide)
theorem itoa_asc {n : Int} (h : 0 ≤ n) : asc (Lib.itoa n) := fun x hx => by
  rcases Nat.lt_or_ge 57 x.toNat with h1 | h1
  · exact absurd hx (itoa_no2 h h1)
  · omega
theorem asc_app {a b : List UInt8} (ha : asc a) (hb : asc b) : asc (a ++ b) := fun x hx => (List.mem_append.1 hx).elim (ha x) (hb x)
theorem asc_put {a : UInt8} {b : List UInt8} (ha : a.toNat < 128) (hb : asc b) : asc (a :: b) := fun x hx => (List.mem_cons.1 hx).elim (fun h => h ▸ ha) (hb x)
theorem txt_asc : ∀ t : AT, errA t = 0 → asc (txt t) := by
  intro t
  induction t using AT.ind with
  | h k key val n xs ih =>
    intro he
    rcases txt_inv he with ⟨key, h, hkey, ht⟩ | ⟨key, val, h, hkey, hval, ht⟩ | ⟨key, m, h, hkey, hm, _, ht⟩ | ⟨x, h, hx, ht, hnx⟩ | ⟨k, x, y', hk', h, hx, hy, ht, hnx⟩
    · rw [ht]; exact asc_put (by decide) (lb_asc hkey)
    · rw [ht]; exact asc_app (lb_asc hkey) (asc_put (by decide) (lb_asc hval))
    · rw [ht]; exact asc_app (un_asc hkey) (asc_put (by decide) (asc_put (by decide) (itoa_asc hm)))
    · injection h with _ _ _ _ h5
      rw [ht]; exact asc_put (by decide) (ih x (by rw [h5]; simp) hx)
    · injection h with _ _ _ _ h5
      rw [ht]
      refine asc_put (by decide) (asc_app (ih x (by rw [h5]; simp) hx) (asc_put (by split <;> decide) (asc_app (ih y' (by rw [h5]; simp) hy) (asc_put (by decide) (fun z hz => by cases hz)))))

theorem Text_k (t : AT) (p : Option Addr) (c : Nat) (w : World) (hT : IsT w t p c) (hW : WfA t) (hn : nod t ≤ 1048576) (g : GP w) : FnP Tryz.prog F_ask_Text #[av t p c] w fun v w' => Ext w w' ∧ ((errC t ≠ 0 ∧ v = .tuple #[.string emS, .int .i64 (errC t)]) ∨ (errC t = 0 ∧ v = .tuple #[.string (ofL (txt t)), .int .i64 0])) := by
  refine ok_ask_Text t.k t.key t.val t.n p t.xs.length c w _ fun b0 _ w1 h1 => (Check_k t p c w1 (hT.ext h1) hW).mono fun v w2 ⟨e2, hv⟩ => ⟨e2, _, hv, fun hne w4 h4 => ⟨h4, .inl ⟨hne, rfl⟩⟩, fun he w4 h4 => ?_⟩
  exact (text_k t p c w4 (hT.ext h4) (errC_ok.1 he).2 (by omega) (g.ext h4)).mono fun v w5 ⟨e5, hv⟩ => ⟨e5, _, hv, fun w7 h7 => ⟨h7, .inr ⟨he, rfl⟩⟩⟩

theorem zero_isT (w : World) : IsT w zeroA none 0 := isT_leaf
theorem zero_wf : WfA zeroA := by
  unfold WfA
  exact ⟨i64 (by omega), by decide, by decide, i64 (by omega), by simp, by unfold WfL; trivial⟩

theorem Read_kS (s : ByteArray) (w : World) (g : GB w) : FnP Tryz.prog F_ask_Read #[.string s] w fun v w' => Ext w w' ∧ ∃ t p c e, v = .tuple #[av t p c, .int .i64 e] ∧ WfA t ∧ (∀ S : Nat → Prop, (∀ b, S b → b < w.heap.size) → ∀ w'', Fr S w' w'' → IsT w'' t p c) ∧
    ((e ≠ 0 ∧ t = zeroA ∧ p = none ∧ c = 0) ∨ (e = 0 ∧ errC t = 0 ∧ nod t ≤ 60 ∧ s = ofL (txt t) ∧ s.size ≤ 2000)) ∧ (∀ t0, errC t0 = 0 → nod t0 ≤ 1048576 → s = ofL (txt t0) → s.size ≤ 2000 → e = 0 ∧ t = t0) := by
  refine ok_ask_Read s w _ fun b0 hb0 => ⟨fun hbig w1 h1 => ?_, fun hsm w1 x1 => ?_⟩
  · exact ⟨h1, zeroA, none, 0, 2, rfl, zero_wf, fun _ _ _ _ => zero_isT _, .inl ⟨by decide, rfl, rfl, rfl⟩, fun t0 _ _ _ h => by omega⟩
  have h1 := extB_ext x1
  refine new_own (by intro v hv; simp at hv; rcases hv with rfl | rfl <;> rfl) fun w2 o2 e2 w3 x3 => ?_
  have h3 := extB_ext x3
  have hw3 : Ext w w3 := (h1.trans e2).trans h3
  have o3 : RD w1.heap.size w3 w1.heap.size s.data.toList 60 := by
    have := Own.ext (o2 w1.heap.size (Nat.le_refl _)) h3
    simpa [RD, ofL_of] using this
  have hb1 : b0 < w1.heap.size := x1.lt b0 (by simp)
  have s13 : w1.heap.size ≤ w3.heap.size := Nat.le_trans e2.size h3.size
  refine (ask_k 60 w w3 w1.heap.size w1.heap.size 60 s.data.toList (by omega) g hw3 h1.size o3 (by rw [bs_len]; omega)).mono fun v w4 ⟨t, p, c, ok, hv, l', left', P, C⟩ => ⟨kept_of P.fr (by intro b hb; simp at hb; subst hb; exact ⟨by omega, by omega⟩), t.k, t.key, t.val, t.n, p, t.xs.length, c, ok, hv, fun b13 hb13 => ⟨fun hno w14 x14 => ?_, fun hok w14 h14 => ?_⟩⟩
  · have hw4 : Ext w w4 := P.fr.ext hw3 (by intro b hb; have := h1.size; omega)
    refine ⟨but_ext x14 hw4 (by intro d hd; simp at hd; omega), zeroA, none, 0, 3, rfl, zero_wf, fun _ _ _ _ => zero_isT _, .inl ⟨by decide, rfl, rfl, rfl⟩, fun t0 he hn hs _ => ?_⟩
    obtain ⟨h5, h6⟩ := errC_ok.1 he
    rw [cnt_nod t0 hn] at h5
    have := C t0 [] h6 (by omega) (by rw [hs, ofL_list, List.append_nil]) (.inl rfl) (by rw [hs, ofL_list]; exact txt_asc t0 h6)
    rw [hno] at this
    exact absurd this.1 (by simp)
  · have hw4 : Ext w w4 := P.fr.ext hw3 (by intro b hb; have := h1.size; omega)
    obtain ⟨hWt, hnt, hTt⟩ := P.good hok
    have hT14 : IsT w14 t p c := hTt (fun _ => False) (fun _ h => h.elim) w14 (fr_ext h14)
    have hcomp : ∀ t0, errC t0 = 0 → nod t0 ≤ 1048576 → s = ofL (txt t0) → t = t0 := fun t0 he hn hs => by
      obtain ⟨h5, h6⟩ := errC_ok.1 he
      rw [cnt_nod t0 hn] at h5
      exact (C t0 [] h6 (by omega) (by rw [hs, ofL_list, List.append_nil]) (.inl rfl) (by rw [hs, ofL_list]; exact txt_asc t0 h6)).2.1
    have hgp : GP w14 := ⟨(g.ext (hw4.trans h14)).pow⟩
    refine (Text_k t p c w14 hT14 hWt (by omega) hgp).mono fun v w15 ⟨e15, hor⟩ => ?_
    have fin : ∀ w18, ExtB [b0] [] w4 w18 → Ext w w18 ∧ ∀ S : Nat → Prop, (∀ b, S b → b < w.heap.size) → ∀ w'', Fr S w18 w'' → IsT w'' t p c := fun w18 x18 => ⟨but_ext x18 hw4 (by intro d hd; simp at hd; omega), fun S hS w'' fw => hTt (fun b => S b ∨ b = b0) (fun b hb => by have s1 := hw3.size; rcases hb with hb | hb; (· have := hS b hb; omega); omega) w'' ((fr_extB x18 (by intro d hd; simp at hd; exact .inl (.inr hd))).tr (fw.mono fun b hb => .inl hb))⟩
    rcases hor with ⟨hne, hv⟩ | ⟨he0, hv⟩
    · refine ⟨e15, _, _, hv, fun _ w18 x18 => ⟨(fin w18 x18).1, zeroA, none, 0, 3, rfl, zero_wf, fun _ _ _ _ => zero_isT _, .inl ⟨by decide, rfl, rfl, rfl⟩, fun t0 he hn hs _ => ?_⟩, fun h => absurd h.1 hne⟩
      have := hcomp t0 he hn hs
      subst this
      exact absurd he hne
    · refine ⟨e15, _, _, hv, fun hbad w18 x18 => ⟨(fin w18 x18).1, zeroA, none, 0, 3, rfl, zero_wf, fun _ _ _ _ => zero_isT _, .inl ⟨by decide, rfl, rfl, rfl⟩, fun t0 he hn hs _ => ?_⟩, fun hgd w18 x18 => ⟨(fin w18 x18).1, t, p, c, 0, rfl, hWt, (fin w18 x18).2, .inr ⟨rfl, he0, by omega, hgd.2.symm, by omega⟩, fun t0 he hn hs _ => ⟨rfl, hcomp t0 he hn hs⟩⟩⟩
      have := hcomp t0 he hn hs
      subst this
      exact hbad.elim (fun h => absurd rfl h) fun h => absurd hs.symm h

theorem Read_k (s : ByteArray) (w : World) (g : GB w) : FnP Tryz.prog F_ask_Read #[.string s] w fun v w' => Ext w w' ∧ ∃ t p c e, v = .tuple #[av t p c, .int .i64 e] ∧ WfA t ∧ IsT w' t p c ∧
    ((e ≠ 0 ∧ t = zeroA ∧ p = none ∧ c = 0) ∨ (e = 0 ∧ errC t = 0 ∧ nod t ≤ 60 ∧ s = ofL (txt t) ∧ s.size ≤ 2000)) ∧ (∀ t0, errC t0 = 0 → nod t0 ≤ 1048576 → s = ofL (txt t0) → s.size ≤ 2000 → e = 0 ∧ t = t0) :=
  (Read_kS s w g).mono fun v w' ⟨e1, t, p, c, e, hv, hW, hT, h⟩ => ⟨e1, t, p, c, e, hv, hW, hT (fun _ => False) (fun _ h => h.elim) w' (Fr.refl _ _), h⟩

end Go.Proofs.YtenppnomdejmlaaGreatDoor
