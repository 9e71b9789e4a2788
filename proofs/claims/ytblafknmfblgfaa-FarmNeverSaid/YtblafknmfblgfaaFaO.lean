/- FarmNever. -/
import Derived.Test.YtblafknmfblgfaaFaN
set_option linter.unusedVariables false
set_option linter.unusedSimpArgs false
namespace Go.Proofs.Ytblafknmfblgfaa
open Go.Sx Go.RowKit

def sumNd : List Nd → Nd
  | [] => zeroN
  | x :: l => addN x (sumNd l)
def accN (L : List Nd) (k : Nat) : Nd := (L.take k).foldl addN zeroN
theorem accN_succ {L : List Nd} {k : Nat} (h : k < L.length) : accN L (k + 1) = addN (accN L k) (L.getD k default) := by
  unfold accN
  rw [List.take_add_one, List.foldl_append, getElem?_getD L default h]; rfl
theorem foldl_ge {L : List Nd} : ∀ {s : Nd}, (∀ x ∈ L, okN x) → fitN s (L.foldl addN s) := by
  induction L with
  | nil => intro s _; exact ⟨Int.le_refl _, Int.le_refl _, Int.le_refl _⟩
  | cons x L ih =>
    intro s h
    obtain ⟨h1, h2, h3⟩ := ih (s := addN s x) fun y hy => h y (List.mem_cons_of_mem _ hy)
    obtain ⟨g1, g2, g3⟩ := h x (List.mem_cons_self ..)
    simp only [addN] at h1 h2 h3
    simp only [List.foldl_cons]
    exact ⟨by simp only [addN]; omega, by simp only [addN]; omega, by simp only [addN]; omega⟩

theorem nSum_k (p : Option Addr) (c : Nat) (L : List Nd) (h63 : L.length ≤ 1000) (w : World) (h : NdsAt w p L) : FnP Try.prog F_need_Sum #[.slice p L.length c] w fun v w' => Ext w w' ∧ ∃ s e, v = .tuple #[nv s, .int .i64 e] ∧
    ((∀ x ∈ L, okN x) → okN (L.foldl addN zeroN) → e = 0 ∧ s = L.foldl addN zeroN) := by
  refine ok_need_Sum p L.length c w _ fun b0 hb0 w1 h1 => ?_
  refine (nchecks_k p c L (by omega) w1 (h.ext h1)).mono fun v w2 ⟨e2, hv⟩ => ⟨e2, _, hv, fun hne w4 h4 => ⟨h4, zeroN, _, rfl, fun ho => absurd (errNs_ok.2 ho) hne⟩, fun he b4 hb4 => ?_⟩
  have hall := errNs_ok.1 he
  have base : okN zeroN := ⟨by simp [zeroN], by simp [zeroN], by simp [zeroN]⟩
  refine ⟨fun k c1 c2 c3 w' => w' = w ∧ 0 ≤ k ∧ k ≤ L.length ∧ (⟨c1, c2, c3⟩ : Nd) = accN L k.toNat ∧ okN ⟨c1, c2, c3⟩, fun k _ _ _ _ => (L.length - k).toNat, ⟨rfl, by omega, by omega, rfl, base⟩, ?_⟩
  rintro k c1 c2 c3 w ⟨rfl, hk0, hk1, hacc, hok⟩
  refine ⟨fun hlt => ?_, fun hge w11 x11 => ⟨but_ext x11 (Ext.refl _) (by intro d hd; simp at hd; omega), ⟨c1, c2, c3⟩, _, rfl, fun _ _ => ⟨rfl, ?_⟩⟩⟩
  · have g0 := h.idx default hk0 hlt (j := 0) rfl
    have g1 := h.idx default hk0 hlt (j := 1) rfl
    have g2 := h.idx default hk0 hlt (j := 2) rfl
    have hfree : Free [b4] (pIdx p k 3) := fun b hb a ha => by
      simp at hb; subst hb
      obtain ⟨a', ha', hlt', _⟩ := cell_some g0
      rw [ha] at ha'; obtain rfl := Option.some.inj ha'
      omega
    have hxk := hall _ (getD_mem L default (i := k.toNat) (by omega))
    refine ⟨fun hq => cell_p g0 (pIdx_none.2 hq), hk0, hlt, cell_p g0, _, ⟨g0, hfree⟩, _, ⟨g1, hfree⟩, _, ⟨g2, hfree⟩, fun b14 _ w15 x15 => ?_⟩
    refine (nAdd_k ⟨c1, c2, c3⟩ (L.getD k.toNat default) w15).mono fun v w16 ⟨e16, s, e, hv, hc⟩ => ⟨e16, s.c, s.m, s.g, e, hv, fun hne w21 x21 => ⟨but_ext x21 (Ext.refl _) (by intro d hd; simp at hd; omega), zeroN, _, rfl, fun ho hsum => ?_⟩, fun he => ⟨i64 (by omega), ⟨rfl, by omega, by omega, ?_, ?_⟩, by simp only []; omega⟩⟩
    · exfalso
      have hle : fitN (addN ⟨c1, c2, c3⟩ (L.getD k.toNat default)) (L.foldl addN zeroN) := by
        have h1 : L = L.take (k.toNat + 1) ++ L.drop (k.toNat + 1) := (List.take_append_drop _ _).symm
        rw [h1, List.foldl_append]
        have h2 : (L.take (k.toNat + 1)).foldl addN zeroN = addN ⟨c1, c2, c3⟩ (L.getD k.toNat default) := by
          rw [hacc]; exact accN_succ (by omega)
        rw [h2]
        rw [← h1]
        exact foldl_ge fun x hx => ho x (List.mem_of_mem_drop hx)
      obtain ⟨l1, l2, l3⟩ := hle
      obtain ⟨s1, s2, s3⟩ := hsum
      obtain ⟨o1, o2, o3⟩ := hok
      obtain ⟨q1, q2, q3⟩ := hxk
      rcases hc with ⟨_, _, _, rfl, _⟩ | ⟨hn, _⟩ | ⟨_, _, hn, _⟩
      · exact hne rfl
      · exact hn ⟨⟨o1, o2, o3⟩, ⟨q1, q2, q3⟩⟩
      · refine hn ⟨?_, ?_, ?_⟩ <;> simp only [addN] at * <;> omega
    · rcases hc with ⟨_, _, hs, _, rfl⟩ | ⟨_, rfl, _⟩ | ⟨_, _, _, rfl, _⟩
      · rw [show (k + 1).toNat = k.toNat + 1 by omega, accN_succ (by omega), ← hacc]
      · omega
      · omega
    · rcases hc with ⟨_, _, hs, _, rfl⟩ | ⟨_, rfl, _⟩ | ⟨_, _, _, rfl, _⟩
      · exact hs
      · omega
      · omega
  · show (⟨c1, c2, c3⟩ : Nd) = _
    rw [hacc]; unfold accN; rw [List.take_of_length_le (by omega)]

/-- The needs of the jobs that run at a host. -/
def coll (F : Fm) (i : Int) : Nat → List Nd
  | 0 => []
  | n + 1 => if (jobAt F n).what = 2 ∧ (jobAt F n).host = i then coll F i n ++ [(jobAt F n).job.nd] else coll F i n
theorem coll_len (F : Fm) (i : Int) : ∀ n, (coll F i n).length ≤ n
  | 0 => by simp [coll]
  | n + 1 => by
    have := coll_len F i n
    unfold coll
    split
    · rw [List.length_append]; simp; omega
    · omega
theorem coll_ok {F : Fm} (I : Inv F) (i : Int) : ∀ n, n ≤ F.jobs.length → ∀ x ∈ coll F i n, okN x
  | 0, _ => by simp [coll]
  | n + 1, h => by
    have ih := coll_ok I i n (by omega)
    unfold coll
    split
    · intro x hx
      rcases List.mem_append.1 hx with hx | hx
      · exact ih x hx
      · simp at hx; subst hx; exact I.i0.nd n (by omega)
    · exact ih
theorem coll_use (F : Fm) (i : Int) (p : Nat) : ∀ n, ndAt ((coll F i n).foldl addN zeroN) p = use F i p n
  | 0 => by unfold coll use; simp only [List.foldl_nil]; unfold ndAt zeroN; split <;> rfl
  | n + 1 => by
    have ih := coll_use F i p n
    unfold coll use termS
    split
    · rw [List.foldl_append]
      simp only [List.foldl_cons, List.foldl_nil]
      rw [ndAt_add, ih]
    · rw [ih]; omega
theorem coll_no {F : Fm} {i k : Int} (h : ¬ ((jobAt F k.toNat).what = 2 ∧ (jobAt F k.toNat).host = i)) (h0 : 0 ≤ k) : coll F i (k + 1).toNat = coll F i k.toNat := by
  rw [show (k + 1).toNat = k.toNat + 1 by omega]
  conv => lhs; unfold coll
  rw [if_neg h]
theorem nev_sum {F : Fm} (I : Inv F) {i : Nat} (hi : i < F.hosts.length) : (coll F i F.jobs.length).foldl addN zeroN = (F.hosts.getD i default).used :=
  ndAt_ext fun p hp => by rw [coll_use, I.i0.use i hi p hp]

theorem core_FarmNever (W : World) : ∀ x_0 : Option Addr, ∀ x_0l : Nat, ∀ x_0c : Nat, SlcArg Try.prog W T_Host x_0 x_0l x_0c → ∀ x_1 : Int, InR .i64 x_1 → ∀ x_2 : Int, InR .i64 x_2 → ∀ x_3 : Int, InR .i64 x_3 → ∀ x_4 : Int, InR .i64 x_4 → ∀ l : Option Addr, ∀ ll : Nat, ∀ lc : Nat, SlcArg Try.prog W T_Event l ll lc →
    FnP Try.prog F_shiftbellkeep_FarmNever #[(.agg #[(.slice x_0 x_0l x_0c), (.int .i64 x_1), (.int .i64 x_2), (.int .i64 x_3), (.int .i64 x_4)]), (.slice l ll lc)] W fun v W' => v = .bool true ∧ Ext W W' := by
  intro p hln c hl x1 _ x2 _ x3 _ x4 _ q el d hq
  obtain ⟨okn, Pl, hPl, _, hplay⟩ := played_args hl x1 x2 x3 x4 hq
  refine ok_shiftbellkeep_FarmNever p hln c x1 x2 x3 x4 q el d W _ fun b0 hb0 w1 h1 => (farms_k w1).mono fun v w2 ⟨e2, hv⟩ => ⟨e2, true, hv, fun h => (by cases h), fun _ w4 x4' => ?_⟩
  have h4 := extB_ext x4'
  have lt4 := x4'.lt b0 (by simp)
  refine (hplay w4 h4).mono fun v w5 ⟨e5, f, hv, hnone, hsome⟩ => ⟨e5, f, hv, fun _ w7 h7 => ⟨rfl, (h4.trans e5).trans h7⟩, fun hgood w7 x7 => ?_⟩
  have hok : okn := by
    by_cases h : okn
    · exact h
    · exact absurd (hnone.2 h) hgood.1
  obtain ⟨B, fb, P, F, rfl, hB, hB', x5, hF⟩ := hsome hok
  obtain ⟨_, hhl, I⟩ := hPl F hF
  have h7 := extB_ext x7
  have hl0 := x5.jO.1
  have h30 := I.i0.hs.1
  refine (Hosts_k (x5.ext h7) I.i0.hs).mono fun v w8 ⟨e8, ph, ch, hv, hch, hS⟩ => ⟨e8, ph, _, ch, hv, ?_⟩
  have hW8 := ((h4.trans e5).trans h7).trans e8
  have h48 := (e5.trans h7).trans e8
  refine ⟨fun i w' => Ext w8 w' ∧ 0 ≤ i ∧ i ≤ F.hosts.length, fun i _ => (F.hosts.length - i).toNat, ⟨Ext.refl _, by omega, by omega⟩, ?_⟩
  rintro i w14 ⟨h14, hi0, hi1⟩
  refine ⟨fun hlt => ?_, fun hge w15 h15 => ?_⟩
  · have hS14 := hS.ext h14
    obtain ⟨lq, ld, n1, n2, g, _⟩ := hS14.at.at hi0 hlt
    refine ⟨n1, hi0, hlt, n2, _, g 0 _ rfl, _, _, _, g 1 _ rfl, _, g 2 _ rfl, _, g 3 _ rfl, _, g 4 _ rfl, _, g 5 _ rfl, _, g 6 _ rfl, _, g 7 _ rfl, fun b25 hb25 w26 x26 => ?_⟩
    have h26 := extB_ext x26
    have hmax : ∀ b ∈ [b0, b25], b < w26.heap.size := x26.lt
    refine (Jobs_k (x5.ext (((h7.trans e8).trans h14).trans h26))).mono fun v w27 ⟨e27, pj, cj, R, hv, hR, J⟩ => ⟨e27, pj, _, cj, hv, ?_⟩
    have hRl := row_len hR
    refine ⟨fun all alll allc k w' => Ext w27 w' ∧ 0 ≤ k ∧ k ≤ R.length ∧ alll = (coll F i k.toNat).length ∧ Own w27.heap.size w' T_Need 3 all alll allc ((coll F i k.toNat).flatMap encN), fun _ _ _ k _ => (R.length - k).toNat, ⟨Ext.refl _, by omega, by omega, rfl, Own.nil⟩, ?_⟩
    rintro all alll allc k w34 ⟨h34, hk0, hk1, rfl, o34⟩
    have hcl := coll_len F i k.toNat
    refine ⟨fun hkl => ?_, fun hge w35 h35 => ?_⟩
    · obtain ⟨r, hr, m1, m2, g', hJ⟩ := (J.ext h34).st hk0 hkl
      obtain ⟨hkj, hja⟩ := row_at hR hr
      refine ⟨m1, hk0, hkl, m2, _, g' 0 _ rfl, _, g' 1 _ rfl, _, g' 2 _ rfl, _, g' 3 _ rfl, _, g' 4 _ rfl, _, g' 5 _ rfl, _, g' 6 _ rfl, _, g' 7 _ rfl, _, g' 8 _ rfl, _, _, _, g' 9 _ rfl, _, _, _, g' 10 _ rfl, _, g' 11 _ rfl, _, g' 12 _ rfl, _, g' 13 _ rfl, _, g' 14 _ rfl, _, g' 15 _ rfl, fun b55 hb55 => ⟨fun hrun => ?_, fun hno => ⟨i64 (by omega), ⟨h34, by omega, by omega, ?_, ?_⟩, by simp only []; omega⟩⟩⟩
      · have hc : coll F i (k + 1).toNat = coll F i k.toNat ++ [r.s.job.nd] := by
          rw [show (k + 1).toNat = k.toNat + 1 by omega]
          conv => lhs; unfold coll
          rw [if_pos (by rw [hja]; exact hrun), hja]
        have hns : ∀ b ∈ [b0, b25, b55], ∀ y, all = some y → y.block ≠ b := fun b hb y hy => by
          have l1 := o34.lt y hy
          have l0 := hmax b0 (by simp)
          have l25 := hmax b25 (by simp)
          have := e27.size
          simp at hb
          rcases hb with rfl | rfl | rfl <;> omega
        refine push_B (v := nv r.s.job.nd) elem_sl_Need (by omega) o34 h34.size hns rfl (by intro u hu; simp [Value.cells] at hu; rcases hu with rfl | rfl | rfl <;> rfl) (by omega) (by omega) (by omega) fun p' c' w62 o62 g62 _ _ => ⟨i64 (by omega), ⟨g62.ext h34 o34, by omega, by omega, by rw [hc, List.length_append]; rfl, ?_⟩, by simp only []; omega⟩
        rw [hc, List.flatMap_append]
        simpa [Value.cells, encN] using o62
      · rw [coll_no (by rw [hja]; omega) hk0]
      · rw [coll_no (by rw [hja]; omega) hk0]
        exact o34
    · have hkl : k.toNat = F.jobs.length := by omega
      rw [hkl] at o34 hcl
      rw [hkl]
      have hsum := nev_sum I (i := i.toNat) (by omega)
      rw [show ((i.toNat : Nat) : Int) = i by omega] at hsum
      have hok1 := I.i0.hs.2.1 _ (getD_mem F.hosts default (i := i.toNat) (by omega))
      refine (nSum_k all allc (coll F i F.jobs.length) (by omega) w35 (Own.recs (enc := encN) (o34.ext h35) fun _ _ => rfl)).mono fun v w36 ⟨e36, s, e, hv, hs⟩ => ⟨e36, _, _, _, e, hv, fun b41 hb41 => ?_⟩
      obtain ⟨he, hss⟩ := hs (coll_ok I i _ (Nat.le_refl _)) (by rw [hsum]; exact hok1.2.2.2.2.1)
      rw [hsum] at hss
      refine ⟨fun hne => absurd he hne, fun _ w42 h42 => ?_⟩
      refine neN_k (a := s) (b := (F.hosts.getD i.toNat default).used) ⟨Ext.refl _, _, rfl, fun hbad => ?_, fun _ => ⟨i64 (by omega), ⟨((h14.trans h26).trans e27).trans h34, by omega, by omega⟩, by simp only []; omega⟩⟩
      rw [hss] at hbad
      simp at hbad
  · have hS15 := (hS.ext h14).ext h15
    refine (hcheck_k ph ch F.hosts (by omega) x5.hO.2 w15 hS15.at).mono fun v w16 ⟨e16, e, hv, he, _⟩ => ⟨e16, e, hv, fun w18 h18 => ⟨?_, (hW8.trans h14).trans h18⟩⟩
    have := he.2 I.i0.hs
    rw [this, hhl]
    simp
end Go.Proofs.Ytblafknmfblgfaa
