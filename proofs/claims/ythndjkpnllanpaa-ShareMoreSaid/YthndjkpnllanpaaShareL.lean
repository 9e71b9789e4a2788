/- The laws ShareWhole, ShareFair, ShareMore. -/
import Derived.Test.YthndjkpnllanpaaShare
set_option linter.unusedVariables false
set_option linter.unusedSimpArgs false
namespace Go.Proofs.Ythndjkpnllanpaa
open Go.Sx Go.RowKit

/-- One part. -/
def PartOf (x n y : Int) : Prop := y = min x n ∨ (n < x ∧ y = n + 1)

theorem split_part (n : Int) : ∀ (l : List Int) (left : Int) (i : Nat), i < l.length → PartOf (l.getD i 0) n ((split l n left).getD i 0)
  | [], _, i, h => by simp at h
  | x :: l, left, 0, _ => by
    simp only [split]
    split
    · rename_i h; exact .inr ⟨h.1, by simp; omega⟩
    · exact .inl rfl
  | x :: l, left, i + 1, h => by
    simp only [split]
    split <;> simpa using split_part n l _ i (by simpa using h)

theorem over_nonneg (n : Int) : ∀ l : List Int, 0 ≤ over l n
  | [] => Int.le_refl _
  | x :: l => by simp only [over]; have := over_nonneg n l; split <;> omega

theorem split_sum (n : Int) : ∀ (l : List Int) (left : Int), 0 ≤ left → sumL (split l n left) = upTo l n + min left (over l n)
  | [], left, h => by simp [split, sumL, upTo, over]; omega
  | x :: l, left, h => by
    have ho := over_nonneg n l
    simp only [split, upTo, over]
    split
    · rename_i hc
      simp only [sumL]
      rw [split_sum n l (left - 1) (by omega), if_pos hc.1]; omega
    · rename_i hc
      simp only [sumL]
      rw [split_sum n l left h]
      by_cases hx : n < x
      · have : left = 0 := by omega
        subst this; rw [if_pos hx]; omega
      · rw [if_neg hx]; omega

theorem split_mono_left (n : Int) : ∀ (l : List Int) (a b : Int) (i : Nat), a ≤ b → i < l.length → (split l n a).getD i 0 ≤ (split l n b).getD i 0
  | [], _, _, i, _, h => by simp at h
  | x :: l, a, b, 0, hab, _ => by
    simp only [split]
    split <;> split <;> simp <;> omega
  | x :: l, a, b, i + 1, hab, h => by
    simp only [split]
    split
    · rename_i h1
      rw [if_pos ⟨h1.1, by omega⟩]
      simpa using split_mono_left n l (a - 1) (b - 1) i (by omega) (by simpa using h)
    · rename_i h1
      split
      · rename_i h2
        simpa using split_mono_left n l a (b - 1) i (by omega) (by simpa using h)
      · simpa using split_mono_left n l a b i hab (by simpa using h)

theorem lev_sum {all : Int} {l : List Int} (hok : okS all l) {n : Int} (h : Lev all l n) : sumL (split l n (all - upTo l n)) = min all (sumL l) := by
  obtain ⟨h1, h2, h3, h4⟩ := h
  rw [split_sum _ _ _ (by omega)]
  have hs := upTo_succ n l
  have hle := upTo_le_sum (n + 1) l
  by_cases hn : n = 1099511627776
  · have hz : over l n = 0 := over_zero fun x hx => by have := (hok.2.2.2 x hx).2; omega
    have ha : upTo l n = sumL l := upTo_all fun x hx => by have := (hok.2.2.2 x hx).2; omega
    omega
  · have h4 : all < upTo l (n + 1) := by omega
    omega

theorem shares_k (w : World) : FnP Try.prog F_shiftbellkeep_shares #[] w fun v w' => Ext w w' ∧ v = .bool true := by
  refine ok_shiftbellkeep_shares w _ ?_
  intro w0 h0
  refine run_lit elem_sl_int64 [.int .i64 3, .int .i64 9] rfl rfl (by intro v hv; simp at hv; rcases hv with rfl | rfl <;> rfl) (by omega) (by omega) fun w1 o1 e1 => ⟨_, _, _, rfl, fun w5 h5 => ?_⟩
  have o5 := (o1 0 (Nat.zero_le _)).ext h5
  have hI : Ints .i64 w5 (some ⟨w0.heap.size, 0, none⟩) [3, 9] := o5.cells
  have hok : okS 10 [3, 9] := ⟨by omega, by omega, by simp, by intro x hx; simp at hx; omega⟩
  refine (Level_k 10 _ 2 [3, 9] (by simp) w5 hI).mono fun v w6 ⟨e6, n, hv, hn⟩ => ⟨e6, n, _, hv, fun w9 h9 => ⟨(h0.trans e1).trans h9, b_true ?_⟩⟩
  have hu := lev_unique (hn hok) (n := 7) ⟨by omega, by omega, by decide, .inr (by decide)⟩
  rw [errS_ok.2 hok, hu]; rfl

theorem core_ShareWhole (W : World) : ∀ all : Int, InR .i64 all → ∀ l : Option Addr, ∀ ll : Nat, ∀ lc : Nat, SlcArg Try.prog W T_int64 l ll lc →
    FnP Try.prog F_shiftbellkeep_ShareWhole #[.int .i64 all, .slice l ll lc] W fun v W' => v = .bool true ∧ Ext W W' := by
  intro all ha p ll lc hl
  obtain ⟨l, rfl, _, hI⟩ := hl.ints (k := .i64) (by kernel_rfl) (by kernel_rfl)
  have h63 : (l.length : Int) ≤ 9223372036854775807 := by have := hl.le; have := hl.max; omega
  refine ok_shiftbellkeep_ShareWhole _ _ _ _ W _ ?_
  intro w0 h0
  refine (shares_k w0).mono fun v w1 ⟨e1, hv⟩ => ⟨e1, true, hv, fun h => by simp at h, fun _ w3 h3 => ?_⟩
  refine (Split_k all p lc l h63 w3 (hI.ext h3)).mono fun v w4 ⟨e4, q, m, d, hv, hno, ho⟩ => ⟨e4, _, _, _, _, hv, fun hne w9 h9 => ⟨b_true ?_, (h3.trans e4).trans h9⟩, fun he => ?_⟩
  · have := hno (fun hok => hne (errS_ok.2 hok))
    subst this; rfl
  · have hok := errS_ok.1 he
    obtain ⟨rfl, n, hn, o⟩ := ho hok
    have hx : Ext W w4 := h3.trans e4
    refine ⟨fun h => absurd rfl h, fun _ => ?_⟩
    have hlev := hn
    obtain ⟨n1, n2, n3, n4⟩ := hlev
    have hlen := split_length n l (all - upTo l n)
    have hsum := lev_sum hok hn
    have hpart := split_part n l (all - upTo l n)
    revert o hlen hsum hpart
    generalize split l n (all - upTo l n) = a
    intro o hlen hsum hpart
    have hb : ∀ i : Nat, i < l.length → 0 ≤ a.getD i 0 ∧ a.getD i 0 ≤ l.getD i 0 := fun i hi => by
      have h1 := hpart i hi
      have h2 := hok.2.2.2 _ (getD_mem l 0 hi)
      unfold PartOf at h1; omega
    refine ⟨fun k w' => w' = w4 ∧ 0 ≤ k ∧ k ≤ l.length, fun k _ => (l.length - k).toNat, ⟨rfl, by omega, by omega⟩, ?_⟩
    rintro k _ ⟨rfl, hk0, hk1⟩
    refine ⟨fun hlt => ?_, fun hge w12 h12 => ?_⟩
    · have hget := Ints.idx (hI.ext hx) hk0 hlt
      have hp : p ≠ none := fun hp => cell_p hget (pIdx_none.2 hp)
      have hbk := hb k.toNat (by omega)
      exact ⟨o.ne1 (by omega) (by omega), hk0, hlt, _, o.int_at hk0 (by omega), fun _ => hp, fun _ => hk0, fun _ => hlt, fun h => by omega, fun _ => ⟨_, hget, fun h => by omega, fun _ => ⟨i64 (by omega), ⟨rfl, by omega, by omega⟩, by simp only []; omega⟩⟩⟩
    · have ha100 : ∀ x ∈ a, 0 ≤ x ∧ x ≤ 1099511627776 := fun x hx => by
        obtain ⟨i, hi⟩ := List.mem_iff_getElem?.1 hx
        have hlt := (List.getElem?_eq_some_iff.1 hi).1
        have h1 := hb i (by omega)
        have h2 := hok.2.2.2 _ (getD_mem l 0 (i := i) (by omega))
        rw [List.getD_eq_getElem?_getD, hi] at h1
        simp only [Option.getD_some] at h1
        omega
      have hk := sum_k q d a (by have := hok.2.2.1; omega) ha100 w12 (Cells.ext o.cells h12)
      rw [hlen] at hk
      refine hk.mono fun v w13 ⟨e13, hv⟩ => ⟨e13, _, hv, fun w15 h15 => ?_⟩
      refine (sum_k p lc l (by have := hok.2.2.1; omega) hok.2.2.2 w15 ((hI.ext hx).ext h15)).mono fun v w16 ⟨e16, hv⟩ => ⟨e16, _, hv, fun w18 h18 => ⟨b_true ?_, hx.trans h18⟩⟩
      rw [hsum]; simp

theorem core_ShareMore (W : World) : ∀ all : Int, InR .i64 all → ∀ more : Int, InR .i64 more → ∀ l : Option Addr, ∀ ll : Nat, ∀ lc : Nat, SlcArg Try.prog W T_int64 l ll lc →
    FnP Try.prog F_shiftbellkeep_ShareMore #[.int .i64 all, .int .i64 more, .slice l ll lc] W fun v W' => v = .bool true ∧ Ext W W' := by
  intro all ha more hmore p ll lc hl
  obtain ⟨l, rfl, _, hI⟩ := hl.ints (k := .i64) (by kernel_rfl) (by kernel_rfl)
  have h63 : (l.length : Int) ≤ 9223372036854775807 := by have := hl.le; have := hl.max; omega
  refine ok_shiftbellkeep_ShareMore _ _ _ _ _ W _ ?_
  intro w0 h0
  refine (shares_k w0).mono fun v w1 ⟨e1, hv⟩ => ⟨e1, true, hv, fun h => by simp at h, fun _ w3 h3 => ?_⟩
  refine (Split_k all p lc l h63 w3 (hI.ext h3)).mono fun v w4 ⟨e4, q, m, d, hv, hno, ho⟩ => ⟨e4, _, _, _, _, hv, fun hc => ?_, fun hc w9 h9 => ⟨b_true ?_, (h3.trans e4).trans h9⟩, fun hc => ?_⟩
  · have hok := errS_ok.1 hc.1
    exact i64 (by have := hok.1; have := hok.2.1; omega)
  · by_cases he : errS all l = 0
    · simp [he]
    · have := hno (fun hok => he (errS_ok.2 hok))
      subst this; simp
  · have hok := errS_ok.1 hc.1.1
    obtain ⟨rfl, n, hn, o⟩ := ho hok
    have hx : Ext W w4 := h3.trans e4
    have hok2 : okS (all + more) l := ⟨by have := hok.1; omega, by omega, hok.2.2.1, hok.2.2.2⟩
    refine ⟨i64 (by have := hok.1; omega), fun w9 h9 => ?_⟩
    refine (Split_k (all + more) p lc l h63 w9 ((hI.ext hx).ext h9)).mono fun v w10 ⟨e10, q2, m2, d2, hv, _, ho2⟩ => ⟨e10, _, _, _, _, hv, fun hb => ?_, fun hb => ?_⟩
    · have := (ho2 hok2).1
      have := errS_ok.2 hok2
      omega
    · obtain ⟨rfl, n2, hn2, o2⟩ := ho2 hok2
      have hx10 : Ext w4 w10 := h9.trans e10
      have o' := o.ext hx10
      have hlen := split_length n l (all - upTo l n)
      have hlen2 := split_length n2 l (all + more - upTo l n2)
      have hcmp : ∀ i : Nat, i < l.length → (split l n (all - upTo l n)).getD i 0 ≤ (split l n2 (all + more - upTo l n2)).getD i 0 := fun i hi => by
        have p1 := split_part n l (all - upTo l n) i hi
        have p2 := split_part n2 l (all + more - upTo l n2) i hi
        obtain ⟨a1, a2, a3, a4⟩ := hn
        obtain ⟨b1, b2, b3, b4⟩ := hn2
        have hle : n ≤ n2 := by
          apply Classical.byContradiction
          intro hlt
          have := upTo_mono (show n2 + 1 ≤ n by omega) l
          omega
        by_cases he : n = n2
        · subst he
          exact split_mono_left n l _ _ i (by omega) hi
        · unfold PartOf at p1 p2; omega
      revert o' o2 hlen hlen2 hcmp
      generalize split l n (all - upTo l n) = a
      generalize split l n2 (all + more - upTo l n2) = b
      intro o2 o' hlen hlen2 hcmp
      refine ⟨fun k w' => w' = w10 ∧ 0 ≤ k ∧ k ≤ l.length, fun k _ => (l.length - k).toNat, ⟨rfl, by omega, by omega⟩, ?_⟩
      rintro k _ ⟨rfl, hk0, hk1⟩
      refine ⟨fun hlt => ?_, fun hge w18 h18 => ⟨rfl, (hx.trans hx10).trans h18⟩⟩
      have := hcmp k.toNat (by omega)
      exact ⟨o'.ne1 (by omega) (by omega), hk0, hlt, _, o'.int_at hk0 (by omega), o2.ne1 (by omega) (by omega), hk0, hlt, _, o2.int_at hk0 (by omega), fun h => by omega, fun _ => ⟨i64 (by omega), ⟨rfl, by omega, by omega⟩, by simp only []; omega⟩⟩

theorem core_ShareFair (W : World) : ∀ all : Int, InR .i64 all → ∀ l : Option Addr, ∀ ll : Nat, ∀ lc : Nat, SlcArg Try.prog W T_int64 l ll lc → ∀ i : Int, InR .i64 i → ∀ k : Int, InR .i64 k →
    FnP Try.prog F_shiftbellkeep_ShareFair #[.int .i64 all, .slice l ll lc, .int .i64 i, .int .i64 k] W fun v W' => v = .bool true ∧ Ext W W' := by
  intro all ha p ll lc hl i hi k hk
  obtain ⟨l, rfl, _, hI⟩ := hl.ints (k := .i64) (by kernel_rfl) (by kernel_rfl)
  have h63 : (l.length : Int) ≤ 9223372036854775807 := by have := hl.le; have := hl.max; omega
  refine ok_shiftbellkeep_ShareFair _ _ _ _ _ _ W _ ?_
  intro w0 h0
  refine (shares_k w0).mono fun v w1 ⟨e1, hv⟩ => ⟨e1, true, hv, fun h => by simp at h, fun _ w3 h3 => ?_⟩
  refine (Split_k all p lc l h63 w3 (hI.ext h3)).mono fun v w4 ⟨e4, q, m, d, hv, hno, ho⟩ => ⟨e4, _, _, _, _, hv, fun w9 h9 => ?_⟩
  have hx : Ext W w4 := h3.trans e4
  refine (Level_k all p lc l h63 w9 ((hI.ext hx).ext h9)).mono fun v w10 ⟨e10, n, hv, hn⟩ => ⟨e10, n, _, hv, fun hb w13 h13 => ⟨b_true ?_, hx.trans h13⟩, fun hb => ?_⟩
  · by_cases he : errS all l = 0
    · have := (ho (errS_ok.1 he)).1; omega
    · have := hno (fun hok => he (errS_ok.2 hok))
      subst this; simp
  · have hok := errS_ok.1 hb.1
    obtain ⟨rfl, n', hn', o⟩ := ho hok
    obtain rfl := lev_unique hn' (hn hok)
    have hl4 := hI.ext hx
    refine ⟨fun _ w13 h13 => ⟨rfl, hx.trans h13⟩, fun hr => ?_⟩
    have hlen := split_length n' l (all - upTo l n')
    have pi := split_part n' l (all - upTo l n') i.toNat (by omega)
    have pk := split_part n' l (all - upTo l n') k.toNat (by omega)
    have bi := hok.2.2.2 _ (getD_mem l 0 (i := i.toNat) (by omega))
    have bk := hok.2.2.2 _ (getD_mem l 0 (i := k.toNat) (by omega))
    have hn1 := hn'.1
    have hn2 := hn'.2.1
    have oi := o.int_at hr.1.1.1 (by omega)
    have ok := o.int_at (i := k) hr.1.2 (by omega)
    have li := Ints.idx hl4 hr.1.1.1 hr.1.1.2
    have lk := Ints.idx hl4 (i := k) hr.1.2 hr.2
    have hp : p ≠ none := fun hp => cell_p li (pIdx_none.2 hp)
    have hq : q ≠ none := o.ne1 (by omega) (by omega)
    revert pi pk oi ok
    generalize (split l n' (all - upTo l n')).getD i.toNat 0 = ai
    generalize (split l n' (all - upTo l n')).getD k.toNat 0 = ak
    revert bi bk li lk
    generalize l.getD i.toNat 0 = xi
    generalize l.getD k.toNat 0 = xk
    intro bi bk li lk pi pk oi ok
    unfold PartOf at pi pk
    obtain ⟨⟨⟨i0, i1⟩, k0⟩, k1⟩ := hr
    have T : ∀ {w' : World}, Ext w4 w' → Value.bool true = .bool true ∧ Ext W w' := fun h => ⟨rfl, hx.trans h⟩
    refine ⟨fun _ => hq, fun _ => i0, fun _ => i1, fun _ => ⟨_, oi, hp, i0, i1, _, li, fun _ => hq, fun _ => k0, fun _ => k1, fun he => ?_, fun hne => ?_⟩, fun hne => absurd hb.1 hne⟩
    · refine ⟨hp, i0, i1, _, li, hp, k0, k1, _, lk, fun _ => hq, fun _ => i0, fun _ => i1, fun _ w17 h17 => T h17, fun hle => ⟨_, oi, i64 (by omega), hq, k0, k1, _, ok, fun w19 h19 => ⟨b_true ?_, hx.trans h19⟩⟩⟩
      simp; omega
    · refine ⟨_, ok, hq, i0, i1, _, oi, i64 (by omega), fun _ => hq, fun _ => i0, fun _ => i1, fun _ => ⟨_, oi, fun _ => hq, fun _ => i0, fun _ => i1, fun _ => ⟨_, oi, i64 (by omega), fun _ => hp, fun _ => i0, fun _ => i1, fun _ => ⟨_, li, hp, k0, k1, _, lk, fun _ => hq, fun _ => i0, fun _ => i1, fun _ w21 h21 => T h21, fun hle => ⟨_, oi, i64 (by omega), hq, k0, k1, _, ok, fun w23 h23 => ⟨b_true ?_, hx.trans h23⟩⟩⟩, fun h => by omega⟩, fun h => by omega⟩, fun h => by omega⟩
      simp; omega
end Go.Proofs.Ythndjkpnllanpaa
