/- Jobs of a graph at work: the plain facts of the loop. -/
import Derived.Test.YtmdnjnflmijofaaLGb
import Derived.Test.YtmdnjnflmijofaaPathQ
import Derived.Test.YtmdnjnflmijofaaPLb
set_option linter.unusedVariables false
set_option linter.unusedSimpArgs false
namespace Go.Proofs.Ytmdnjnflmijofaa
open Go.Sx Go.RowKit

theorem sumN_const (c : Int) : ∀ n : Nat, sumN n (fun _ => c) = n * c
  | 0 => by simp [sumN]
  | n + 1 => by
    have := sumN_const c n
    simp only [sumN, this]
    rw [Int.natCast_add, Int.add_mul]; omega

/-- What does not turn. -/
structure GCtx (m N : Nat) (L : List E) (D A Ea La : List Int) (Sp : Int) : Prop where
  hm : 1 ≤ m
  hA : Topo N L A
  hL : OkL N L
  dB : ∀ i : Nat, i < N → 0 ≤ dg D i ∧ dg D i ≤ 1000000000
  plan : Plan N L D Ea La Sp

abbrev wk (N : Nat) (D : List Int) (Bg : List Bool) : Int := sumN N fun i => if Bg.getD i false = true then dg D i else 0

structure GInv (m N : Nat) (L : List E) (D La : List Int) (Sp : Int) (Tn : List TT) (Bg : List Bool) (Fr : List Int) (now en left z : Int) : Prop where
  tl : Tn.length = N
  bl : Bg.length = N
  fl : Fr.length = m
  leftEq : (sumN N fun i => if Bg.getD i false = true then 0 else 1) = left
  now0 : 0 ≤ now
  nowEn : now ≤ en
  enB : en ≤ ((N : Int) - left) * 1000000000
  atB : ∀ i : Nat, i < N → 0 ≤ (tu Tn i).at_ ∧ (tu Tn i).at_ ≤ now
  bg : ∀ i : Nat, i < N → Bg.getD i false = true → 0 ≤ (tu Tn i).hand ∧ (tu Tn i).hand < m ∧ (tu Tn i).at_ + dg D i ≤ en ∧ (tu Tn i).at_ + dg D i ≤ Fr.getD (tu Tn i).hand.toNat 0 ∧
    (now < (tu Tn i).at_ + dg D i → Fr.getD (tu Tn i).hand.toNat 0 = (tu Tn i).at_ + dg D i ∧ z ≤ La.getD i 0 + now - (tu Tn i).at_)
  un : ∀ i : Nat, i < N → Bg.getD i false = false → z ≤ La.getD i 0
  fr : ∀ h : Nat, h < m → 0 ≤ Fr.getD h 0 ∧ Fr.getD h 0 ≤ en
  frEq : ∀ h : Nat, h < m → Fr.getD h 0 = 0 ∨ ∃ i : Nat, i < N ∧ Bg.getD i false = true ∧ (tu Tn i).hand = h ∧ Fr.getD h 0 = (tu Tn i).at_ + dg D i
  apart : ∀ i k : Nat, i < N → k < N → i ≠ k → Bg.getD i false = true → Bg.getD k false = true → (tu Tn i).hand = (tu Tn k).hand → (tu Tn i).at_ + dg D i ≤ (tu Tn k).at_ ∨ (tu Tn k).at_ + dg D k ≤ (tu Tn i).at_
  ed : ∀ e ∈ L, Bg.getD e.t.toNat false = true → Bg.getD e.f.toNat false = true ∧ (tu Tn e.f.toNat).at_ + dg D e.f.toNat ≤ (tu Tn e.t.toNat).at_
  enEq : en = 0 ∨ ∃ i : Nat, i < N ∧ Bg.getD i false = true ∧ en = (tu Tn i).at_ + dg D i
  idle : (sumN m fun h => max (Fr.getD h 0) now) ≤ wk N D Bg + ((m : Int) - 1) * z
  work : wk N D Bg ≤ sumN m fun h => Fr.getD h 0
  zs : z ≤ Sp

/-- Who has not begun stands behind something that has not ended. -/
def Stuck (N : Nat) (L : List E) (D : List Int) (Tn : List TT) (Bg : List Bool) (now : Int) : Prop :=
  ∀ i : Nat, i < N → Bg.getD i false = false → ∃ e ∈ L, e.t = i ∧ ¬ (Bg.getD e.f.toNat false = true ∧ (tu Tn e.f.toNat).at_ + dg D e.f.toNat ≤ now)

theorem bool_ff {b : Bool} (h : ¬ b = true) : b = false := by cases b <;> simp_all

theorem GInv.init {m N : Nat} {L : List E} {D A Ea La : List Int} {Sp : Int} (C : GCtx m N L D A Ea La Sp) : GInv m N L D La Sp (List.replicate N ⟨0, 0⟩) (List.replicate N false) (List.replicate m 0) 0 0 N 0 := by
  have hB : ∀ i : Nat, (List.replicate N false).getD i false = false := fun i => by
    rcases Nat.lt_or_ge i N with h | h
    · exact getD_replicate' _ _ _ h
    · rw [List.getD_eq_getElem?_getD, List.getElem?_eq_none (by simpa using h)]; rfl
  have hF : ∀ i : Nat, (List.replicate m (0 : Int)).getD i 0 = 0 := fun i => by
    rcases Nat.lt_or_ge i m with h | h
    · exact getD_replicate' _ _ _ h
    · rw [List.getD_eq_getElem?_getD, List.getElem?_eq_none (by simpa using h)]; rfl
  have hW : wk N D (List.replicate N false) = 0 := by
    have : wk N D (List.replicate N false) = sumN N fun _ => 0 := sumN_congr fun i hi => by rw [hB]; rfl
    rw [this, sumN_zero]
  have hS : ∀ i : Nat, i < N → ¬ (List.replicate N false).getD i false = true := fun i hi h => by rw [hB] at h; cases h
  refine ⟨by simp, by simp, by simp, ?_, by omega, by omega, by omega, fun i hi => ?_, fun i hi hb => absurd hb (hS i hi), fun i hi _ => ?_, fun h hh => ?_, fun h hh => .inl (hF h), fun i k hi hk _ hb => absurd hb (hS i hi), fun e he hb => absurd hb (hS _ ?_), .inl rfl, ?_, ?_, C.plan.s0⟩
  · have : (sumN N fun i => if (List.replicate N false).getD i false = true then (0 : Int) else 1) = sumN N fun _ => 1 := sumN_congr fun i hi => by rw [hB]; rfl
    rw [this, sumN_one]
  · have : tu (List.replicate N (⟨0, 0⟩ : TT)) i = ⟨0, 0⟩ := getD_replicate' _ _ _ hi
    rw [this]; simp
  · have h1 := C.plan.pf.slack C.hA C.hL i hi
    have h2 := C.plan.e0 i hi
    simp only [g0, Int.toNat_natCast] at h1
    omega
  · rw [hF]; omega
  · have := C.hL e he; omega
  · rw [hW]
    have : (sumN m fun h => max ((List.replicate m (0 : Int)).getD h 0) 0) = sumN m fun _ => 0 := sumN_congr fun i hi => by rw [hF]; rfl
    rw [this, sumN_zero]; omega
  · rw [hW]
    have : (sumN m fun h => (List.replicate m (0 : Int)).getD h 0) = sumN m fun _ => 0 := sumN_congr fun i hi => by rw [hF]
    rw [this, sumN_zero]; omega

/-- While nobody may begin, somebody is at work. -/
theorem GInv.busy {m N : Nat} {L : List E} {D A Ea La : List Int} {Sp : Int} (C : GCtx m N L D A Ea La Sp) {Tn : List TT} {Bg : List Bool} {Fr : List Int} {now en left z : Int} (h : GInv m N L D La Sp Tn Bg Fr now en left z) (hs : Stuck N L D Tn Bg now) (hl : 0 < left) : ∃ k : Nat, k < m ∧ now < Fr.getD k 0 := by
  have hex : ∃ i : Nat, i < N ∧ Bg.getD i false = false := by
    refine Classical.byContradiction fun hn => ?_
    have : (sumN N fun i => if Bg.getD i false = true then (0 : Int) else 1) = sumN N fun _ => 0 := sumN_congr fun i hi => by
      rw [if_pos]
      cases hb : Bg.getD i false with
      | true => rfl
      | false => exact absurd ⟨i, hi, hb⟩ hn
    rw [sumN_zero] at this
    have := h.leftEq
    omega
  obtain ⟨i, hi, hb⟩ := hex
  have key : ∀ i, i < N → Bg.getD i false = false → ∃ k : Nat, k < m ∧ now < Fr.getD k 0 := C.hA.ind C.hL (fun i => Bg.getD i false = false → ∃ k : Nat, k < m ∧ now < Fr.getD k 0) fun i hi ih hb => by
    obtain ⟨e, he, het, hne⟩ := hs i hi hb
    have hok := C.hL e he
    by_cases hf : Bg.getD e.f.toNat false = true
    · have hlt : now < (tu Tn e.f.toNat).at_ + dg D e.f.toNat := by
        refine Int.lt_of_not_ge fun hge => hne ⟨hf, hge⟩
      have := h.bg e.f.toNat (by omega) hf
      refine ⟨(tu Tn e.f.toNat).hand.toNat, by omega, ?_⟩
      rw [(this.2.2.2.2 hlt).1]; exact hlt
    · exact ih e he het (bool_ff hf)
  exact key i hi hb

/-- On to the next time at which a hand is free. -/
theorem GInv.adv {m N : Nat} {L : List E} {D A Ea La : List Int} {Sp : Int} (C : GCtx m N L D A Ea La Sp) {Tn : List TT} {Bg : List Bool} {Fr : List Int} {now en left z r : Int} (h : GInv m N L D La Sp Tn Bg Fr now en left z)
    (hr : ∃ k : Nat, k < m ∧ Fr.getD k 0 = r) (hlt : now < r) (hmin : ∀ k : Nat, k < m → now < Fr.getD k 0 → r ≤ Fr.getD k 0) (hc : (∀ k : Nat, k < m → now < Fr.getD k 0) ∨ Stuck N L D Tn Bg now) : ∃ z', GInv m N L D La Sp Tn Bg Fr r en left z' := by
  obtain ⟨k0, hk0, rfl⟩ := hr
  have hfk := h.fr k0 hk0
  have hn0 := h.now0
  have base : ∀ z', (∀ i : Nat, i < N → Bg.getD i false = true → now < (tu Tn i).at_ + dg D i → z' ≤ La.getD i 0 + Fr.getD k0 0 - (tu Tn i).at_) → (∀ i : Nat, i < N → Bg.getD i false = false → z' ≤ La.getD i 0) →
      (sumN m fun h => max (Fr.getD h 0) (Fr.getD k0 0)) ≤ wk N D Bg + ((m : Int) - 1) * z' → z' ≤ Sp → GInv m N L D La Sp Tn Bg Fr (Fr.getD k0 0) en left z' := fun z' h1 h2 h3 h4 =>
    { h with
      now0 := hfk.1
      nowEn := hfk.2
      atB := fun i hi => by have := h.atB i hi; omega
      bg := fun i hi hb => by
        obtain ⟨b1, b2, b3, b4, b5⟩ := h.bg i hi hb
        exact ⟨b1, b2, b3, b4, fun hx => ⟨(b5 (by omega)).1, h1 i hi hb (by omega)⟩⟩
      un := h2
      idle := h3
      zs := h4 }
  rcases hc with hall | hs
  · refine ⟨z, base z (fun i hi hb hx => ?_) h.un ?_ h.zs⟩
    · have := ((h.bg i hi hb).2.2.2.2 hx).2
      omega
    · have : (sumN m fun h => max (Fr.getD h 0) (Fr.getD k0 0)) = sumN m fun h => max (Fr.getD h 0) now := sumN_congr fun k hk => by
        have := hmin k hk (hall k hk)
        omega
      rw [this]; exact h.idle
  · have key : ∀ i, i < N → Bg.getD i false = false → z + (Fr.getD k0 0 - now) ≤ La.getD i 0 := C.hA.ind C.hL (fun i => Bg.getD i false = false → z + (Fr.getD k0 0 - now) ≤ La.getD i 0) fun i hi ih hb => by
      obtain ⟨e, he, het, hne⟩ := hs i hi hb
      have hok := C.hL e he
      have hl := C.plan.lLe e he
      have hd := C.dB e.f.toNat (by omega)
      simp only [g0] at hl
      rw [show e.t.toNat = i by omega] at hl
      by_cases hf : Bg.getD e.f.toNat false = true
      · have hlt : now < (tu Tn e.f.toNat).at_ + dg D e.f.toNat := by
          refine Int.lt_of_not_ge fun hge => hne ⟨hf, hge⟩
        have hb' := h.bg e.f.toNat (by omega) hf
        obtain ⟨h1, h2⟩ := hb'.2.2.2.2 hlt
        have := hmin (tu Tn e.f.toNat).hand.toNat (by omega) (by omega)
        simp only [dg] at *
        omega
      · have := ih e he het (bool_ff hf)
        simp only [dg] at *
        omega
    refine ⟨z + (Fr.getD k0 0 - now), base _ (fun i hi hb hx => ?_) key ?_ ?_⟩
    · have := ((h.bg i hi hb).2.2.2.2 hx).2
      omega
    · have hle : (sumN m fun h => max (Fr.getD h 0) (Fr.getD k0 0)) ≤ sumN m fun h => max (Fr.getD h 0) now + ((Fr.getD k0 0 - now) + if h = k0 then -(Fr.getD k0 0 - now) else 0) := sumN_le fun k hk => by
        by_cases hkk : k = k0
        · subst hkk; rw [if_pos rfl]; omega
        · rw [if_neg hkk]
          by_cases hx : now < Fr.getD k 0
          · have := hmin k hk hx; omega
          · omega
      rw [sumN_add, sumN_add, sumN_const, sumN_single, if_pos hk0] at hle
      have := h.idle
      rw [Int.mul_add, Int.sub_mul ((m : Int)) 1 (Fr.getD k0 0 - now)]
      omega
    · rcases h.frEq k0 hk0 with h0 | ⟨i, hi, hb, hh, hv⟩
      · omega
      · have := ((h.bg i hi hb).2.2.2.2 (by omega)).2
        have hS := C.plan.lS i hi
        simp only [dg] at *
        omega

/-- One job begins. -/
theorem GInv.go {m N : Nat} {L : List E} {D A Ea La : List Int} {Sp : Int} (C : GCtx m N L D A Ea La Sp) {Tn : List TT} {Bg : List Bool} {Fr : List Int} {now en left z : Int} (h : GInv m N L D La Sp Tn Bg Fr now en left z)
    {i : Nat} (hi : i < N) (hb : Bg.getD i false = false) (hp : ∀ e ∈ L, e.t = i → Bg.getD e.f.toNat false = true ∧ (tu Tn e.f.toNat).at_ + dg D e.f.toNat ≤ now) {k : Nat} (hk : k < m) (hfr : Fr.getD k 0 ≤ now) :
    GInv m N L D La Sp (Tn.set i ⟨now, k⟩) (Bg.set i true) (Fr.set k (now + dg D i)) now (max en (now + dg D i)) (left - 1) z := by
  have htl := h.tl
  have hbl := h.bl
  have hfl := h.fl
  have hT : ∀ j, tu (Tn.set i ⟨now, k⟩) j = if j = i then ⟨now, k⟩ else tu Tn j := fun j => getD_set _ _ _ _ _ (by omega)
  have hB : ∀ j, (Bg.set i true).getD j false = if j = i then true else Bg.getD j false := fun j => getD_set _ _ _ _ _ (by omega)
  have hF : ∀ j, (Fr.set k (now + dg D i)).getD j 0 = if j = k then now + dg D i else Fr.getD j 0 := fun j => getD_set _ _ _ _ _ (by omega)
  have hd := C.dB i hi
  have hn0 := h.now0
  have hne := h.nowEn
  have hW : wk N D (Bg.set i true) = wk N D Bg + dg D i := by
    have : wk N D (Bg.set i true) = sumN N fun j => (if Bg.getD j false = true then dg D j else 0) + if j = i then dg D i else 0 := sumN_congr fun j hj => by
      rw [hB]
      by_cases hji : j = i
      · subst hji; rw [if_pos rfl, if_pos rfl, hb]; simp
      · rw [if_neg hji, if_neg hji]; omega
    rw [this, sumN_add, sumN_single, if_pos hi]
  refine ⟨by simpa using htl, by simpa using hbl, by simpa using hfl, ?_, hn0, by omega, ?_, fun j hj => ?_, fun j hj hbj => ?_, fun j hj hbj => ?_, fun j hj => ?_, fun j hj => ?_, fun j j' hj hj' hne hbj hbj' hh => ?_, fun e he hbe => ?_, ?_, ?_, ?_, h.zs⟩
  · have : (sumN N fun j => if (Bg.set i true).getD j false = true then (0 : Int) else 1) = sumN N fun j => (if Bg.getD j false = true then 0 else 1) + if j = i then -1 else 0 := sumN_congr fun j hj => by
      rw [hB]
      by_cases hji : j = i
      · subst hji; rw [if_pos rfl, if_pos rfl, hb]; simp
      · rw [if_neg hji, if_neg hji]; omega
    rw [this, sumN_add, sumN_single, if_pos hi, h.leftEq]; omega
  · have := h.enB; omega
  · rw [hT]
    by_cases hji : j = i
    · rw [if_pos hji]; simp only []; omega
    · rw [if_neg hji]; exact h.atB j hj
  · rw [hT] 
    by_cases hji : j = i
    · subst hji
      rw [if_pos rfl]
      simp only [Int.toNat_natCast]
      rw [hF, if_pos rfl]
      have := h.un j hj hb
      exact ⟨by omega, by omega, by omega, by omega, fun _ => ⟨rfl, by omega⟩⟩
    · rw [hB, if_neg hji] at hbj
      rw [if_neg hji]
      obtain ⟨b1, b2, b3, b4, b5⟩ := h.bg j hj hbj
      refine ⟨b1, b2, by omega, ?_, fun hx => ?_⟩
      · rw [hF]
        by_cases hhk : (tu Tn j).hand.toNat = k
        · rw [if_pos hhk]; rw [hhk] at b4; omega
        · rw [if_neg hhk]; exact b4
      · rw [hF]
        by_cases hhk : (tu Tn j).hand.toNat = k
        · rw [hhk] at b4; omega
        · rw [if_neg hhk]; exact b5 hx
  · rw [hB] at hbj
    by_cases hji : j = i
    · rw [if_pos hji] at hbj; cases hbj
    · rw [if_neg hji] at hbj; exact h.un j hj hbj
  · rw [hF]
    have := h.fr j hj
    by_cases hjk : j = k
    · rw [if_pos hjk]; omega
    · rw [if_neg hjk]; omega
  · rw [hF]
    by_cases hjk : j = k
    · refine .inr ⟨i, hi, by rw [hB, if_pos rfl], ?_⟩
      rw [if_pos hjk, hT, if_pos rfl]
      exact ⟨by simp only []; omega, rfl⟩
    · rw [if_neg hjk]
      rcases h.frEq j hj with h0 | ⟨i', hi', hb', hh, hv⟩
      · exact .inl h0
      · have hii : i' ≠ i := fun hx => by rw [hx, hb] at hb'; cases hb'
        exact .inr ⟨i', hi', by rw [hB, if_neg hii]; exact hb', by rw [hT, if_neg hii]; exact ⟨hh, hv⟩⟩
  · rw [hT, hT] at hh ⊢
    rw [hB] at hbj hbj'
    by_cases hji : j = i
    · subst hji
      have hji' : j' ≠ j := fun hx => hne hx.symm
      rw [if_pos rfl, if_neg hji'] at hh ⊢
      rw [if_neg hji'] at hbj'
      have := h.bg j' hj' hbj'
      simp only [] at hh ⊢
      rw [show (tu Tn j').hand.toNat = k by omega] at this
      right; omega
    · rw [if_neg hji] at hh hbj ⊢
      by_cases hji' : j' = i
      · subst hji'
        rw [if_pos rfl] at hh ⊢
        have := h.bg j hj hbj
        simp only [] at hh ⊢
        rw [show (tu Tn j).hand.toNat = k by omega] at this
        left; omega
      · rw [if_neg hji'] at hh hbj' ⊢
        exact h.apart j j' hj hj' hne hbj hbj' hh
  · have hok := C.hL e he
    rw [hB] at hbe ⊢
    rw [hT, hT]
    by_cases het : e.t.toNat = i
    · obtain ⟨p1, p2⟩ := hp e he (by omega)
      have hfi : e.f.toNat ≠ i := fun hx => by rw [hx, hb] at p1; cases p1
      rw [if_neg hfi, if_neg hfi, if_pos het]
      exact ⟨p1, p2⟩
    · rw [if_neg het] at hbe
      obtain ⟨p1, p2⟩ := h.ed e he hbe
      have hfi : e.f.toNat ≠ i := fun hx => by rw [hx, hb] at p1; cases p1
      rw [if_neg hfi, if_neg hfi, if_neg het]
      exact ⟨p1, p2⟩
  · rcases Int.le_total en (now + dg D i) with hle | hle
    · exact .inr ⟨i, hi, by rw [hB, if_pos rfl], by rw [hT, if_pos rfl]; simp only []; omega⟩
    · rcases h.enEq with h0 | ⟨i', hi', hb', hv⟩
      · left; omega
      · have hii : i' ≠ i := fun hx => by rw [hx, hb] at hb'; cases hb'
        exact .inr ⟨i', hi', by rw [hB, if_neg hii]; exact hb', by rw [hT, if_neg hii]; omega⟩
  · have : (sumN m fun j => max ((Fr.set k (now + dg D i)).getD j 0) now) = sumN m fun j => max (Fr.getD j 0) now + if j = k then dg D i else 0 := sumN_congr fun j hj => by
      rw [hF]
      by_cases hjk : j = k
      · subst hjk; rw [if_pos rfl, if_pos rfl]; omega
      · rw [if_neg hjk, if_neg hjk]; omega
    rw [this, sumN_add, sumN_single, if_pos hk, hW]
    have := h.idle
    omega
  · have : (sumN m fun j => Fr.getD j 0 + if j = k then dg D i else 0) ≤ sumN m fun j => (Fr.set k (now + dg D i)).getD j 0 := sumN_le fun j hj => by
      rw [hF]
      by_cases hjk : j = k
      · subst hjk; rw [if_pos rfl, if_pos rfl]; omega
      · rw [if_neg hjk, if_neg hjk]; omega
    rw [sumN_add, sumN_single, if_pos hk] at this
    rw [hW]
    have := h.work
    omega

theorem GInv.all {m N : Nat} {L : List E} {D La : List Int} {Sp : Int} {Tn : List TT} {Bg : List Bool} {Fr : List Int} {now en left z : Int} (h : GInv m N L D La Sp Tn Bg Fr now en left z) (hl : left ≤ 0) : ∀ i : Nat, i < N → Bg.getD i false = true := by
  intro i hi
  refine Classical.byContradiction fun hn => ?_
  have : sumN N (fun _ => 0) < sumN N fun i => if Bg.getD i false = true then (0 : Int) else 1 := sumN_lt hi (fun j _ => by split <;> omega) (by rw [if_neg hn]; omega)
  rw [sumN_zero, h.leftEq] at this
  omega

/-- All is done: Graham's bound, and the two bounds from below. -/
theorem GInv.done {m N : Nat} {L : List E} {D A Ea La : List Int} {Sp : Int} (C : GCtx m N L D A Ea La Sp) (hDl : D.length = N) {Tn : List TT} {Bg : List Bool} {Fr : List Int} {now en left z : Int} (h : GInv m N L D La Sp Tn Bg Fr now en left z) (hl : left ≤ 0) :
    (m : Int) * en ≤ sumL D + ((m : Int) - 1) * Sp ∧ Sp ≤ en ∧ sumL D ≤ (m : Int) * en := by
  have hall := h.all hl
  have hm := C.hm
  have hW : wk N D Bg = sumL D := by
    rw [sumL_eq_sumN, hDl]
    exact sumN_congr fun i hi => by rw [if_pos (hall i hi)]
  have hidle := h.idle
  have hwork := h.work
  rw [hW] at hidle hwork
  have hne := h.nowEn
  have hn0 := h.now0
  refine ⟨?_, ?_, ?_⟩
  · have hmono : ∀ y : Int, y ≤ Sp → ((m : Int) - 1) * y ≤ ((m : Int) - 1) * Sp := fun y hy => Int.mul_le_mul_of_nonneg_left hy (by omega)
    by_cases hlt : now < en
    · rcases h.enEq with h0 | ⟨i, hi, hb, hv⟩
      · omega
      · obtain ⟨b1, b2, b3, b4, b5⟩ := h.bg i hi hb
        obtain ⟨c1, c2⟩ := b5 (by omega)
        have hS := C.plan.lS i hi
        have hle : (sumN m fun _ => en) ≤ sumN m fun j => max (Fr.getD j 0) now + ((en - now) + if j = (tu Tn i).hand.toNat then -(en - now) else 0) := sumN_le fun j hj => by
          by_cases hjk : j = (tu Tn i).hand.toNat
          · rw [if_pos hjk, hjk, c1]; omega
          · rw [if_neg hjk]; omega
        rw [sumN_const, sumN_add, sumN_add, sumN_const, sumN_single, if_pos (by omega)] at hle
        have := hmono (z + (en - now)) (by simp only [dg] at *; omega)
        rw [Int.mul_add, Int.sub_mul ((m : Int)) 1 (en - now)] at this
        omega
    · obtain rfl : now = en := by omega
      have hle : (sumN m fun _ => now) ≤ sumN m fun j => max (Fr.getD j 0) now := sumN_le fun j hj => by omega
      rw [sumN_const] at hle
      have := hmono z h.zs
      omega
  · rcases C.plan.sEq with h0 | ⟨i, hi, hv⟩
    · omega
    · have := C.plan.pf.least C.hA C.hL (t := fun i => (tu Tn i.toNat).at_) (fun j hj => by simpa using (h.atB j hj).1) (fun x hx => (h.ed x hx (hall _ (by have := C.hL x hx; omega))).2) i hi
      have hb := (h.bg i hi (hall i hi)).2.2.1
      simp only [g0, Int.toNat_natCast, dg] at *
      omega
  · have hle : (sumN m fun j => Fr.getD j 0) ≤ sumN m fun _ => en := sumN_le fun j hj => (h.fr j hj).2
    rw [sumN_const] at hle
    omega
end Go.Proofs.Ytmdnjnflmijofaa
