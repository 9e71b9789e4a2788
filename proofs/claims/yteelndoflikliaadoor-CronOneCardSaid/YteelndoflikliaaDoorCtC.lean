/- What the functions of package civil answer. -/
import Derived.Test.YteelndoflikliaaDoorGood
import Derived.Test.YteelndoflikliaaDoorTxtB
set_option linter.unusedVariables false
set_option linter.unusedSimpArgs false
namespace Go.Proofs.YteelndoflikliaaDoor
open Go.Sx Go.RowKit

def lng (y : Int) : Prop := (y % 4 = 0 ∧ y % 100 ≠ 0) ∨ y % 400 = 0
instance (y : Int) : Decidable (lng y) := by unfold lng; infer_instance
def bef (y : Int) : Int := 365 * (y - 1) + (y - 1) / 4 - (y - 1) / 100 + (y - 1) / 400
def ah (m : Int) : Int := if m ≤ 1 then 0 else if m = 2 then 31 else if m = 3 then 59 else if m = 4 then 90 else if m = 5 then 120 else if m = 6 then 151 else if m = 7 then 181 else if m = 8 then 212 else if m = 9 then 243 else if m = 10 then 273 else if m = 11 then 304 else 334
def ln (y m : Int) : Int := if m = 2 ∧ lng y then 29 else if m = 12 then 31 else ah (m + 1) - ah m
/-- Days of the year ahead of the month. -/
def ms (y m : Int) : Int := ah m + if 2 < m ∧ lng y then 1 else 0
def dy (y m d : Int) : Int := bef y + ms y m + d - 1
def vd (y m d : Int) : Prop := 1 ≤ y ∧ y ≤ 9999 ∧ 1 ≤ m ∧ m ≤ 12 ∧ 1 ≤ d ∧ d ≤ ln y m

theorem bef_succ {y : Int} (h : 1 ≤ y) : bef (y + 1) = bef y + 365 + if lng y then 1 else 0 := by
  by_cases hl : lng y <;> simp only [hl, if_true, if_false] <;> unfold lng at hl <;> unfold bef <;> omega
theorem bef_mono {a b : Int} (h : a ≤ b) : bef a ≤ bef b := by unfold bef; omega
theorem month {m : Int} (h1 : 1 ≤ m) (h2 : m ≤ 12) : m = 1 ∨ m = 2 ∨ m = 3 ∨ m = 4 ∨ m = 5 ∨ m = 6 ∨ m = 7 ∨ m = 8 ∨ m = 9 ∨ m = 10 ∨ m = 11 ∨ m = 12 := by omega
theorem ln_bounds {y m : Int} (h1 : 1 ≤ m) (h2 : m ≤ 12) : 28 ≤ ln y m ∧ ln y m ≤ 31 := by
  by_cases hl : lng y <;> rcases month h1 h2 with h | h | h | h | h | h | h | h | h | h | h | h <;> subst h <;> simp [ln, ah, hl]
theorem ms_succ {y m : Int} (h1 : 1 ≤ m) (h2 : m < 12) : ms y (m + 1) = ms y m + ln y m := by
  by_cases hl : lng y <;> rcases month h1 (by omega) with h | h | h | h | h | h | h | h | h | h | h | h <;> subst h <;> simp [ms, ln, ah, hl] at h2 ⊢
theorem ms_one {y : Int} : ms y 1 = 0 := by simp [ms, ah]
theorem ms_last {y : Int} : ms y 12 + ln y 12 = 365 + if lng y then 1 else 0 := by
  by_cases hl : lng y <;> simp [ms, ln, ah, hl]
theorem ms_bounds {y m : Int} (h1 : 1 ≤ m) (h2 : m ≤ 12) : 0 ≤ ms y m ∧ ms y m + ln y m ≤ 365 + if lng y then 1 else 0 := by
  by_cases hl : lng y <;> rcases month h1 h2 with h | h | h | h | h | h | h | h | h | h | h | h <;> subst h <;> simp [ms, ln, ah, hl]
theorem ms_le {y a b : Int} (h1 : 1 ≤ a) (h : a < b) (h2 : b ≤ 12) : ms y a + ln y a ≤ ms y b := by
  by_cases hl : lng y <;> rcases month h1 (by omega) with e | e | e | e | e | e | e | e | e | e | e | e <;> rcases month (show 1 ≤ b by omega) h2 with h' | h' | h' | h' | h' | h' | h' | h' | h' | h' | h' | h' <;> subst e <;> subst h' <;> first | omega | simp [ms, ln, ah, hl]

theorem dy_bounds {y m d : Int} (h : vd y m d) : bef y ≤ dy y m d ∧ dy y m d < bef (y + 1) := by
  obtain ⟨h1, h2, h3, h4, h5, h6⟩ := h
  have := ms_bounds (y := y) h3 h4
  have := bef_succ h1
  unfold dy; omega

theorem dy_inj {y m d y' m' d' : Int} (h : vd y m d) (h' : vd y' m' d') (e : dy y m d = dy y' m' d') : y = y' ∧ m = m' ∧ d = d' := by
  have b1 := dy_bounds h
  have b2 := dy_bounds h'
  have hy : y = y' := by
    rcases Int.lt_trichotomy y y' with hl | hl | hl
    · have := bef_mono (show y + 1 ≤ y' by omega); omega
    · exact hl
    · have := bef_mono (show y' + 1 ≤ y by omega); omega
  subst hy
  obtain ⟨h1, h2, h3, h4, h5, h6⟩ := h
  obtain ⟨_, _, g3, g4, g5, g6⟩ := h'
  unfold dy at e
  have hm : m = m' := by
    rcases Int.lt_trichotomy m m' with hl | hl | hl
    · have := ms_le (y := y) h3 hl g4; omega
    · exact hl
    · have := ms_le (y := y) g3 hl h4; omega
  subst hm
  exact ⟨rfl, rfl, by omega⟩

theorem dy_max {y m d : Int} (h : vd y m d) : 0 ≤ dy y m d ∧ dy y m d ≤ 3652058 := by
  have b := dy_bounds h
  have h1 := bef_mono h.1
  have h2 := bef_mono (show y + 1 ≤ 10000 by have := h.2.1; omega)
  have e1 : bef 1 = 0 := by decide
  have e2 : bef 10000 = 3652059 := by decide
  omega

/-- The table lies where it was laid. -/
def Gl (w : World) : Prop := ∀ i : Nat, i < 13 → cell w (some (⟨5, 0, none⟩ : Addr)) i = some (.int .i64 (ah i))

theorem Gl.ext {w w' : World} (h : Gl w) (he : Ext w w') : Gl w' := fun i hi => ext_cell he (h i hi)
theorem Gl.at {w : World} (h : Gl w) {m : Int} (h0 : 0 ≤ m) (h1 : m < 13) : cell w (pIdx (some (⟨5, 0, none⟩ : Addr)) m 1) 0 = some (.int .i64 (ah m)) := by
  rw [cell_pIdx]
  have := h m.toNat (by omega)
  rw [show ((m.toNat : Nat) : Int) = m by omega] at this
  simpa using this

theorem long_k (y : Int) (hy : 0 ≤ y) (w : World) : FnP Tryd.prog F_civil_long #[.int .i64 y] w fun v w' => Ext w w' ∧ v = .bool (decide (lng y)) := by
  refine ok_civil_long _ w _ ?_
  intro w0 h0
  refine ⟨h0, ?_⟩
  rw [tm hy, tm hy, tm hy]
  congr 1
  rw [Bool.eq_iff_iff, decide_eq_true_iff (p := lng y)]
  simp only [Bool.or_eq_true, Bool.and_eq_true, decide_eq_true_eq]
  exact Iff.rfl

theorem before_k (y : Int) (hy : 1 ≤ y) (hy2 : y ≤ 100000) (w : World) : FnP Tryd.prog F_civil_before #[.int .i64 y] w fun v w' => Ext w w' ∧ v = .int .i64 (bef y) := by
  refine ok_civil_before _ w _ ?_
  unfold wp_civil_before
  rw [td (by omega), td (by omega), td (by omega)]
  exact ⟨i64 (by omega), i64 (by omega), i64 (by omega), i64 (by omega), i64 (by omega), i64 (by omega), i64 (by omega), i64 (by omega), fun w0 h0 => ⟨h0, rfl⟩⟩

theorem length_k (y m : Int) (hy : 0 ≤ y) (h1 : 1 ≤ m) (h2 : m ≤ 12) (w : World) (hg : Gl w) : FnP Tryd.prog F_civil_length #[.int .i64 y, .int .i64 m] w fun v w' => Ext w w' ∧ v = .int .i64 (ln y m) := by
  refine ok_civil_length _ _ w _ ?_
  have hah : -400 ≤ ah (m + 1) - ah m ∧ ah (m + 1) - ah m ≤ 400 := by
    rcases month h1 h2 with h | h | h | h | h | h | h | h | h | h | h | h <;> subst h <;> simp [ah]
  have main : m ≠ 12 → ¬ (m = 2 ∧ lng y) → ∃ t3 : Int, cell w (pIdx (some (⟨5, 0, none⟩ : Addr)) (m + 1) 1) 0 = some (.int .i64 t3) ∧ (some (⟨5, 0, none⟩ : Addr)) ≠ none ∧ 0 ≤ m ∧ m < 13 ∧ ∃ t4 : Int, cell w (pIdx (some (⟨5, 0, none⟩ : Addr)) m 1) 0 = some (.int .i64 t4) ∧ InR .i64 (t3 - t4) ∧ ∀ w5, Ext w w5 → Ext w w5 ∧ Value.int .i64 (t3 - t4) = .int .i64 (ln y m) := by
    intro h12 h
    refine ⟨_, hg.at (by omega) (by omega), by simp, by omega, by omega, _, hg.at (by omega) (by omega), i64 (by omega), fun w5 h5 => ⟨h5, ?_⟩⟩
    simp [ln, h, h12]
  refine ⟨fun hm => ?_, fun hm => ⟨fun h12 w0 h0 => ⟨h0, ?_⟩, fun h12 => ⟨i64 (by omega), by simp, by omega, by omega, main h12 (by omega)⟩⟩⟩
  · intro w0 h0
    refine (long_k y hy w0).mono fun v w1 ⟨e1, hv⟩ => ⟨e1, _, hv, fun ht w3 h3 => ⟨h3, ?_⟩, fun ht => ⟨fun h12 => by omega, fun h12 => ⟨i64 (by omega), by simp, by omega, by omega, main h12 ?_⟩⟩⟩
    · have : lng y := by simpa using ht
      simp [ln, hm, this]
    · have : ¬ lng y := by simpa using ht
      exact fun h => this h.2
  · simp [ln, h12]

theorem Date_k (n : Int) (hn : InR .i64 n) (w : World) (hg : Gl w) : FnP Tryd.prog F_civil_Date #[.int .i64 n] w fun v w' => Ext w w' ∧ ∃ y m d e, v = .tuple #[.int .i64 y, .int .i64 m, .int .i64 d, .int .i64 e] ∧
    ((0 ≤ n ∧ n ≤ 3652058) → e = 0 ∧ vd y m d ∧ dy y m d = n) ∧ (¬ (0 ≤ n ∧ n ≤ 3652058) → e = 4 ∧ y = 0 ∧ m = 0 ∧ d = 0) := by
  refine ok_civil_Date _ w _ ?_
  refine ⟨fun h w0 h0 => ⟨h0, _, _, _, _, rfl, fun h' => by omega, fun _ => ⟨rfl, rfl, rfl, rfl⟩⟩, fun h => ?_⟩
  have e2 : bef 10000 = 3652059 := by decide
  rw [td (by omega)]
  refine ⟨i64 (by omega), i64 (by omega), fun y w' => Ext w w' ∧ 1 ≤ y ∧ bef y ≤ n, fun y _ => (10000 - y).toNat, ⟨Ext.refl w, by omega, by unfold bef; omega⟩, ?_⟩
  intro y w2 ⟨hw, hy1, hy2⟩
  have hy9 : y ≤ 9999 := by
    by_cases hc : y ≤ 9999
    · exact hc
    · have := bef_mono (show (10000 : Int) ≤ y by omega); omega
  refine ⟨i64 (by omega), fun w3 h3 => ?_⟩
  refine (before_k (y + 1) (by omega) (by omega) w3).mono fun v w4 ⟨e4, hv⟩ => ⟨e4, _, hv, fun hle => ⟨i64 (by omega), ⟨hw, by omega, hle⟩, by simp only []; omega⟩, fun hlt w6 h6 => ?_⟩
  refine (before_k y (by omega) (by omega) w6).mono fun v w7 ⟨e7, hv⟩ => ⟨e7, _, hv, ?_⟩
  have hsucc := bef_succ hy1
  have hb0 := bef_mono hy1
  have e1 : bef 1 = 0 := by decide
  refine ⟨i64 (by omega), fun r m w' => Ext w w' ∧ 1 ≤ m ∧ m ≤ 12 ∧ 0 ≤ r ∧ bef y + ms y m + r = n, fun r m _ => (13 - m).toNat, ⟨hw, by omega, by omega, by omega, by rw [ms_one]; omega⟩, ?_⟩
  intro r m w12 ⟨hw12, hm1, hm2, hr0, hr⟩ w13 h13
  have hg12 := hg.ext hw12
  have hlb := ln_bounds (y := y) hm1 hm2
  have hmb := ms_bounds (y := y) hm1 hm2
  have hif : (if lng y then (1 : Int) else 0) ≤ 1 ∧ 0 ≤ (if lng y then (1 : Int) else 0) := by split <;> omega
  refine (length_k y m (by omega) hm1 hm2 w13 (hg12.ext h13)).mono fun v w14 ⟨e14, hv⟩ => ⟨e14, _, hv, fun hge w16 h16 => ?_, fun hlt' => ⟨i64 (by omega), fun w16 h16 => ⟨hw12.trans h16, _, _, _, _, rfl, fun _ => ⟨rfl, ⟨hy1, hy9, hm1, hm2, by omega, by omega⟩, by unfold dy; omega⟩, fun h' => absurd h h'⟩⟩⟩
  refine (length_k y m (by omega) hm1 hm2 w16 (hg12.ext h16)).mono fun v w17 ⟨e17, hv⟩ => ⟨e17, _, hv, i64 (by omega), i64 (by omega), ?_⟩
  have hm12 : m < 12 := by
    by_cases hc : m < 12
    · exact hc
    · obtain rfl : m = 12 := by omega
      have := ms_last (y := y)
      omega
  have := ms_succ (y := y) hm1 hm12
  exact ⟨⟨hw12, by omega, by omega, by omega, by omega⟩, by simp only []; omega⟩

theorem Weekday_k (n : Int) (hn : InR .i64 n) (w : World) : FnP Tryd.prog F_civil_Weekday #[.int .i64 n] w fun v w' => Ext w w' ∧ ∃ a e, v = .tuple #[.int .i64 a, .int .i64 e] ∧
    ((0 ≤ n ∧ n ≤ 3652058) → e = 0 ∧ a = (n + 1) % 7) ∧ (¬ (0 ≤ n ∧ n ≤ 3652058) → e = 4 ∧ a = 0) := by
  refine ok_civil_Weekday _ w _ ?_
  refine ⟨fun h w0 h0 => ⟨h0, _, _, rfl, fun h' => by omega, fun _ => ⟨rfl, rfl⟩⟩, fun h => ⟨i64 (by omega), fun w0 h0 => ⟨h0, _, _, rfl, fun _ => ⟨rfl, tm (by omega)⟩, fun h' => by omega⟩⟩⟩

end Go.Proofs.YteelndoflikliaaDoor
