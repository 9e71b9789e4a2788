/- The laws of package civil but the text's. -/
import Derived.Test.YtcliejgmehlojaaDoorCiv
set_option linter.unusedVariables false
set_option linter.unusedSimpArgs false
namespace Go.Proofs.YtcliejgmehlojaaDoor
open Go.Sx Go.RowKit

abbrev GL := Gl

theorem laid_ok {W : World} (h : laidMetH Tryd.prog [("shiftbell/civil.ahead", Rows.laid_shiftbell_civil_ahead)] W) : GL W := by
  have key := laid_ints h (by kernel_rfl) (name := "shiftbell/civil.ahead") (k := .i64) (xs := [0, 0, 31, 59, 90, 120, 151, 181, 212, 243, 273, 304, 334]) (by exact List.mem_singleton.2 rfl)
    (g := 0) (t := (Tryd.prog.globals[0]?).elim 0 (·.type)) (e := T_int) (n := 13) (by kernel_rfl) (by kernel_rfl) (by kernel_rfl) (by kernel_rfl) (by kernel_rfl)
  intro i hi
  refine key i _ ?_ hi
  match i, hi with
  | 0, _ | 1, _ | 2, _ | 3, _ | 4, _ | 5, _ | 6, _ | 7, _ | 8, _ | 9, _ | 10, _ | 11, _ | 12, _ => rfl

theorem indexf_k (p : Option Addr) (l c : Nat) (xs : List Int) (hl : xs.length = l) (h63 : l ≤ 1000000) (w : World) (hx : Ints .i64 w p xs) :
    FnP Tryd.prog F_slices_IndexFunc_api_Errno_api_Errno #[.slice p l c, .func (.func 23) #[] #[]] w fun v w' => Ext w w' ∧ ∃ t, v = .int .i64 t ∧ (0 ≤ t ↔ ∃ x ∈ xs, x ≠ 0) := by
  refine ok_slices_IndexFunc_api_Errno_api_Errno p l c _ w _ ?_
  refine ⟨fun k w' => Ext w w' ∧ 0 ≤ k ∧ k ≤ l ∧ ∀ (i : Nat) x, xs[i]? = some x → (i : Int) < k → x = 0, fun k _ => (l - k).toNat, ⟨Ext.refl w, by omega, by omega, fun i x _ h => by omega⟩, ?_⟩
  intro k w2 ⟨hw, hk0, hk1, hz⟩
  refine ⟨fun hlt => ⟨?_, hk0, hlt, _, Ints.idx (hx.ext hw) hk0 (by rw [hl]; exact hlt), fun w4 h4 => ?_⟩, fun hge w3 h3 => ⟨hw.trans h3, _, rfl, ?_⟩⟩
  · exact hx.ne (by intro h; simp at h; subst h; simp at hl; omega)
  · refine ⟨_, _, rfl, (ok_shiftbellkeep_good_1 _ w4 _ (fun w5 h5 => ⟨h5, _, rfl, ?_⟩))⟩
    have hget : xs[k.toNat]? = some (xs.getD k.toNat 0) := by
      have : k.toNat < xs.length := by omega
      simp [this, List.getD_eq_getElem?_getD]
    refine ⟨fun ht w7 h7 => ⟨hw.trans h7, _, rfl, ?_⟩, fun ht => ⟨i64 (by omega), ⟨hw, by omega, by omega, fun i x hi hlt' => ?_⟩, by simp only []; omega⟩⟩
    · exact ⟨fun _ => ⟨_, List.mem_of_getElem? hget, by simpa using ht⟩, fun _ => hk0⟩
    · by_cases h : (i : Int) < k
      · exact hz i x hi h
      · obtain rfl : i = k.toNat := by omega
        rw [hget] at hi
        obtain rfl := Option.some.inj hi
        simpa using ht
  · constructor
    · intro h; omega
    · rintro ⟨x, hm, hne⟩
      obtain ⟨i, hi⟩ := List.mem_iff_getElem?.1 hm
      have := (List.getElem?_eq_some_iff.1 hi).1
      exact absurd (hz i x hi (by omega)) hne

theorem good_k (p : Option Addr) (l c : Nat) (xs : List Int) (hl : xs.length = l) (h63 : l ≤ 1000000) (w : World) (hx : Ints .i64 w p xs) :
    FnP Tryd.prog F_shiftbellkeep_good #[.slice p l c] w fun v w' => Ext w w' ∧ v = .bool (decide (∀ x ∈ xs, x = 0)) := by
  refine ok_shiftbellkeep_good p l c w _ ?_
  intro w0 h0
  refine (ok_slices_ContainsFunc_api_Errno_api_Errno p l c _ w0 _ ?_ : FnP Tryd.prog F_slices_ContainsFunc_api_Errno_api_Errno #[.slice p l c, .func (.func 23) #[] #[]] w0 _)
  intro w1 h1
  refine (indexf_k p l c xs hl h63 w1 ((hx.ext h0).ext h1)).mono fun v w2 ⟨e2, t, hv, ht⟩ => ⟨e2, t, hv, fun w3 h3 => ⟨h3, _, rfl, fun w4 h4 => ⟨h4, ?_⟩⟩⟩
  congr 1
  rw [Bool.eq_iff_iff]
  simp only [Bool.not_eq_true', decide_eq_false_iff_not, decide_eq_true_eq, ht, ne_eq, not_exists, not_and, Classical.not_not]

theorem good_lit {w : World} (xs : List Int) {n : Nat} {parts : List (Nat × Value)} {K : Bool → World → Prop} (hp : parts = partsOf 0 (xs.map (.int .i64))) (hn : n = xs.length) (h0 : 0 < n) (h63 : n ≤ 1000)
    (hk : ∀ w2, Ext w w2 → K (decide (∀ x ∈ xs, x = 0)) w2) :
    ∀ w1, Ext w w1 → Run Tryd.prog (.buildSlice 41 n parts) w1 fun v2 w2 => ∃ q : Option Addr, ∃ m : Nat, ∃ d : Nat, v2 = .slice q m d ∧ ∀ w3, Ext w2 w3 →
      FnP Tryd.prog F_shiftbellkeep_good #[.slice q m d] w3 fun v4 w4 => Ext w3 w4 ∧ ∃ t : Bool, v4 = .bool t ∧ K t w2 := by
  intro w1 e1
  refine run_lit elem_sl_Errno (xs.map (.int .i64)) hp (by simpa using hn) (by intro v hv; simp at hv; obtain ⟨x, _, rfl⟩ := hv; rfl) (by omega) (by omega) fun w2 o2 e2 => ⟨_, _, _, rfl, fun w3 e3 => ?_⟩
  have o3 := ((o2 w1.heap.size (Nat.le_refl _)).ext e3).cells
  have hcs : (List.map (Value.int IntKind.i64) xs).flatMap (fun v => v.cells.toList) = xs.map (.int .i64) := by
    clear hp hn h0 hk o2 o3
    induction xs with
    | nil => rfl
    | cons a r ih => simp only [List.map_cons, List.flatMap_cons, ih]; rfl
  rw [hcs] at o3
  exact (good_k _ n n xs hn.symm (by omega) w3 o3).mono fun v w4 ⟨h4, hv⟩ => ⟨h4, _, hv, hk w2 (e1.trans e2)⟩

def kk (y m a : Int) : Int := 12 * y + m - 1 + a
def addv (y m d a : Int) : Int := dy (kk y m a / 12) (kk y m a % 12 + 1) (min d (ln (kk y m a / 12) (kk y m a % 12 + 1)))

theorem Add_k (n a : Int) (hn : InR .i64 n) (ha : InR .i64 a) (w : World) (hg : Gl w) : FnP Tryd.prog F_civil_Add #[.int .i64 n, .int .i64 a] w fun v w' => Ext w w' ∧ ∃ p e, v = .tuple #[.int .i64 p, .int .i64 e] ∧
    (¬ (0 ≤ n ∧ n ≤ 3652058) → e = 4 ∧ p = 0) ∧ ((0 ≤ n ∧ n ≤ 3652058) → ¬ (-120000 ≤ a ∧ a ≤ 120000) → e = 1 ∧ p = 0) ∧
    ((0 ≤ n ∧ n ≤ 3652058) → (-120000 ≤ a ∧ a ≤ 120000) → ∃ y m d, vd y m d ∧ dy y m d = n ∧
      ((12 ≤ kk y m a ∧ kk y m a < 120000) → e = 0 ∧ vd (kk y m a / 12) (kk y m a % 12 + 1) (min d (ln (kk y m a / 12) (kk y m a % 12 + 1))) ∧ p = addv y m d a) ∧ (¬ (12 ≤ kk y m a ∧ kk y m a < 120000) → e = 4 ∧ p = 0)) := by
  refine ok_civil_Add _ _ w _ ?_
  intro w0 h0
  refine (Date_k n hn w0 (hg.ext h0)).mono fun v w1 ⟨e1, y, m, d, e, hv, ho, hno⟩ => ⟨e1, y, m, d, e, hv, fun hne w6 h6 => ⟨h6, _, _, rfl, ?_⟩, fun he => ?_⟩
  · by_cases hr : 0 ≤ n ∧ n ≤ 3652058
    · exact absurd (ho hr).1 hne
    · exact ⟨fun _ => ⟨(hno hr).1, rfl⟩, fun h => absurd h hr, fun h => absurd h hr⟩
  · have hr : 0 ≤ n ∧ n ≤ 3652058 := by
      by_cases hr : 0 ≤ n ∧ n ≤ 3652058
      · exact hr
      · have := (hno hr).1; omega
    obtain ⟨_, hvd, hdy⟩ := ho hr
    have hvd' := hvd
    obtain ⟨g1, g2, g3, g4, g5, g6⟩ := hvd'
    refine ⟨fun ham w6 h6 => ⟨h6, _, _, rfl, fun h => absurd hr h, fun _ _ => ⟨rfl, rfl⟩, fun _ h => by omega⟩, fun ham => ?_⟩
    have hk : m + (12 * y - 1 + a) = kk y m a := by unfold kk; omega
    rw [hk]
    have hkr : -200000 ≤ kk y m a ∧ kk y m a ≤ 300000 := by unfold kk; omega
    have hks : (kk y m a).tdiv 12 < 1 ∨ 0 ≤ kk y m a := by
      by_cases h : 0 ≤ kk y m a
      · exact .inr h
      · left
        have h2 : (kk y m a).tdiv 12 ≤ 0 := by
          have := Int.neg_tdiv (a := -(kk y m a)) (b := 12)
          rw [Int.neg_neg] at this
          rw [this, td (by omega)]; omega
        omega
    have hb1 : -20000 ≤ (kk y m a).tdiv 12 ∧ (kk y m a).tdiv 12 ≤ 30000 := by
      by_cases h : 0 ≤ kk y m a
      · rw [td h]; omega
      · have := Int.neg_tdiv (a := -(kk y m a)) (b := 12)
        rw [Int.neg_neg] at this
        rw [this, td (by omega)]; omega
    have hb2 : -12 < (kk y m a).tmod 12 ∧ (kk y m a).tmod 12 < 12 := by
      by_cases h : 0 ≤ kk y m a
      · rw [tm h]; omega
      · have := Int.neg_tmod (a := -(kk y m a)) (b := 12)
        rw [Int.neg_neg] at this
        rw [this, tm (by omega)]; omega
    refine ⟨i64 (by omega), i64 (by omega), i64 (by omega), i64 (by omega), i64 (by omega), i64 (by omega), fun hbad w6 h6 => ⟨h6, _, _, rfl, fun h => absurd hr h, fun _ h => by omega, fun _ _ => ⟨y, m, d, hvd, hdy, fun hin => ?_, fun _ => ⟨rfl, rfl⟩⟩⟩, fun hgood w6 h6 => ?_⟩
    · rw [td (by omega), tm (by omega)] at hbad; omega
    · have hk0 : 0 ≤ kk y m a := by omega
      rw [td hk0, tm hk0] at hgood ⊢
      refine (length_k _ _ (by omega) (by omega) (by omega) w6 (hg.ext h6)).mono fun v w7 ⟨e7, hv⟩ => ⟨e7, _, hv, fun w9 h9 => ?_⟩
      have hlb := ln_bounds (y := kk y m a / 12) (m := kk y m a % 12 + 1) (by omega) (by omega)
      refine (Days_k _ _ _ (i64 (by omega)) w9 (hg.ext h9)).mono fun v w10 ⟨e10, p, e', hv, ho', hno'⟩ => ⟨e10, p, e', hv, fun w13 h13 => ⟨h13, _, _, rfl, fun h => absurd hr h, fun _ h => by omega, fun _ _ => ⟨y, m, d, hvd, hdy, fun hin => ?_, fun hout => by omega⟩⟩⟩
      have hvd2 : vd (kk y m a / 12) (kk y m a % 12 + 1) (min d (ln (kk y m a / 12) (kk y m a % 12 + 1))) := ⟨by omega, by omega, by omega, by omega, by omega, by omega⟩
      obtain ⟨q1, q2⟩ := ho' hvd2
      exact ⟨q1, hvd2, q2⟩

theorem core_CivilBack (W : World) (hg : GL W) : ∀ n : Int, InR .i64 n → ∀ y : Int, InR .i64 y → ∀ m : Int, InR .i64 m → ∀ d : Int, InR .i64 d →
    FnP Tryd.prog F_shiftbellkeep_CivilBack #[.int .i64 n, .int .i64 y, .int .i64 m, .int .i64 d] W fun v W' => v = .bool true ∧ Ext W W' := by
  intro n hn y hy m hm d hd
  refine ok_shiftbellkeep_CivilBack _ _ _ _ W _ ?_
  intro w0 h0
  have tail : ∀ w9, Ext W w9 → FnP Tryd.prog F_civil_Days #[(.int .i64 y), (.int .i64 m), (.int .i64 d)] w9 fun v10 w10 =>
        Ext w9 w10 ∧
        ∃ t11 : Int, ∃ t12 : Int, v10 = (.tuple #[(.int .i64 t11), (.int .i64 t12)]) ∧
        ((t12 ≠ 0) →
         ∀ w13, Ext W w13 →
         Value.bool (decide (t11 = 0)) = .bool true ∧ Ext W w13) ∧
        ((t12 = 0) →
         ∀ w13, Ext W w13 →
         FnP Tryd.prog F_civil_Date #[(.int .i64 t11)] w13 fun v14 w14 =>
          Ext w13 w14 ∧
          ∃ t15 : Int, ∃ t16 : Int, ∃ t17 : Int, ∃ t18 : Int, v14 = (.tuple #[(.int .i64 t15), (.int .i64 t16), (.int .i64 t17), (.int .i64 t18)]) ∧
          ∀ w19, Ext W w19 →
          Value.bool ((((decide (t18 = 0)) && (decide (t15 = y))) && (decide (t16 = m))) && (decide (t17 = d))) = .bool true ∧ Ext W w19) := by
    intro w9 h9
    refine (Days_k y m d hd w9 (hg.ext h9)).mono fun v w10 ⟨e10, k, f, hv, ho, hno⟩ => ⟨e10, k, f, hv, fun hf w13 h13 => ⟨?_, h13⟩, fun hf w13 h13 => ?_⟩
    · by_cases hvd : vd y m d
      · exact absurd (ho hvd).1 hf
      · simp [(hno hvd).2]
    · have hvd : vd y m d := by
        by_cases hvd : vd y m d
        · exact hvd
        · have := (hno hvd).1; omega
      have hk := (ho hvd).2
      have hmx := dy_max hvd
      refine (Date_k k (i64 (by omega)) w13 (hg.ext h13)).mono fun v w14 ⟨e14, a, b, c, g, hv, ho', _⟩ => ⟨e14, a, b, c, g, hv, fun w19 h19 => ⟨?_, h19⟩⟩
      obtain ⟨r1, r2, r3⟩ := ho' (by omega)
      obtain ⟨rfl, rfl, rfl⟩ := dy_inj r2 hvd (by omega)
      simp [r1]
  refine (days_k w0 (hg.ext h0)).mono fun v w1 ⟨e1, hv⟩ => ⟨e1, true, hv, fun h => by simp at h, fun _ w3 h3 => ?_⟩
  refine (Date_k n hn w3 (hg.ext h3)).mono fun v w4 ⟨e4, p, q, r, e, hv, ho, hno⟩ => ⟨e4, p, q, r, e, hv, fun he w9 h9 => ?_, fun he => ⟨fun hr w9 h9 => ?_, fun hr w9 h9 => tail w9 h9⟩⟩
  · have hr : 0 ≤ n ∧ n ≤ 3652058 := by
      by_cases hr : 0 ≤ n ∧ n ≤ 3652058
      · exact hr
      · have := (hno hr).1; omega
    obtain ⟨_, r2, r3⟩ := ho hr
    have hlb := ln_bounds (y := p) r2.2.2.1 r2.2.2.2.1
    have h56 := r2.2.2.2.2
    refine (Days_k p q r (i64 (by omega)) w9 (hg.ext h9)).mono fun v w10 ⟨e10, k, f, hv, ho', _⟩ => ⟨e10, k, f, hv, fun hbad w13 h13 => ?_, fun _ w13 h13 => tail w13 h13⟩
    have := ho' r2
    omega
  · exact absurd (ho hr).1 he

theorem zq1 (x : Int) : x % 100 / 4 = x / 4 - 25 * (x / 100) := by omega
theorem zq2 (x : Int) : x / 100 / 4 = x / 400 := by omega
theorem zel1 {y m d : Int} (g3 : 1 ≤ m) (hm : m < 3) : (d + 13 * (m + 12 + 1) / 5 + (y - 1) % 100 + (y - 1) % 100 / 4 + (y - 1) / 100 / 4 + 5 * ((y - 1) / 100) + 6) % 7 = (dy y m d + 1) % 7 := by
  rw [zq1, zq2]
  by_cases h2 : m = 2
  · subst h2
    have : ms y 2 = 31 := by simp [ms, ah]
    unfold dy bef; rw [this]; omega
  · obtain rfl : m = 1 := by omega
    have : ms y 1 = 0 := by simp [ms, ah]
    unfold dy bef; rw [this]; omega

theorem zelk {y d c r : Int} (g1 : 1 ≤ y) (hc : ∃ l : Int, c = l + (if lng y then 1 else 0) ∧ (r - l) % 7 = 0) : (d + r + y % 100 + y % 100 / 4 + y / 100 / 4 + 5 * (y / 100) + 6) % 7 = (bef y + c + d - 1 + 1) % 7 := by
  obtain ⟨l, rfl, hl⟩ := hc
  rw [zq1, zq2]
  have hs := bef_succ g1
  have hb : bef (y + 1) = 365 * y + y / 4 - y / 100 + y / 400 := by unfold bef; omega
  generalize (if lng y then (1 : Int) else 0) = z at hs ⊢
  omega

theorem zel2 {y m d : Int} (g1 : 1 ≤ y) (hm : 3 ≤ m) (g4 : m ≤ 12) : (d + 13 * (m + 1) / 5 + y % 100 + y % 100 / 4 + y / 100 / 4 + 5 * (y / 100) + 6) % 7 = (dy y m d + 1) % 7 := by
  unfold dy
  refine zelk g1 ⟨ah m, ?_, ?_⟩
  · have : 2 < m := by omega
    simp only [ms, this, true_and]
  · rcases month (show 1 ≤ m by omega) g4 with h | h | h | h | h | h | h | h | h | h | h | h <;> subst h <;> first | omega | (simp [ah])

theorem core_CivilWeek (W : World) (hg : GL W) : ∀ n : Int, InR .i64 n →
    FnP Tryd.prog F_shiftbellkeep_CivilWeek #[.int .i64 n] W fun v W' => v = .bool true ∧ Ext W W' := by
  intro n hn
  refine ok_shiftbellkeep_CivilWeek _ W _ ?_
  intro w0 h0
  refine (days_k w0 (hg.ext h0)).mono fun v w1 ⟨e1, hv⟩ => ⟨e1, true, hv, fun h => by simp at h, fun _ w3 h3 => ?_⟩
  refine (Weekday_k n hn w3).mono fun v w4 ⟨e4, wd, e, hv, ho, hno⟩ => ⟨e4, wd, e, hv, fun w7 h7 => ?_⟩
  refine (Date_k n hn w7 (hg.ext h7)).mono fun v w8 ⟨e8, y, m, d, f, hv, ho', hno'⟩ => ⟨e8, y, m, d, f, hv, fun hb w13 h13 => ⟨?_, h13⟩, fun hb => ?_⟩
  · by_cases hr : 0 ≤ n ∧ n ≤ 3652058
    · have := (ho hr).1; have := (ho' hr).1; omega
    · simp [(hno hr).1, (hno hr).2, (hno' hr).1]
  · have hr : 0 ≤ n ∧ n ≤ 3652058 := by
      by_cases hr : 0 ≤ n ∧ n ≤ 3652058
      · exact hr
      · have := (hno hr).1; omega
    have hwd := (ho hr).2
    obtain ⟨_, hvd, hdy⟩ := ho' hr
    have hlb := ln_bounds (y := y) hvd.2.2.1 hvd.2.2.2.1
    obtain ⟨g1, g2, g3, g4, g5, g6⟩ := hvd
    refine ⟨fun hm => ?_, fun hm => ?_⟩
    · rw [td (show 0 ≤ y - 1 by omega), tm (show 0 ≤ y - 1 by omega), td (show (0 : Int) ≤ (y - 1) % 100 by omega), td (show (0 : Int) ≤ (y - 1) / 100 by omega), td (show 0 ≤ 13 * (m + 12 + 1) by omega)]
      refine ⟨i64 (by omega), i64 (by omega), i64 (by omega), i64 (by omega), i64 (by omega), i64 (by omega), i64 (by omega), i64 (by omega), i64 (by omega), i64 (by omega), i64 (by omega), i64 (by omega), i64 (by omega), i64 (by omega), i64 (by omega), fun w13 h13 => ⟨?_, h13⟩⟩
      rw [tm (by omega)]
      congr 1
      rw [decide_eq_true_iff]
      rw [hwd, ← hdy]
      exact zel1 g3 hm
    · rw [td (show 0 ≤ y by omega), tm (show 0 ≤ y by omega), td (show (0 : Int) ≤ y % 100 by omega), td (show (0 : Int) ≤ y / 100 by omega), td (show 0 ≤ 13 * (m + 1) by omega)]
      refine ⟨i64 (by omega), i64 (by omega), i64 (by omega), i64 (by omega), i64 (by omega), i64 (by omega), i64 (by omega), i64 (by omega), i64 (by omega), i64 (by omega), i64 (by omega), i64 (by omega), i64 (by omega), fun w13 h13 => ⟨?_, h13⟩⟩
      rw [tm (by omega)]
      congr 1
      rw [decide_eq_true_iff]
      rw [hwd, ← hdy]
      exact zel2 g1 (by omega) g4

theorem wrap64 {x : Int} (h : -9223372036854775808 ≤ x ∧ x ≤ 9223372036854775807) : IntKind.wrap .i64 x = x := by
  simp [IntKind.wrap, IntKind.signed, IntKind.bits]; omega
theorem wrap_in (x : Int) : InR .i64 (IntKind.wrap .i64 x) := by
  constructor <;> simp [IntKind.wrap, IntKind.signed, IntKind.bits, IntKind.min, IntKind.max] <;> omega
/-- The day behind a day. -/
theorem next_day {y m d : Int} (h : vd y m d) (hn : dy y m d < 3652058) : (d < ln y m → vd y m (d + 1) ∧ dy y m (d + 1) = dy y m d + 1) ∧
    (¬ d < ln y m → m < 12 → vd y (m + 1) 1 ∧ dy y (m + 1) 1 = dy y m d + 1) ∧ (¬ d < ln y m → ¬ m < 12 → vd (y + 1) 1 1 ∧ dy (y + 1) 1 1 = dy y m d + 1) := by
  obtain ⟨h1, h2, h3, h4, h5, h6⟩ := h
  refine ⟨fun hl => ⟨⟨h1, h2, h3, h4, by omega, by omega⟩, by unfold dy; omega⟩, fun hl hm => ⟨⟨h1, h2, by omega, by omega, by omega, ?_⟩, ?_⟩, fun hl hm => ?_⟩
  · have := (ln_bounds (y := y) (m := m + 1) (by omega) (by omega)).1; omega
  · have := ms_succ (y := y) h3 hm; unfold dy; omega
  · obtain rfl : m = 12 := by omega
    have e := ms_last (y := y)
    have e2 := bef_succ h1
    have e3 : dy (y + 1) 1 1 = dy y 12 d + 1 := by unfold dy; rw [ms_one]; omega
    refine ⟨⟨by omega, ?_, by omega, by omega, by omega, ?_⟩, e3⟩
    · by_cases hy : y = 9999
      · subst hy
        have : bef 10000 = 3652059 := by decide
        unfold dy at e3 hn; rw [ms_one] at e3
        have : bef (9999 + 1) = bef 10000 := rfl
        omega
      · omega
    · have := (ln_bounds (y := y + 1) (m := 1) (by omega) (by omega)).1; omega

theorem core_CivilNext (W : World) (hg : GL W) : ∀ n : Int, InR .i64 n →
    FnP Tryd.prog F_shiftbellkeep_CivilNext #[.int .i64 n] W fun v W' => v = .bool true ∧ Ext W W' := by
  intro n hn
  have hn' := of64 hn
  refine ok_shiftbellkeep_CivilNext _ W _ ?_
  intro w0 h0
  refine (days_k w0 (hg.ext h0)).mono fun v w1 ⟨e1, hv⟩ => ⟨e1, true, hv, fun h => by simp at h, fun _ w3 h3 => ?_⟩
  refine (Date_k n hn w3 (hg.ext h3)).mono fun v w4 ⟨e4, y, m, d, e, hv, ho, hno⟩ => ⟨e4, y, m, d, e, hv, fun w9 h9 => ?_⟩
  refine (Date_k _ (wrap_in (n + 1)) w9 (hg.ext h9)).mono fun v w10 ⟨e10, p, q, r, f, hv, ho', hno'⟩ => ⟨e10, p, q, r, f, hv, fun hb w15 h15 => ⟨?_, h15⟩, fun hb w15 h15 => ?_⟩
  · congr 1
    simp only [Bool.or_eq_true, Bool.and_eq_true, decide_eq_true_eq]
    by_cases h : n < 0
    · exact .inl (.inl ⟨h, (hno (by omega)).1⟩)
    · by_cases h' : n = 3652058
      · refine .inl (.inr ⟨⟨h', (ho (by omega)).1⟩, (hno' ?_).1⟩)
        rw [wrap64 (by omega)]; omega
      · exact .inr ⟨by omega, (hno (by omega)).1⟩
  · rw [wrap64 (by omega)] at ho' hno'
    obtain ⟨rfl, hvd, hdy⟩ := ho (by omega)
    obtain ⟨rfl, hvd', hdy'⟩ := ho' (by omega)
    refine (Length_k y m w15 (hg.ext h15)).mono fun v w16 ⟨e16, l, g, hv, hl, _⟩ => ⟨e16, l, g, hv, ?_⟩
    obtain ⟨rfl, rfl⟩ := hl ⟨hvd.1, hvd.2.1, hvd.2.2.1, hvd.2.2.2.1⟩
    obtain ⟨n1, n2, n3⟩ := next_day hvd (by omega)
    have hlb := ln_bounds (y := y) hvd.2.2.1 hvd.2.2.2.1
    have hvd0 := hvd
    obtain ⟨g1, g2, g3, g4, g5, g6⟩ := hvd0
    refine good_lit [0, 0, 0] rfl rfl (by omega) (by omega) fun w20 h20 => ⟨fun h => by simp at h, fun _ => ⟨fun hlt => ⟨fun _ => i64 (by omega), fun w27 h27 => ⟨?_, h20.trans h27⟩⟩, fun hge => ⟨fun _ _ => i64 (by omega), fun _ _ _ => i64 (by omega), fun w27 h27 => ⟨?_, h20.trans h27⟩⟩⟩⟩
    · obtain ⟨v1, v2⟩ := n1 hlt
      obtain ⟨rfl, rfl, rfl⟩ := dy_inj hvd' v1 (by omega)
      simp
    · by_cases hm : m < 12
      · obtain ⟨v1, v2⟩ := n2 (by omega) hm
        obtain ⟨rfl, rfl, rfl⟩ := dy_inj hvd' v1 (by omega)
        simp [hm]
      · obtain ⟨v1, v2⟩ := n3 (by omega) hm
        obtain ⟨rfl, rfl, rfl⟩ := dy_inj hvd' v1 (by omega)
        have : m = 12 := by omega
        simp [this]

theorem lng400 (y : Int) : lng (y + 400) ↔ lng y := by unfold lng; omega
theorem core_CivilYears (W : World) (hg : GL W) : ∀ n : Int, InR .i64 n →
    FnP Tryd.prog F_shiftbellkeep_CivilYears #[.int .i64 n] W fun v W' => v = .bool true ∧ Ext W W' := by
  intro n hn
  have hn' := of64 hn
  refine ok_shiftbellkeep_CivilYears _ W _ ?_
  intro w0 h0
  refine (days_k w0 (hg.ext h0)).mono fun v w1 ⟨e1, hv⟩ => ⟨e1, true, hv, fun h => by simp at h, fun _ w3 h3 => ?_⟩
  refine (Date_k n hn w3 (hg.ext h3)).mono fun v w4 ⟨e4, y, m, d, e, hv, ho, hno⟩ => ⟨e4, y, m, d, e, hv, fun w9 h9 => ?_⟩
  refine (Date_k _ (wrap_in (n + 146097)) w9 (hg.ext h9)).mono fun v w10 ⟨e10, p, q, r, f, hv, ho', hno'⟩ => ⟨e10, p, q, r, f, hv, fun hb w15 h15 => ⟨rfl, h15⟩, fun hb w15 h15 => ?_⟩
  rw [wrap64 (by omega)] at ho' hno'
  obtain ⟨rfl, hvd, hdy⟩ := ho (by omega)
  obtain ⟨rfl, hvd', hdy'⟩ := ho' (by omega)
  refine (Weekday_k n hn w15).mono fun v w16 ⟨e16, a, e, hv, ha, _⟩ => ⟨e16, a, e, hv, i64 (by omega), fun w19 h19 => ?_⟩
  refine (Weekday_k (n + 146097) (i64 (by omega)) w19).mono fun v w20 ⟨e20, b, f, hv, hb', _⟩ => ⟨e20, b, f, hv, ?_⟩
  obtain ⟨rfl, rfl⟩ := ha (by omega)
  obtain ⟨rfl, rfl⟩ := hb' (by omega)
  have hbef : bef (y + 400) = bef y + 146097 := by unfold bef; omega
  have hms : ms (y + 400) m = ms y m := by unfold ms; simp [lng400]
  have hln : ln (y + 400) m = ln y m := by unfold ln; simp [lng400]
  obtain ⟨g1, g2, g3, g4, g5, g6⟩ := hvd
  have hy : y + 400 ≤ 9999 := by
    by_cases h : y + 400 ≤ 9999
    · exact h
    · have := bef_mono (show (10000 : Int) ≤ y + 400 by omega)
      have e1 : bef 10000 = 3652059 := by decide
      have := (ms_bounds (y := y) g3 g4).1
      unfold dy at hdy; omega
  have hv2 : vd (y + 400) m d := ⟨by omega, hy, g3, g4, g5, by rw [hln]; exact g6⟩
  obtain ⟨rfl, rfl, rfl⟩ := dy_inj hvd' hv2 (by unfold dy at hdy hdy' ⊢; rw [hms, hbef]; omega)
  refine good_lit [0, 0, 0, 0] rfl rfl (by omega) (by omega) fun w24 h24 => ⟨fun _ => i64 (by omega), fun w31 h31 => ⟨?_, h24.trans h31⟩⟩
  congr 1
  simp only [Bool.and_eq_true, decide_eq_true_eq]
  refine ⟨⟨⟨⟨by simp, ?_⟩, ?_⟩, ?_⟩, by omega⟩ <;> trivial

theorem core_CivilMonths (W : World) (hg : GL W) : ∀ n : Int, InR .i64 n → ∀ a : Int, InR .i64 a → ∀ b : Int, InR .i64 b →
    FnP Tryd.prog F_shiftbellkeep_CivilMonths #[.int .i64 n, .int .i64 a, .int .i64 b] W fun v W' => v = .bool true ∧ Ext W W' := by
  intro n hn a ha b hb
  refine ok_shiftbellkeep_CivilMonths _ _ _ W _ ?_
  intro w0 h0
  refine (days_k w0 (hg.ext h0)).mono fun v w1 ⟨e1, hv⟩ => ⟨e1, true, hv, fun h => by simp at h, fun _ w3 h3 => ?_⟩
  refine (Date_k n hn w3 (hg.ext h3)).mono fun v w4 ⟨e4, y, m, d, e, hv, ho, hno⟩ => ⟨e4, y, m, d, e, hv, fun _ => i64 (by omega), fun _ => i64 (by omega), fun _ w9 h9 => ⟨rfl, h9⟩, fun hc w9 h9 => ?_⟩
  have hr : 0 ≤ n ∧ n ≤ 3652058 := by
    by_cases hr : 0 ≤ n ∧ n ≤ 3652058
    · exact hr
    · have := (hno hr).1; omega
  obtain ⟨_, hvd, hdy⟩ := ho hr
  have small : ∀ k : Int, 12 ≤ k → min d (ln (k / 12) (k % 12 + 1)) = d := by
    intro k hk
    have := (ln_bounds (y := k / 12) (m := k % 12 + 1) (by omega) (by omega)).1
    omega
  refine (Add_k n a hn ha w9 (hg.ext h9)).mono fun v w10 ⟨e10, p, f, hv, _, _, hp⟩ => ⟨e10, p, f, hv, fun hf w13 h13 => ⟨?_, h13⟩, fun hf w13 h13 => ?_⟩
  · obtain ⟨y', m', d', v1, v2, v3, v4⟩ := hp hr (by omega)
    by_cases hk : 12 ≤ kk y' m' a ∧ kk y' m' a < 120000
    · exact absurd (v3 hk).1 hf
    · simp [(v4 hk).2]
  · obtain ⟨y', m', d', v1, v2, v3, v4⟩ := hp hr (by omega)
    obtain ⟨rfl, rfl, rfl⟩ := dy_inj v1 hvd (by omega)
    have hk : 12 ≤ kk y' m' a ∧ kk y' m' a < 120000 := by
      by_cases hk : 12 ≤ kk y' m' a ∧ kk y' m' a < 120000
      · exact hk
      · have := (v4 hk).1; omega
    obtain ⟨_, u1, u2⟩ := v3 hk
    unfold addv at u2
    rw [small _ hk.1] at u1 u2
    have hpm := dy_max u1
    have hkk : ∀ c, kk (kk y' m' a / 12) (kk y' m' a % 12 + 1) c = kk y' m' (a + c) := by intro c; unfold kk; omega
    refine (Add_k p b (i64 (by omega)) hb w13 (hg.ext h13)).mono fun v w14 ⟨e14, q, g, hv, _, _, hq⟩ => ⟨e14, q, g, hv, i64 (by omega), fun w17 h17 => ?_⟩
    refine (Add_k n (a + b) hn (i64 (by omega)) w17 (hg.ext h17)).mono fun v w18 ⟨e18, r, h, hv, _, _, hr'⟩ => ⟨e18, r, h, hv, i64 (by omega), fun w21 h21 => ?_⟩
    refine (Add_k p (0 - a) (i64 (by omega)) (i64 (by omega)) w21 (hg.ext h21)).mono fun v w22 ⟨e22, s, i, hv, _, _, hs⟩ => ⟨e22, s, i, hv, fun w25 h25 => ⟨?_, h25⟩⟩
    obtain ⟨y1, m1, d1, x1, x2, x3, x4⟩ := hq (by omega) (by omega)
    obtain ⟨rfl, rfl, rfl⟩ := dy_inj x1 u1 (by omega)
    obtain ⟨y2, m2, d2, z1, z2, z3, z4⟩ := hr' hr (by omega)
    obtain ⟨rfl, rfl, rfl⟩ := dy_inj z1 hvd (by omega)
    obtain ⟨y3, m3, d3, t1, t2, t3, t4⟩ := hs (by omega) (by omega)
    obtain ⟨rfl, rfl, rfl⟩ := dy_inj t1 u1 (by omega)
    rw [hkk] at x3 x4 t3 t4
    have hsame : q = r ∧ g = h := by
      by_cases hk2 : 12 ≤ kk y2 m2 (a + b) ∧ kk y2 m2 (a + b) < 120000
      · obtain ⟨c1, _, c2⟩ := x3 hk2
        obtain ⟨c3, _, c4⟩ := z3 hk2
        unfold addv at c2 c4
        rw [hkk] at c2
        exact ⟨by rw [c2, c4], by omega⟩
      · obtain ⟨c1, c2⟩ := x4 hk2
        obtain ⟨c3, c4⟩ := z4 hk2
        exact ⟨by omega, by omega⟩
    obtain ⟨y4, g2, g3, g4, g5, g6⟩ := hvd
    have hk0 : kk y2 m2 (a + (0 - a)) = 12 * y2 + m2 - 1 := by unfold kk; omega
    have hback : s = n ∧ i = 0 := by
      obtain ⟨c1, _, c2⟩ := t3 (by rw [hk0]; omega)
      unfold addv at c2
      rw [hkk, hk0] at c2
      rw [small _ (by omega)] at c2
      rw [show (12 * y2 + m2 - 1) / 12 = y2 by omega, show (12 * y2 + m2 - 1) % 12 + 1 = m2 by omega] at c2
      exact ⟨by omega, c1⟩
    congr 1
    simp only [Bool.and_eq_true, decide_eq_true_eq]
    exact ⟨⟨⟨hsame.1, hsame.2⟩, hback.2⟩, hback.1⟩

theorem core_CivilCut (W : World) (hg : GL W) : ∀ n : Int, InR .i64 n →
    FnP Tryd.prog F_shiftbellkeep_CivilCut #[.int .i64 n] W fun v W' => v = .bool true ∧ Ext W W' := by
  intro n hn
  refine ok_shiftbellkeep_CivilCut _ W _ ?_
  intro w0 h0
  refine (days_k w0 (hg.ext h0)).mono fun v w1 ⟨e1, hv⟩ => ⟨e1, true, hv, fun h => by simp at h, fun _ w3 h3 => ?_⟩
  refine (Date_k n hn w3 (hg.ext h3)).mono fun v w4 ⟨e4, y, m, d, e, hv, ho, hno⟩ => ⟨e4, y, m, d, e, hv, fun w9 h9 => ?_⟩
  refine (Add_k n 1 hn (i64 (by omega)) w9 (hg.ext h9)).mono fun v w10 ⟨e10, p, f, hv, hp1, _, hp⟩ => ⟨e10, p, f, hv, fun hf w13 h13 => ⟨?_, h13⟩, fun hf w13 h13 => ?_⟩
  · by_cases hr : 0 ≤ n ∧ n ≤ 3652058
    · obtain ⟨y', m', d', v1, v2, v3, v4⟩ := hp hr (by omega)
      by_cases hk : 12 ≤ kk y' m' 1 ∧ kk y' m' 1 < 120000
      · have := (v3 hk).1; have := (ho hr).1; omega
      · simp [(v4 hk).2]
    · simp [(hp1 hr).2]
  · have hr : 0 ≤ n ∧ n ≤ 3652058 := by
      by_cases hr : 0 ≤ n ∧ n ≤ 3652058
      · exact hr
      · have := (hno hr).1; omega
    obtain ⟨_, hvd, hdy⟩ := ho hr
    obtain ⟨y', m', d', v1, v2, v3, v4⟩ := hp hr (by omega)
    obtain ⟨rfl, rfl, rfl⟩ := dy_inj v1 hvd (by omega)
    have hk : 12 ≤ kk y' m' 1 ∧ kk y' m' 1 < 120000 := by
      by_cases hk : 12 ≤ kk y' m' 1 ∧ kk y' m' 1 < 120000
      · exact hk
      · have := (v4 hk).1; omega
    obtain ⟨_, u1, u2⟩ := v3 hk
    have hpm := dy_max u1
    unfold addv at u2
    refine (Date_k p (i64 (by omega)) w13 (hg.ext h13)).mono fun v w14 ⟨e14, a, b, c, g, hv, ho', _⟩ => ⟨e14, a, b, c, g, hv, fun w19 h19 => ?_⟩
    obtain ⟨rfl, x1, x2⟩ := ho' (by omega)
    obtain ⟨rfl, rfl, hcd⟩ := dy_inj x1 u1 (by omega)
    refine (Length_k _ _ w19 (hg.ext h19)).mono fun v w20 ⟨e20, l, h, hv, hl, _⟩ => ⟨e20, l, h, hv, ?_⟩
    obtain ⟨rfl, rfl⟩ := hl ⟨u1.1, u1.2.1, u1.2.2.1, u1.2.2.2.1⟩
    obtain ⟨g1, g2, g3, g4, g5, g6⟩ := hvd
    have hkv : kk y' m' 1 = 12 * y' + m' := by unfold kk; omega
    refine good_lit [0, 0] rfl rfl (by omega) (by omega) fun w24 h24 => ⟨fun _ => i64 (by omega), fun _ => i64 (by omega), fun _ => i64 (by omega), fun _ => i64 (by omega), fun _ => i64 (by omega), fun w31 h31 => ⟨?_, h24.trans h31⟩⟩
    congr 1
    simp only [Bool.and_eq_true, decide_eq_true_eq]
    refine ⟨⟨⟨by simp, by rw [hkv]; omega⟩, hcd⟩, ?_⟩
    -- later than the day
    rw [u2, ← hdy, hkv]
    have hlb := ln_bounds (y := (12 * y' + m') / 12) (m := (12 * y' + m') % 12 + 1) (by omega) (by omega)
    by_cases hm : m' < 12
    · rw [show (12 * y' + m') / 12 = y' by omega, show (12 * y' + m') % 12 + 1 = m' + 1 by omega] at hlb ⊢
      have := ms_succ (y := y') g3 hm
      unfold dy; omega
    · obtain rfl : m' = 12 := by omega
      rw [show (12 * y' + 12) / 12 = y' + 1 by omega, show (12 * y' + 12) % 12 + 1 = (1 : Int) by omega] at hlb ⊢
      have e := ms_last (y := y')
      have e2 := bef_succ g1
      unfold dy
      rw [ms_one]; omega
end Go.Proofs.YtcliejgmehlojaaDoor
