/- The laws CronLeast, CronNow, CronAgain. -/
import Derived.Test.YthhpepdchbdaoaaDoorCrA
set_option linter.unusedVariables false
set_option linter.unusedSimpArgs false
namespace Go.Proofs.YthhpepdchbdaoaaDoor
open Go.Sx Go.RowKit

theorem cr_of {c0 c1 c2 c3 c4 : Int} (h0 : InR .u64 c0) (h1 : InR .u64 c1) (h2 : InR .u64 c2) (h3 : InR .u64 c3) (h4 : InR .u64 c4) : ∃ x : Cr, x.a = c0 ∧ x.b = c1 ∧ x.c = c2 ∧ x.d = c3 ∧ x.e = c4 ∧ CrU x := ⟨⟨c0, c1, c2, c3, c4⟩, rfl, rfl, rfl, rfl, rfl, h0, h1, h2, h3, h4⟩

theorem core_CronLeast (W : World) (hg : GL W) : ∀ c_0 : Int, InR .u64 c_0 → ∀ c_1 : Int, InR .u64 c_1 → ∀ c_2 : Int, InR .u64 c_2 → ∀ c_3 : Int, InR .u64 c_3 → ∀ c_4 : Int, InR .u64 c_4 → ∀ t : Int, InR .i64 t → ∀ u : Int, InR .i64 u →
    FnP Tryd.prog F_shiftbellkeep_CronLeast #[(.agg #[(.int .u64 c_0), (.int .u64 c_1), (.int .u64 c_2), (.int .u64 c_3), (.int .u64 c_4)]), (.int .i64 t), (.int .i64 u)] W fun v W' => v = .bool true ∧ Ext W W' := by
  intro c0 h0 c1 h1 c2 h2 c3 h3 c4 h4 t _ u _
  obtain ⟨x, rfl, rfl, rfl, rfl, rfl, hx⟩ := cr_of h0 h1 h2 h3 h4
  refine ok_shiftbellkeep_CronLeast x.a x.b x.c x.d x.e t u W _ fun b0 _ w1 h1 => ?_
  refine (crons_k w1 (hg.ext h1)).mono fun v w2 ⟨e2, hv⟩ => ⟨e2, _, hv, fun h => by (cases h), fun _ w4 h4 => ?_⟩
  refine (Next_k x hx t w4 (hg.ext h4)).mono fun v w5 ⟨e5, n, e, hv, hr⟩ => ⟨e5, _, _, hv, fun w8 h8 => ?_⟩
  refine (Match_k x hx u w8 (hg.ext h8)).mono fun v w9 ⟨e9, b, f, hv, hm⟩ => ⟨e9, _, _, hv, fun hne w12 h12 => ⟨b_true ?_, h12⟩, fun he w12 h12 => ?_⟩
  · rcases hr with ⟨rfl, rfl, hno⟩ | ⟨rfl, rfl, hno⟩ | ⟨hok, t0, t1, h⟩
    · simp
    · simp
    · rcases h with ⟨h, _⟩ | ⟨rfl, rfl, hall⟩
      · exact absurd h hne
      · rcases hm with ⟨rfl, _⟩ | ⟨rfl, _⟩ | ⟨rfl, _, u0, u1, hb⟩
        · simp
        · simp
        · by_cases hut : u ≤ t
          · simp [hut]
          · have : b = false := by
              cases b with
              | false => rfl
              | true => exact absurd (hb.1 rfl) (hall u (by omega) u1)
            simp [this]
  · obtain ⟨hok, t0, t1, ht, hn, hmt, hbe⟩ : okC x ∧ -1 ≤ t ∧ t ≤ 5258964959 ∧ t < n ∧ n ≤ 5258964959 ∧ mt x n ∧ ∀ u, t < u → u < n → ¬ mt x u := by
      rcases hr with ⟨h, _⟩ | ⟨h, _⟩ | ⟨hok, t0, t1, h⟩
      · omega
      · omega
      · rcases h with ⟨_, h⟩ | ⟨h, _⟩
        · exact ⟨hok, t0, t1, h⟩
        · omega
    refine (Match_k x hx n w12 (hg.ext h12)).mono fun v w13 ⟨e13, b', f', hv, hm'⟩ => ⟨e13, _, _, hv, fun w16 h16 => ⟨b_true ?_, h16⟩⟩
    obtain ⟨rfl, rfl⟩ : f' = 0 ∧ b' = true := by
      rcases hm' with ⟨_, _, h⟩ | ⟨_, _, _, h⟩ | ⟨h, _, _, _, hb⟩
      · exact absurd hok h
      · exact absurd ⟨by omega, hn⟩ h
      · exact ⟨h, hb.2 hmt⟩
    have h3 : (((decide (f ≠ 0)) || (!b)) || (decide (u ≤ t)) || (decide (n ≤ u))) = true := by
      rcases hm with ⟨rfl, _⟩ | ⟨rfl, _⟩ | ⟨rfl, _, u0, u1, hb⟩
      · simp
      · simp
      · by_cases hut : u ≤ t
        · simp [hut]
        · by_cases hnu : n ≤ u
          · simp [hnu]
          · have : b = false := by
              cases b with
              | false => rfl
              | true => exact absurd (hb.1 rfl) (hbe u (by omega) (by omega))
            simp [this]
    rw [h3]
    simp [ht]

theorem core_CronNow (W : World) (hg : GL W) : ∀ c_0 : Int, InR .u64 c_0 → ∀ c_1 : Int, InR .u64 c_1 → ∀ c_2 : Int, InR .u64 c_2 → ∀ c_3 : Int, InR .u64 c_3 → ∀ c_4 : Int, InR .u64 c_4 → ∀ t : Int, InR .i64 t →
    FnP Tryd.prog F_shiftbellkeep_CronNow #[(.agg #[(.int .u64 c_0), (.int .u64 c_1), (.int .u64 c_2), (.int .u64 c_3), (.int .u64 c_4)]), (.int .i64 t)] W fun v W' => v = .bool true ∧ Ext W W' := by
  intro c0 h0 c1 h1 c2 h2 c3 h3 c4 h4 t _
  obtain ⟨x, rfl, rfl, rfl, rfl, rfl, hx⟩ := cr_of h0 h1 h2 h3 h4
  refine ok_shiftbellkeep_CronNow x.a x.b x.c x.d x.e t W _ fun b0 _ w1 h1 => ?_
  refine (crons_k w1 (hg.ext h1)).mono fun v w2 ⟨e2, hv⟩ => ⟨e2, _, hv, fun h => by (cases h), fun _ w4 h4 => ?_⟩
  refine (Match_k x hx t w4 (hg.ext h4)).mono fun v w5 ⟨e5, b, f, hv, hm⟩ => ⟨e5, _, _, hv, fun hne w8 h8 => ⟨b_true ?_, h8⟩, fun he => ?_⟩
  · rcases hm with ⟨_, rfl, _⟩ | ⟨_, rfl, _⟩ | ⟨h, _⟩
    · rfl
    · rfl
    · exact absurd h hne
  obtain ⟨hok, t0, t1, hb⟩ : okC x ∧ 0 ≤ t ∧ t ≤ 5258964959 ∧ (b = true ↔ mt x t) := by
    rcases hm with ⟨h, _⟩ | ⟨h, _⟩ | ⟨_, h⟩
    · omega
    · omega
    · exact h
  refine ⟨i64 (by omega), fun w8 h8 => ?_⟩
  refine (Next_k x hx (t - 1) w8 (hg.ext h8)).mono fun v w9 ⟨e9, n, e, hv, hr⟩ => ⟨e9, _, _, hv, fun hne w12 h12 => ⟨b_true ?_, h12⟩, fun he w12 h12 => ⟨b_true ?_, h12⟩⟩
  · rcases hr with ⟨_, _, h⟩ | ⟨_, _, _, h⟩ | ⟨_, _, _, h⟩
    · exact absurd hok h
    · omega
    · rcases h with ⟨h, _⟩ | ⟨rfl, _, hall⟩
      · exact absurd h hne
      · have : b = false := by
          cases b with
          | false => rfl
          | true => exact absurd (hb.1 rfl) (hall t (by omega) t1)
        simp [this]
  · rcases hr with ⟨h, _⟩ | ⟨h, _⟩ | ⟨_, _, _, h⟩
    · omega
    · omega
    · rcases h with ⟨_, h1, h2, h3, h4⟩ | ⟨h, _⟩
      · have hle : t ≤ n := by omega
        by_cases hnt : n = t
        · subst hnt
          rw [hb.2 h3]; simp
        · have : b = false := by
            cases b with
            | false => rfl
            | true => exact absurd (hb.1 rfl) (h4 t (by omega) (by omega))
          simp [this, hnt, hle]
      · omega

theorem core_CronAgain (W : World) (hg : GL W) : ∀ c_0 : Int, InR .u64 c_0 → ∀ c_1 : Int, InR .u64 c_1 → ∀ c_2 : Int, InR .u64 c_2 → ∀ c_3 : Int, InR .u64 c_3 → ∀ c_4 : Int, InR .u64 c_4 → ∀ t : Int, InR .i64 t →
    FnP Tryd.prog F_shiftbellkeep_CronAgain #[(.agg #[(.int .u64 c_0), (.int .u64 c_1), (.int .u64 c_2), (.int .u64 c_3), (.int .u64 c_4)]), (.int .i64 t)] W fun v W' => v = .bool true ∧ Ext W W' := by
  intro c0 h0 c1 h1 c2 h2 c3 h3 c4 h4 t _
  obtain ⟨x, rfl, rfl, rfl, rfl, rfl, hx⟩ := cr_of h0 h1 h2 h3 h4
  refine ok_shiftbellkeep_CronAgain x.a x.b x.c x.d x.e t W _ fun b0 _ w1 h1 => ?_
  refine (crons_k w1 (hg.ext h1)).mono fun v w2 ⟨e2, hv⟩ => ⟨e2, _, hv, fun h => by (cases h), fun _ w4 h4 => ?_⟩
  refine (Match_k x hx t w4 (hg.ext h4)).mono fun v w5 ⟨e5, b, f, hv, hm⟩ => ⟨e5, _, _, hv, fun w8 h8 => ?_⟩
  refine (Match_k x hx (IntKind.wrap .i64 (t + 210379680)) w8 (hg.ext h8)).mono fun v w9 ⟨e9, b', f', hv, hm'⟩ => ⟨e9, _, _, hv, fun w12 h12 => ⟨b_true ?_, h12⟩⟩
  by_cases h1 : t < 0
  · simp [h1]
  by_cases h2 : 5048585279 < t
  · simp [h2]
  rw [wrap64 (by omega)] at hm'
  have same : f = f' ∧ b = b' := by
    rcases hm with ⟨rfl, rfl, hno⟩ | ⟨rfl, rfl, _, hno⟩ | ⟨rfl, hok, _, _, hb⟩
    · rcases hm' with ⟨rfl, rfl, _⟩ | ⟨_, _, h, _⟩ | ⟨_, h, _⟩
      · exact ⟨rfl, rfl⟩
      · exact absurd h hno
      · exact absurd h hno
    · omega
    · rcases hm' with ⟨_, _, h⟩ | ⟨_, _, _, h⟩ | ⟨rfl, _, _, _, hb'⟩
      · exact absurd hok h
      · omega
      · refine ⟨rfl, ?_⟩
        rw [Bool.eq_iff_iff, hb, hb', mt_hit, mt_hit, show (t + 210379680) % 1440 = t % 1440 by omega, show (t + 210379680) / 1440 = t / 1440 + 146097 by omega, day400 x (by omega) (by omega)]
  obtain ⟨rfl, rfl⟩ := same
  cases b <;> simp
end Go.Proofs.YthhpepdchbdaoaaDoor
