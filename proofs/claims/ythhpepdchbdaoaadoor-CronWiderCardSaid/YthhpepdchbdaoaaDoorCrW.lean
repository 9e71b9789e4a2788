/- The law CronWider. -/
import Derived.Test.YthhpepdchbdaoaaDoorCrL
import Derived.Test.YthhpepdchbdaoaaDoorTxtB
set_option linter.unusedVariables false
set_option linter.unusedSimpArgs false
namespace Go.Proofs.YthhpepdchbdaoaaDoor
open Go.Sx Go.RowKit

def wid (x y : Cr) : Cr := ⟨iBit .or .u64 x.a y.a, iBit .or .u64 x.b y.b, x.c, iBit .or .u64 x.d y.d, x.e⟩
theorem mt_wid {x y : Cr} {u : Int} (h : mt x u) : mt (wid x y) u := by
  obtain ⟨h1, h2, yy, m, d, h3, h4, h5⟩ := h
  refine ⟨by show tb (iBit .or .u64 x.a y.a) _ = true; rw [tb_or, h1]; rfl, by show tb (iBit .or .u64 x.b y.b) _ = true; rw [tb_or, h2]; rfl, yy, m, d, h3, h4, ?_⟩
  unfold dayF at h5 ⊢
  rw [Bool.and_eq_true] at h5
  show (tb (iBit .or .u64 x.d y.d) _ && _) = true
  rw [tb_or, h5.1, Bool.true_or, Bool.true_and]
  exact h5.2

theorem core_CronWider (W : World) (hg : GL W) : ∀ c_0 : Int, InR .u64 c_0 → ∀ c_1 : Int, InR .u64 c_1 → ∀ c_2 : Int, InR .u64 c_2 → ∀ c_3 : Int, InR .u64 c_3 → ∀ c_4 : Int, InR .u64 c_4 → ∀ d_0 : Int, InR .u64 d_0 → ∀ d_1 : Int, InR .u64 d_1 → ∀ d_2 : Int, InR .u64 d_2 → ∀ d_3 : Int, InR .u64 d_3 → ∀ d_4 : Int, InR .u64 d_4 → ∀ t : Int, InR .i64 t →
    FnP Tryd.prog F_shiftbellkeep_CronWider #[(.agg #[(.int .u64 c_0), (.int .u64 c_1), (.int .u64 c_2), (.int .u64 c_3), (.int .u64 c_4)]), (.agg #[(.int .u64 d_0), (.int .u64 d_1), (.int .u64 d_2), (.int .u64 d_3), (.int .u64 d_4)]), (.int .i64 t)] W fun v W' => v = .bool true ∧ Ext W W' := by
  intro c0 h0 c1 h1 c2 h2 c3 h3 c4 h4 d0 g0 d1 g1 d2 g2 d3 g3 d4 g4 t _
  obtain ⟨x, rfl, rfl, rfl, rfl, rfl, hx⟩ := cr_of h0 h1 h2 h3 h4
  obtain ⟨y, rfl, rfl, rfl, rfl, rfl, hy⟩ := cr_of g0 g1 g2 g3 g4
  have hw : CrU (wid x y) := ⟨U_or _ _, U_or _ _, hx.2.2.1, U_or _ _, hx.2.2.2.2⟩
  refine ok_shiftbellkeep_CronWider x.a x.b x.c x.d x.e y.a y.b y.c y.d y.e t W _ fun b0 _ b1 _ w2 h2 => ?_
  refine (crons_k w2 (hg.ext h2)).mono fun v w3 ⟨e3, hv⟩ => ⟨e3, _, hv, fun h => by (cases h), fun _ b5 hb5 => ?_⟩
  refine ⟨fun a b c d e w' => w' = W ∧ a = (wid x y).a ∧ b = (wid x y).b ∧ c = (wid x y).c ∧ d = (wid x y).d ∧ e = (wid x y).e, ?_, ?_⟩
  · have hJ : W = W ∧ iBit .or .u64 x.a y.a = (wid x y).a ∧ iBit .or .u64 x.b y.b = (wid x y).b ∧ x.c = (wid x y).c ∧ iBit .or .u64 x.d y.d = (wid x y).d ∧ x.e = (wid x y).e := ⟨rfl, rfl, rfl, rfl, rfl, rfl⟩
    repeat' (first | exact hJ | apply And.intro)
  · rintro a b c d e w12 ⟨rfl, rfl, rfl, rfl, rfl, rfl⟩ w13 x13
    have b1 : ∀ {w'}, ExtB [b5] [] w12 w' → Ext w12 w' := fun h => but_ext h (Ext.refl _) (by intro d hd; simp at hd; omega)
    refine (Next_k x hx t w13 (hg.ext (b1 x13))).mono fun v w14 ⟨e14, n, e, hv, hr⟩ => ⟨e14, _, _, hv, fun w17 x17 => ?_⟩
    refine (Next_k (wid x y) hw t w17 (hg.ext (b1 x17))).mono fun v w18 ⟨e18, m, f, hv, hr'⟩ => ⟨e18, _, _, hv, fun hne w21 x21 => ⟨b_true ?_, b1 x21⟩, fun he w21 x21 => ?_⟩
    · have : n = 0 := by
        rcases hr with ⟨_, h, _⟩ | ⟨_, h, _⟩ | ⟨_, _, _, h⟩
        · exact h
        · exact h
        · rcases h with ⟨h, _⟩ | ⟨_, h, _⟩
          · exact absurd h hne
          · exact h
      simp [this]
    · refine (Check_k (wid x y) w21).mono fun v w22 ⟨e22, c, hv, hc⟩ => ⟨e22, _, hv, fun hne w24 x24 => ⟨b_true (by simp [he]), b1 x24⟩, fun hc0 w24 x24 => ⟨b_true ?_, b1 x24⟩⟩
      have hok : okC (wid x y) := by
        rcases hc with ⟨h, _⟩ | ⟨_, h⟩
        · exact h
        · omega
      obtain ⟨t0, t1, ht, hn, hmt⟩ : -1 ≤ t ∧ t ≤ 5258964959 ∧ t < n ∧ n ≤ 5258964959 ∧ mt x n := by
        rcases hr with ⟨h, _⟩ | ⟨h, _⟩ | ⟨_, t0, t1, h⟩
        · omega
        · omega
        · rcases h with ⟨_, h1, h2, h3, _⟩ | ⟨h, _⟩
          · exact ⟨t0, t1, h1, h2, h3⟩
          · omega
      rcases hr' with ⟨_, _, h⟩ | ⟨_, _, _, h⟩ | ⟨_, _, _, h⟩
      · exact absurd hok h
      · omega
      · rcases h with ⟨rfl, h1, h2, h3, h4⟩ | ⟨_, _, h⟩
        · have : m ≤ n := by
            by_cases hmn : m ≤ n
            · exact hmn
            · exact absurd (mt_wid hmt) (h4 n ht (by omega))
          simp [h1, this]
        · exact absurd (mt_wid hmt) (h n ht hn)
end Go.Proofs.YthhpepdchbdaoaaDoor
