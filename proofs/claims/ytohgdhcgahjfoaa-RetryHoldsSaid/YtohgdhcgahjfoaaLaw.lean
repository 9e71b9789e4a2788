/- What the retry functions answer; the laws RetryGrows and RetryWaits. -/
import Derived.Test.YtohgdhcgahjfoaaTxt
set_option linter.unusedVariables false
set_option linter.unusedSimpArgs false
namespace Go.Proofs.Ytohgdhcgahjfoaa
open Go.Sx Go.RowKit

def okP (p0 p1 p2 p3 : Int) : Prop := 1 ≤ p0 ∧ p0 ≤ 1000000000 ∧ 1 ≤ p1 ∧ p1 ≤ 10 ∧ p0 ≤ p2 ∧ p2 ≤ 1000000000 ∧ 0 ≤ p3 ∧ p3 ≤ 50

def dl (p0 p1 p2 : Int) : Nat → Int
  | 0 => p0
  | k + 1 => min (dl p0 p1 p2 k * p1) p2

def sm (p0 p1 p2 : Int) : Nat → Int
  | 0 => 0
  | k + 1 => sm p0 p1 p2 k + dl p0 p1 p2 k

theorem mul_ge {a b : Int} (ha : 0 ≤ a) (hb : 1 ≤ b) : a ≤ a * b := by
  have := Int.mul_le_mul_of_nonneg_left hb ha
  omega

theorem mul_le10 {a b : Int} (ha : 0 ≤ a) (hb : b ≤ 10) : a * b ≤ a * 10 := Int.mul_le_mul_of_nonneg_left hb ha

theorem dl_bounds {p0 p1 p2 p3 : Int} (h : okP p0 p1 p2 p3) : ∀ k, p0 ≤ dl p0 p1 p2 k ∧ dl p0 p1 p2 k ≤ p2
  | 0 => by unfold okP at h; simp only [dl]; omega
  | k + 1 => by
    have ih := dl_bounds h k
    unfold okP at h
    have := mul_ge (a := dl p0 p1 p2 k) (b := p1) (by omega) (by omega)
    simp only [dl]
    omega

theorem sm_bounds {p0 p1 p2 p3 : Int} (h : okP p0 p1 p2 p3) : ∀ k : Nat, 0 ≤ sm p0 p1 p2 k ∧ sm p0 p1 p2 k ≤ k * 1000000000
  | 0 => by simp [sm]
  | k + 1 => by
    have ih := sm_bounds h k
    have hd := dl_bounds h k
    unfold okP at h
    simp only [sm]
    omega

theorem inR_i64 {x : Int} (h : -9223372036854775808 ≤ x ∧ x ≤ 9223372036854775807) : InR .i64 x := h
theorem inR_i64' {x : Int} (h : InR .i64 x) : -9223372036854775808 ≤ x ∧ x ≤ 9223372036854775807 := h
theorem inR_u64 {x : Int} (h : 0 ≤ x ∧ x ≤ 18446744073709551615) : InR .u64 x := h
theorem inR_u64' {x : Int} (h : InR .u64 x) : 0 ≤ x ∧ x ≤ 18446744073709551615 := h

def polV (p0 p1 p2 p3 : Int) : Value := .agg #[.int .i64 p0, .int .i64 p1, .int .i64 p2, .int .i64 p3]

theorem check_k (p0 p1 p2 p3 : Int) (w : World) : FnP Try.prog 13 #[.agg #[.int .i64 p0, .int .i64 p1, .int .i64 p2, .int .i64 p3]] w fun v w' => Ext w w' ∧ ∃ e, v = .int .i64 e ∧ (okP p0 p1 p2 p3 → e = 0) ∧ (¬ okP p0 p1 p2 p3 → e = 4) := by
  refine ok13 _ _ _ _ w _ ?_
  intro b0 hb
  refine ⟨fun h w1 he => ⟨he, 4, rfl, fun hk => ?_, fun _ => rfl⟩, fun h w1 he => ⟨he, 0, rfl, fun _ => rfl, fun hn => ?_⟩⟩ <;> unfold okP at * <;> omega

def errD (p0 p1 p2 p3 n e : Int) : Prop := (¬ okP p0 p1 p2 p3 → e = 4) ∧ (okP p0 p1 p2 p3 → (n < 1 ∨ p3 < n) → e = 5) ∧ (okP p0 p1 p2 p3 → (1 ≤ n ∧ n ≤ p3) → e = 0)

theorem delay_k (p0 p1 p2 p3 n : Int) (hn : InR .i64 n) (w : World) : FnP Try.prog 8 #[.agg #[.int .i64 p0, .int .i64 p1, .int .i64 p2, .int .i64 p3], .int .i64 n] w fun v w' =>
    Ext w w' ∧ ∃ a e, v = .tuple #[.int .i64 a, .int .i64 e] ∧ errD p0 p1 p2 p3 n e ∧ (e ≠ 0 → a = 0) ∧ (e = 0 → a = dl p0 p1 p2 (n - 1).toNat) := by
  refine ok8 _ _ _ _ _ w _ ?_
  have hn := inR_i64' hn
  intro b0 hb w1 h1
  refine (check_k _ _ _ _ w1).mono fun v w2 ⟨h2, e, he, ho, hno⟩ => ⟨h2, e, he, fun hne w4 h4 => ⟨h4, 0, e, rfl, ?_, fun _ => rfl, fun h0 => absurd h0 hne⟩, fun he0 => ?_⟩
  · have : ¬ okP p0 p1 p2 p3 := fun h => hne (ho h)
    exact ⟨hno, fun h => absurd h this, fun h => absurd h this⟩
  · have hok : okP p0 p1 p2 p3 := by
      by_cases h : okP p0 p1 p2 p3
      · exact h
      · have := hno h; omega
    refine ⟨fun hr w4 h4 => ⟨h4, 0, 5, rfl, ⟨fun h => absurd hok h, fun _ _ => rfl, fun _ h => by omega⟩, fun _ => rfl, fun h => by omega⟩, fun hr => ⟨inR_i64 (by omega), ?_⟩⟩
    refine ⟨fun d k w' => Ext w w' ∧ 0 ≤ k ∧ k ≤ n - 1 ∧ d = dl p0 p1 p2 k.toNat, fun d k _ => (n - 1 - k).toNat, ⟨Ext.refl w, by omega, by omega, rfl⟩, ?_⟩
    rintro d k w7 ⟨hw, hk0, hk1, rfl⟩
    have hd := dl_bounds hok k.toNat
    have hm1 := mul_le10 (a := dl p0 p1 p2 k.toNat) (b := p1) (by unfold okP at hok; omega) (by unfold okP at hok; omega)
    have hm2 := mul_ge (a := dl p0 p1 p2 k.toNat) (b := p1) (by unfold okP at hok; omega) (by unfold okP at hok; omega)
    unfold okP at hok
    refine ⟨fun hlt => ⟨inR_i64 (by omega), inR_i64 (by omega), ⟨hw, by omega, by omega, ?_⟩, by simp only []; omega⟩, fun hge w8 h8 => ⟨hw.trans h8, _, 0, rfl, ⟨fun h => absurd hok h, fun _ h => by omega, fun _ _ => rfl⟩, fun h => absurd rfl h, fun _ => ?_⟩⟩
    · rw [show (k + 1).toNat = k.toNat + 1 by omega]; rfl
    · rw [show k = n - 1 by omega]

theorem all_k (p0 p1 p2 p3 : Int) (w : World) : FnP Try.prog 12 #[.agg #[.int .i64 p0, .int .i64 p1, .int .i64 p2, .int .i64 p3]] w fun v w' =>
    Ext w w' ∧ ∃ a e, v = .tuple #[.int .i64 a, .int .i64 e] ∧ (okP p0 p1 p2 p3 → e = 0 ∧ a = sm p0 p1 p2 p3.toNat) := by
  refine ok12 _ _ _ _ w _ ?_
  intro b0 hb w1 h1
  refine (check_k _ _ _ _ w1).mono fun v w2 ⟨h2, e, he, ho, hno⟩ => ⟨h2, e, he, fun hne w4 h4 => ⟨h4, 0, e, rfl, fun h => absurd (ho h) hne⟩, fun he0 => ?_⟩
  have hok : okP p0 p1 p2 p3 := by
    by_cases h : okP p0 p1 p2 p3
    · exact h
    · have := hno h; omega
  refine ⟨fun s k w' => Ext w w' ∧ 0 ≤ k ∧ k ≤ p3 ∧ s = sm p0 p1 p2 k.toNat, fun s k _ => (p3 - k).toNat, ⟨Ext.refl w, by omega, by unfold okP at hok; omega, rfl⟩, ?_⟩
  rintro s k w7 ⟨hw, hk0, hk1, rfl⟩
  have hs := sm_bounds hok k.toNat
  have hd := dl_bounds hok k.toNat
  have hok' := hok
  unfold okP at hok'
  refine ⟨fun hlt => ⟨inR_i64 (by omega), fun w8 h8 => ?_⟩, fun hge w8 h8 => ⟨hw.trans h8, _, 0, rfl, fun _ => ⟨rfl, ?_⟩⟩⟩
  · refine (delay_k p0 p1 p2 p3 (k + 1) (inR_i64 (by omega)) w8).mono fun v w9 ⟨h9, a, e', hv, herr, _, ha⟩ => ?_
    have he' : e' = 0 := herr.2.2 hok (by omega)
    have ha := ha he'
    rw [show (k + 1 - 1).toNat = k.toNat by omega] at ha
    refine ⟨h9, a, e', hv, inR_i64 (by omega), inR_i64 (by omega), ⟨hw, by omega, by omega, ?_⟩, by simp only []; omega⟩
    rw [show (k + 1).toNat = k.toNat + 1 by omega, ha]; rfl
  · rw [show k = p3 by omega]

theorem retries_k (w : World) : FnP Try.prog 7 #[] w fun v w' => Ext w w' ∧ v = .bool true := by
  refine ok7 w _ ?_
  intro w0 h0
  refine (all_k 2 2 3 2 w0).mono fun v w1 ⟨h1, a, e, hv, hr⟩ => ⟨h1, a, e, hv, fun w4 h4 => ⟨h4, ?_⟩⟩
  obtain ⟨rfl, rfl⟩ := hr (by unfold okP; omega)
  simp [sm, dl]; rfl

theorem grows_k (p0 p1 p2 p3 n : Int) (hn : InR .i64 n) (w : World) : FnP Try.prog 3 #[.agg #[.int .i64 p0, .int .i64 p1, .int .i64 p2, .int .i64 p3], .int .i64 n] w fun v w' => v = .bool true ∧ Ext w w' := by
  refine ok3 _ _ _ _ _ w _ ?_
  intro b0 hb w1 h1
  refine (retries_k w1).mono fun v w2 ⟨h2, hv⟩ => ⟨h2, true, hv, fun h => by simp at h, fun _ w4 h4 => ?_⟩
  refine (delay_k p0 p1 p2 p3 n hn w4).mono fun v w5 ⟨h5, a, e, hv, herr, ha0, ha⟩ => ⟨h5, a, e, hv, fun w8 h8 => ?_⟩
  have hn' := inR_i64' hn
  have hwr : InR .i64 (IntKind.wrap .i64 (n + 1)) ∧ (n < 9223372036854775807 → IntKind.wrap .i64 (n + 1) = n + 1) ∧ (n = 9223372036854775807 → IntKind.wrap .i64 (n + 1) = -9223372036854775808) := by
    refine ⟨⟨?_, ?_⟩, ?_, ?_⟩ <;> simp [IntKind.wrap, IntKind.signed, IntKind.bits, IntKind.min, IntKind.max] <;> omega
  generalize IntKind.wrap .i64 (n + 1) = n1 at hwr ⊢
  obtain ⟨hr1, hr2, hr3⟩ := hwr
  refine (delay_k p0 p1 p2 p3 n1 hr1 w8).mono fun v w9 ⟨h9, b, f, hvf, hferr, hb0, hbv⟩ => ⟨h9, b, f, hvf, fun hne w12 h12 => ⟨?_, h12⟩, fun he0 => ⟨?_, fun w12 h12 => ⟨?_, h12⟩⟩⟩
  · have := ha0 hne
    simp [this]
  · intro _ _ _ _
    have hok : okP p0 p1 p2 p3 := by
      by_cases h : okP p0 p1 p2 p3
      · exact h
      · have := herr.1 h; omega
    have ha := ha he0
    have hd := dl_bounds hok (n - 1).toNat
    unfold okP at hok
    have hm1 := mul_le10 (a := a) (b := p1) (by omega) (by omega)
    have hm2 := mul_ge (a := a) (b := p1) (by omega) (by omega)
    exact inR_i64 (by omega)
  · have hok : okP p0 p1 p2 p3 := by
      by_cases h : okP p0 p1 p2 p3
      · exact h
      · have := herr.1 h; omega
    have hnr : 1 ≤ n ∧ n ≤ p3 := by
      by_cases h : 1 ≤ n ∧ n ≤ p3
      · exact h
      · have := herr.2.1 hok (by omega); omega
    have ha := ha he0
    have hd := dl_bounds hok (n - 1).toNat
    have hok' := hok
    unfold okP at hok'
    have hn1 : n1 = n + 1 := hr2 (by omega)
    subst hn1
    have hm2 := mul_ge (a := a) (b := p1) (by omega) (by omega)
    have hfirst : 1 < n ∨ a = p0 := by
      by_cases h : 1 < n
      · exact .inl h
      · right; rw [ha, show n = 1 by omega]; rfl
    by_cases hlast : n = p3
    · have hf : f = 5 := hferr.2.1 hok (by omega)
      have : f ≠ 0 := by omega
      congr 1
      simp only [Bool.and_eq_true, Bool.or_eq_true, decide_eq_true_eq]
      exact ⟨⟨⟨by omega, by omega⟩, hfirst⟩, .inl ⟨this, hlast⟩⟩
    · have hf : f = 0 := hferr.2.2 hok (by omega)
      have hb := hbv hf
      rw [show (n + 1 - 1).toNat = (n - 1).toNat + 1 by omega] at hb
      simp only [dl] at hb
      rw [← ha] at hb
      congr 1
      simp only [Bool.and_eq_true, Bool.or_eq_true, decide_eq_true_eq]
      refine ⟨⟨⟨by omega, by omega⟩, hfirst⟩, .inr ⟨⟨hf, by omega⟩, by omega⟩⟩

theorem pol_open {W : World} {v : Value} (g : GoodV Try.prog W 23 v) : ∃ p0 p1 p2 p3, v = .agg #[.int .i64 p0, .int .i64 p1, .int .i64 p2, .int .i64 p3] := by
  obtain ⟨cs, hl, hv⟩ := goodV_leaves (d := 3) (l := [2, 2, 2, 3]) (by kernel_rfl) g
  rw [show isAggT Try.prog 23 = true by kernel_rfl] at hv
  obtain ⟨c0, cs, rfl, l0, hl⟩ := lvs_cons hl
  obtain ⟨c1, cs, rfl, l1, hl⟩ := lvs_cons hl
  obtain ⟨c2, cs, rfl, l2, hl⟩ := lvs_cons hl
  obtain ⟨c3, cs, rfl, l3, hl⟩ := lvs_cons hl
  obtain rfl := lvs_nil hl
  obtain ⟨p0, rfl, _⟩ := leaf_int Try.underlying2 l0
  obtain ⟨p1, rfl, _⟩ := leaf_int Try.underlying2 l1
  obtain ⟨p2, rfl, _⟩ := leaf_int Try.underlying2 l2
  obtain ⟨p3, rfl, _⟩ := leaf_int Try.underlying3 l3
  exact ⟨p0, p1, p2, p3, hv⟩

theorem int_open {W : World} {v : Value} {t : TypeId} {k : IntKind} (hu : Try.prog.underlying t = some (.int k)) (g : GoodV Try.prog W t v) : ∃ n, v = .int k n ∧ InR k n := by
  have hl : leaves Try.prog 1 t = some [t] := by unfold leaves; rw [hu]
  obtain ⟨cs, hl, hv⟩ := goodV_leaves hl g
  have ha : isAggT Try.prog t = false := by unfold isAggT; rw [hu]
  rw [ha] at hv
  obtain ⟨c0, cs, rfl, l0, hl⟩ := lvs_cons hl
  obtain rfl := lvs_nil hl
  obtain ⟨n, rfl, hn⟩ := leaf_int hu l0
  exact ⟨n, hv, hn⟩

theorem args_eq {args : Array Value} {l : List Value} (h : args.toList = l) : args = l.toArray := by subst h; simp

theorem Try.own : ownKnob Try.prog.godebug = none := by kernel_rfl
theorem Try.laidOut : laidOutB Try.prog = true := by kernel_rfl

theorem grows_law (W : World) (args : Array Value) (h : GoodAll Try.prog W Try.f3.params.toList args.toList) : FnP Try.prog 3 args W fun v W' => v = .bool true ∧ Ext W W' := by
  rw [Try.params3] at h
  obtain ⟨v0, vs, e, g0, h⟩ := goodAll_cons h
  obtain ⟨v1, vs, rfl, g1, h⟩ := goodAll_cons h
  obtain rfl := goodAll_nil h
  obtain rfl := args_eq e
  obtain ⟨p0, p1, p2, p3, rfl⟩ := pol_open g0
  obtain ⟨n, rfl, hn⟩ := int_open Try.underlying3 g1
  exact grows_k p0 p1 p2 p3 n hn W

set_option maxRecDepth 100000 in
theorem grows_lifted (os : Os) (started : os.Started) (H : Type) (enc : TypeId × Value → H) :
    ReturnsInHanded {} Try.checked os 3 .any (Rows.retryGrowsSpec.pre6 enc Try.prog Try.f3 Rows.retryGrowsRow.domain false) (Rows.retryGrowsSpec.post enc Try.prog Try.f3 false true false false) := by
  refine returnsInHanded_of_change (C := Try.checked) Try.own started (by kernel_rfl) Try.func3
    (ChangeSpec.witness6 (enc := enc) (C := Try.checked) false ⟨#[], #[.agg #[.int .i64 0, .int .i64 0, .int .i64 0, .int .i64 0], .int .i64 0], []⟩ 8 (by kernel_rfl) (by kernel_rfl) (by kernel_rfl) (by kernel_rfl)) ?_
  intro W base args ds gs before hval hW _ _
  exact law_contract (P := Try.prog) (f := Try.f3) (s := Rows.retryGrowsSpec) (tb := 4) Try.laidOut (by kernel_rfl) (by kernel_rfl) Try.underlying4 rfl
    (fun ds hd => by
      rw [Try.params3] at hd
      match ds, hd with
      | [_, _], _ => rfl) grows_law W base args ds gs before hval hW

theorem grows_holds : Rows.RetryGrowsSaid :=
  OpenClaim.holds_of_wide 3 Try.f3 rfl rfl rfl rfl rfl rfl rfl ⟨rfl, rfl, rfl, rfl, rfl⟩ rfl rfl rfl rfl rfl (by kernel_rfl) Try.func3 (by kernel_rfl)
    (of_decide_eq_true (by kernel_rfl)) (by unfold Func.isWrapper; first | (rw [if_pos (by decide +kernel)]; kernel_rfl) | (rw [if_neg (by decide +kernel)]; exact ⟨rfl, rfl⟩))
    (fun os started H enc _ => grows_lifted os started H enc)
end Go.Proofs.Ytohgdhcgahjfoaa
