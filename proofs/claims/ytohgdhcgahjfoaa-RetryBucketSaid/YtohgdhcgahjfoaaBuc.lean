/- Retries: delays, buckets; the law RetryBucket. -/
import Derived.Test.YtohgdhcgahjfoaaTxt
set_option linter.unusedVariables false
set_option linter.unusedSimpArgs false
namespace Go.Proofs.Ytohgdhcgahjfoaa
open Go.Sx Go.RowKit

def okP (p0 p1 p2 p3 : Int) : Prop := 1 ≤ p0 ∧ p0 ≤ 1000000000 ∧ 1 ≤ p1 ∧ p1 ≤ 10 ∧ p0 ≤ p2 ∧ p2 ≤ 1000000000 ∧ 0 ≤ p3 ∧ p3 ≤ 50

def dl (p0 p1 p2 : Int) : Nat → Int
  | 0 => p0
  | k + 1 => min (dl p0 p1 p2 k * p1) p2

def sm (p0 p1 p2 : Int) : Nat → Int
  | 0 => 0
  | k + 1 => sm p0 p1 p2 k + dl p0 p1 p2 k

theorem mul_ge {a b : Int} (ha : 0 ≤ a) (hb : 1 ≤ b) : a ≤ a * b := by
  have := Int.mul_le_mul_of_nonneg_left hb ha
  omega

theorem mul_le10 {a b : Int} (ha : 0 ≤ a) (hb : b ≤ 10) : a * b ≤ a * 10 := Int.mul_le_mul_of_nonneg_left hb ha

theorem dl_bounds {p0 p1 p2 p3 : Int} (h : okP p0 p1 p2 p3) : ∀ k, p0 ≤ dl p0 p1 p2 k ∧ dl p0 p1 p2 k ≤ p2
  | 0 => by unfold okP at h; simp only [dl]; omega
  | k + 1 => by
    have ih := dl_bounds h k
    unfold okP at h
    have := mul_ge (a := dl p0 p1 p2 k) (b := p1) (by omega) (by omega)
    simp only [dl]
    omega

theorem sm_bounds {p0 p1 p2 p3 : Int} (h : okP p0 p1 p2 p3) : ∀ k : Nat, 0 ≤ sm p0 p1 p2 k ∧ sm p0 p1 p2 k ≤ k * 1000000000
  | 0 => by simp [sm]
  | k + 1 => by
    have ih := sm_bounds h k
    have hd := dl_bounds h k
    unfold okP at h
    simp only [sm]
    omega

theorem inR_i64 {x : Int} (h : -9223372036854775808 ≤ x ∧ x ≤ 9223372036854775807) : InR .i64 x := h
theorem inR_i64' {x : Int} (h : InR .i64 x) : -9223372036854775808 ≤ x ∧ x ≤ 9223372036854775807 := h
theorem inR_u64 {x : Int} (h : 0 ≤ x ∧ x ≤ 18446744073709551615) : InR .u64 x := h
theorem inR_u64' {x : Int} (h : InR .u64 x) : 0 ≤ x ∧ x ≤ 18446744073709551615 := h

def polV (p0 p1 p2 p3 : Int) : Value := .agg #[.int .i64 p0, .int .i64 p1, .int .i64 p2, .int .i64 p3]

theorem check_k (p0 p1 p2 p3 : Int) (w : World) : FnP Try.prog 13 #[.agg #[.int .i64 p0, .int .i64 p1, .int .i64 p2, .int .i64 p3]] w fun v w' => Ext w w' ∧ ∃ e, v = .int .i64 e ∧ (okP p0 p1 p2 p3 → e = 0) ∧ (¬ okP p0 p1 p2 p3 → e = 4) := by
  refine ok_retry_Check _ _ _ _ w _ ?_
  intro b0 hb
  refine ⟨fun h w1 he => ⟨he, 4, rfl, fun hk => ?_, fun _ => rfl⟩, fun h w1 he => ⟨he, 0, rfl, fun _ => rfl, fun hn => ?_⟩⟩ <;> unfold okP at * <;> omega

def errD (p0 p1 p2 p3 n e : Int) : Prop := (¬ okP p0 p1 p2 p3 → e = 4) ∧ (okP p0 p1 p2 p3 → (n < 1 ∨ p3 < n) → e = 5) ∧ (okP p0 p1 p2 p3 → (1 ≤ n ∧ n ≤ p3) → e = 0)

theorem delay_k (p0 p1 p2 p3 n : Int) (hn : InR .i64 n) (w : World) : FnP Try.prog 8 #[.agg #[.int .i64 p0, .int .i64 p1, .int .i64 p2, .int .i64 p3], .int .i64 n] w fun v w' =>
    Ext w w' ∧ ∃ a e, v = .tuple #[.int .i64 a, .int .i64 e] ∧ errD p0 p1 p2 p3 n e ∧ (e ≠ 0 → a = 0) ∧ (e = 0 → a = dl p0 p1 p2 (n - 1).toNat) := by
  refine ok_retry_Delay _ _ _ _ _ w _ ?_
  have hn := inR_i64' hn
  intro b0 hb w1 h1
  refine (check_k _ _ _ _ w1).mono fun v w2 ⟨h2, e, he, ho, hno⟩ => ⟨h2, e, he, fun hne w4 h4 => ⟨h4, 0, e, rfl, ?_, fun _ => rfl, fun h0 => absurd h0 hne⟩, fun he0 => ?_⟩
  · have : ¬ okP p0 p1 p2 p3 := fun h => hne (ho h)
    exact ⟨hno, fun h => absurd h this, fun h => absurd h this⟩
  · have hok : okP p0 p1 p2 p3 := by
      by_cases h : okP p0 p1 p2 p3
      · exact h
      · have := hno h; omega
    refine ⟨fun hr w4 h4 => ⟨h4, 0, 5, rfl, ⟨fun h => absurd hok h, fun _ _ => rfl, fun _ h => by omega⟩, fun _ => rfl, fun h => by omega⟩, fun hr => ⟨inR_i64 (by omega), ?_⟩⟩
    refine ⟨fun d k w' => Ext w w' ∧ 0 ≤ k ∧ k ≤ n - 1 ∧ d = dl p0 p1 p2 k.toNat, fun d k _ => (n - 1 - k).toNat, ⟨Ext.refl w, by omega, by omega, rfl⟩, ?_⟩
    rintro d k w7 ⟨hw, hk0, hk1, rfl⟩
    have hd := dl_bounds hok k.toNat
    have hm1 := mul_le10 (a := dl p0 p1 p2 k.toNat) (b := p1) (by unfold okP at hok; omega) (by unfold okP at hok; omega)
    have hm2 := mul_ge (a := dl p0 p1 p2 k.toNat) (b := p1) (by unfold okP at hok; omega) (by unfold okP at hok; omega)
    unfold okP at hok
    refine ⟨fun hlt => ⟨inR_i64 (by omega), inR_i64 (by omega), ⟨hw, by omega, by omega, ?_⟩, by simp only []; omega⟩, fun hge w8 h8 => ⟨hw.trans h8, _, 0, rfl, ⟨fun h => absurd hok h, fun _ h => by omega, fun _ _ => rfl⟩, fun h => absurd rfl h, fun _ => ?_⟩⟩
    · rw [show (k + 1).toNat = k.toNat + 1 by omega]; rfl
    · rw [show k = n - 1 by omega]

theorem all_k (p0 p1 p2 p3 : Int) (w : World) : FnP Try.prog 12 #[.agg #[.int .i64 p0, .int .i64 p1, .int .i64 p2, .int .i64 p3]] w fun v w' =>
    Ext w w' ∧ ∃ a e, v = .tuple #[.int .i64 a, .int .i64 e] ∧ (okP p0 p1 p2 p3 → e = 0 ∧ a = sm p0 p1 p2 p3.toNat) := by
  refine ok_retry_All _ _ _ _ w _ ?_
  intro b0 hb w1 h1
  refine (check_k _ _ _ _ w1).mono fun v w2 ⟨h2, e, he, ho, hno⟩ => ⟨h2, e, he, fun hne w4 h4 => ⟨h4, 0, e, rfl, fun h => absurd (ho h) hne⟩, fun he0 => ?_⟩
  have hok : okP p0 p1 p2 p3 := by
    by_cases h : okP p0 p1 p2 p3
    · exact h
    · have := hno h; omega
  refine ⟨fun s k w' => Ext w w' ∧ 0 ≤ k ∧ k ≤ p3 ∧ s = sm p0 p1 p2 k.toNat, fun s k _ => (p3 - k).toNat, ⟨Ext.refl w, by omega, by unfold okP at hok; omega, rfl⟩, ?_⟩
  rintro s k w7 ⟨hw, hk0, hk1, rfl⟩
  have hs := sm_bounds hok k.toNat
  have hd := dl_bounds hok k.toNat
  have hok' := hok
  unfold okP at hok'
  refine ⟨fun hlt => ⟨inR_i64 (by omega), fun w8 h8 => ?_⟩, fun hge w8 h8 => ⟨hw.trans h8, _, 0, rfl, fun _ => ⟨rfl, ?_⟩⟩⟩
  · refine (delay_k p0 p1 p2 p3 (k + 1) (inR_i64 (by omega)) w8).mono fun v w9 ⟨h9, a, e', hv, herr, _, ha⟩ => ?_
    have he' : e' = 0 := herr.2.2 hok (by omega)
    have ha := ha he'
    rw [show (k + 1 - 1).toNat = k.toNat by omega] at ha
    refine ⟨h9, a, e', hv, inR_i64 (by omega), inR_i64 (by omega), ⟨hw, by omega, by omega, ?_⟩, by simp only []; omega⟩
    rw [show (k + 1).toNat = k.toNat + 1 by omega, ha]; rfl
  · rw [show k = p3 by omega]

theorem retries_k (w : World) : FnP Try.prog 7 #[] w fun v w' => Ext w w' ∧ v = .bool true := by
  refine ok_shiftbellkeep_retries w _ ?_
  intro w0 h0
  refine (all_k 2 2 3 2 w0).mono fun v w1 ⟨h1, a, e, hv, hr⟩ => ⟨h1, a, e, hv, fun w4 h4 => ⟨h4, ?_⟩⟩
  obtain ⟨rfl, rfl⟩ := hr (by unfold okP; omega)
  simp [sm, dl]; rfl

theorem iBit_shr32 {x : Int} : iBit .shr .u64 x 32 = x / 4294967296 := by
  have : (iBit .shr .u64 x 32 : Int) = x.fdiv (2 ^ 32) := by
    simp [iBit, IntKind.bits]
  rw [this, Int.fdiv_eq_ediv_of_nonneg _ (by decide)]
  rfl

theorem wrap_u64_of {x : Int} (h : 0 ≤ x) (h2 : x ≤ 18446744073709551615) : IntKind.wrap .u64 x = x := by
  simp [IntKind.wrap, IntKind.signed, IntKind.bits]; omega

theorem wrap_u64_mod (x : Int) : IntKind.wrap .u64 x = x % 18446744073709551616 := by
  simp [IntKind.wrap, IntKind.signed, IntKind.bits]

theorem iBit_and32 {x : Int} (h : 0 ≤ x) (h2 : x ≤ 18446744073709551615) : iBit .and .u64 x 4294967295 = x % 4294967296 := by
  simp only [iBit]
  have e : (BitVec.ofInt IntKind.u64.bits x &&& BitVec.ofInt IntKind.u64.bits 4294967295).toNat = x.toNat % 2 ^ 32 := by
    rw [BitVec.toNat_and, ← Nat.and_two_pow_sub_one_eq_mod]
    have e1 : (BitVec.ofInt IntKind.u64.bits x).toNat = x.toNat := by
      simp [BitVec.toNat_ofInt, IntKind.bits]; omega
    have e2 : (BitVec.ofInt IntKind.u64.bits 4294967295).toNat = 2 ^ 32 - 1 := by
      simp [BitVec.toNat_ofInt, IntKind.bits]
    rw [e1, e2]
  rw [e, wrap_u64_of (by omega) (by omega)]
  omega

theorem mul64_law (x y a b c d : Int) (hx : x = a + 4294967296 * b) (hy : y = c + 4294967296 * d) : x * y = a * c + 4294967296 * (b * c) + 4294967296 * (a * d) + 18446744073709551616 * (b * d) := by
  subst hx hy; grind

theorem mul_bound {a b : Int} (ha : 0 ≤ a) (hb : 0 ≤ b) (h1 : a ≤ 4294967295) (h2 : b ≤ 4294967295) : 0 ≤ a * b ∧ a * b ≤ 18446744065119617025 :=
  ⟨Int.mul_nonneg ha hb, Int.le_trans (Int.mul_le_mul h1 h2 hb (by omega)) (by decide)⟩

theorem mul64_k (x y : Int) (hx : InR .u64 x) (hy : InR .u64 y) (w : World) : FnP Try.prog 15 #[.int .u64 x, .int .u64 y] w fun v w' =>
    Ext w w' ∧ ∃ hi lo, v = .tuple #[.int .u64 hi, .int .u64 lo] ∧ x * y = hi * 18446744073709551616 + lo ∧ 0 ≤ hi ∧ 0 ≤ lo ∧ lo ≤ 18446744073709551615 := by
  refine ok_math_bits_Mul64 _ _ w _ ?_
  have hx := inR_u64' hx
  have hy := inR_u64' hy
  unfold wp_math_bits_Mul64
  rw [iBit_and32 hx.1 hx.2, iBit_and32 hy.1 hy.2]
  simp only [iBit_shr32]
  have ha1 := Int.emod_nonneg x (b := 4294967296) (by omega)
  have ha2 := Int.emod_lt_of_pos x (b := 4294967296) (by omega)
  have hc1 := Int.emod_nonneg y (b := 4294967296) (by omega)
  have hc2 := Int.emod_lt_of_pos y (b := 4294967296) (by omega)
  have hxe : x = x % 4294967296 + 4294967296 * (x / 4294967296) := by omega
  have hye : y = y % 4294967296 + 4294967296 * (y / 4294967296) := by omega
  have hb1 : 0 ≤ x / 4294967296 ∧ x / 4294967296 ≤ 4294967295 := by omega
  have hd1 : 0 ≤ y / 4294967296 ∧ y / 4294967296 ≤ 4294967295 := by omega
  have hxy := mul64_law x y _ _ _ _ hxe hye
  rw [wrap_u64_mod]
  generalize x * y = z at hxy ⊢
  generalize x % 4294967296 = a at *
  generalize x / 4294967296 = b at *
  generalize y % 4294967296 = c at *
  generalize y / 4294967296 = d at *
  have q1 := mul_bound (a := a) (b := c) ha1 hc1 (by omega) (by omega)
  have q2 := mul_bound (a := b) (b := c) hb1.1 hc1 hb1.2 (by omega)
  have q3 := mul_bound (a := a) (b := d) ha1 hd1.1 (by omega) hd1.2
  have q4 := mul_bound (a := b) (b := d) hb1.1 hd1.1 hb1.2 hd1.2
  generalize a * c = p1 at *
  generalize b * c = p2 at *
  generalize a * d = p3 at *
  generalize b * d = p4 at *
  rw [iBit_and32 (x := p2 + p1 / 4294967296) (by omega) (by omega)]
  refine ⟨inR_u64 (by omega), inR_u64 (by omega), inR_u64 (by omega), inR_u64 (by omega), inR_u64 (by omega), inR_u64 (by omega), inR_u64 (by omega), inR_u64 (by omega), fun w0 h0 => ⟨h0, _, _, rfl, by omega, by omega, by omega, by omega⟩⟩

def okB (b0 b1 b2 b3 : Int) : Prop := 1 ≤ b0 ∧ b0 ≤ 1099511627776 ∧ 0 ≤ b1 ∧ b1 ≤ 1099511627776 ∧ 0 ≤ b2 ∧ b2 ≤ b0 ∧ 0 ≤ b3 ∧ b3 ≤ 1099511627776

theorem have_k (b0 b1 b2 b3 now : Int) (w : World) : FnP Try.prog 10 #[.agg #[.int .i64 b0, .int .i64 b1, .int .i64 b2, .int .i64 b3], .int .i64 now] w fun v w' =>
    Ext w w' ∧ ∃ a e, v = .tuple #[.int .i64 a, .int .i64 e] ∧ (e = 0 ↔ okB b0 b1 b2 b3 ∧ b3 ≤ now ∧ now ≤ 1099511627776) ∧ (e ≠ 0 → a = 0) ∧ (e = 0 → a = min b0 (b2 + b1 * (now - b3))) := by
  refine ok_retry_Have _ _ _ _ _ w _ ?_
  intro n0 hn0
  refine ⟨fun h w1 h1 => ⟨h1, 0, 4, rfl, ⟨fun h => by omega, fun h => by unfold okB at h; omega⟩, fun _ => rfl, fun h => by omega⟩, fun h => ⟨fun hlt w1 h1 => ⟨h1, 0, 11, rfl, ⟨fun h => by omega, fun h => by omega⟩, fun _ => rfl, fun h => by omega⟩, fun hge =>
    ⟨fun hgt w1 h1 => ⟨h1, 0, 4, rfl, ⟨fun h => by omega, fun h => by omega⟩, fun _ => rfl, fun h => by omega⟩, fun hle => ⟨inR_u64 (by omega), inR_i64 (by omega), inR_u64 (by omega), fun w1 h1 => ?_⟩⟩⟩⟩
  have hok : okB b0 b1 b2 b3 := by unfold okB; omega
  refine (mul64_k b1 (now - b3) (inR_u64 (by omega)) (inR_u64 (by omega)) w1).mono fun v w2 ⟨h2, hi, lo, hv, hm, hhi, hlo, hlo2⟩ => ⟨h2, hi, lo, hv, inR_i64 (by omega), fun _ => inR_u64 (by omega), fun hc w5 h5 => ⟨h5, b0, 0, rfl, ⟨fun _ => ⟨hok, hge, hle⟩, fun _ => rfl⟩, fun h => absurd rfl h, fun _ => ?_⟩,
    fun hc => ⟨inR_i64 (by omega), inR_i64 (by omega), fun w5 h5 => ⟨h5, b2 + lo, 0, rfl, ⟨fun _ => ⟨hok, hge, hle⟩, fun _ => rfl⟩, fun h => absurd rfl h, fun _ => ?_⟩⟩⟩
  · rw [hm]; omega
  · rw [hm]; omega


theorem i64 {x : Int} (h : -9223372036854775808 ≤ x ∧ x ≤ 9223372036854775807) : InR .i64 x := h

/-- What is granted. -/
def Gr (c0 c1 c2 c3 now n : Int) (r : List Int) (ok : Bool) (e : Int) : Prop :=
  (e ≠ 0 ∧ ok = false ∧ r = [0, 0, 0, 0]) ∨ (e = 0 ∧ ok = false ∧ r = [c0, c1, c2, c3]) ∨
  (e = 0 ∧ ok = true ∧ okB c0 c1 c2 c3 ∧ c3 ≤ now ∧ now ≤ 1099511627776 ∧ 0 ≤ n ∧ n ≤ min c0 (c2 + c1 * (now - c3)) ∧ r = [c0, c1, min c0 (c2 + c1 * (now - c3)) - n, now])

theorem grant_k (c0 c1 c2 c3 now n : Int) (w : World) : FnP Try.prog F_retry_Grant #[.agg #[.int .i64 c0, .int .i64 c1, .int .i64 c2, .int .i64 c3], .int .i64 now, .int .i64 n] w fun v w' =>
    Ext w w' ∧ ∃ r0 r1 r2 r3 ok e, v = .tuple #[.agg #[.int .i64 r0, .int .i64 r1, .int .i64 r2, .int .i64 r3], .bool ok, .int .i64 e] ∧ Gr c0 c1 c2 c3 now n [r0, r1, r2, r3] ok e := by
  refine ok_retry_Grant _ _ _ _ _ _ w _ ?_
  intro b0 hb0 b1 hb1 w2 h2
  refine (have_k c0 c1 c2 c3 now w2).mono fun v w3 ⟨h3, a, e, hv, he, ha0, ha⟩ => ⟨h3, a, e, hv, fun _ w6 h6 => ⟨h6, _, _, _, _, _, _, rfl, .inl ⟨by omega, rfl, rfl⟩⟩, fun hor => ⟨fun hne w6 h6 => ⟨h6, _, _, _, _, _, _, rfl, .inl ⟨hne, rfl, rfl⟩⟩, fun he0 => ⟨fun hlt w6 h6 => ⟨h6, _, _, _, _, _, _, rfl, .inr (.inl ⟨rfl, rfl, rfl⟩)⟩, fun hge => ?_⟩⟩⟩
  obtain ⟨hok, h1, h2⟩ := he.1 he0
  have ha := ha he0
  have hn : 0 ≤ n := by omega
  have hb : a ≤ 1099511627776 := by unfold okB at hok; omega
  refine ⟨i64 (by omega), fun w6 h6 => ⟨h6, _, _, _, _, _, _, rfl, .inr (.inr ⟨rfl, rfl, hok, h1, h2, hn, by omega, by rw [← ha]⟩)⟩⟩

theorem cells4 {w : World} {p : Option Addr} {a b c d : Int} (h : Cells w p [.int .i64 a, .int .i64 b, .int .i64 c, .int .i64 d]) : cell w p 0 = some (.int .i64 a) ∧ cell w p 1 = some (.int .i64 b) ∧ cell w p 2 = some (.int .i64 c) ∧ cell w p 3 = some (.int .i64 d) :=
  ⟨h 0 _ rfl, h 1 _ rfl, h 2 _ rfl, h 3 _ rfl⟩

theorem core_RetryBucket (W : World) : ∀ b_0 : Int, InR .i64 b_0 → ∀ b_1 : Int, InR .i64 b_1 → ∀ b_2 : Int, InR .i64 b_2 → ∀ b_3 : Int, InR .i64 b_3 → ∀ at_v : Option Addr, ∀ at_vl : Nat, ∀ at_vc : Nat, SlcArg Try.prog W 2 at_v at_vl at_vc → ∀ want : Option Addr, ∀ wantl : Nat, ∀ wantc : Nat, SlcArg Try.prog W 2 want wantl wantc →
    FnP Try.prog F_shiftbellkeep_RetryBucket #[(.agg #[(.int .i64 b_0), (.int .i64 b_1), (.int .i64 b_2), (.int .i64 b_3)]), (.slice at_v at_vl at_vc), (.slice want wantl wantc)] W fun v W' => v = .bool true ∧ Ext W W' := by
  intro b0 hb0 b1 hb1 b2 hb2 b3 hb3 p pl pc hp q ql qc hq
  obtain ⟨X, rfl, _, hX⟩ := hp.ints (k := .i64) (by kernel_rfl) (by kernel_rfl)
  obtain ⟨Y, rfl, _, hY⟩ := hq.ints (k := .i64) (by kernel_rfl) (by kernel_rfl)
  have hple := hp.le
  refine ok_shiftbellkeep_RetryBucket _ _ _ _ _ _ _ _ _ _ W _ ?_
  intro bn hbn w1 h1
  refine (retries_k w1).mono fun v w2 ⟨e2, hv⟩ => ⟨e2, true, hv, fun h => by simp at h, fun _ w4 h4 => ?_⟩
  refine (have_k b0 b1 b2 b3 b3 w4).mono fun v w5 ⟨e5, a, e, hv, he, _, _⟩ => ⟨e5, a, e, hv, fun hbad w8 h8 => ⟨?_, h8⟩, fun hgd => ?_⟩
  · congr 1
    by_cases he0 : e = 0
    · simp [he0]
    · have hno : ¬ (okB b0 b1 b2 b3 ∧ b3 ≤ b3 ∧ b3 ≤ 1099511627776) := fun h => he0 (he.2 h)
      simp only [Bool.or_eq_true, decide_eq_true_eq]
      unfold okB at hno; omega
  obtain ⟨he0, hrate⟩ := hgd
  obtain ⟨hok, _, _⟩ := he.1 he0
  have hokB := hok
  unfold okB at hokB
  rw [pCut_zero]
  generalize hm : (min (min (X.length : Int) (Y.length : Int)) 50 - 0).toNat = m
  refine ⟨by omega, by omega, by omega, ?_⟩
  have T' : ∀ {w' w'' : World}, Ext W w' → ExtB [bn] [] w' w'' → Ext W w'' := fun h x => but_ext x h (by intro d hd; simp at hd; subst hd; exact hbn)
  refine ⟨fun had k c0 c1 c2 c3 w' => Ext W w' ∧ 0 ≤ k ∧ k ≤ m ∧ c0 = b0 ∧ c1 = b1 ∧ okB c0 c1 c2 c3 ∧ b3 ≤ c3 ∧ 0 ≤ had ∧ had + c2 ≤ b2 + b1 * (c3 - b3), fun _ k _ _ _ _ _ => (m - k).toNat, ⟨Ext.refl _, by omega, by omega, rfl, rfl, hok, by omega, by omega, by rw [Int.sub_self, Int.mul_zero]; omega⟩, ?_⟩
  rintro had k c0 c1 c2 c3 w15 ⟨hw, hk0, hk1, rfl, rfl, hokc, hb3, hhad, hcap⟩
  refine ⟨fun hlt => ?_, fun hge w16 x16 => ⟨rfl, T' hw x16⟩⟩
  have hXk := Ints.idx (hX.ext hw) hk0 (show k < X.length by omega)
  have hYk := Ints.idx (hY.ext hw) hk0 (show k < Y.length by omega)
  have hpn : p ≠ none := fun hn => cell_p hXk (pIdx_none.2 hn)
  have hqn : q ≠ none := fun hn => cell_p hYk (pIdx_none.2 hn)
  have fr : ∀ {r : Option Addr} {Z : List Int}, Ints .i64 W r Z → k < Z.length → Free [bn] (pIdx r k 1) := fun {r Z} hZ hkl b hb x hx => by
    simp at hb; subst hb
    have h0 := Ints.idx hZ hk0 hkl
    obtain ⟨y, hy, hyl, _⟩ := cell_some h0
    rw [hx] at hy; obtain rfl := Option.some.inj hy
    omega
  generalize hnow : X.getD k.toNat 0 = now at hXk
  generalize hwant : Y.getD k.toNat 0 = n at hYk
  refine ⟨hpn, hk0, hlt, now, ⟨hXk, fr hX (by omega)⟩, fun r ok e w' => ∃ r0 r1 r2 r3, Ext W w' ∧ Cells w' r [.int .i64 r0, .int .i64 r1, .int .i64 r2, .int .i64 r3] ∧ (∀ x, r = some x → bn < x.block) ∧ Gr c0 c1 c2 c3 now n [r0, r1, r2, r3] ok e, ⟨hqn, hk0, by omega, n, ⟨hYk, fr hY (by omega)⟩, ⟨fun w23 x23 => ?_, fun w23 x23 => ?_⟩⟩, ?_⟩
  · have h23 := T' hw x23
    refine (grant_k c0 c1 c2 c3 now n w23).mono fun v w24 ⟨e24, r0, r1, r2, r3, ok, e, hv, hg⟩ => ⟨e24, r0, r1, r2, r3, ok, e, hv, fun w31 x31 => ?_⟩
    have h31 := but_ext x31 hw (by intro d hd; simp at hd; subst hd; exact hbn)
    have hbl : bn < w31.heap.size := x31.lt bn (by simp)
    refine new_own (by intro v hv; simp at hv; subst hv; rfl) fun w32 o32 e32 => ?_
    have o32 := o32 w31.heap.size (Nat.le_refl _)
    refine store_own (off := 0) o32 (map_add0 _) (by simp) (by simp) (by intro v hv; simp at hv; rcases hv with rfl | rfl | rfl | rfl <;> rfl) (fun b hb => by simp at hb; subst hb; exact fresh_ne hbl) fun w33 o33 g33 => ?_
    exact ⟨r0, r1, r2, r3, g33.ext (h31.trans e32) (o32.weak h31.size), o33.cells, fun x hx => by have := (o33.lt x hx).1; omega, hg⟩
  · have h23 := but_ext x23 hw (by intro d hd; simp at hd; subst hd; exact hbn)
    have hbl : bn < w23.heap.size := x23.lt bn (by simp)
    refine new_own (by intro v hv; simp at hv; subst hv; rfl) fun w24 o24 e24 w25 h25 => ?_
    have o24 := o24 w23.heap.size (Nat.le_refl _)
    refine (grant_k c0 c1 c2 c3 now n w25).mono fun v w26 ⟨e26, r0, r1, r2, r3, ok, e, hv, hg⟩ => ⟨e26, r0, r1, r2, r3, ok, e, hv, ?_⟩
    refine store_own (off := 0) o24 (map_add0 _) (by simp) (by simp) (by intro v hv; simp at hv; rcases hv with rfl | rfl | rfl | rfl <;> rfl) (fun b hb => by simp at hb; subst hb; exact fresh_ne hbl) fun w33 o33 g33 => ?_
    exact ⟨r0, r1, r2, r3, g33.ext (h23.trans e24) (o24.weak h23.size), o33.cells, fun x hx => by have := (o33.lt x hx).1; omega, hg⟩
  rintro r ok e w21 ⟨r0, r1, r2, r3, hw21, hr, hrb, hg⟩
  obtain ⟨g0, g1, g2, g3⟩ := cells4 hr
  have hrn : r ≠ none := cell_p g0
  have frr : Free [bn] r := fun b hb x hx => by simp at hb; subst hb; have := hrb x hx; omega
  unfold okB at hokc
  refine ⟨fun hne => ⟨fun ht => ?_, fun hf => ⟨hrn, r0, ⟨g0, frr⟩, r1, ⟨g1, frr⟩, r2, ⟨g2, frr⟩, r3, ⟨g3, frr⟩, fun w26 x26 => ?_⟩⟩, fun he => ⟨fun hf => ⟨hrn, r0, ⟨g0, frr⟩, r1, ⟨g1, frr⟩, r2, ⟨g2, frr⟩, r3, ⟨g3, frr⟩, fun w26 x26 => ?_⟩, fun ht => ?_⟩⟩
  · exfalso
    rcases hg with ⟨_, h, _⟩ | ⟨h, _⟩ | ⟨h, _⟩
    · rw [ht] at h; cases h
    · exact hne h
    · exact hne h
  · have hrr : [r0, r1, r2, r3] = [0, 0, 0, 0] := by
      rcases hg with ⟨_, _, h⟩ | ⟨h, _⟩ | ⟨h, _⟩
      · exact h
      · exact absurd h hne
      · exact absurd h hne
    refine run_nes (k := .i64) (n := 4) (by kernel_rfl) (by kernel_rfl) (by kernel_rfl) (by kernel_rfl) [r0, r1, r2, r3] [0, 0, 0, 0] rfl rfl ⟨Ext.refl _, _, rfl, fun h => by rw [hrr] at h; simp at h, fun _ => ⟨i64 (by omega), ⟨hw21, by omega, by omega, rfl, rfl, hokc, hb3, hhad, hcap⟩, by simp only []; omega⟩⟩
  · have hrr : [r0, r1, r2, r3] = [c0, c1, c2, c3] := by
      rcases hg with ⟨h, _⟩ | ⟨_, _, h⟩ | ⟨_, h, _⟩
      · exact absurd he h
      · exact h
      · rw [hf] at h; cases h
    refine run_nes (k := .i64) (n := 4) (by kernel_rfl) (by kernel_rfl) (by kernel_rfl) (by kernel_rfl) [r0, r1, r2, r3] [c0, c1, c2, c3] rfl rfl ⟨Ext.refl _, _, rfl, fun h => by rw [hrr] at h; simp at h, fun _ => ⟨i64 (by omega), ⟨hw21, by omega, by omega, rfl, rfl, hokc, hb3, hhad, hcap⟩, by simp only []; omega⟩⟩
  · rcases hg with ⟨h, _⟩ | ⟨_, h, _⟩ | ⟨_, _, hok2, hn1, hn2, hn0, hn3, hrr⟩
    · exact absurd he h
    · rw [ht] at h; cases h
    simp only [List.cons.injEq, and_true] at hrr
    obtain ⟨rfl, rfl, rfl, rfl⟩ := hrr
    have hYk2 := Ints.idx (hY.ext hw21) hk0 (show k < Y.length by omega)
    rw [hwant] at hYk2
    have m0 : 0 ≤ r1 * (r3 - c3) := Int.mul_nonneg (by omega) (by omega)
    have m1 : r1 * (r3 - b3) = r1 * (c3 - b3) + r1 * (r3 - c3) := by rw [← Int.mul_add]; congr 1; omega
    have m2 : r1 * (r3 - b3) ≤ 1048576 * 1099511627776 := Int.mul_le_mul (by omega) (by omega) (by omega) (by omega)
    have m3 : 0 ≤ r1 * (r3 - b3) := Int.mul_nonneg (by omega) (by omega)
    refine ⟨hrn, _, ⟨g0, frr⟩, _, ⟨g1, frr⟩, _, ⟨g2, frr⟩, _, ⟨g3, frr⟩, hqn, hk0, by omega, n, ⟨hYk2, fr hY (by omega)⟩, i64 (by omega), i64 (by omega), fun _ => i64 (by omega), fun _ => i64 (by omega), fun _ => i64 (by omega), fun hbad => ?_, fun _ => ⟨i64 (by omega), ⟨hw21, by omega, by omega, rfl, rfl, ?_, by omega, by omega, by omega⟩, by simp only []; omega⟩⟩
    · exfalso; omega
    · unfold okB; omega
end Go.Proofs.Ytohgdhcgahjfoaa
