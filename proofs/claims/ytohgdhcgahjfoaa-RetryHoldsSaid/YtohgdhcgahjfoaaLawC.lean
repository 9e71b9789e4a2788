/- The law RetryHolds. -/
import Derived.Test.YtohgdhcgahjfoaaLaw
import Derived.Test.YtohgdhcgahjfoaaTxtB
set_option linter.unusedVariables false
set_option linter.unusedSimpArgs false
namespace Go.Proofs.Ytohgdhcgahjfoaa
open Go.Sx Go.RowKit

theorem iBit_shr32 {x : Int} : iBit .shr .u64 x 32 = x / 4294967296 := by
  have : (iBit .shr .u64 x 32 : Int) = x.fdiv (2 ^ 32) := by
    simp [iBit, IntKind.bits]
  rw [this, Int.fdiv_eq_ediv_of_nonneg _ (by decide)]
  rfl

theorem wrap_u64_of {x : Int} (h : 0 ≤ x) (h2 : x ≤ 18446744073709551615) : IntKind.wrap .u64 x = x := by
  simp [IntKind.wrap, IntKind.signed, IntKind.bits]; omega

theorem wrap_u64_mod (x : Int) : IntKind.wrap .u64 x = x % 18446744073709551616 := by
  simp [IntKind.wrap, IntKind.signed, IntKind.bits]

theorem iBit_and32 {x : Int} (h : 0 ≤ x) (h2 : x ≤ 18446744073709551615) : iBit .and .u64 x 4294967295 = x % 4294967296 := by
  simp only [iBit]
  have e : (BitVec.ofInt IntKind.u64.bits x &&& BitVec.ofInt IntKind.u64.bits 4294967295).toNat = x.toNat % 2 ^ 32 := by
    rw [BitVec.toNat_and, ← Nat.and_two_pow_sub_one_eq_mod]
    have e1 : (BitVec.ofInt IntKind.u64.bits x).toNat = x.toNat := by
      simp [BitVec.toNat_ofInt, IntKind.bits]; omega
    have e2 : (BitVec.ofInt IntKind.u64.bits 4294967295).toNat = 2 ^ 32 - 1 := by
      simp [BitVec.toNat_ofInt, IntKind.bits]
    rw [e1, e2]
  rw [e, wrap_u64_of (by omega) (by omega)]
  omega

theorem mul64_law (x y a b c d : Int) (hx : x = a + 4294967296 * b) (hy : y = c + 4294967296 * d) : x * y = a * c + 4294967296 * (b * c) + 4294967296 * (a * d) + 18446744073709551616 * (b * d) := by
  subst hx hy; grind

theorem mul_bound {a b : Int} (ha : 0 ≤ a) (hb : 0 ≤ b) (h1 : a ≤ 4294967295) (h2 : b ≤ 4294967295) : 0 ≤ a * b ∧ a * b ≤ 18446744065119617025 :=
  ⟨Int.mul_nonneg ha hb, Int.le_trans (Int.mul_le_mul h1 h2 hb (by omega)) (by decide)⟩

theorem mul64_k (x y : Int) (hx : InR .u64 x) (hy : InR .u64 y) (w : World) : FnP Try.prog 15 #[.int .u64 x, .int .u64 y] w fun v w' =>
    Ext w w' ∧ ∃ hi lo, v = .tuple #[.int .u64 hi, .int .u64 lo] ∧ x * y = hi * 18446744073709551616 + lo ∧ 0 ≤ hi ∧ 0 ≤ lo ∧ lo ≤ 18446744073709551615 := by
  refine ok15 _ _ w _ ?_
  have hx := inR_u64' hx
  have hy := inR_u64' hy
  unfold wp15
  rw [iBit_and32 hx.1 hx.2, iBit_and32 hy.1 hy.2]
  simp only [iBit_shr32]
  have ha1 := Int.emod_nonneg x (b := 4294967296) (by omega)
  have ha2 := Int.emod_lt_of_pos x (b := 4294967296) (by omega)
  have hc1 := Int.emod_nonneg y (b := 4294967296) (by omega)
  have hc2 := Int.emod_lt_of_pos y (b := 4294967296) (by omega)
  have hxe : x = x % 4294967296 + 4294967296 * (x / 4294967296) := by omega
  have hye : y = y % 4294967296 + 4294967296 * (y / 4294967296) := by omega
  have hb1 : 0 ≤ x / 4294967296 ∧ x / 4294967296 ≤ 4294967295 := by omega
  have hd1 : 0 ≤ y / 4294967296 ∧ y / 4294967296 ≤ 4294967295 := by omega
  have hxy := mul64_law x y _ _ _ _ hxe hye
  rw [wrap_u64_mod]
  generalize x * y = z at hxy ⊢
  generalize x % 4294967296 = a at *
  generalize x / 4294967296 = b at *
  generalize y % 4294967296 = c at *
  generalize y / 4294967296 = d at *
  have q1 := mul_bound (a := a) (b := c) ha1 hc1 (by omega) (by omega)
  have q2 := mul_bound (a := b) (b := c) hb1.1 hc1 hb1.2 (by omega)
  have q3 := mul_bound (a := a) (b := d) ha1 hd1.1 (by omega) hd1.2
  have q4 := mul_bound (a := b) (b := d) hb1.1 hd1.1 hb1.2 hd1.2
  generalize a * c = p1 at *
  generalize b * c = p2 at *
  generalize a * d = p3 at *
  generalize b * d = p4 at *
  rw [iBit_and32 (x := p2 + p1 / 4294967296) (by omega) (by omega)]
  refine ⟨inR_u64 (by omega), inR_u64 (by omega), inR_u64 (by omega), inR_u64 (by omega), inR_u64 (by omega), inR_u64 (by omega), inR_u64 (by omega), inR_u64 (by omega), fun w0 h0 => ⟨h0, _, _, rfl, by omega, by omega, by omega, by omega⟩⟩

def okB (b0 b1 b2 b3 : Int) : Prop := 1 ≤ b0 ∧ b0 ≤ 1099511627776 ∧ 0 ≤ b1 ∧ b1 ≤ 1099511627776 ∧ 0 ≤ b2 ∧ b2 ≤ b0 ∧ 0 ≤ b3 ∧ b3 ≤ 1099511627776

theorem have_k (b0 b1 b2 b3 now : Int) (w : World) : FnP Try.prog 10 #[.agg #[.int .i64 b0, .int .i64 b1, .int .i64 b2, .int .i64 b3], .int .i64 now] w fun v w' =>
    Ext w w' ∧ ∃ a e, v = .tuple #[.int .i64 a, .int .i64 e] ∧ (e = 0 ↔ okB b0 b1 b2 b3 ∧ b3 ≤ now ∧ now ≤ 1099511627776) ∧ (e ≠ 0 → a = 0) ∧ (e = 0 → a = min b0 (b2 + b1 * (now - b3))) := by
  refine ok10 _ _ _ _ _ w _ ?_
  intro n0 hn0
  refine ⟨fun h w1 h1 => ⟨h1, 0, 4, rfl, ⟨fun h => by omega, fun h => by unfold okB at h; omega⟩, fun _ => rfl, fun h => by omega⟩, fun h => ⟨fun hlt w1 h1 => ⟨h1, 0, 11, rfl, ⟨fun h => by omega, fun h => by omega⟩, fun _ => rfl, fun h => by omega⟩, fun hge =>
    ⟨fun hgt w1 h1 => ⟨h1, 0, 4, rfl, ⟨fun h => by omega, fun h => by omega⟩, fun _ => rfl, fun h => by omega⟩, fun hle => ⟨inR_u64 (by omega), inR_i64 (by omega), inR_u64 (by omega), fun w1 h1 => ?_⟩⟩⟩⟩
  have hok : okB b0 b1 b2 b3 := by unfold okB; omega
  refine (mul64_k b1 (now - b3) (inR_u64 (by omega)) (inR_u64 (by omega)) w1).mono fun v w2 ⟨h2, hi, lo, hv, hm, hhi, hlo, hlo2⟩ => ⟨h2, hi, lo, hv, inR_i64 (by omega), fun _ => inR_u64 (by omega), fun hc w5 h5 => ⟨h5, b0, 0, rfl, ⟨fun _ => ⟨hok, hge, hle⟩, fun _ => rfl⟩, fun h => absurd rfl h, fun _ => ?_⟩,
    fun hc => ⟨inR_i64 (by omega), inR_i64 (by omega), fun w5 h5 => ⟨h5, b2 + lo, 0, rfl, ⟨fun _ => ⟨hok, hge, hle⟩, fun _ => rfl⟩, fun h => absurd rfl h, fun _ => ?_⟩⟩⟩
  · rw [hm]; omega
  · rw [hm]; omega

theorem holds_k (b0 b1 b2 b3 now later : Int) (w : World) : FnP Try.prog 5 #[.agg #[.int .i64 b0, .int .i64 b1, .int .i64 b2, .int .i64 b3], .int .i64 now, .int .i64 later] w fun v w' => v = .bool true ∧ Ext w w' := by
  refine ok5 _ _ _ _ _ _ w _ ?_
  intro n0 hn0 w1 h1
  refine (retries_k w1).mono fun v w2 ⟨h2, hv⟩ => ⟨h2, true, hv, fun h => by simp at h, fun _ w4 h4 => ?_⟩
  refine (have_k b0 b1 b2 b3 now w4).mono fun v w5 ⟨h5, a, e, hv, he, ha0, ha⟩ => ⟨h5, a, e, hv, fun w8 h8 => ?_⟩
  refine (have_k b0 b1 b2 b3 later w8).mono fun v w9 ⟨h9, b, f, hvf, hf, hb0, hb⟩ => ⟨h9, b, f, hvf, fun hne w12 h12 => ⟨?_, h12⟩, fun hc n1 hn1 w13 h13 => ?_⟩
  · congr 1
    simp only [Bool.and_eq_true, Bool.or_eq_true, decide_eq_true_eq]
    exact ⟨(Decidable.em (e = 0)).imp id ha0, (Decidable.em (f = 0)).imp id hb0⟩
  · obtain ⟨⟨he0, hf0⟩, hle⟩ := hc
    have ha := ha he0
    have hb := hb hf0
    obtain ⟨hok, hn1, hn2⟩ := he.1 he0
    obtain ⟨_, hl1, hl2⟩ := hf.1 hf0
    have hok' := hok
    unfold okB at hok'
    have m1 : 0 ≤ b1 * (now - b3) := Int.mul_nonneg (by omega) (by omega)
    have m2 : 0 ≤ b1 * (later - now) := Int.mul_nonneg (by omega) (by omega)
    have m3 : b1 * (later - b3) = b1 * (now - b3) + b1 * (later - now) := by rw [← Int.mul_add]; congr 1; omega
    refine (have_k b0 b1 a now later w13).mono fun v w14 ⟨h14, c, g, hvg, hg, hc0, hcv⟩ => ⟨h14, c, g, hvg, fun w17 h17 => ⟨?_, h17⟩⟩
    have hg0 : g = 0 := hg.2 ⟨by unfold okB; omega, by omega, by omega⟩
    have hcv := hcv hg0
    congr 1
    simp only [Bool.and_eq_true, decide_eq_true_eq]
    refine ⟨⟨⟨⟨?_, hg0⟩, ?_⟩, ?_⟩, ?_⟩ <;> omega

theorem holds_law (W : World) (args : Array Value) (h : GoodAll Try.prog W Try.f5.params.toList args.toList) : FnP Try.prog 5 args W fun v W' => v = .bool true ∧ Ext W W' := by
  rw [Try.params5] at h
  obtain ⟨v0, vs, e, g0, h⟩ := goodAll_cons h
  obtain ⟨v1, vs, rfl, g1, h⟩ := goodAll_cons h
  obtain ⟨v2, vs, rfl, g2, h⟩ := goodAll_cons h
  obtain rfl := goodAll_nil h
  obtain rfl := args_eq e
  obtain ⟨cs, hl, hv⟩ := goodV_leaves (d := 3) (l := [2, 2, 2, 2]) (by kernel_rfl) g0
  rw [show isAggT Try.prog _ = true by kernel_rfl] at hv
  obtain ⟨c0, cs, rfl, l0, hl⟩ := lvs_cons hl
  obtain ⟨c1, cs, rfl, l1, hl⟩ := lvs_cons hl
  obtain ⟨c2, cs, rfl, l2, hl⟩ := lvs_cons hl
  obtain ⟨c3, cs, rfl, l3, hl⟩ := lvs_cons hl
  obtain rfl := lvs_nil hl
  obtain ⟨p0, rfl, _⟩ := leaf_int Try.underlying2 l0
  obtain ⟨p1, rfl, _⟩ := leaf_int Try.underlying2 l1
  obtain ⟨p2, rfl, _⟩ := leaf_int Try.underlying2 l2
  obtain ⟨p3, rfl, _⟩ := leaf_int Try.underlying2 l3
  obtain ⟨n, rfl, hn⟩ := int_open Try.underlying2 g1
  obtain ⟨s, rfl, hs⟩ := int_open Try.underlying2 g2
  subst hv
  exact holds_k p0 p1 p2 p3 n s W

set_option maxRecDepth 100000 in
theorem holds_lifted (os : Os) (started : os.Started) (H : Type) (enc : TypeId × Value → H) :
    ReturnsInHanded {} Try.checked os 5 .any (Rows.retryHoldsSpec.pre6 enc Try.prog Try.f5 Rows.retryHoldsRow.domain false) (Rows.retryHoldsSpec.post enc Try.prog Try.f5 false true false false) := by
  refine returnsInHanded_of_change (C := Try.checked) Try.own started (by kernel_rfl) Try.func5
    (ChangeSpec.witness6 (enc := enc) (C := Try.checked) false ⟨#[], #[.agg #[.int .i64 0, .int .i64 0, .int .i64 0, .int .i64 0], .int .i64 0, .int .i64 0], []⟩ 8 (by kernel_rfl) (by kernel_rfl) (by kernel_rfl) (by kernel_rfl)) ?_
  intro W base args ds gs before hval hW _ _
  exact law_contract (P := Try.prog) (f := Try.f5) (s := Rows.retryHoldsSpec) (tb := 4) Try.laidOut (by kernel_rfl) (by kernel_rfl) Try.underlying4 rfl
    (fun ds hd => by
      rw [Try.params5] at hd
      match ds, hd with
      | [_, _, _], _ => rfl) holds_law W base args ds gs before hval hW

theorem holds_holds : Rows.RetryHoldsSaid :=
  OpenClaim.holds_of_wide 5 Try.f5 rfl rfl rfl rfl rfl rfl rfl ⟨rfl, rfl, rfl, rfl, rfl⟩ rfl rfl rfl rfl rfl (by kernel_rfl) Try.func5 (by kernel_rfl)
    (of_decide_eq_true (by kernel_rfl)) (by unfold Func.isWrapper; first | (rw [if_pos (by decide +kernel)]; kernel_rfl) | (rw [if_neg (by decide +kernel)]; exact ⟨rfl, rfl⟩))
    (fun os started H enc _ => holds_lifted os started H enc)
end Go.Proofs.Ytohgdhcgahjfoaa
