/- The law RetryWaits. -/
import Derived.Test.YtohgdhcgahjfoaaLaw
set_option linter.unusedVariables false
set_option linter.unusedSimpArgs false
namespace Go.Proofs.Ytohgdhcgahjfoaa
open Go.Sx Go.RowKit

theorem wrap_u64 (x : Int) : InR .u64 (IntKind.wrap .u64 x) := by
  constructor <;> simp [IntKind.wrap, IntKind.signed, IntKind.bits, IntKind.min, IntKind.max] <;> omega

theorem mix_k (seed n : Int) (w : World) : FnP Try.prog 14 #[.int .u64 seed, .int .i64 n] w fun v w' => Ext w w' ∧ ∃ x, v = .int .u64 x ∧ InR .u64 x := by
  refine ok14 _ _ w _ ?_
  intro w0 h0
  exact ⟨h0, _, rfl, wrap_u64 _⟩

theorem errD_eq {p0 p1 p2 p3 n e f : Int} (he : errD p0 p1 p2 p3 n e) (hf : errD p0 p1 p2 p3 n f) : e = f := by
  by_cases hk : okP p0 p1 p2 p3
  · by_cases hn : 1 ≤ n ∧ n ≤ p3
    · rw [he.2.2 hk hn, hf.2.2 hk hn]
    · rw [he.2.1 hk (by omega), hf.2.1 hk (by omega)]
  · rw [he.1 hk, hf.1 hk]

theorem errD_ok {p0 p1 p2 p3 n e : Int} (he : errD p0 p1 p2 p3 n e) (h0 : e = 0) : okP p0 p1 p2 p3 := by
  by_cases hk : okP p0 p1 p2 p3
  · exact hk
  · have := he.1 hk; omega

theorem wait_k (p0 p1 p2 p3 n seed : Int) (hn : InR .i64 n) (w : World) : FnP Try.prog 9 #[.agg #[.int .i64 p0, .int .i64 p1, .int .i64 p2, .int .i64 p3], .int .i64 n, .int .u64 seed] w fun v w' =>
    Ext w w' ∧ ∃ b e, v = .tuple #[.int .i64 b, .int .i64 e] ∧ errD p0 p1 p2 p3 n e ∧ (e ≠ 0 → b = 0) ∧
      (e = 0 → (dl p0 p1 p2 (n - 1).toNat).tdiv 2 ≤ b ∧ b ≤ dl p0 p1 p2 (n - 1).toNat) := by
  refine ok9 _ _ _ _ _ _ w _ ?_
  intro b0 hb w1 h1
  refine (delay_k p0 p1 p2 p3 n hn w1).mono fun v w2 ⟨h2, a, e, hv, herr, ha0, ha⟩ => ⟨h2, a, e, hv, fun hne w5 h5 => ⟨h5, 0, e, rfl, herr, fun _ => rfl, fun h => absurd h hne⟩, fun he => ?_⟩
  have hok := errD_ok herr he
  have ha := ha he
  have hd := dl_bounds hok (n - 1).toNat
  rw [← ha] at hd ⊢
  unfold okP at hok
  have hdiv : a.tdiv 2 = a / 2 := Int.tdiv_eq_ediv_of_nonneg (by omega)
  rw [hdiv]
  refine ⟨inR_i64 (by omega), fun w5 h5 => ?_⟩
  refine (mix_k seed n w5).mono fun v w6 ⟨h6, x, hv, hx⟩ => ⟨h6, x, hv, inR_i64 (by omega), inR_i64 (by omega), inR_u64 (by omega), by omega, ?_⟩
  have hx := inR_u64' hx
  have hm : x.tmod (a - a / 2 + 1) = x % (a - a / 2 + 1) := Int.tmod_eq_emod_of_nonneg hx.1
  rw [hm]
  have hm1 := Int.emod_nonneg x (b := a - a / 2 + 1) (by omega)
  have hm2 := Int.emod_lt_of_pos x (b := a - a / 2 + 1) (by omega)
  refine ⟨inR_i64 (by omega), inR_i64 (by omega), fun w8 h8 => ⟨h8, _, 0, rfl, by rw [← he]; exact herr, fun h => absurd rfl h, fun _ => ⟨by omega, by omega⟩⟩⟩

theorem waits_k (p0 p1 p2 p3 n seed : Int) (hn : InR .i64 n) (w : World) : FnP Try.prog 4 #[.agg #[.int .i64 p0, .int .i64 p1, .int .i64 p2, .int .i64 p3], .int .i64 n, .int .u64 seed] w fun v w' => v = .bool true ∧ Ext w w' := by
  refine ok4 _ _ _ _ _ _ w _ ?_
  intro b0 hb w1 h1
  refine (retries_k w1).mono fun v w2 ⟨h2, hv⟩ => ⟨h2, true, hv, fun h => by simp at h, fun _ w4 h4 => ?_⟩
  refine (delay_k p0 p1 p2 p3 n hn w4).mono fun v w5 ⟨h5, a, e, hv, herr, ha0, ha⟩ => ⟨h5, a, e, hv, fun w8 h8 => ?_⟩
  refine (wait_k p0 p1 p2 p3 n seed hn w8).mono fun v w9 ⟨h9, b, f, hvf, hferr, hb0, hbv⟩ => ⟨h9, b, f, hvf, fun hne w12 h12 => ⟨?_, h12⟩, fun he0 => ?_⟩
  · have hef := errD_eq herr hferr
    have := hb0 (by omega)
    simp [hef, this]
  · have hef := errD_eq herr hferr
    have ha := ha he0
    have hok := errD_ok herr he0
    have hd := dl_bounds hok (n - 1).toNat
    have hb := hbv (by omega)
    rw [← ha] at hb hd
    unfold okP at hok
    have hdiv : a.tdiv 2 = a / 2 := Int.tdiv_eq_ediv_of_nonneg (by omega)
    refine ⟨fun _ => inR_i64 (by rw [hdiv]; omega), fun w12 h12 => ⟨?_, h12⟩⟩
    congr 1
    simp only [Bool.and_eq_true, decide_eq_true_eq]
    exact ⟨⟨by omega, hb.1⟩, hb.2⟩

theorem waits_law (W : World) (args : Array Value) (h : GoodAll Try.prog W Try.f4.params.toList args.toList) : FnP Try.prog 4 args W fun v W' => v = .bool true ∧ Ext W W' := by
  rw [Try.params4] at h
  obtain ⟨v0, vs, e, g0, h⟩ := goodAll_cons h
  obtain ⟨v1, vs, rfl, g1, h⟩ := goodAll_cons h
  obtain ⟨v2, vs, rfl, g2, h⟩ := goodAll_cons h
  obtain rfl := goodAll_nil h
  obtain rfl := args_eq e
  obtain ⟨p0, p1, p2, p3, rfl⟩ := pol_open g0
  obtain ⟨n, rfl, hn⟩ := int_open Try.underlying3 g1
  obtain ⟨s, rfl, hs⟩ := int_open Try.underlying29 g2
  exact waits_k p0 p1 p2 p3 n s hn W

set_option maxRecDepth 100000 in
theorem waits_lifted (os : Os) (started : os.Started) (H : Type) (enc : TypeId × Value → H) :
    ReturnsInHanded {} Try.checked os 4 .any (Rows.retryWaitsSpec.pre6 enc Try.prog Try.f4 Rows.retryWaitsRow.domain false) (Rows.retryWaitsSpec.post enc Try.prog Try.f4 false true false false) := by
  refine returnsInHanded_of_change (C := Try.checked) Try.own started (by kernel_rfl) Try.func4
    (ChangeSpec.witness6 (enc := enc) (C := Try.checked) false ⟨#[], #[.agg #[.int .i64 0, .int .i64 0, .int .i64 0, .int .i64 0], .int .i64 0, .int .u64 0], []⟩ 8 (by kernel_rfl) (by kernel_rfl) (by kernel_rfl) (by kernel_rfl)) ?_
  intro W base args ds gs before hval hW _ _
  exact law_contract (P := Try.prog) (f := Try.f4) (s := Rows.retryWaitsSpec) (tb := 4) Try.laidOut (by kernel_rfl) (by kernel_rfl) Try.underlying4 rfl
    (fun ds hd => by
      rw [Try.params4] at hd
      match ds, hd with
      | [_, _, _], _ => rfl) waits_law W base args ds gs before hval hW

theorem waits_holds : Rows.RetryWaitsSaid :=
  OpenClaim.holds_of_wide 4 Try.f4 rfl rfl rfl rfl rfl rfl rfl ⟨rfl, rfl, rfl, rfl, rfl⟩ rfl rfl rfl rfl rfl (by kernel_rfl) Try.func4 (by kernel_rfl)
    (of_decide_eq_true (by kernel_rfl)) (by unfold Func.isWrapper; first | (rw [if_pos (by decide +kernel)]; kernel_rfl) | (rw [if_neg (by decide +kernel)]; exact ⟨rfl, rfl⟩))
    (fun os started H enc _ => waits_lifted os started H enc)
end Go.Proofs.Ytohgdhcgahjfoaa
