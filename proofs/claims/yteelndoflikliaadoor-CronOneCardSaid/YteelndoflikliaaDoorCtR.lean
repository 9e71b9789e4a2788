/- A field's text, and Print. -/
import Derived.Test.YteelndoflikliaaDoorCtQ
set_option linter.unusedVariables false
set_option linter.unusedSimpArgs false
namespace Go.Proofs.YteelndoflikliaaDoor
open Go.Sx Go.RowKit

theorem tb_xor (x y : Int) (i : Nat) : tb (iBit .xor .u64 x y) i = (tb x i ^^ tb y i) := by
  unfold tb iBit
  have := bv_wrap (bv x ^^^ bv y)
  unfold bv at this ⊢
  rw [show IntKind.bits .u64 = 64 from rfl, this]; simp
theorem U_xor (x y : Int) : U (iBit .xor .u64 x y) := U_wrap (bv x ^^^ bv y)
theorem tb_ones {i : Nat} (h : i < 64) : tb 18446744073709551615 i = true := by
  rw [tb_nat (by rw [U_iff]; omega)]
  show Nat.testBit (2 ^ 64 - 1) i = true
  rw [Nat.testBit_two_pow_sub_one]
  simpa using h
def lowb (x : Int) : Nat := Lib.ctz 64 x.toNat
theorem lowb_spec {x : Int} (hx : U x) (h0 : x ≠ 0) : lowb x < 64 ∧ tb x (lowb x) = true ∧ ∀ i, i < lowb x → tb x i = false := by
  have hu := U_iff.1 hx
  obtain ⟨a, b, c, _⟩ := tzbits (x := x.toNat) (by omega) (by omega)
  exact ⟨a, by rw [tb_nat hx]; exact c, fun i hi => by rw [tb_nat hx]; exact b i hi⟩
theorem spn_gen {l t : Int} (h0 : 0 ≤ l) (h1 : l ≤ t) (h2 : t ≤ 62) : ∀ j : Nat, tb (spn l t) j = decide (l ≤ (j : Int) ∧ (j : Int) ≤ t) := by
  have e : spn l t = (((2 ^ (t - l + 1).toNat - 1) * 2 ^ l.toNat : Nat) : Int) := by
    unfold spn
    rw [shl_one (by omega) (by omega), shl_one h0 (by omega)]
    have hp : 2 ^ (t + 1).toNat = 2 ^ (t - l + 1).toNat * 2 ^ l.toNat := by rw [← Nat.pow_add]; congr 1; omega
    have hle : 2 ^ l.toNat ≤ 2 ^ (t + 1).toNat := Nat.pow_le_pow_right (by omega) (by omega)
    have hlt : 2 ^ (t + 1).toNat < 18446744073709551616 := by
      have : 2 ^ (t + 1).toNat < 2 ^ 64 := Nat.pow_lt_pow_right (by omega) (by omega)
      simpa using this
    rw [← Int.ofNat_sub hle, wrapU (Nat.lt_of_le_of_lt (Nat.sub_le _ _) hlt), Nat.sub_mul, Nat.one_mul, hp]
  have hu : U (spn l t) := by
    rw [e, U_iff]
    have hp : 2 ^ (t + 1).toNat = 2 ^ (t - l + 1).toNat * 2 ^ l.toNat := by rw [← Nat.pow_add]; congr 1; omega
    have hlt : 2 ^ (t + 1).toNat < 18446744073709551616 := by
      have : 2 ^ (t + 1).toNat < 2 ^ 64 := Nat.pow_lt_pow_right (by omega) (by omega)
      simpa using this
    rw [Nat.sub_mul, Nat.one_mul, ← hp]
    have hh := Nat.lt_of_le_of_lt (Nat.sub_le (2 ^ (t + 1).toNat) (2 ^ l.toNat)) hlt
    generalize 2 ^ (t + 1).toNat - 2 ^ l.toNat = z at hh ⊢
    omega
  intro j
  rw [tb_nat hu, e, Int.toNat_natCast, Nat.testBit_mul_two_pow, Nat.testBit_two_pow_sub_one]
  rw [Bool.eq_iff_iff]
  simp only [Bool.and_eq_true, decide_eq_true_eq]
  omega

theorem all_k (p : Option Addr) {low top : Int} (h0 : 0 ≤ low ∧ low ≤ 62) (h1 : 0 ≤ top ∧ top ≤ 62) (w : World) : FnP Tryd.prog F_cron_field_all #[.agg #[.pointer p, .int .i64 low, .int .i64 top]] w fun v w' => Ext w w' ∧ v = .int .u64 (spn low top) :=
  ok_cron_field_all _ _ _ w _ fun b0 _ wa ha => (span_k _ _ h0 h1 wa).mono fun v wb ⟨eb, hv⟩ => ⟨eb, _, hv, fun wc hc => ⟨hc, rfl⟩⟩

def meas (x : Int) : Nat := if x = 0 then 0 else 64 - lowb x
theorem join_le {c : UInt8} {m : Nat} : ∀ (L : List (List UInt8)), (∀ y ∈ L, y.length ≤ m) → (Lib.join L [c]).length ≤ L.length * (m + 1)
  | [], _ => by simp [Lib.join_nil]
  | [x], h => by rw [Lib.join_one]; have := h x (List.mem_cons_self ..); simp; omega
  | x :: y :: L, h => by
    have ih := join_le (c := c) (y :: L) fun z hz => h z (List.mem_cons_of_mem _ hz)
    have hx := h x (List.mem_cons_self ..)
    have e : Lib.join (x :: y :: L) [c] = x ++ c :: Lib.join (y :: L) [c] := by
      rw [Lib.join_cons, Lib.join_cons]
      simp [Lib.joinTail]
    rw [e, List.length_append, List.length_cons, List.length_cons, Nat.add_mul]
    omega
theorem it_len {low top : Int} (h0 : 0 ≤ low) (h1 : top ≤ 59) {r : Itm} (h : IT low top r) : r.1.length ≤ 5 := by
  rcases h with ⟨h, _⟩ | ⟨a, b, c, h⟩
  · rw [h]; simp
  · rw [h]; exact run_len (by omega) b (by omega)

theorem ftext_k (p : Option Addr) (low top set : Int) (h0 : 0 ≤ low) (h1 : low ≤ top) (h2 : top ≤ 59) (hsp : ∀ j : Nat, tb (spn low top) j = decide (low ≤ (j : Int) ∧ (j : Int) ≤ top)) (hU : U set) (hne : set ≠ 0) (hin : ∀ j : Nat, tb set j = true → low ≤ (j : Int) ∧ (j : Int) ≤ top)
    (w : World) (g : GB w) (gt : GT w) (hc : Go.Sx.cell w p 0 = some (.int .u64 set)) :
    FnP Tryd.prog F_cron_field_text #[.agg #[.pointer p, .int .i64 low, .int .i64 top]] w fun v w' => Ext w w' ∧ ∃ l, v = .string (ofL l) ∧ FT set low top l ∧ l.length ≤ 400 := by
  refine ok_cron_field_text p low top w _ fun b0 hb0 => ⟨cell_p hc, _, hc, fun w2 x2 => (all_k p ⟨h0, by omega⟩ ⟨by omega, by omega⟩ w2).mono fun v w3 ⟨e3, hv⟩ => ⟨e3, _, hv, fun heq w5 x5 => ⟨x5, [42], rfl, ⟨[([42], low, top)], by simp, fun r hr => ?_, rfl, fun j => ?_⟩, by simp⟩, fun hns => ⟨cell_p hc, _, hc, ?_⟩⟩⟩
  · obtain rfl := List.mem_singleton.1 hr
    exact .inl ⟨rfl, rfl, rfl⟩
  · rw [heq, hsp]
    rw [Bool.eq_iff_iff, decide_eq_true_iff, decide_eq_true_iff]
    constructor
    · intro h; exact ⟨_, List.mem_singleton.2 rfl, h⟩
    · rintro ⟨r, hr, h⟩
      obtain rfl := List.mem_singleton.1 hr
      exact h
  refine ⟨fun out outl outc left w' => (∀ y, out = some y → y.block ≠ b0) ∧ Ext w w' ∧ U left ∧ (∀ j : Nat, tb left j = true → tb set j = true) ∧ ∃ L : List Itm, Own w.heap.size w' T_string 1 out outl outc ((L.map (·.1)).map fun l => Value.string (ofL l)) ∧ (∀ r ∈ L, IT low top r) ∧ L.length ≤ 64 ∧ (∀ j : Nat, tb left j = true → L.length ≤ j) ∧
      ∀ j : Nat, (tb set j = true ↔ (∃ r ∈ L, r.2.1 ≤ (j : Int) ∧ (j : Int) ≤ r.2.2) ∨ tb left j = true), fun _ _ _ left _ => meas left,
    ⟨fun y hy => (by cases hy), Ext.refl _, hU, fun j h => h, [], Own.nil, fun r hr => by (cases hr), by simp, fun j _ => by simp, fun j => by simp⟩, ?_⟩
  rintro out outl outc left w9 ⟨ob, x9, hUl, hsub, L, o9, hIT, hL64, hLlow, hbits⟩
  refine ⟨fun hl0 w10 x10 => ?_, fun hl0 w10 x10 => ?_⟩
  rotate_left
  · have hLne : L ≠ [] := fun h => by
      obtain ⟨j, hj⟩ := (ne_zero hU).1 hne
      rcases (hbits j).1 hj with ⟨r, hr, _⟩ | h'
      · rw [h] at hr; cases hr
      · rw [hl0, tb_zero] at h'; cases h'
    have hlen := join_le (c := 44) (m := 5) (L.map (·.1)) fun y hy => by
      obtain ⟨r, hr, rfl⟩ := List.mem_map.1 hy
      exact it_len h0 h2 (hIT r hr)
    rw [List.length_map] at hlen
    refine (Join_k (L.map (·.1)) 44 out outl outc w.heap.size T_string w10 (o9.ext x10) (by simpa using hLne) (by omega)).mono fun v w11 ⟨e11, hv⟩ => ⟨e11, _, hv, fun w13 x13 => ⟨x9.trans x13, _, rfl, ⟨L, hLne, hIT, rfl, fun j => ?_⟩, by omega⟩⟩
    rw [Bool.eq_iff_iff, decide_eq_true_iff, hbits j, hl0, tb_zero]
    simp
  obtain ⟨c1, c2, c3⟩ := lowb_spec hUl hl0
  obtain ⟨d1, d2⟩ := hin _ (hsub _ c2)
  refine (TZ_k left hUl hl0 w10 (gt.ext (x9.trans x10))).mono fun v w11 ⟨e11, hv⟩ => ⟨e11, _, hv, (by omega), fun w13 x13 => ?_⟩
  have hc1 : ((Lib.ctz 64 left.toNat : Nat) : Int) = ((lowb left : Nat) : Int) := rfl
  rw [hc1]
  have hsU := U_shr hUl (i := ((lowb left : Nat) : Int)) (by omega) (by omega)
  have hst : ∀ j, tb (iBit .shr .u64 left ((lowb left : Nat) : Int)) j = tb left (lowb left + j) := fun j => by
    rw [tb_shr hUl (by omega) (by omega)]; simp
  generalize hy : iBit .xor .u64 18446744073709551615 (iBit .shr .u64 left ((lowb left : Nat) : Int)) = y
  have yU : U y := by rw [← hy]; exact U_xor _ _
  have yt : ∀ j, j < 64 → tb y j = !tb left (lowb left + j) := fun j hj => by
    rw [← hy, tb_xor, tb_ones hj, hst]; simp
  have y0 : y ≠ 0 := (ne_zero yU).2 ⟨63, by
    rw [yt 63 (by omega)]
    cases hb : tb left (lowb left + 63) with
    | false => rfl
    | true => have := hin _ (hsub _ hb); omega⟩
  obtain ⟨k1, k2, k3⟩ := lowb_spec yU y0
  rw [yt _ k1] at k2
  have kpos : 0 < lowb y := by
    rcases Nat.eq_zero_or_pos (lowb y) with h | h
    · rw [h, Nat.add_zero, c2] at k2; cases k2
    · exact h
  have krun : ∀ j, j < lowb y → tb left (lowb left + j) = true := fun j hj => by
    have := k3 j hj
    rw [yt j (by omega)] at this
    simpa using this
  have ktop := hin _ (hsub _ (krun (lowb y - 1) (by omega)))
  refine (TZ_k y yU y0 w13 (gt.ext (x9.trans x13))).mono fun v w14 ⟨e14, hv⟩ => ⟨e14, _, hv, ?_⟩
  have hc2 : ((Lib.ctz 64 y.toNat : Nat) : Int) = ((lowb y : Nat) : Int) := rfl
  rw [hc2]
  generalize hlo : ((lowb left : Nat) : Int) = lo at *
  generalize htp : lo + ((lowb y : Nat) : Int) - 1 = tp at *
  have hlt : lo ≤ tp := by omega
  have htt : tp ≤ top := by omega
  have hll : low ≤ lo := by omega
  -- what is new
  have hnew : ∀ (out' : Option Addr) (outl' outc' : Nat) (w' : World), Ext w w' → Own w.heap.size w' T_string 1 out' outl' outc' (((L ++ [(run lo tp, lo, tp)]).map (·.1)).map fun l => Value.string (ofL l)) →
      (Ext w w' ∧ U (iBit .andNot .u64 left (spn lo tp)) ∧ (∀ j : Nat, tb (iBit .andNot .u64 left (spn lo tp)) j = true → tb set j = true) ∧ ∃ L : List Itm, Own w.heap.size w' T_string 1 out' outl' outc' ((L.map (·.1)).map fun l => Value.string (ofL l)) ∧ (∀ r ∈ L, IT low top r) ∧ L.length ≤ 64 ∧ (∀ j : Nat, tb (iBit .andNot .u64 left (spn lo tp)) j = true → L.length ≤ j) ∧
      ∀ j : Nat, (tb set j = true ↔ (∃ r ∈ L, r.2.1 ≤ (j : Int) ∧ (j : Int) ≤ r.2.2) ∨ tb (iBit .andNot .u64 left (spn lo tp)) j = true)) ∧ meas (iBit .andNot .u64 left (spn lo tp)) < meas left := by
    intro out' outl' outc' w' x' o'
    have nb : ∀ j : Nat, tb (iBit .andNot .u64 left (spn lo tp)) j = true ↔ tb left j = true ∧ ¬ (lo ≤ (j : Int) ∧ (j : Int) ≤ tp) := fun j => by
      rw [tb_andNot, spn_gen (by omega) hlt (by omega), Bool.and_eq_true, Bool.not_eq_true', decide_eq_false_iff_not]
    have nlow : ∀ j : Nat, tb (iBit .andNot .u64 left (spn lo tp)) j = true → lowb left < j := fun j hj => by
      obtain ⟨a, b⟩ := (nb j).1 hj
      rcases Nat.lt_or_ge (lowb left) j with h | h
      · exact h
      · exfalso
        rcases Nat.lt_or_eq_of_le h with h | h
        · rw [c3 j h] at a; cases a
        · subst h; exact b (by omega)
    refine ⟨⟨x', U_andNot _ _, fun j h => hsub j ((nb j).1 h).1, L ++ [(run lo tp, lo, tp)], o', fun r hr => ?_, ?_, fun j hj => ?_, fun j => ?_⟩, ?_⟩
    · rcases List.mem_append.1 hr with h | h
      · exact hIT r h
      · obtain rfl := List.mem_singleton.1 h
        exact .inr ⟨hll, hlt, htt, rfl⟩
    · have := hLlow _ c2
      rw [List.length_append, List.length_singleton]; omega
    · have h1 := nlow j hj
      have h2 := hLlow _ c2
      rw [List.length_append, List.length_singleton]; omega
    · rw [hbits j, nb j]
      constructor
      · rintro (⟨r, hr, h⟩ | h)
        · exact .inl ⟨r, List.mem_append_left _ hr, h⟩
        · by_cases hj : lo ≤ (j : Int) ∧ (j : Int) ≤ tp
          · exact .inl ⟨_, List.mem_append_right _ (List.mem_singleton.2 rfl), hj⟩
          · exact .inr ⟨h, hj⟩
      · rintro (⟨r, hr, h⟩ | h)
        · rcases List.mem_append.1 hr with h' | h'
          · exact .inl ⟨r, h', h⟩
          · obtain rfl := List.mem_singleton.1 h'
            right
            have h : lo ≤ (j : Int) ∧ (j : Int) ≤ tp := h
            have := krun (j - lowb left) (by omega)
            rwa [show lowb left + (j - lowb left) = j by omega] at this
        · exact .inr h.1
    · unfold meas
      rw [if_neg hl0]
      split
      · omega
      · rename_i hz
        have := nlow _ (lowb_spec (U_andNot _ _) hz).2.1
        omega
  refine ⟨i64 (by omega), i64 (by omega), fun w16 x16 => ?_⟩
  have ol := o9.leni
  rw [List.length_map] at ol
  refine (Itoa_k lo (by omega) w16 (g.ext (x9.trans x16))).mono fun v w17 ⟨e17, hv⟩ => ⟨e17, _, hv, fun hlt' w19 x19 => ?_, fun hge => ?_⟩
  · refine (Itoa_k tp (by omega) w19 (g.ext (x9.trans x19))).mono fun v w20 ⟨e20, hv⟩ => ⟨e20, _, hv, ?_⟩
    have i1 := itoa_two (m := lo) (by omega) (by omega)
    have i2 := itoa_two (m := tp) (by omega) (by omega)
    have hcat : ofL (Lib.itoa lo) ++ ((⟨#[45]⟩ : ByteArray) ++ ofL (Lib.itoa tp)) = ofL (run lo tp) := by
      rw [← ofL_of (ofL (Lib.itoa lo) ++ ((⟨#[45]⟩ : ByteArray) ++ ofL (Lib.itoa tp))), bs_app, bs_app]
      unfold run
      rw [if_pos hlt']
      rfl
    refine ⟨?_, ?_, ?_⟩
    · unfold CatOk; rw [ofL_size]; show 1 + _ ≤ _; omega
    · unfold CatOk; rw [ByteArray.size_append, ofL_size, ofL_size]; show _ + (1 + _) ≤ _; omega
    rw [hcat]
    refine push_B elem_sl_string (by omega) o9 x9.size (fun b hb y hy => by simp at hb; subst hb; exact ob y hy) rfl (by intro u hu; simp [Value.cells] at hu; subst hu; rfl) (by omega) (by omega) (by omega) fun p' c' w' o' g' np' nb' => ?_
    have key := hnew p' (outl + 1) c' w' (g'.ext x9 o9) (by simpa [Value.cells] using o')
    exact fun w32 x32 => (span_k lo tp ⟨by omega, by omega⟩ ⟨by omega, by omega⟩ w32).mono fun v w33 ⟨e33, hv⟩ => ⟨e33, _, hv, ⟨fun y hy => nb' b0 (by simp) y hy, key.1⟩, key.2⟩
  · have hrun : ofL (Lib.itoa lo) = ofL (run lo tp) := by unfold run; rw [if_neg (by omega)]
    rw [hrun]
    refine push_B elem_sl_string (by omega) o9 x9.size (fun b hb y hy => by simp at hb; subst hb; exact ob y hy) rfl (by intro u hu; simp [Value.cells] at hu; subst hu; rfl) (by omega) (by omega) (by omega) fun p' c' w' o' g' np' nb' => ?_
    have key := hnew p' (outl + 1) c' w' (g'.ext x9 o9) (by simpa [Value.cells] using o')
    exact fun w32 x32 => (span_k lo tp ⟨by omega, by omega⟩ ⟨by omega, by omega⟩ w32).mono fun v w33 ⟨e33, hv⟩ => ⟨e33, _, hv, ⟨fun y hy => nb' b0 (by simp) y hy, key.1⟩, key.2⟩
end Go.Proofs.YteelndoflikliaaDoor
