/- Package cron: what Check, day, within, Match and Next answer. -/
import Derived.Test.YteelndoflikliaaDoorCtC
import Derived.Test.YteelndoflikliaaDoorCtT
import Derived.Test.YteelndoflikliaaDoorSxR
set_option linter.unusedVariables false
set_option linter.unusedSimpArgs false
namespace Go.Proofs.YteelndoflikliaaDoor
open Go.Sx Go.RowKit

def GC (w : World) : Prop := GT w ∧ Gl w
theorem GC.ext {w w' : World} (hg : GC w) (h : Ext w w') : GC w' := ⟨GT.ext hg.1 h, Gl.ext hg.2 h⟩
/-! ### Sets -/
def spn (low top : Int) : Int := IntKind.wrap .u64 (iBit .shl .u64 1 (top + 1) - iBit .shl .u64 1 low)
theorem span_k (low top : Int) (h0 : 0 ≤ low ∧ low ≤ 62) (h1 : 0 ≤ top ∧ top ≤ 62) (w : World) : FnP Tryd.prog F_cron_span #[.int .i64 low, .int .i64 top] w fun v w' => Ext w w' ∧ v = .int .u64 (spn low top) :=
  ok_cron_span low top w _ ⟨i64 (by omega), by omega, by omega, fun w0 h0 => ⟨h0, rfl⟩⟩
theorem spn_bits {low top : Int} {n : Nat} (h : spn low top = n) (hn : n < 18446744073709551616) (hb : ∀ j, j < 64 → n.testBit j = decide (low ≤ (j : Int) ∧ (j : Int) ≤ top)) (ht : top < 64) : U (spn low top) ∧ ∀ j : Nat, tb (spn low top) j = decide (low ≤ (j : Int) ∧ (j : Int) ≤ top) := by
  have hu : U (spn low top) := by rw [h, U_iff]; omega
  refine ⟨hu, fun j => ?_⟩
  by_cases hj : j < 64
  · rw [tb_nat hu, h, ← hb j hj]; simp
  · have h1 : tb (spn low top) j = false := by
      cases hc : tb (spn low top) j with
      | false => rfl
      | true => exact absurd (tb_lt hc) hj
    rw [h1]; symm; rw [decide_eq_false_iff_not]; omega
theorem spn0 : U (spn 0 59) ∧ ∀ j : Nat, tb (spn 0 59) j = decide ((0 : Int) ≤ (j : Int) ∧ (j : Int) ≤ 59) := spn_bits (n := 1152921504606846975) (by decide) (by decide) (by decide) (by decide)
theorem spn1 : U (spn 0 23) ∧ ∀ j : Nat, tb (spn 0 23) j = decide ((0 : Int) ≤ (j : Int) ∧ (j : Int) ≤ 23) := spn_bits (n := 16777215) (by decide) (by decide) (by decide) (by decide)
theorem spn2 : U (spn 1 31) ∧ ∀ j : Nat, tb (spn 1 31) j = decide ((1 : Int) ≤ (j : Int) ∧ (j : Int) ≤ 31) := spn_bits (n := 4294967294) (by decide) (by decide) (by decide) (by decide)
theorem spn3 : U (spn 1 12) ∧ ∀ j : Nat, tb (spn 1 12) j = decide ((1 : Int) ≤ (j : Int) ∧ (j : Int) ≤ 12) := spn_bits (n := 8190) (by decide) (by decide) (by decide) (by decide)
theorem spn4 : U (spn 0 6) ∧ ∀ j : Nat, tb (spn 0 6) j = decide ((0 : Int) ≤ (j : Int) ∧ (j : Int) ≤ 6) := spn_bits (n := 127) (by decide) (by decide) (by decide) (by decide)

/-- A cron. -/
structure Cr where
  a : Int
  b : Int
  c : Int
  d : Int
  e : Int
abbrev encC (x : Cr) : List Value := [.int .u64 x.a, .int .u64 x.b, .int .u64 x.c, .int .u64 x.d, .int .u64 x.e]
abbrev cv (x : Cr) : Value := .agg #[.int .u64 x.a, .int .u64 x.b, .int .u64 x.c, .int .u64 x.d, .int .u64 x.e]
def CrU (x : Cr) : Prop := U x.a ∧ U x.b ∧ U x.c ∧ U x.d ∧ U x.e
def fld (x : Cr) (i : Nat) : Int := match i with | 0 => x.a | 1 => x.b | 2 => x.c | 3 => x.d | _ => x.e
def lows (i : Nat) : Int := match i with | 0 => 0 | 1 => 0 | 2 => 1 | 3 => 1 | _ => 0
def tops (i : Nat) : Int := match i with | 0 => 59 | 1 => 23 | 2 => 31 | 3 => 12 | _ => 6
/-- A field's set is none too small nor too great. -/
def okF (s low top : Int) : Prop := s ≠ 0 ∧ iBit .andNot .u64 s (spn low top) = 0
def okC (x : Cr) : Prop := ∀ i, i < 5 → okF (fld x i) (lows i) (tops i)
theorem okF_bits {s low top : Int} (hs : U s) (hb : ∀ j : Nat, tb (spn low top) j = decide (low ≤ (j : Int) ∧ (j : Int) ≤ top)) (h : okF s low top) : ∀ j, tb s j = true → low ≤ (j : Int) ∧ (j : Int) ≤ top := by
  intro j hj
  have h1 := (eq_zero (U_andNot s (spn low top))).1 h.2 j (tb_lt hj)
  rw [tb_andNot, hj, hb] at h1
  simpa using h1
theorem okF_of {s low top : Int} (hs : U s) (hb : ∀ j : Nat, tb (spn low top) j = decide (low ≤ (j : Int) ∧ (j : Int) ≤ top)) (h0 : s ≠ 0) (h : ∀ j, tb s j = true → low ≤ (j : Int) ∧ (j : Int) ≤ top) : okF s low top := by
  refine ⟨h0, (eq_zero (U_andNot s (spn low top))).2 fun j hj => ?_⟩
  rw [tb_andNot, hb]
  cases hc : tb s j with
  | false => rfl
  | true => simp [h j hc]

def fieldsAt (w : World) (q p : Option Addr) : Prop := ∀ k : Int, 0 ≤ k → k < 5 → Go.Sx.cell w (pIdx q k 3) 0 = some (.pointer (pAdd p k.toNat)) ∧ Go.Sx.cell w (pIdx q k 3) 1 = some (.int .i64 (lows k.toNat)) ∧ Go.Sx.cell w (pIdx q k 3) 2 = some (.int .i64 (tops k.toNat))
theorem five {k : Int} (h0 : 0 ≤ k) (h1 : k < 5) : k = 0 ∨ k = 1 ∨ k = 2 ∨ k = 3 ∨ k = 4 := by omega
theorem fields_k (p : Option Addr) (hp : p ≠ none) (w : World) : FnP Tryd.prog F_cron_fields #[.pointer p] w fun v w' => Ext w w' ∧ ∃ q, v = .slice q 5 5 ∧ fieldsAt w' q p := by
  refine ok_cron_fields p w _ ⟨hp, hp, hp, hp, hp, hp, hp, hp, hp, hp, fun w0 h0 => ?_⟩
  refine run_lit elem_sl_cron_field [(.agg #[(.pointer (pAdd p 0)), (.int .i64 0), (.int .i64 59)]), (.agg #[(.pointer (pAdd p 1)), (.int .i64 0), (.int .i64 23)]), (.agg #[(.pointer (pAdd p 2)), (.int .i64 1), (.int .i64 31)]), (.agg #[(.pointer (pAdd p 3)), (.int .i64 1), (.int .i64 12)]), (.agg #[(.pointer (pAdd p 4)), (.int .i64 0), (.int .i64 6)])] rfl rfl (by intro v hv; simp at hv; rcases hv with rfl | rfl | rfl | rfl | rfl <;> rfl) (by omega) (by omega) fun w1 o1 e1 => ⟨e1, _, _, _, rfl, fun w5 h5 => ⟨(h0.trans e1).trans h5, _, rfl, ?_⟩⟩
  have cs := ((o1 0 (Nat.zero_le _)).ext h5).cells
  simp [Value.cells] at cs
  intro k h0 h1
  rcases five h0 h1 with rfl | rfl | rfl | rfl | rfl
  · exact ⟨by rw [cell_pIdx]; exact cs 0 _ rfl, by rw [cell_pIdx]; exact cs 1 _ rfl, by rw [cell_pIdx]; exact cs 2 _ rfl⟩
  · exact ⟨by rw [cell_pIdx]; exact cs 3 _ rfl, by rw [cell_pIdx]; exact cs 4 _ rfl, by rw [cell_pIdx]; exact cs 5 _ rfl⟩
  · exact ⟨by rw [cell_pIdx]; exact cs 6 _ rfl, by rw [cell_pIdx]; exact cs 7 _ rfl, by rw [cell_pIdx]; exact cs 8 _ rfl⟩
  · exact ⟨by rw [cell_pIdx]; exact cs 9 _ rfl, by rw [cell_pIdx]; exact cs 10 _ rfl, by rw [cell_pIdx]; exact cs 11 _ rfl⟩
  · exact ⟨by rw [cell_pIdx]; exact cs 12 _ rfl, by rw [cell_pIdx]; exact cs 13 _ rfl, by rw [cell_pIdx]; exact cs 14 _ rfl⟩

theorem Check_k (x : Cr) (w : World) : FnP Tryd.prog F_cron_Check #[cv x] w fun v w' => Ext w w' ∧ ∃ e, v = .int .i64 e ∧ ((okC x ∧ e = 0) ∨ (¬ okC x ∧ e = 3)) := by
  refine ok_cron_Check x.a x.b x.c x.d x.e w _ fun w0 h0 => ?_
  refine new_own (by intro v hv; simp at hv; rcases hv with rfl | rfl | rfl | rfl | rfl <;> rfl) fun w1 o1 e1 => ?_
  generalize hp1 : (some ⟨w0.heap.size, 0, none⟩ : Option Addr) = p1
  rw [hp1] at o1
  have c1 := (o1 0 (Nat.zero_le _)).cells
  have hp : p1 ≠ none := by rw [← hp1]; simp
  intro w2 h2
  refine (fields_k p1 hp w2).mono fun v w3 ⟨e3, q, hv, hF⟩ => ⟨e3, q, 5, 5, hv, ?_⟩
  have x3 := ((h0.trans e1).trans h2).trans e3
  have c3 := c1.ext (h2.trans e3)
  refine ⟨fun k w' => w' = w3 ∧ 0 ≤ k ∧ k ≤ 5 ∧ ∀ i : Nat, (i : Int) < k → okF (fld x i) (lows i) (tops i), fun k _ => (5 - k).toNat, ⟨rfl, by omega, by omega, fun i hi => by omega⟩, ?_⟩
  rintro k w9 ⟨rfl, hk0, hk1, hall⟩
  refine ⟨fun hlt => ?_, fun hge w10 h10 => ⟨x3.trans h10, 0, rfl, .inl ⟨fun i hi => hall i (by simp at hge; omega), rfl⟩⟩⟩
  have hlt : k < 5 := by simpa using hlt
  obtain ⟨f0, f1, f2⟩ := hF k hk0 hlt
  have hc : Go.Sx.cell w9 (pAdd p1 k.toNat) 0 = some (.int .u64 (fld x k.toNat)) := by
    rw [cell_pAdd]
    rcases five hk0 hlt with rfl | rfl | rfl | rfl | rfl
    · exact c3 0 _ rfl
    · exact c3 1 _ rfl
    · exact c3 2 _ rfl
    · exact c3 3 _ rfl
    · exact c3 4 _ rfl
  have hb : (0 ≤ lows k.toNat ∧ lows k.toNat ≤ 62) ∧ 0 ≤ tops k.toNat ∧ tops k.toNat ≤ 62 := by
    rcases five hk0 hlt with rfl | rfl | rfl | rfl | rfl <;> decide
  have bad : ¬ okF (fld x k.toNat) (lows k.toNat) (tops k.toNat) → ¬ okC x := fun h ho => h (ho k.toNat (by omega))
  refine ⟨fun hq => cell_p f0 (pIdx_none.2 hq), hk0, hlt, cell_p f0, _, f0, _, f1, _, f2, fun b13 hb13 => ⟨cell_p hc, _, hc, fun _ => cell_p hc, fun hz w15 h15 => ⟨x3.trans h15, 3, rfl, .inr ⟨bad fun h => h.1 hz, rfl⟩⟩, fun hnz => ⟨_, hc, fun w16 h16 => ?_⟩⟩⟩
  refine FnP.mono (K := fun v w17 => Ext w16 w17 ∧ v = .int .u64 (spn (lows k.toNat) (tops k.toNat))) (ok_cron_field_all _ _ _ w16 _ fun b0 _ wa ha => (span_k _ _ hb.1 hb.2 wa).mono fun v wb ⟨eb, hv⟩ => ⟨eb, _, hv, fun wc hc => ⟨hc, rfl⟩⟩) fun v w17 ⟨e17, hv⟩ => ⟨e17, _, hv, fun hne w19 h19 => ⟨x3.trans h19, 3, rfl, .inr ⟨bad fun h => hne h.2, rfl⟩⟩, fun he => ⟨i64 (by omega), ⟨rfl, by omega, by omega, fun i hi => ?_⟩, by simp only []; omega⟩⟩
  by_cases hik : (i : Int) < k
  · exact hall i hik
  · obtain rfl : i = k.toNat := by omega
    exact ⟨hnz, he⟩

theorem shr_val {x i : Int} (hx : U x) (h0 : 0 ≤ i) (h1 : i < 64) : iBit .shr .u64 x i = ((x.toNat / 2 ^ i.toNat : Nat) : Int) := by
  have hu := U_iff.1 hx
  have hb : min i.toNat IntKind.u64.bits = i.toNat := by simp [IntKind.bits]; omega
  simp only [iBit, hb]
  rw [Int.fdiv_eq_ediv_of_nonneg _ (Int.le_of_lt (by have : (0 : Nat) < 2 ^ i.toNat := Nat.pow_pos (by omega); exact_mod_cast this))]
  rw [show x = ((x.toNat : Nat) : Int) by omega]
  simp
theorem U_shr {x i : Int} (hx : U x) (h0 : 0 ≤ i) (h1 : i < 64) : U (iBit .shr .u64 x i) := by
  have hu := U_iff.1 hx
  rw [shr_val hx h0 h1, U_iff]
  have := Nat.div_le_self x.toNat (2 ^ i.toNat)
  generalize x.toNat / 2 ^ i.toNat = q at this ⊢
  omega
theorem tb_shr {x i : Int} (hx : U x) (h0 : 0 ≤ i) (h1 : i < 64) (j : Nat) : tb (iBit .shr .u64 x i) j = tb x (i.toNat + j) := by
  rw [tb_nat (U_shr hx h0 h1), shr_val hx h0 h1, tb_nat hx, Int.toNat_natCast, Nat.testBit_div_two_pow, Nat.add_comm]

theorem has_k (s n : Int) (hs : U s) (h0 : 0 ≤ n) (h1 : n < 64) (w : World) : FnP Tryd.prog F_cron_has #[.int .u64 s, .int .i64 n] w fun v w' => Ext w w' ∧ v = .bool (tb s n.toNat) := by
  refine ok_cron_has s n w _ ⟨h0, fun w0 h => ⟨h, ?_⟩⟩
  rw [shr_bit hs h0 h1]
  cases tb s n.toNat <;> rfl

/-! ### Days -/
def dayF (x : Cr) (m d v : Int) : Bool := tb x.d m.toNat && (if x.c = spn 1 31 then tb x.e v.toNat else if x.e = spn 0 6 then tb x.c d.toNat else tb x.c d.toNat || tb x.e v.toNat)
def dayB (x : Cr) (n : Int) : Prop := ∃ y m d, vd y m d ∧ dy y m d = n ∧ dayF x m d ((n + 1) % 7) = true
theorem vd_b {y m d : Int} (h : vd y m d) : 1 ≤ m ∧ m ≤ 12 ∧ 1 ≤ d ∧ d ≤ 31 := by
  obtain ⟨h1, h2, h3, h4, h5, h6⟩ := h
  have := ln_bounds (y := y) h3 h4
  omega
theorem day_k (x : Cr) (hx : CrU x) (n : Int) (h0 : 0 ≤ n) (h1 : n ≤ 3652058) (w : World) (hg : GC w) : FnP Tryd.prog F_cron_day #[cv x, .int .i64 n] w fun v w' => Ext w w' ∧ ∃ b : Bool, v = .bool b ∧ (b = true ↔ dayB x n) := by
  refine ok_cron_day x.a x.b x.c x.d x.e n w _ fun b0 _ w1 hw1 => ?_
  refine (Date_k n (i64 (by omega)) w1 (Gl.ext hg.2 hw1)).mono fun v w2 ⟨e2, y, m, d, e, hv, ho, _⟩ => ⟨e2, _, _, _, _, hv, fun w7 h7 => ?_⟩
  obtain ⟨_, hvd, hdy⟩ := ho ⟨h0, h1⟩
  have hb := vd_b hvd
  refine (Weekday_k n (i64 (by omega)) w7).mono fun v w8 ⟨e8, a, e', hv, ho', _⟩ => ⟨e8, _, _, hv, fun w11 h11 => ?_⟩
  obtain ⟨_, rfl⟩ := ho' ⟨h0, h1⟩
  have fin : ∀ {b : Bool} {w' : World}, Ext w w' → b = dayF x m d ((n + 1) % 7) → Ext w w' ∧ ∃ b' : Bool, Value.bool b = .bool b' ∧ (b' = true ↔ dayB x n) := fun hw hb' => ⟨hw, _, rfl, by
    subst hb'
    constructor
    · exact fun h => ⟨y, m, d, hvd, hdy, h⟩
    · rintro ⟨y', m', d', hv', hd', h⟩
      obtain ⟨_, rfl, rfl⟩ := dy_inj hvd hv' (hdy.trans hd'.symm)
      exact h⟩
  refine (has_k x.d m hx.2.2.2.1 (by omega) (by omega) w11).mono fun v w12 ⟨e12, hv⟩ => ⟨e12, _, hv, fun hf w14 h14 => fin h14 (by unfold dayF; rw [hf]; rfl), fun ht w14 h14 => ?_⟩
  refine (span_k 1 31 (by omega) (by omega) w14).mono fun v w15 ⟨e15, hv⟩ => ⟨e15, _, hv, fun hall w17 h17 => ?_, fun hnall w17 h17 => ?_⟩
  · exact (has_k x.e _ hx.2.2.2.2 (by omega) (by omega) w17).mono fun v w18 ⟨e18, hv⟩ => ⟨e18, _, hv, fun w20 h20 => fin h20 (by unfold dayF; rw [ht, if_pos hall]; rfl)⟩
  · refine (span_k 0 6 (by omega) (by omega) w17).mono fun v w18 ⟨e18, hv⟩ => ⟨e18, _, hv, fun hall w20 h20 => ?_, fun hnall2 w20 h20 => ?_⟩
    · exact (has_k x.c d hx.2.2.1 (by omega) (by omega) w20).mono fun v w21 ⟨e21, hv⟩ => ⟨e21, _, hv, fun w23 h23 => fin h23 (by unfold dayF; rw [ht, if_neg hnall, if_pos hall]; rfl)⟩
    · refine (has_k x.c d hx.2.2.1 (by omega) (by omega) w20).mono fun v w21 ⟨e21, hv⟩ => ⟨e21, _, hv, fun hy w23 h23 => fin h23 (by unfold dayF; rw [ht, if_neg hnall, if_neg hnall2, hy]; rfl), fun hn w23 h23 => ?_⟩
      exact (has_k x.e _ hx.2.2.2.2 (by omega) (by omega) w23).mono fun v w24 ⟨e24, hv⟩ => ⟨e24, _, hv, fun w26 h26 => fin h26 (by unfold dayF; rw [ht, if_neg hnall, if_neg hnall2, hn]; rfl)⟩

/-- GREGORY. -/
theorem lng400 (y : Int) : lng (y + 400) ↔ lng y := by unfold lng; omega
theorem vd400 {y m d : Int} : (1 ≤ y ∧ y + 400 ≤ 9999) → (vd y m d ↔ vd (y + 400) m d) := fun h => by
  have hln : ln (y + 400) m = ln y m := by unfold ln; simp [lng400]
  unfold vd; rw [hln]; omega
theorem dy400 (y m d : Int) : dy (y + 400) m d = dy y m d + 146097 := by
  have hbef : bef (y + 400) = bef y + 146097 := by unfold bef; omega
  have hms : ms (y + 400) m = ms y m := by unfold ms; simp [lng400]
  unfold dy; rw [hbef, hms]; omega
theorem day400 (x : Cr) {n : Int} (h0 : 0 ≤ n) (h1 : n + 146097 ≤ 3652058) : dayB x (n + 146097) ↔ dayB x n := by
  have hw : (n + 146097 + 1) % 7 = (n + 1) % 7 := by omega
  constructor
  · rintro ⟨y, m, d, hv, hd, hf⟩
    have hy : 401 ≤ y := by
      by_cases h : 401 ≤ y
      · exact h
      · have h2 := bef_mono (show y + 1 ≤ 401 by omega)
        have h3 := dy_bounds hv
        have e1 : bef 401 = 146097 := by decide
        omega
    refine ⟨y - 400, m, d, (vd400 (by have := hv.2.1; omega)).2 (by rw [show y - 400 + 400 = y by omega]; exact hv), ?_, by rw [hw] at hf; exact hf⟩
    have := dy400 (y - 400) m d
    rw [show y - 400 + 400 = y by omega] at this
    omega
  · rintro ⟨y, m, d, hv, hd, hf⟩
    have hy : y + 400 ≤ 9999 := by
      by_cases h : y + 400 ≤ 9999
      · exact h
      · have h2 := bef_mono (show (10000 : Int) ≤ y + 400 by omega)
        have h3 := dy_bounds hv
        have e2 : bef 10000 = 3652059 := by decide
        have hbef : bef (y + 400) = bef y + 146097 := by unfold bef; omega
        omega
    refine ⟨y + 400, m, d, (vd400 ⟨hv.1, hy⟩).1 hv, by rw [dy400]; omega, by rw [hw]; exact hf⟩

/-! ### Times -/
def hit (x : Cr) (u : Int) : Prop := tb x.a (u % 60).toNat = true ∧ tb x.b (u / 60).toNat = true
def mt (x : Cr) (t : Int) : Prop := tb x.a (t % 60).toNat = true ∧ tb x.b (t / 60 % 24).toNat = true ∧ dayB x (t / 1440)
theorem mt_hit {x : Cr} {t : Int} : mt x t ↔ hit x (t % 1440) ∧ dayB x (t / 1440) := by
  unfold mt hit
  rw [show t % 1440 % 60 = t % 60 by omega, show t % 1440 / 60 = t / 60 % 24 by omega, and_assoc]

theorem within_k (x : Cr) (hx : CrU x) (hok : okC x) (f : Int) (h0 : 0 ≤ f) (h1 : f < 1440) (w : World) (hg : GC w) : FnP Tryd.prog F_cron_within #[cv x, .int .i64 f] w fun v w' => Ext w w' ∧ ∃ m b, v = .tuple #[.int .i64 m, .bool b] ∧
    ((b = false ∧ m = 0 ∧ ∀ u, f ≤ u → u < 1440 → ¬ hit x u) ∨ (b = true ∧ f ≤ m ∧ m < 1440 ∧ hit x m ∧ ∀ u, f ≤ u → u < m → ¬ hit x u)) := by
  have min60 : ∀ j, tb x.a j = true → j < 60 := fun j hj => by
    have := okF_bits hx.1 spn0.2 (hok 0 (by omega)) j hj
    omega
  refine ok_cron_within x.a x.b x.c x.d x.e f w _ fun b0 _ => ?_
  rw [td h0, tm h0]
  refine ⟨i64 (by omega), fun h w' => w' = w ∧ f / 60 ≤ h ∧ h ≤ 24 ∧ ∀ u, f ≤ u → u < 60 * h → ¬ hit x u, fun h _ => (24 - h).toNat, ⟨rfl, by omega, by omega, fun u hu hu2 => by omega⟩, ?_⟩
  rintro h w3 ⟨rfl, hh0, hh1, hno⟩
  refine ⟨fun hlt w4 h4 => ?_, fun hge w4 h4 => ⟨h4, _, _, rfl, .inl ⟨rfl, rfl, fun u hu hu2 => hno u hu (by omega)⟩⟩⟩
  have next : (∀ u, f ≤ u → 60 * h ≤ u → u < 60 * (h + 1) → ¬ hit x u) → InR .i64 (h + 1) ∧ ((w3 = w3 ∧ f / 60 ≤ h + 1 ∧ h + 1 ≤ 24 ∧ ∀ u, f ≤ u → u < 60 * (h + 1) → ¬ hit x u) ∧ (24 - (h + 1)).toNat < (24 - h).toNat) := fun hn => ⟨i64 (by omega), ⟨rfl, by omega, by omega, fun u hu hu2 => by
    by_cases hc : u < 60 * h
    · exact hno u hu hc
    · exact hn u hu (by omega) hu2⟩, by omega⟩
  -- the rest of an hour, from its minute s on
  have rest : ∀ s : Int, 0 ≤ s → s < 60 → (∀ u, f ≤ u → 60 * h ≤ u → u < 60 * (h + 1) → s ≤ u % 60) → f ≤ 60 * h + s → tb x.b h.toNat = true →
      ((iBit .shr .u64 x.a s ≠ 0) → InR .i64 (60 * h) ∧ InR .i64 (60 * h + s) ∧ ∀ w7, Ext w3 w7 → FnP Tryd.prog F_math_bits_TrailingZeros64 #[.int .u64 (iBit .shr .u64 x.a s)] w7 fun v8 w8 => Ext w7 w8 ∧ ∃ t9 : Int, v8 = .int .i64 t9 ∧ InR .i64 (60 * h + s + t9) ∧ ∀ w10, Ext w3 w10 →
        (Ext w3 w10 ∧ ∃ m b, Value.tuple #[.int .i64 (60 * h + s + t9), .bool true] = .tuple #[.int .i64 m, .bool b] ∧ ((b = false ∧ m = 0 ∧ ∀ u, f ≤ u → u < 1440 → ¬ hit x u) ∨ (b = true ∧ f ≤ m ∧ m < 1440 ∧ hit x m ∧ ∀ u, f ≤ u → u < m → ¬ hit x u)))) ∧
      ((iBit .shr .u64 x.a s = 0) → InR .i64 (h + 1) ∧ ((w3 = w3 ∧ f / 60 ≤ h + 1 ∧ h + 1 ≤ 24 ∧ ∀ u, f ≤ u → u < 60 * (h + 1) → ¬ hit x u) ∧ (24 - (h + 1)).toNat < (24 - h).toNat)) := by
    intro s hs0 hs1 hsu hfs hb
    have hU := U_shr hx.1 hs0 (by omega : s < 64)
    refine ⟨fun hnz => ?_, fun hz => next fun u hu hu1 hu2 hh => ?_⟩
    · obtain ⟨t, ht, ht64, hlow, htb, _⟩ := low_k hU hnz
      rw [tb_shr hx.1 hs0 (by omega)] at htb
      have h60 := min60 _ htb
      refine ⟨i64 (by omega), i64 (by omega), fun w7 h7 => (TZ_k _ hU hnz w7 (GT.ext hg.1 h7)).mono fun v w8 ⟨e8, hv⟩ => ⟨e8, _, hv, ?_⟩⟩
      rw [ht]
      refine ⟨i64 (by omega), fun w10 h10 => ⟨h10, _, _, rfl, .inr ⟨rfl, by omega, by omega, ⟨?_, ?_⟩, fun u hu hu2 hh => ?_⟩⟩⟩
      · rw [show ((60 * h + s + (t : Int)) % 60).toNat = s.toNat + t by omega]; exact htb
      · rw [show ((60 * h + s + (t : Int)) / 60).toNat = h.toNat by omega]; exact hb
      · by_cases hc : u < 60 * h
        · exact hno u hu hc hh
        · have hs := hsu u hu (by omega) (by omega)
          have := hlow ((u % 60).toNat - s.toNat) (by omega)
          rw [tb_shr hx.1 hs0 (by omega), show s.toNat + ((u % 60).toNat - s.toNat) = (u % 60).toNat by omega, hh.1] at this
          cases this
    · have hs := hsu u hu hu1 hu2
      have hbit := (eq_zero hU).1 hz ((u % 60).toNat - s.toNat) (by omega)
      rw [tb_shr hx.1 hs0 (by omega), show s.toNat + ((u % 60).toNat - s.toNat) = (u % 60).toNat by omega, hh.1] at hbit
      cases hbit
  refine (has_k x.b h hx.2.1 (by omega) (by omega) w4).mono fun v w5 ⟨e5, hv⟩ => ⟨e5, _, hv, fun hf => next fun u hu hu1 hu2 hh => ?_, fun ht => ⟨i64 (by omega), fun heq => ⟨by omega, ?_⟩, fun hne => ?_⟩⟩
  · have := hh.2
    rw [show (u / 60).toNat = h.toNat by omega, hf] at this
    cases this
  · exact rest (f % 60) (by omega) (by omega) (fun u hu hu1 hu2 => by omega) (by omega) ht
  · exact rest 0 (by omega) (by omega) (fun u hu hu1 hu2 => by omega) (by omega) ht

theorem Next_k (x : Cr) (hx : CrU x) (t : Int) (w : World) (hg : GC w) : FnP Tryd.prog F_cron_Next #[cv x, .int .i64 t] w fun v w' => Ext w w' ∧ ∃ n e, v = .tuple #[.int .i64 n, .int .i64 e] ∧
    ((e = 3 ∧ n = 0 ∧ ¬ okC x) ∨ (e = 4 ∧ n = 0 ∧ okC x ∧ ¬ (-1 ≤ t ∧ t ≤ 5258964959)) ∨
     (okC x ∧ -1 ≤ t ∧ t ≤ 5258964959 ∧ ((e = 0 ∧ t < n ∧ n ≤ 5258964959 ∧ mt x n ∧ ∀ u, t < u → u < n → ¬ mt x u) ∨ (e = 5 ∧ n = 0 ∧ ∀ u, t < u → u ≤ 5258964959 → ¬ mt x u)))) := by
  refine ok_cron_Next x.a x.b x.c x.d x.e t w _ fun b0 _ w1 h1 => ?_
  refine (Check_k x w1).mono fun v w2 ⟨e2, e, hv, he⟩ => ⟨e2, e, hv, fun hne w4 h4 => ⟨h4, _, _, rfl, ?_⟩, fun h0 => ?_⟩
  · rcases he with ⟨_, h⟩ | ⟨h, h2⟩
    · exact absurd h hne
    · exact .inl ⟨h2, rfl, h⟩
  have hok : okC x := by
    rcases he with ⟨h, _⟩ | ⟨_, h⟩
    · exact h
    · omega
  refine ⟨fun hr w4 h4 => ⟨h4, _, _, rfl, .inr (.inl ⟨rfl, rfl, hok, by omega⟩)⟩, fun ⟨hr0, hr1⟩ => ?_⟩
  rw [td (by omega), tm (by omega)]
  refine ⟨i64 (by omega), i64 (by omega), fun n w' => w' = w ∧ (t + 1) / 1440 ≤ n ∧ (n ≤ 3652059 ∨ n = (t + 1) / 1440) ∧ ∀ u, t < u → u / 1440 < n → ¬ mt x u, fun n _ => (3652060 - n).toNat, ⟨rfl, by omega, .inr rfl, fun u hu hu2 => by omega⟩, ?_⟩
  rintro n w6 ⟨rfl, hn0, hn1, hno⟩
  have step : (n ≤ 3652058) → (∀ u, t < u → u / 1440 = n → ¬ mt x u) → InR .i64 (n + 1) ∧ ((w6 = w6 ∧ (t + 1) / 1440 ≤ n + 1 ∧ (n + 1 ≤ 3652059 ∨ n + 1 = (t + 1) / 1440) ∧ ∀ u, t < u → u / 1440 < n + 1 → ¬ mt x u) ∧ (3652060 - (n + 1)).toNat < (3652060 - n).toNat) := fun hn2 h => ⟨i64 (by omega), ⟨rfl, by omega, .inl (by omega), fun u hu hu2 => by
    by_cases hc : u / 1440 < n
    · exact hno u hu hc
    · exact h u hu (by omega)⟩, by omega⟩
  have found : ∀ f : Int, (n ≤ 3652058) → 0 ≤ f → f < 1440 → (∀ u, t < u → u / 1440 = n → f ≤ u % 1440) → (t < 1440 * n + f) → dayB x n → ∀ w10, Ext w6 w10 →
      FnP Tryd.prog F_cron_within #[cv x, .int .i64 f] w10 fun v11 w11 => Ext w10 w11 ∧ ∃ t12 : Int, ∃ t13 : Bool, v11 = .tuple #[.int .i64 t12, .bool t13] ∧
        ((t13 = true) → InR .i64 (1440 * n) ∧ InR .i64 (1440 * n + t12) ∧ ∀ w14, Ext w6 w14 → (Ext w6 w14 ∧ ∃ n' e, Value.tuple #[.int .i64 (1440 * n + t12), .int .i64 0] = .tuple #[.int .i64 n', .int .i64 e] ∧
          ((e = 3 ∧ n' = 0 ∧ ¬ okC x) ∨ (e = 4 ∧ n' = 0 ∧ okC x ∧ ¬ (-1 ≤ t ∧ t ≤ 5258964959)) ∨ (okC x ∧ -1 ≤ t ∧ t ≤ 5258964959 ∧ ((e = 0 ∧ t < n' ∧ n' ≤ 5258964959 ∧ mt x n' ∧ ∀ u, t < u → u < n' → ¬ mt x u) ∨ (e = 5 ∧ n' = 0 ∧ ∀ u, t < u → u ≤ 5258964959 → ¬ mt x u)))))) ∧
        ((t13 = false) → InR .i64 (n + 1) ∧ ((w6 = w6 ∧ (t + 1) / 1440 ≤ n + 1 ∧ (n + 1 ≤ 3652059 ∨ n + 1 = (t + 1) / 1440) ∧ ∀ u, t < u → u / 1440 < n + 1 → ¬ mt x u) ∧ (3652060 - (n + 1)).toNat < (3652060 - n).toNat)) := by
    intro f hn2 hf0 hf1 hfu hft hday w10 h10
    refine (within_k x hx hok f hf0 hf1 w10 (hg.ext h10)).mono fun v w11 ⟨e11, m, b, hv, hr⟩ => ⟨e11, m, b, hv, fun hb => ?_, fun hb => step hn2 fun u hu hu2 hm => ?_⟩
    · rcases hr with ⟨h, _⟩ | ⟨_, hm0, hm1, hhit, hbe⟩
      · rw [h] at hb; cases hb
      · refine ⟨i64 (by omega), i64 (by omega), fun w14 h14 => ⟨h14, _, _, rfl, .inr (.inr ⟨hok, hr0, hr1, .inl ⟨rfl, by omega, by omega, ?_, fun u hu hu2 hm => ?_⟩⟩)⟩⟩
        · rw [mt_hit, show (1440 * n + m) % 1440 = m by omega, show (1440 * n + m) / 1440 = n by omega]
          exact ⟨hhit, hday⟩
        · by_cases hc : u / 1440 < n
          · exact hno u hu hc hm
          · exact hbe (u % 1440) (hfu u hu (by omega)) (by omega) (mt_hit.1 hm).1
    · rcases hr with ⟨_, _, hbe⟩ | ⟨h, _⟩
      · exact hbe (u % 1440) (hfu u hu hu2) (by omega) (mt_hit.1 hm).1
      · rw [h] at hb; cases hb
  refine ⟨i64 (by omega), fun hle w7 h7 => ?_, fun hgt w7 h7 => ⟨h7, _, _, rfl, .inr (.inr ⟨hok, hr0, hr1, .inr ⟨rfl, rfl, fun u hu hu2 => ?_⟩⟩)⟩⟩
  · have hn2 : n ≤ 3652058 := by omega
    refine (day_k x hx n (by omega) hn2 w7 (hg.ext h7)).mono fun v w8 ⟨e8, b, hv, hb⟩ => ⟨e8, b, hv, fun hf => step hn2 fun u hu hu2 hm => ?_, fun ht => ⟨fun heq => ?_, fun hne => ?_⟩⟩
    · have := (mt_hit.1 hm).2
      rw [hu2, ← hb, hf] at this
      cases this
    · exact found ((t + 1) % 1440) hn2 (by omega) (by omega) (fun u hu hu2 => by omega) (by omega) (hb.1 ht)
    · exact found 0 hn2 (by omega) (by omega) (fun u hu hu2 => by omega) (by omega) (hb.1 ht)
  · -- none in four hundred years: none at all
    have key : ∀ (k : Nat) (v : Int), (v / 1440).toNat ≤ k → t < v → v ≤ 5258964959 → ¬ mt x v := by
      intro k
      induction k using Nat.strongRecOn with
      | _ k ih =>
        intro v hk hv hv2 hm
        by_cases hc : v / 1440 < n
        · exact hno v hv hc hm
        · have hd : (t + 1) / 1440 + 146097 < v / 1440 := by omega
          have h2 := mt_hit.1 hm
          refine ih ((v - 146097 * 1440) / 1440).toNat (by omega) (v - 146097 * 1440) (Nat.le_refl _) (by omega) (by omega) (mt_hit.2 ⟨?_, ?_⟩)
          · rw [show (v - 146097 * 1440) % 1440 = v % 1440 by omega]; exact h2.1
          · rw [show (v - 146097 * 1440) / 1440 = v / 1440 - 146097 by omega]
            refine (day400 x (by omega) (by omega)).1 ?_
            rw [show v / 1440 - 146097 + 146097 = v / 1440 by omega]; exact h2.2
    exact key _ u (Nat.le_refl _) hu hu2

theorem crons_k (w : World) (hg : GC w) : FnP Tryd.prog F_shiftbellkeep_crons #[] w fun v w' => Ext w w' ∧ v = .bool true := by
  let x : Cr := ⟨1, 1, 4294967294, 8190, 127⟩
  have hx : CrU x := ⟨by rw [U_iff]; simp [x], by rw [U_iff]; simp [x], by rw [U_iff]; simp [x], by rw [U_iff]; simp [x], by rw [U_iff]; simp [x]⟩
  have hok : okC x := by
    intro i hi
    match i, hi with
    | 0, _ | 1, _ | 2, _ | 3, _ | 4, _ => exact ⟨by decide, by decide⟩
  refine ok_shiftbellkeep_crons w _ fun w0 h0 => ?_
  refine (Next_k x hx 0 w0 (hg.ext h0)).mono fun v w1 ⟨e1, n, e, hv, hr⟩ => ⟨e1, n, e, hv, fun w4 h4 => ⟨h4, ?_⟩⟩
  have a0 : ∀ j, tb x.a j = decide (j = 0) := fun j => by
    by_cases hj : j < 64
    · rw [tb_nat hx.1]; revert hj; revert j; decide
    · have : tb x.a j = false := by
        cases hc : tb x.a j with
        | false => rfl
        | true => exact absurd (tb_lt hc) hj
      rw [this]; symm; rw [decide_eq_false_iff_not]; omega
  have hday : ∀ n, 0 ≤ n → (dayB x n ↔ ∃ y m d, vd y m d ∧ dy y m d = n) := fun n hn => by
    constructor
    · rintro ⟨y, m, d, h1, h2, _⟩; exact ⟨y, m, d, h1, h2⟩
    · rintro ⟨y, m, d, h1, h2⟩
      refine ⟨y, m, d, h1, h2, ?_⟩
      have hb := vd_b h1
      unfold dayF
      rw [show x.d = spn 1 12 by decide, spn3.2, show x.c = spn 1 31 by decide, if_pos rfl, show x.e = spn 0 6 by decide, spn4.2]
      rw [show (decide ((1 : Int) ≤ (m.toNat : Int) ∧ (m.toNat : Int) ≤ 12)) = true by rw [decide_eq_true_iff]; omega]
      rw [show (decide ((0 : Int) ≤ (((n + 1) % 7).toNat : Int) ∧ (((n + 1) % 7).toNat : Int) ≤ 6)) = true by rw [decide_eq_true_iff]; omega]
      rfl
  have m1440 : mt x 1440 := by
    refine ⟨by rw [a0]; decide, by show tb x.a _ = true; rw [a0]; decide, (hday _ (by omega)).2 ⟨1, 1, 2, ⟨by omega, by omega, by omega, by omega, by omega, by decide⟩, by decide⟩⟩
  have none : ∀ u, 0 < u → u < 1440 → ¬ mt x u := fun u h1 h2 hm => by
    obtain ⟨g1, g2, _⟩ := hm
    have g2 : tb x.a (u / 60 % 24).toNat = true := g2
    rw [a0, decide_eq_true_iff] at g1 g2
    omega
  rcases hr with ⟨_, _, h⟩ | ⟨_, _, _, h⟩ | ⟨_, _, _, h⟩
  · exact absurd hok h
  · omega
  · rcases h with ⟨rfl, h1, h2, h3, h4⟩ | ⟨_, _, h⟩
    · obtain rfl : n = 1440 := by
        rcases Int.lt_trichotomy n 1440 with h | h | h
        · exact absurd h3 (none n h1 h)
        · exact h
        · exact absurd m1440 (h4 1440 (by omega) h)
      rfl
    · exact absurd m1440 (h 1440 (by omega) (by omega))
end Go.Proofs.YteelndoflikliaaDoor
