/- Cron's numbers and items. -/
import Derived.Test.YteelndoflikliaaDoorNtA
import Derived.Test.YteelndoflikliaaDoorCtA
import Derived.Lib.AtoiAllCases
import Derived.Lib.ParseIntBCases
import Derived.Lib.ItoaLen
set_option linter.unusedVariables false
set_option linter.unusedSimpArgs false
namespace Go.Proofs.YteelndoflikliaaDoor
open Go.Sx Go.RowKit

theorem atoi_parse (l : List UInt8) : Lib.atoiAll l = Lib.parseIntB 64 l := by
  unfold Lib.atoiAll Lib.parseIntB
  cases l with
  | nil => rfl
  | cons c r =>
    simp only [Lib.parseUintB_64]
    rfl
theorem Atoi_k (s : ByteArray) (hs : s.size ≤ 281474976710656) (w : World) (g : GB w) : FnP Tryd.prog F_strconv_Atoi #[.string s] w fun v w' => Ext w w' ∧ ∃ (n : Int) (ev : Value), v = .tuple #[.int .i64 n, ev] ∧
    ((ev = .nilIface ∧ Lib.parseIntB 64 s.data.toList = .ok n) ∨ ((∃ a b, ev = .iface a b) ∧ ∀ m, Lib.parseIntB 64 s.data.toList ≠ .ok m)) := by
  have en : Enters Tryd.prog F_strconv_Atoi := fun args w => Tryd.call91 args w
  rw [← atoi_parse]
  cases hp : Lib.atoiAll s.data.toList with
  | ok v =>
    refine ⟨en, (Tryd.strconv_Atoi_ok s (by omega) v hp w).mono fun e w' ⟨he, hw⟩ => ⟨_, he, ?_, v, .nilIface, rfl, .inl ⟨rfl, rfl⟩⟩⟩
    rcases hw with rfl | ⟨t, rfl⟩
    · exact Ext.refl _
    · exact Lib.bytesWorld_below w 5 t
  | range =>
    obtain ⟨ev, h1, h2⟩ := g.eRan
    exact ⟨en, (Tryd.strconv_Atoi_range s hs hp ev w (cell0 h1) h2).mono fun e w' ⟨N, he, _, _, hb⟩ => ⟨_, he, hb, _, _, rfl, .inr ⟨⟨_, _, rfl⟩, fun m h => by cases h⟩⟩⟩
  | _ =>
    obtain ⟨ev, h1, h2⟩ := g.eSyn
    exact ⟨en, (Tryd.strconv_Atoi_syntax s hs hp ev w (cell0 h1) h2).mono fun e w' ⟨N, he, _, _, hb⟩ => ⟨_, he, hb, _, _, rfl, .inr ⟨⟨_, _, rfl⟩, fun m h => by cases h⟩⟩⟩
theorem Itoa_k (n : Int) (h : -9223372036854775808 ≤ n ∧ n ≤ 9223372036854775807) (w : World) (g : GB w) : FnP Tryd.prog F_strconv_Itoa #[.int .i64 n] w fun v w' => Ext w w' ∧ v = .string (ofL (Lib.itoa n)) :=
  ⟨fun args w => Tryd.call66 args w, (Tryd.strconv_Itoa n h.1 h.2 w g.pow).mono fun e w' ⟨he, k, os, hw⟩ => ⟨_, he, by rw [hw]; exact below_grow, rfl⟩⟩

theorem parse_rng {l : List UInt8} {n : Int} (h : Lib.parseIntB 64 l = .ok n) : -9223372036854775808 ≤ n ∧ n ≤ 9223372036854775807 := by
  unfold Lib.parseIntB at h
  split at h
  · cases h
  · simp only at h
    split at h
    · cases h
    · cases h
    · rename_i u _
      have e : (2 : Nat) ^ (64 - 1) = 9223372036854775808 := by decide
      rw [e] at h
      split at h
      · cases h
      · rename_i h1
        split at h
        · cases h
        · rename_i h2
          injection h with h
          split at h
          · rename_i h3
            have : ¬ 9223372036854775808 < u := fun hh => h2 ⟨h3, hh⟩
            omega
          · rename_i h3
            have : ¬ 9223372036854775808 ≤ u := fun hh => h1 ⟨h3, hh⟩
            omega
theorem eq_nil {P : Program} {t : TypeId} {m : Array (String × TypeId)} (ht : P.underlying t = some (.interface m)) {v : Value} (hv : isErr v) {cx : Bool} {w : World} {K : Value → World → Prop} (hk : ∀ b : Bool, (b = true ↔ v = .nilIface) → K (.bool b) w) : Run P (.eq .eql t cx true v .nilIface) w K := by
  have hb : ∀ x : Value, ∀ r : Bool, (Op.equal t x .nilIface).run P w = .ok r w → (eqGuard .eql t (opd cx) (opd true) x .nilIface).run P w = .ok () w → binOp .eql t x .nilIface = (do pure (.bool (← Op.equal t x .nilIface))) → (MC.sem (.eq .eql t cx true x .nilIface)).run P w = .ok (.bool r) w := fun x r h1 h2 h3 => by
    show (do eqGuard .eql t (opd cx) (opd true) x .nilIface; binOp .eql t x .nilIface : Sem Value).run P w = _
    rw [Sem.run_bind, h2, Result.andThen_ok, h3, Sem.run_bind, h1, Result.andThen_ok, Sem.run_pure]
  rcases hv with rfl | ⟨a, b, rfl⟩
  · exact ⟨_, w, hb _ true (equalIn_nil 9999 ht w) (by cases cx <;> rfl) rfl, hk true (by simp)⟩
  · exact ⟨_, w, hb _ false (equalIn_err 9999 ht a b w) (by cases cx <;> rfl) rfl, hk false (by simp)⟩
theorem eq_nilB {P : Program} {t : TypeId} (ht : isIfc P t = true) {v : Value} (hv : isErr v) {cx : Bool} {w : World} {K : Value → World → Prop} (hk : ∀ b : Bool, (b = true ↔ v = .nilIface) → K (.bool b) w) : Run P (.eq .eql t cx true v .nilIface) w K := by
  unfold isIfc at ht
  split at ht
  · rename_i m h; exact eq_nil h hv hk
  · cases ht

theorem itoa_two {m : Int} (h0 : 0 ≤ m) (h1 : m ≤ 99) : (Lib.itoa m).length ≤ 2 := by
  rw [itoa_dec h0]
  have h2 : m.toNat < 100 := by omega
  rw [Lib.decDigits]
  split
  · simp
  · rw [Lib.decDigits]
    rw [dif_pos (by omega)]
    simp

/-- A number: what it is, and when it is one. -/
theorem number_k (s : ByteArray) (hs : s.size ≤ 281474976710656) (low top : Int) (w : World) (g : GB w) : FnP Tryd.prog F_cron_number #[.string s, .int .i64 low, .int .i64 top] w fun v w' => Ext w w' ∧ ∃ (n : Int) (b : Bool), v = .tuple #[.int .i64 n, .bool b] ∧
    (b = true → low ≤ n ∧ n ≤ top ∧ s = ofL (Lib.itoa n)) ∧ (∀ m : Int, 0 ≤ m → m ≤ 99 → low ≤ m → m ≤ top → s = ofL (Lib.itoa m) → b = true ∧ n = m) := by
  refine ok_cron_number s low top w _ fun w0 h0 => (Atoi_k s hs w0 (g.ext h0)).mono fun v w1 ⟨e1, n, ev, hv, hc⟩ => ⟨e1, n, ev, hv, fun w4 h4 => ?_⟩
  have x1 := h0.trans e1
  refine eq_nilB (by kernel_rfl) (hc.elim (fun h => .inl h.1) fun h => .inr h.1) fun b hb => ⟨Ext.refl _, b, rfl, fun hok w7 h7 => ?_, fun hor w7 h7 => ⟨x1.trans h7, n, false, rfl, (fun h => by cases h), fun m m0 m1 _ _ hm => ?_⟩⟩
  · have hp : Lib.parseIntB 64 s.data.toList = .ok n := by
      rcases hc with h | ⟨⟨a, c, h⟩, _⟩
      · exact h.2
      · have := hb.1 hok.1
        rw [h] at this; cases this
    refine (Itoa_k n (parse_rng hp) w7 (g.ext (x1.trans h7))).mono fun v w8 ⟨e8, hv⟩ => ⟨e8, _, hv, fun w10 h10 => ⟨x1.trans h10, n, _, rfl, fun h => ?_, fun m m0 m1 l0 l1 hm => ?_⟩⟩
    · simp only [Bool.and_eq_true, decide_eq_true_eq] at h
      exact ⟨h.1.2, h.2, h.1.1.symm⟩
    · have hq : Lib.parseIntB 64 (Lib.itoa m) = .ok m := parse_itoa ⟨m0, by omega⟩
      have hnm : n = m := by
        rw [hm] at hp
        have hp : Lib.parseIntB 64 (Lib.itoa m) = .ok n := hp
        rw [hq] at hp
        injection hp with h
        exact h.symm
      subst hnm
      simp [hm, l0, l1]
  · exfalso
    have hq : Lib.parseIntB 64 s.data.toList = .ok m := by rw [hm]; exact parse_itoa ⟨m0, by omega⟩
    rcases hor with h | h
    · rcases hc with ⟨h1, _⟩ | ⟨_, h2⟩
      · rw [hb.2 h1] at h; cases h
      · exact h2 _ hq
    · have := itoa_two m0 m1
      rw [hm, ofL_size] at h
      omega

/-- The loop of an item. -/
def stepped (low top lo tp step : Int) (set : Int) : Prop := U set ∧ tb set lo.toNat = true ∧ (∀ j : Nat, tb set j = true → lo ≤ (j : Int) ∧ (j : Int) ≤ tp) ∧ (step = 1 → ∀ j : Nat, tb set j = decide (lo ≤ (j : Int) ∧ (j : Int) ≤ tp))
theorem loop_ok {lo tp step : Int} (h0 : 0 ≤ lo) (h1 : lo ≤ tp) (h2 : tp ≤ 62) (h3 : 1 ≤ step) (h4 : step ≤ 99) {w : World} {Q : Value → World → Prop} (hQ : ∀ set w', Ext w w' → stepped lo tp lo tp step set → Q (.tuple #[.int .u64 set, .bool true]) w') :
    ∃ (I23 : Int → Int → World → Prop) (M23 : Int → Int → World → Nat), I23 0 lo w ∧
             ∀ (out24 : Int) (n25 : Int) (w26 : World), I23 out24 n25 w26 →
              (((n25 ≤ tp) →
               0 ≤ (n25 : Int) ∧
               InR .i64 (n25 + step) ∧
               (I23 (iBit .or .u64 out24 (iBit .shl .u64 1 n25)) (n25 + step) w26 ∧ M23 (iBit .or .u64 out24 (iBit .shl .u64 1 n25)) (n25 + step) w26 < M23 out24 n25 w26))) ∧
              ((tp < n25) →
               ∀ w27, Ext w26 w27 →
               Q (.tuple #[(.int .u64 out24), (.bool true)]) w27) := by
  refine ⟨fun out n w' => w' = w ∧ lo ≤ n ∧ U out ∧ (∀ j : Nat, tb out j = true → lo ≤ (j : Int) ∧ (j : Int) ≤ tp ∧ (j : Int) < n) ∧ ((n = lo ∧ out = 0) ∨ tb out lo.toNat = true) ∧ (step = 1 → ∀ j : Nat, tb out j = decide (lo ≤ (j : Int) ∧ (j : Int) ≤ tp ∧ (j : Int) < n)), fun _ n _ => (tp + 1 - n).toNat,
    ⟨rfl, by omega, by rw [U_iff]; omega, fun j hj => (by rw [tb_zero] at hj; cases hj), .inl ⟨rfl, rfl⟩, fun _ j => (by rw [tb_zero]; symm; rw [decide_eq_false_iff_not]; omega)⟩, ?_⟩
  rintro out n w' ⟨rfl, hn, hu, hb, hl, hs⟩
  refine ⟨fun hle => ⟨by omega, i64 (by omega), ⟨rfl, by omega, U_or _ _, fun j hj => ?_, .inr ?_, fun h1 j => ?_⟩, by simp only []; omega⟩, fun hgt w27 h27 => hQ out w27 h27 ⟨hu, ?_, fun j hj => ⟨(hb j hj).1, (hb j hj).2.1⟩, fun h j => ?_⟩⟩
  · rw [tb_or, tb_shl (by omega) (by omega), Bool.or_eq_true, decide_eq_true_eq] at hj
    rcases hj with h | h
    · have := hb j h; omega
    · omega
  · rw [tb_or, tb_shl (by omega) (by omega), Bool.or_eq_true, decide_eq_true_eq]
    rcases hl with ⟨h, _⟩ | h
    · right; omega
    · exact .inl h
  · rw [tb_or, tb_shl (by omega) (by omega), hs h1 j]
    by_cases hj : j = n.toNat
    · subst hj
      simp
      omega
    · rw [show decide (j = n.toNat) = false by simpa using hj, Bool.or_false]
      congr 1
      apply propext
      constructor <;> (intro h; omega)
  · rcases hl with ⟨h, _⟩ | h
    · omega
    · exact h
  · rw [hs h j]
    congr 1
    apply propext
    constructor <;> (intro h; omega)
end Go.Proofs.YteelndoflikliaaDoor
