/- Print; the laws CronBack and CronOne. -/
import Derived.Test.YteelndoflikliaaDoorCtR
set_option linter.unusedVariables false
set_option linter.unusedSimpArgs false
namespace Go.Proofs.YteelndoflikliaaDoor
open Go.Sx Go.RowKit

/-- All that is laid. -/
structure GA (w : World) : Prop where
  b : GB w
  c : GC w
theorem GA.ext {w w' : World} (g : GA w) (e : Ext w w') : GA w' := ⟨g.b.ext e, g.c.ext e⟩

theorem fld_cells {w : World} {p : Option Addr} {x : Cr} (h : Cells w p (encC x)) {i : Nat} (hi : i < 5) : Go.Sx.cell w (pAdd p i) 0 = some (.int .u64 (fld x i)) := by
  rw [cell_pAdd, Nat.add_zero]
  match i, hi with
  | 0, _ => exact h 0 _ rfl
  | 1, _ => exact h 1 _ rfl
  | 2, _ => exact h 2 _ rfl
  | 3, _ => exact h 3 _ rfl
  | 4, _ => exact h 4 _ rfl

theorem Print_k (x : Cr) (hx : CrU x) (w : World) (g : GA w) : FnP Tryd.prog F_cron_Print #[cv x] w fun v w' => Ext w w' ∧ ∃ (t : ByteArray) (e : Int), v = .tuple #[.string t, .int .i64 e] ∧ (e = 0 ↔ okC x) ∧ (e ≠ 0 → t = ⟨#[]⟩) ∧ (e = 0 → CT x t) := by
  refine ok_cron_Print x.a x.b x.c x.d x.e w _ fun w0 h0 => new_own (by simp [Value.oneCell']) fun w1 o1 e1 => ?_
  have c1 : Cells w1 (some ⟨w0.heap.size, 0, none⟩) (encC x) := (o1 0 (Nat.zero_le _)).cells
  have n1 : (some (⟨w0.heap.size, 0, none⟩ : Addr)) ≠ none := by simp
  have x1 := h0.trans e1
  generalize (some (⟨w0.heap.size, 0, none⟩ : Addr)) = p1 at c1 n1 ⊢
  refine ⟨n1, _, c1 0 _ rfl, _, c1 1 _ rfl, _, c1 2 _ rfl, _, c1 3 _ rfl, _, c1 4 _ rfl, fun w7 h7 => (Check_k x w7).mono fun v w8 ⟨e8, e, hv, he⟩ => ⟨e8, e, hv, fun hne w10 h10 => ⟨x1.trans h10, _, e, rfl, ?_, fun _ => rfl, fun h => absurd h hne⟩, fun hz w10 h10 => ?_⟩⟩
  · rcases he with ⟨_, h⟩ | ⟨h, h3⟩
    · exact absurd h hne
    · exact ⟨fun h' => absurd h' hne, fun h' => absurd h' h⟩
  have ok : okC x := by
    rcases he with ⟨h, _⟩ | ⟨_, h⟩
    · exact h
    · omega
  have x10 := x1.trans h10
  refine (fieldsC_k p1 n1 w10).mono fun v w11 ⟨e11, q, hv, hq, hqb⟩ => ⟨e11, q, 5, 5, hv, ?_⟩
  refine ⟨fun out outl outc k w' => Ext w w' ∧ 0 ≤ k ∧ k ≤ 5 ∧ Cells w' p1 (encC x) ∧ Cells w' q (fieldsL p1) ∧ Apart p1 out ∧ Apart q out ∧ ∃ ls : List (List UInt8), Own w.heap.size w' T_string 1 out outl outc (ls.map fun l => Value.string (ofL l)) ∧ (ls.length : Int) = k ∧ (∀ y ∈ ls, y.length ≤ 400) ∧ ∀ i : Nat, i < ls.length → FT (fld x i) (lows i) (tops i) (ls.getD i []),
    fun _ _ _ k _ => (5 - k).toNat, ⟨x10.trans e11, by omega, by omega, (c1.ext h10).ext e11, hq, Apart.nil, Apart.nil, [], Own.nil, rfl, fun y hy => by (cases hy), fun i hi => by (simp at hi)⟩, ?_⟩
  rintro out outl outc k w18 ⟨x18, hk0, hk5, c18, q18, a1, a2, ls, o18, hll, hl4, hft⟩
  refine ⟨fun hlt => ?_, fun hge w19 h19 => ?_⟩
  · have hlt : k < 5 := by simpa using hlt
    have hkn : k.toNat < 5 := by omega
    obtain ⟨f0, f1, f2⟩ := field_at q18 k hk0 hlt
    obtain ⟨lw0, lw1, tp1⟩ := low0 k.toNat
    have hcx := fld_cells c18 hkn
    have hUx := crU_iff.1 hx _ hkn
    have hokk := ok _ hkn
    have hol := o18.leni
    refine ⟨fun hq => cell_p f0 (pIdx_none.2 hq), hk0, hlt, cell_p f0, _, f0, _, f1, _, f2, fun b22 hb22 => fun w23 h23 => ?_⟩
    refine (ftext_k (pAdd p1 k.toNat) (lows k.toNat) (tops k.toNat) (fld x k.toNat) lw0 lw1 tp1 (spn_all hkn).2 hUx hokk.1 (okF_bits hUx (spn_all hkn).2 hokk) w23 (g.ext (x18.trans h23)).b (g.ext (x18.trans h23)).c.1 (ext_cell h23 hcx)).mono fun v w24 ⟨e24, l, hv, hF, hll4⟩ => ⟨e24, _, hv, ?_⟩
    refine push_B elem_sl_string (by omega) o18 x18.size (fun b hb y hy => by simp at hb; subst hb; have := (o18.lt y hy).2; omega) rfl (by intro u hu; simp [Value.cells] at hu; subst hu; rfl) (by omega) (by omega) (by omega) fun p' c' w' o' g' np' nb' => ⟨i64 (by omega), ⟨g'.ext x18 o18, by omega, by omega, c18.grew a1 g', q18.grew a2 g', a1.grewC (c18.lt (by simp)) g', a2.grewC (q18.lt (by simp)) g', ls ++ [l], by simpa [Value.cells] using o', by rw [List.length_append, List.length_singleton]; omega, fun y hy => ?_, fun i hi => ?_⟩, by simp only []; omega⟩
    · rcases List.mem_append.1 hy with h | h
      · exact hl4 y h
      · obtain rfl := List.mem_singleton.1 h
        exact hll4
    · rw [List.length_append, List.length_singleton] at hi
      by_cases hil : i < ls.length
      · have := hft i hil
        rw [List.getD_eq_getElem?_getD] at this ⊢
        rwa [List.getElem?_append_left hil]
      · have hik : i = k.toNat := by omega
        rw [List.getD_eq_getElem?_getD, List.getElem?_append_right (by omega), show i - ls.length = 0 by omega, hik]
        exact hF
  · have h5 : ls.length = 5 := by have hge : (5 : Int) ≤ k := by simpa using hge
                                  omega
    have hlen := join_le (c := 32) (m := 400) ls hl4
    refine (Join_k ls 32 out outl outc w.heap.size T_string w19 (o18.ext h19) (fun h => by rw [h] at h5; simp at h5) (by omega)).mono fun v w20 ⟨e20, hv⟩ => ⟨e20, _, hv, fun w22 h22 => ⟨x18.trans h22, _, 0, rfl, ⟨fun _ => ok, fun _ => rfl⟩, fun h => absurd rfl h, fun _ => ⟨ls, h5, fun i hi => hft i (by omega), rfl⟩⟩⟩

theorem eqC_k {a b : Cr} {w : World} {K : Value → World → Prop} (hk : a = b → K (.bool true) w) (h : a = b) : Run Tryd.prog (.eq .eql T_Cron false false (cv a) (cv b)) w K :=
  run_eqs (n := 5) (k := .u64) (by kernel_rfl) (by kernel_rfl) (by kernel_rfl) (by kernel_rfl) [a.a, a.b, a.c, a.d, a.e] [b.a, b.b, b.c, b.d, b.e] rfl rfl (by
    have : decide ([a.a, a.b, a.c, a.d, a.e] = [b.a, b.b, b.c, b.d, b.e]) = true := decide_eq_true (by rw [h])
    rw [this]; exact hk h)

theorem core_CronBack (W : World) (hg : GA W) (c0 : Int) (h0 : InR .u64 c0) (c1 : Int) (h1 : InR .u64 c1) (c2 : Int) (h2 : InR .u64 c2) (c3 : Int) (h3 : InR .u64 c3) (c4 : Int) (h4 : InR .u64 c4) :
    FnP Tryd.prog F_shiftbellkeep_CronBack #[.agg #[.int .u64 c0, .int .u64 c1, .int .u64 c2, .int .u64 c3, .int .u64 c4]] W fun v W' => v = .bool true ∧ Ext W W' := by
  let x : Cr := ⟨c0, c1, c2, c3, c4⟩
  have hx : CrU x := ⟨h0, h1, h2, h3, h4⟩
  refine ok_shiftbellkeep_CronBack c0 c1 c2 c3 c4 W _ fun b0 _ w1 x1 => (crons_k w1 (hg.ext x1).c).mono fun v w2 ⟨e2, hv⟩ => ⟨e2, true, hv, (fun h => by cases h), fun _ w4 x4 => ?_⟩
  refine (Print_k x hx w4 (hg.ext x4)).mono fun v w5 ⟨e5, t, e, hv, he, hne, ht⟩ => ⟨e5, t, e, hv, fun hn w8 x8 => ⟨b_true (decide_eq_true (hne hn)), x8⟩, fun hz w8 x8 => ?_⟩
  refine (Parse_k t w8 (hg.ext x8).b).mono fun v w9 ⟨e9, c, f, hv, _, _, hbig, hgood⟩ => ⟨e9, c.a, c.b, c.c, c.d, c.e, f, hv, fun b16 _ => ⟨fun hl w17 x17 => ⟨b_true (decide_eq_true (hbig (by omega))), x17⟩, fun hl => ?_⟩⟩
  obtain ⟨hf, hcx⟩ := hgood (by omega) x hx (ht hz)
  exact ⟨fun _ w17 x17 => eqC_k (a := c) (b := x) (fun _ => ⟨Ext.refl _, true, rfl, fun w20 x20 => ⟨rfl, x20⟩⟩) hcx, fun h => absurd hf h⟩

theorem core_CronOne (W : World) (hg : GA W) (s : ByteArray) (_hs : s.size ≤ 9223372036854775807) :
    FnP Tryd.prog F_shiftbellkeep_CronOne #[.string s] W fun v W' => v = .bool true ∧ Ext W W' := by
  refine ok_shiftbellkeep_CronOne s W _ fun w0 x0 => (crons_k w0 (hg.ext x0).c).mono fun v w1 ⟨e1, hv⟩ => ⟨e1, true, hv, (fun h => by cases h), fun _ w3 x3 => ?_⟩
  refine (Parse_k s w3 (hg.ext x3).b).mono fun v w4 ⟨e4, c, e, hv, hne, hok, _, _⟩ => ⟨e4, c.a, c.b, c.c, c.d, c.e, e, hv, fun b11 _ => ⟨fun hn w12 x12 => eqC_k (a := c) (b := zeroC) (fun _ => ⟨Ext.refl _, true, rfl, fun w15 x15 => ⟨rfl, x15⟩⟩) (hne hn), fun hz w12 x12 => ?_⟩⟩
  obtain ⟨hcu, hco⟩ := hok hz
  refine (Print_k c hcu w12 (hg.ext x12)).mono fun v w13 ⟨e13, t, f, hv, hf, _, ht⟩ => ⟨e13, t, f, hv, fun hn => absurd (hf.2 hco) hn, fun hz' w16 x16 => ?_⟩
  refine (Check_k c w16).mono fun v w17 ⟨e17, g, hv, hc⟩ => ⟨e17, g, hv, fun hn => ?_, fun _ w19 x19 => ?_⟩
  · rcases hc with ⟨_, h⟩ | ⟨h, _⟩
    · exact absurd h hn
    · exact absurd hco h
  refine (Parse_k t w19 (hg.ext x19).b).mono fun v w20 ⟨e20, d, h, hv, _, _, _, hgood⟩ => ⟨e20, d.a, d.b, d.c, d.d, d.e, h, hv, fun b27 _ => ⟨fun hl w28 x28 => ⟨rfl, x28⟩, fun hl => ?_⟩⟩
  obtain ⟨hh, hdc⟩ := hgood (by omega) c hcu (ht hz')
  exact ⟨fun _ w28 x28 => eqC_k (a := d) (b := c) (fun _ => ⟨Ext.refl _, true, rfl, fun w31 x31 => ⟨rfl, x31⟩⟩) hdc, fun hn => absurd hh hn⟩
end Go.Proofs.YteelndoflikliaaDoor
