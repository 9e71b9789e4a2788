/- Scripts with gaps: what was quoted stands for itself. -/
import Derived.Test.YtjeboeahhhhbdaaDoorTmE
import Derived.Lib.ReplaceLaws
set_option linter.unusedVariables false
set_option linter.unusedSimpArgs false
namespace Go.Proofs.YtjeboeahhhhbdaaDoor
open Go.Sx Go.RowKit

theorem int_of_shape {P : Program} {w : World} {g : Nat} {t : TypeId} {k : IntKind} {zero : Array Value} (h : w.ShapedOpen P) (hg : g < P.globals.size)
    (h0 : ((begin P (fun _ _ => 0) default).world.heap[g]?).bind Obj.row? = some (zero, t)) (hz : zero.size = 1)
    (hb : P.buildable t = true) (hc : P.cellTypes P.depth t = some [t]) (hu : P.underlying t = some (.int k)) : ∃ m, cell w (some (⟨g, 0, none⟩ : Addr)) 0 = some (.int k m) := by
  obtain ⟨cs, hh, hs, hr⟩ := h.1 g zero t hg h0
  obtain ⟨ts, hts, _, hall⟩ := hr hb
  rw [hc] at hts
  cases hts
  have h1 : 0 < cs.size := by omega
  obtain ⟨u, hu', hok⟩ := hall 0 cs[0] (by simp [h1])
  have : u = t := by simpa using hu'.symm
  subst this
  have hcell : cell w (some (⟨g, 0, none⟩ : Addr)) 0 = some cs[0] := by simp [cell, add_zero, World.cell?, hh, h1]
  rw [hcell]
  unfold Cell.ok at hok
  rw [hu] at hok
  cases hv : cs[0] <;> rw [hv] at hok <;> first | (simp at hok; obtain ⟨rfl, _⟩ := hok; exact ⟨_, rfl⟩) | (simp at hok; subst hok; exact ⟨_, rfl⟩) | simp at hok
abbrev MX (W : World) : Prop := ∃ m, cell W (some (⟨0, 0, none⟩ : Addr)) 0 = some (.int .i64 m)
abbrev GL := MX
theorem laid_okS {l : List (String × DataW Unit)} {W : World} (_ : laidMetH Tryd.prog l W) (hsp : W.ShapedOpen Tryd.prog) : GL W :=
  int_of_shape (zero := #[.int .i64 0]) hsp (g := 0) (t := (Tryd.prog.globals[0]?).elim 0 (·.type)) (of_decide_eq_true (by kernel_rfl)) (by kernel_rfl) rfl (by kernel_rfl) (by kernel_rfl) (by kernel_rfl)
theorem cell0 {w : World} {b : Nat} {v : Value} (h : cell w (some (⟨b, 0, none⟩ : Addr)) 0 = some v) : w.cell? ⟨b, 0, none⟩ = some v := by simpa [cell, add_zero] using h

theorem dbl_no {s : By} (h : (36 : UInt8) ∉ s) : dbl s = s := by
  induction s with
  | nil => rfl
  | cons x r ih =>
    simp only [List.mem_cons, not_or] at h
    rw [dbl, if_neg (fun e => h.1 e.symm), ih h.2]
theorem dbl_app (a b : By) : dbl (a ++ b) = dbl a ++ dbl b := by
  induction a with
  | nil => rfl
  | cons x r ih => simp only [List.cons_append, dbl, ih]; split <;> rfl
theorem dbl_len (s : By) : (dbl s).length = s.length + s.count 36 := by
  induction s with
  | nil => rfl
  | cons x r ih =>
    simp only [dbl, List.count_cons, List.length_cons]
    by_cases h : x = 36
    · simp [h, ih]; omega
    · simp [h, ih]; omega
theorem repl_dbl : ∀ (n : Nat) (s : By), s.length ≤ n → Lib.replaceK [36] [36, 36] (Lib.count s [36]) s = dbl s := by
  intro n
  induction n with
  | zero =>
    intro s hs
    have : s = [] := List.eq_nil_of_length_eq_zero (by omega)
    subst this
    rw [Lib.count_miss (by rfl)]; rfl
  | succ n ih =>
    intro s hs
    rcases index_one 36 s with ⟨h1, h2⟩ | ⟨a, b, h1, h2, h3⟩
    · rw [Lib.count_miss h2, dbl_no h1]; rfl
    · have hd : s.drop (a.length + ([36] : By).length) = b := by rw [h1]; simp
      have ht : s.take a.length = a := by rw [h1]; simp
      have hl : s.length = a.length + 1 + b.length := by rw [h1]; simp; omega
      rw [Lib.count_hit (by simp) h3, Nat.add_comm, Lib.replaceK_hit _ _ _ _ _ h3, hd, ht, ih b (by omega), h1, dbl_app, dbl_no h2]
      simp [dbl]
theorem repl_all (s : By) : Lib.replaceAll s [36] [36, 36] = dbl s := by
  unfold Lib.replaceAll Lib.replace
  rw [if_neg (by decide)]
  have : Lib.replaceNum s [36] (-1) = Lib.count s [36] := by unfold Lib.replaceNum; rw [if_pos (.inl (by omega))]
  rw [this]; exact repl_dbl _ s (Nat.le_refl _)

theorem Quote_k (s : ByteArray) (hs : s.size ≤ 1048576) (w : World) (hg : MX w) : FnP Tryd.prog F_tmpl_Quote #[.string s] w fun v w' => Ext w w' ∧ ∃ (t : ByteArray) (e : Int), v = .tuple #[.string t, .int .i64 e] ∧
    (e ≠ 0 → t = ⟨#[]⟩) ∧ (e = 0 → t = ofL (dbl s.data.toList) ∧ t.size ≤ 2000) := by
  have hc : s.data.toList.count 36 ≤ s.size := by rw [size_list]; exact List.count_le_length
  have hl := dbl_len s.data.toList
  rw [← size_list] at hl
  refine ok_tmpl_Quote s w _ fun w0 h0 => ⟨fun args w => Tryd.call20 args w, (Tryd.strings_Count_one s 36 w0).mono fun e w1 ⟨he, hw⟩ => ⟨_, he, hw ▸ Ext.refl _, _, rfl, ?_⟩⟩
  have hcb : Lib.countByte s.data.toList 36 = s.data.toList.count 36 := rfl
  rw [hcb]
  refine ⟨i64 (by omega), fun _ w3 h3 => ⟨h3, _, _, rfl, fun _ => rfl, fun h => by cases h⟩, fun hle w3 h3 => ?_⟩
  obtain ⟨m, hm⟩ := hg
  have o1 : (⟨#[36]⟩ : ByteArray).size = 1 := rfl
  have o2 : (⟨#[36, 36]⟩ : ByteArray).size = 2 := rfl
  have hcl := Lib.countB_mul_le ⟨#[36]⟩ (by rw [o1]; omega) s.size s (Nat.le_refl _)
  rw [o1] at hcl
  refine ⟨fun args w => Tryd.call21 args w, (Tryd.strings_ReplaceAll s ⟨#[36]⟩ ⟨#[36, 36]⟩ m w3 (by omega) (cell0 (ext_cell h3 hm)) (by rw [o1]; omega) (by rw [o2]; omega)).mono fun e w4 ⟨he, hb⟩ => ⟨_, he, hb, _, rfl, fun w6 h6 => ⟨h6, _, _, rfl, fun h => absurd rfl h, fun _ => ?_⟩⟩⟩
  have e1 : Lib.replaceAll s.data.toList (⟨#[36]⟩ : ByteArray).data.toList (⟨#[36, 36]⟩ : ByteArray).data.toList = dbl s.data.toList := repl_all _
  rw [e1]
  exact ⟨rfl, by show (dbl s.data.toList).length ≤ 2000; omega⟩

theorem core_TmplQuote (W : World) (hg : GL W) : ∀ s : ByteArray, s.size ≤ 1048576 → ∀ q : Option Addr, ∀ m : Nat, ∀ d : Nat, SlcArg Tryd.prog W T_Label q m d →
    (∀ L : List Lb, L.length = m → Lbs W q L → ∀ x ∈ L, x.val.size ≤ 1048576) →
    FnP Tryd.prog F_shiftbellkeep_TmplQuote #[.string s, .slice q m d] W fun v W' => v = .bool true ∧ Ext W W' := by
  intro s hs q m d hL hb
  obtain ⟨l, rfl, hl63, hk63, hR⟩ := labels_arg hL
  have hv : ∀ x ∈ l, x.val.size ≤ 70368744177664 := fun x hx => by have := hb l rfl hR x hx; omega
  refine ok_shiftbellkeep_TmplQuote s q l.length d W _ fun w0 h0 => (scripts_k w0).mono fun v w1 ⟨e1, hv1⟩ => ⟨e1, _, hv1, fun h => by (cases h), fun _ w3 h3 => ?_⟩
  obtain ⟨mx, hmx⟩ := hg
  refine (Quote_k s hs w3 ⟨mx, ext_cell h3 hmx⟩).mono fun v w4 ⟨e4, t, e, hv4, k1, k2⟩ => ⟨e4, t, e, hv4, fun hne w7 h7 => ⟨by rw [k1 hne]; simp, h7⟩, fun he w7 h7 => ?_⟩
  obtain ⟨ht, hts⟩ := k2 he
  obtain ⟨L, hseg, hgp, hfl⟩ := dbl_segs s.data.toList
  have htl : t.data.toList = dbl s.data.toList := by rw [ht]; rfl
  rw [← htl] at hseg
  have hsm : (flat (vOf l) L).length ≤ 2000 := by
    rw [hfl]
    have := dbl_len s.data.toList
    have h2 : t.size = (dbl s.data.toList).length := by rw [ht]; rfl
    omega
  refine (Names_k t (by omega) w7).mono fun v w8 ⟨e8, p, n, c, f, hv8, hr⟩ => ⟨e8, p, n, c, f, hv8, fun w13 h13 => ?_⟩
  have hnf : f = 0 ∧ n = 0 := by
    rcases hr with ⟨_, _, h⟩ | ⟨h1, _, M, hM, hn, _⟩
    · exact absurd hseg (h hts L)
    · obtain ⟨rfl, _⟩ := hM.uniq hseg
      refine ⟨h1, ?_⟩
      rw [hn]; unfold names; rw [hgp]; rfl
  obtain ⟨rfl, rfl⟩ := hnf
  refine (Plain_k t hts L hseg hgp w13).mono fun v w14 ⟨e14, hv14⟩ => ⟨e14, _, _, hv14, fun w17 h17 => ?_⟩
  rw [hfl, ofL_of]
  refine (Fill_k t (by omega) none 0 [] (by simp) (by simp) (by simp) w17 lbs_nil).mono fun v w18 ⟨e18, t1, g, hv18, a1, a2, a3⟩ => ⟨e18, t1, g, hv18, fun w21 h21 => ?_⟩
  have hg0 := ((a3 L hts hseg (by simp) ⟨by simp, by simp [keys]⟩).1 (by rw [hgp]; simp)).1 (by rw [hfl] at hsm ⊢; exact hsm)
  obtain ⟨_, _, _, M, hM, _, _, ht1⟩ := a2 hg0
  obtain ⟨rfl, _⟩ := hM.uniq hseg
  rw [hfl, ofL_of] at ht1
  replace ht1 := ht1.symm
  subst ht1 hg0
  have x8 := h7.trans e8
  refine (Fill_k t (by omega) q d l hl63 hk63 hv w21 (hR.ext (x8.trans h21))).mono fun v w22 ⟨e22, t2, b, hv22, b1, b2, b3⟩ => ⟨e22, t2, b, hv22, good_lit [0, 0] rfl rfl (by decide) (by decide) fun w26 h26 w33 h33 => ⟨?_, (x8.trans h26).trans h33⟩⟩
  have hlast : (decide (b ≠ 0) || decide (t2 = s)) = true := by
    by_cases hb0 : b = 0
    · obtain ⟨_, _, _, K, hK, _, _, ht2⟩ := b2 hb0
      obtain ⟨rfl, _⟩ := hK.uniq hseg
      rw [hfl, ofL_of] at ht2
      simp [ht2]
    · simp [hb0]
  rw [hlast]
  simp
end Go.Proofs.YtjeboeahhhhbdaaDoor
