/- The law NeedText, for a text of at most 1048576 bytes; what the laid values say. -/
import Derived.Test.YteelndoflikliaaDoorNtC
import Derived.Test.YteelndoflikliaaDoorUpK
import Derived.Lib.LaidTab
import Derived.Handed
set_option linter.unusedVariables false
set_option linter.unusedSimpArgs false
namespace Go.Proofs.YteelndoflikliaaDoor
open Go.Sx Go.RowKit Go.ChangeShapes Go.WideShapes Go.ChangeAt

theorem nneN_k {a b : Nd} {w : World} {K : Value → World → Prop} (hk : K (.bool (!decide (a = b))) w) : Run Tryd.prog (.eq .neq T_Need false false (nv a) (nv b)) w K :=
  run_nes (n := 3) (k := .i64) (by kernel_rfl) (by kernel_rfl) (by kernel_rfl) (by kernel_rfl) [a.c, a.m, a.g] [b.c, b.m, b.g] rfl rfl (by
    have : decide (a = b) = decide ([a.c, a.m, a.g] = [b.c, b.m, b.g]) := decide_eq_decide.2 nd_eq
    rwa [this] at hk)
theorem needs_k (w : World) (g : GB w) : FnP Tryd.prog F_shiftbellkeep_needs #[] w fun v w' => Ext w w' ∧ v = .bool true := by
  refine ok_shiftbellkeep_needs w _ fun w0 h0 => (nText_k zeroN w0 (g.ext h0)).mono fun v w1 ⟨e1, t, e, hv, he, _, ht⟩ => ⟨e1, t, e, hv, fun w4 h4 => ⟨h4, b_true ?_⟩⟩
  have h := he.2 (by decide)
  rw [Bool.and_eq_true, decide_eq_true_eq, decide_eq_true_eq]
  refine ⟨h, (ht h).trans ?_⟩
  have : pcs zeroN 3 = [] := by rfl
  unfold textL
  rw [if_pos this]; rfl

theorem core_NeedText (W : World) (hg : GB W) (a_0 : Int) (_h0 : InR .i64 a_0) (a_1 : Int) (_h1 : InR .i64 a_1) (a_2 : Int) (_h2 : InR .i64 a_2) (s : ByteArray) (hs : s.size ≤ 1048576) :
    FnP Tryd.prog F_shiftbellkeep_NeedText #[.agg #[.int .i64 a_0, .int .i64 a_1, .int .i64 a_2], .string s] W fun v W' => v = .bool true ∧ Ext W W' := by
  let x : Nd := ⟨a_0, a_1, a_2⟩
  refine ok_shiftbellkeep_NeedText a_0 a_1 a_2 s W _ fun b0 _ w1 h1 => (needs_k w1 (hg.ext h1)).mono fun v w2 ⟨e2, hv⟩ => ⟨e2, true, hv, (fun h => by cases h), fun _ w4 h4 => ?_⟩
  refine (nText_k x w4 (hg.ext h4)).mono fun v w5 ⟨e5, t, e, hv, he, hne, ht⟩ => ⟨e5, t, e, hv, fun hz w8 h8 => ?_, fun hnz => ⟨fun hbad => absurd (hne hnz) hbad, fun _ w8 h8 => ?_⟩⟩
  · have ok := he.1 hz
    have hts : t.size < 4294967281 := by
      rw [ht hz, ofL_size]
      have := join_pcs ok.rng
      unfold textL
      split
      · simp
      · omega
    refine (Read_k t hts w8 (hg.ext h8)).mono fun v w9 ⟨e9, b, f, hv, _, _, hb⟩ => ⟨e9, b.c, b.m, b.g, f, hv, fun b14 _ => ?_⟩
    obtain ⟨hf, hbx⟩ := hb x ok (ht hz)
    refine ⟨fun h => absurd hf h, fun _ w15 h15 => nneN_k (a := x) (b := b) ⟨Ext.refl _, _, rfl, fun hbad => ?_, fun _ w18 h18 => ?_⟩⟩
    · rw [hbx] at hbad; simp at hbad
    · refine (Read_k s (by omega) w18 (hg.ext h18)).mono fun v w19 ⟨e19, b, e, hv, hr1, hr2, _⟩ => ⟨e19, b.c, b.m, b.g, e, hv, fun b24 _ => ⟨fun hn w25 h25 => eqN_k (a := b) (b := zeroN) ⟨Ext.refl _, _, rfl, fun w28 h28 => ⟨b_true (decide_eq_true (hr1 hn)), h28⟩⟩, fun h0 w25 h25 => ?_⟩⟩
      obtain ⟨okb, hsb⟩ := hr2 h0
      exact (nText_k b w25 (hg.ext h25)).mono fun v w26 ⟨e26, t, f, hv, hf, _, ht⟩ => ⟨e26, t, f, hv, fun w29 h29 => ⟨b_true (by rw [Bool.and_eq_true, decide_eq_true_eq, decide_eq_true_eq]; exact ⟨hf.2 okb, (ht (hf.2 okb)).trans hsb.symm⟩), h29⟩⟩
  · refine (Read_k s (by omega) w8 (hg.ext h8)).mono fun v w9 ⟨e9, b, e, hv, hr1, hr2, _⟩ => ⟨e9, b.c, b.m, b.g, e, hv, fun b14 _ => ⟨fun hn w15 h15 => eqN_k (a := b) (b := zeroN) ⟨Ext.refl _, _, rfl, fun w18 h18 => ⟨b_true (decide_eq_true (hr1 hn)), h18⟩⟩, fun h0 w15 h15 => ?_⟩⟩
    obtain ⟨okb, hsb⟩ := hr2 h0
    exact (nText_k b w15 (hg.ext h15)).mono fun v w16 ⟨e16, t, f, hv, hf, _, ht⟩ => ⟨e16, t, f, hv, fun w19 h19 => ⟨b_true (by rw [Bool.and_eq_true, decide_eq_true_eq, decide_eq_true_eq]; exact ⟨hf.2 okb, (ht (hf.2 okb)).trans hsb.symm⟩), h19⟩⟩

theorem laid_tab {P : Program} {W : World} {l : List (String × DataW Unit)} (h : laidMetH P l W) (hp : (l.all fun x => x.2.handleName?.isNone) = true) {name : String} {zs : List Int} {k : IntKind}
    (hm : (name, Lib.tabData k zs) ∈ l) {g : Nat} {t e : TypeId} {n : Nat} (hg : P.globalNamed name = some g) (hty : (P.globals[g]?).map (·.type) = some t)
    (ht : P.underlying t = some (.array n e)) (he : P.underlying e = some (.int k)) (hce : P.cellsOf e = 1) (hct : P.cellsOf t = n) : Lib.TabIs P W name k zs := by
  have hnone : (l.filter fun x => x.2.handleName?.isSome) = [] := by
    rw [List.filter_eq_nil_iff]
    intro a ha hs
    have := List.all_eq_true.1 hp a ha
    cases hh : a.2.handleName? <;> simp_all
  have h : laidMet P l W := by
    unfold laidMetH at h
    rw [hnone] at h
    exact h
  obtain ⟨ps, hL, _⟩ := h
  obtain ⟨g', t', cs, fuel, p, h1, h2, h3, h4⟩ := laidVars_mem hL _ hm
  obtain rfl := Option.some.inj (hg.symm.trans h1)
  obtain rfl := Option.some.inj (hty.symm.trans h2)
  unfold Lib.TabIs
  rw [h3, ← Lib.cells_of_tab ht he hce hct h4]

/-- A listed variable of an interface type holds nil, or something. -/
theorem laid_ifc {P : Program} {W : World} {l : List (String × DataW Unit)} (h : laidMetH P l W) (hp : (l.all fun x => x.2.handleName?.isNone) = true) {name : String} {d : DataW Unit}
    (hm : (name, d) ∈ l) {g : Nat} {t : TypeId} (hg : P.globalNamed name = some g) (hty : (P.globals[g]?).map (·.type) = some t) (ht : isIfc P t = true) : ∃ v, cell W (some (⟨g, 0, none⟩ : Addr)) 0 = some v ∧ isErr v := by
  have hnone : (l.filter fun x => x.2.handleName?.isSome) = [] := by
    rw [List.filter_eq_nil_iff]
    intro a ha hs
    have := List.all_eq_true.1 hp a ha
    cases hh : a.2.handleName? <;> simp_all
  have h : laidMet P l W := by
    unfold laidMetH at h
    rw [hnone] at h
    exact h
  obtain ⟨ps, hL, _⟩ := h
  obtain ⟨g', t', cs, fuel, p, h1, h2, h3, h4⟩ := laidVars_mem hL _ hm
  obtain rfl := Option.some.inj (hg.symm.trans h1)
  obtain rfl := Option.some.inj (hty.symm.trans h2)
  have h5 := World.var?_cell hg h3 0
  unfold isIfc at ht
  split at ht
  · rename_i m hu
    cases fuel with
    | zero => simp [DataW.trod] at h4
    | succ n =>
      unfold DataW.trod at h4
      rw [hu] at h4
      generalize hL' : cs.toList = L at h4
      have hc : cs[0]? = L[0]? := by rw [← hL']; simp
      have fin : ∀ v, L = [v] → isErr v → ∃ v, cell W (some (⟨g, 0, none⟩ : Addr)) 0 = some v ∧ isErr v := fun v hv he => by
        refine ⟨v, ?_, he⟩
        simp only [cell, Option.bind_some, add_zero]
        rw [h5, hc, hv]; rfl
      match L, h4, fin with
      | [], h4, _ => simp at h4
      | [.nilIface], _, fin => exact fin _ rfl (.inl rfl)
      | [.iface a b], _, fin => exact fin _ rfl (.inr ⟨a, b, rfl⟩)
      | x :: y :: r, h4, _ => simp at h4
      | [.int _ _], h4, _ | [.bool _], h4, _ | [.string _], h4, _ | [.float _ _], h4, _ | [.complex _ _ _], h4, _ | [.pointer _], h4, _ | [.slice _ _ _], h4, _ | [.agg _], h4, _ | [.tuple _], h4, _ => simp at h4
      | [x], h4, fin => cases x <;> first | exact fin _ rfl (.inl rfl) | exact fin _ rfl (.inr ⟨_, _, rfl⟩) | simp at h4
  · cases ht

theorem int_of_shape {P : Program} {w : World} {g : Nat} {t : TypeId} {k : IntKind} {zero : Array Value} (h : w.ShapedOpen P) (hg : g < P.globals.size)
    (h0 : ((begin P (fun _ _ => 0) default).world.heap[g]?).bind Obj.row? = some (zero, t)) (hz : zero.size = 1)
    (hb : P.buildable t = true) (hc : P.cellTypes P.depth t = some [t]) (hu : P.underlying t = some (.int k)) : ∃ m, cell w (some (⟨g, 0, none⟩ : Addr)) 0 = some (.int k m) := by
  obtain ⟨cs, hh, hs, hr⟩ := h.1 g zero t hg h0
  obtain ⟨ts, hts, _, hall⟩ := hr hb
  rw [hc] at hts
  cases hts
  have h1 : 0 < cs.size := by omega
  obtain ⟨u, hu', hok⟩ := hall 0 cs[0] (by simp [h1])
  have : u = t := by simpa using hu'.symm
  subst this
  have hcell : cell w (some (⟨g, 0, none⟩ : Addr)) 0 = some cs[0] := by simp [cell, add_zero, World.cell?, hh, h1]
  rw [hcell]
  unfold Cell.ok at hok
  rw [hu] at hok
  cases hv : cs[0] <;> rw [hv] at hok <;> first | (simp at hok; obtain ⟨rfl, _⟩ := hok; exact ⟨_, rfl⟩) | (simp at hok; subst hok; exact ⟨_, rfl⟩) | simp at hok

abbrev GL := GB
theorem gb_of {W : World} {l : List (String × DataW Unit)} (h : laidMetH Tryd.prog l W) (hsp : W.ShapedOpen Tryd.prog) (hp : (l.all fun x => x.2.handleName?.isNone) = true)
    (h2 : ("internal/strconv.uint64pow10", (Rows.laid_internal_strconv_uint64pow10 : DataW Unit)) ∈ l)
    (h3 : ("strconv.ErrRange", (Rows.laid_strconv_ErrRange : DataW Unit)) ∈ l) (h4 : ("strconv.ErrSyntax", (Rows.laid_strconv_ErrSyntax : DataW Unit)) ∈ l) : GB W :=
  ⟨laid_tab h hp (k := .u64) (zs := Lib.pow10Tab) (by exact h2) (g := (Tryd.prog.globalNamed "internal/strconv.uint64pow10").getD 0) (t := (Tryd.prog.globals[(Tryd.prog.globalNamed "internal/strconv.uint64pow10").getD 0]?).elim 0 (·.type)) (e := T_uint64) (n := 20) (by kernel_rfl) (by kernel_rfl) (by kernel_rfl) (by kernel_rfl) (by kernel_rfl) (by kernel_rfl),
    int_of_shape (zero := #[.int .i64 0]) hsp (g := 1) (t := (Tryd.prog.globals[1]?).elim 0 (·.type)) (of_decide_eq_true (by kernel_rfl)) (by kernel_rfl) rfl (by kernel_rfl) (by kernel_rfl) (by kernel_rfl),
    laid_ifc h hp h4 (g := 2) (t := (Tryd.prog.globals[2]?).elim 0 (·.type)) (by kernel_rfl) (by kernel_rfl) (by kernel_rfl),
    laid_ifc h hp h3 (g := 3) (t := (Tryd.prog.globals[3]?).elim 0 (·.type)) (by kernel_rfl) (by kernel_rfl) (by kernel_rfl)⟩

def lB : List (String × DataW Unit) := [("math/bits.deBruijn32tab", Rows.laid_math_bits_deBruijn32tab), ("math/bits.deBruijn64tab", Rows.laid_math_bits_deBruijn64tab), ("internal/strconv.uint64pow10", Rows.laid_internal_strconv_uint64pow10), ("unicode/utf8.acceptRanges", Rows.laid_unicode_utf8_acceptRanges), ("strconv.ErrRange", Rows.laid_strconv_ErrRange), ("strconv.ErrSyntax", Rows.laid_strconv_ErrSyntax), ("unicode/utf8.first", Rows.laid_unicode_utf8_first)]
theorem laid_okS {W : World} (h : laidMetH Tryd.prog lB W) (hsp : W.ShapedOpen Tryd.prog) : GL W := gb_of h hsp (by kernel_rfl) (by simp [lB]) (by simp [lB]) (by simp [lB])
end Go.Proofs.YteelndoflikliaaDoor
