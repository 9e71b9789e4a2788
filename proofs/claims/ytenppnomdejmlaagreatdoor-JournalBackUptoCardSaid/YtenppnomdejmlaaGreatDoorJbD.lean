/- What came in, by its bulk; what the laid values say. -/
import Derived.Test.YtenppnomdejmlaaGreatDoorJbC
import Derived.Test.YtenppnomdejmlaaGreatDoorAtB
import Derived.Lib.LaidTab
import Derived.Handed
set_option linter.unusedVariables false
set_option linter.unusedSimpArgs false
namespace Go.Proofs.YtenppnomdejmlaaGreatDoor
open Go.Sx Go.RowKit Go.ChangeShapes Go.WideShapes Go.ChangeAt

section
variable {P : Program} {H : Type} {enc : TypeId × Value → H}
theorem bulk_at {w : World} : ∀ {ts : List TypeId} {vs : List Value} {ds gs : List (DataW H)} {ps : List MemPlace}, DataW.TrodAll enc P w 0 (fun _ => true) true ts vs ds ps →
    ∀ (j : Nat) {t : TypeId} {v : Value}, ts[j]? = some t → vs[j]? = some v → ∃ d qs n, DataW.trod enc P w 0 (fun _ => true) true n t v.cells.toList = some (d, qs) ∧ Rows.uptoBulk d ≤ Rows.uptoBulkAll (ds ++ gs)
  | [], _, _, _, _, _, j, _, _, ht, _ => by simp at ht
  | _ :: _, [], _, _, _, h, _, _, _, _, hv => by simp at hv
  | _ :: _, _ :: _, [], _, _, h, _, _, _, _, _ => by simp [DataW.TrodAll] at h
  | t :: ts, v :: vs, d :: ds, gs, ps, h, j, t', v', ht, hv => by
    obtain ⟨p1, q1, h1, h2, _⟩ := h
    cases j with
    | zero =>
      simp at ht hv
      subst ht hv
      obtain ⟨n, h1⟩ := h1
      exact ⟨d, p1, n, h1, by rw [List.cons_append, Rows.uptoBulkAll]; omega⟩
    | succ j =>
      obtain ⟨e, qs, n, a, b⟩ := bulk_at (gs := gs) h2 j (by simpa using ht) (by simpa using hv)
      exact ⟨e, qs, n, a, by rw [List.cons_append, Rows.uptoBulkAll]; omega⟩
end


section
variable {P : Program} {H : Type} {enc : TypeId × Value → H}
/-- A field's reading is no more than its struct's. -/
theorem field_bulk {w : World} {T : TypeId} (hu : P.underlying T = some (.struct (P.fieldsOf T))) {n : Nat} {cs : List Value} {d : DataW H} {ps : List MemPlace} (h : DataW.trod enc P w 0 (fun _ => true) true n T cs = some (d, ps)) {i : Nat} {F : TypeId} {o : Nat}
    (hf : ((P.fieldsOf T).toList[i]?).map (fun f => (f.type, f.offset)) = some (F, o)) : ∃ m d' ps', DataW.trod enc P w 0 (fun _ => true) true m F ((cs.drop o).take (P.cellsOf F)) = some (d', ps') ∧ Rows.uptoBulk d' ≤ Rows.uptoBulk d := by
  cases n with
  | zero => cases h
  | succ n =>
    unfold DataW.trod at h
    rw [hu] at h
    simp only at h
    split at h
    · rw [Option.map_eq_some_iff] at h
      obtain ⟨xs, hxs, he⟩ := h
      injection he with he _
      subst he
      obtain ⟨f, hf1, hf2⟩ := Option.map_eq_some_iff.1 hf
      simp only [Prod.mk.injEq] at hf2
      obtain ⟨_, hget⟩ := mapM_get hxs
      obtain ⟨b, hb, hfb⟩ := hget i f hf1
      rw [hf2.1, hf2.2] at hfb
      have hmem : b.1 ∈ xs.map (·.1) := List.mem_map.2 ⟨b, List.mem_of_getElem? hb, rfl⟩
      have hle := bulk_mem hmem
      exact ⟨n, b.1, b.2, hfb, by rw [Rows.uptoBulk]; omega⟩
    · cases h
end
theorem job_bulk {H : Type} {enc : TypeId × Value → H} {w : World} {n : Nat} {j : Jb} {pa : Option Addr} {ca : Nat} {pf : Option Addr} {cf : Nat} {d : DataW H} {ps : List MemPlace} (hT : IsT w j.ask pa ca)
    (h : DataW.trod enc Tryz.prog w 0 (fun _ => true) true n T_Job (jcs j pa ca pf cf) = some (d, ps)) : nod j.ask ≤ Rows.uptoBulk d := by
  obtain ⟨m, d', ps', h1, h2⟩ := field_bulk (by kernel_rfl) h (i := 3) (F := T_Ask) (o := 5) (by kernel_rfl)
  rw [show Tryz.prog.cellsOf T_Ask = 5 by kernel_rfl] at h1
  exact Nat.le_trans (nod_bulk m j.ask pa ca d' ps' hT h1) h2

/-- A job that came in. -/
theorem job_arg {W : World} {j_0 : ByteArray} (h0 : j_0.size ≤ 9223372036854775807) {j_1 : Int} (h1 : InR .i64 j_1) {j_2 : Int} (h2 : InR .i64 j_2) {j_3 : Int} (h3 : InR .i64 j_3) {j_4 : Int} (h4 : InR .i64 j_4) {j_5 : Int} (h5 : InR .i64 j_5) {j_6 : ByteArray} (h6 : j_6.size ≤ 9223372036854775807) {j_7 : ByteArray} (h7 : j_7.size ≤ 9223372036854775807) {j_8 : Int} (h8 : InR .i64 j_8)
    {p : Option Addr} {l c : Nat} (hA : SlcArg Tryz.prog W T_Ask p l c) {q : Option Addr} {m d : Nat} (hF : SlcArg Tryz.prog W T_int q m d) :
    ∃ j : Jb, IsJ W j p c q ∧ WfJ j ∧ jcs j p c q d = [.string j_0, .int .i64 j_1, .int .i64 j_2, .int .i64 j_3, .int .i64 j_4, .int .i64 j_5, .string j_6, .string j_7, .int .i64 j_8, .slice p l c, .slice q m d] := by
  obtain ⟨x, rfl, rfl, rfl, rfl, rfl, hT, hW⟩ := ask_arg hA h5 h6 h7 h8
  obtain ⟨xs, rfl, hx, hi⟩ := hF.ints (k := .i64) (by kernel_rfl) (by kernel_rfl)
  refine ⟨⟨j_0, j_1, ⟨j_2, j_3, j_4⟩, x, xs⟩, ⟨hT, hi⟩, ⟨h0, h1, fun i hi => ?_, hW, by have := hF.le; have := hF.max; show xs.length ≤ _; omega, hx⟩, rfl⟩
  match i, hi with
  | 0, _ => exact of64 h2
  | 1, _ => exact of64 h3
  | 2, _ => exact of64 h4

theorem laid_tab {P : Program} {W : World} {l : List (String × DataW Unit)} (h : laidMetH P l W) (hp : (l.all fun x => x.2.handleName?.isNone) = true) {name : String} {zs : List Int} {k : IntKind}
    (hm : (name, Lib.tabData k zs) ∈ l) {g : Nat} {t e : TypeId} {n : Nat} (hg : P.globalNamed name = some g) (hty : (P.globals[g]?).map (·.type) = some t)
    (ht : P.underlying t = some (.array n e)) (he : P.underlying e = some (.int k)) (hce : P.cellsOf e = 1) (hct : P.cellsOf t = n) : Lib.TabIs P W name k zs := by
  have hnone : (l.filter fun x => x.2.handleName?.isSome) = [] := by
    rw [List.filter_eq_nil_iff]
    intro a ha hs
    have := List.all_eq_true.1 hp a ha
    cases hh : a.2.handleName? <;> simp_all
  have h : laidMet P l W := by
    unfold laidMetH at h
    rw [hnone] at h
    exact h
  obtain ⟨ps, hL, _⟩ := h
  obtain ⟨g', t', cs, fuel, p, h1, h2, h3, h4⟩ := laidVars_mem hL _ hm
  obtain rfl := Option.some.inj (hg.symm.trans h1)
  obtain rfl := Option.some.inj (hty.symm.trans h2)
  unfold Lib.TabIs
  rw [h3, ← Lib.cells_of_tab ht he hce hct h4]

/-- A listed variable of an interface type holds nil, or something. -/
theorem laid_ifc {P : Program} {W : World} {l : List (String × DataW Unit)} (h : laidMetH P l W) (hp : (l.all fun x => x.2.handleName?.isNone) = true) {name : String} {d : DataW Unit}
    (hm : (name, d) ∈ l) {g : Nat} {t : TypeId} (hg : P.globalNamed name = some g) (hty : (P.globals[g]?).map (·.type) = some t) (ht : isIfc P t = true) : ∃ v, cell W (some (⟨g, 0, none⟩ : Addr)) 0 = some v ∧ isErr v := by
  have hnone : (l.filter fun x => x.2.handleName?.isSome) = [] := by
    rw [List.filter_eq_nil_iff]
    intro a ha hs
    have := List.all_eq_true.1 hp a ha
    cases hh : a.2.handleName? <;> simp_all
  have h : laidMet P l W := by
    unfold laidMetH at h
    rw [hnone] at h
    exact h
  obtain ⟨ps, hL, _⟩ := h
  obtain ⟨g', t', cs, fuel, p, h1, h2, h3, h4⟩ := laidVars_mem hL _ hm
  obtain rfl := Option.some.inj (hg.symm.trans h1)
  obtain rfl := Option.some.inj (hty.symm.trans h2)
  have h5 := World.var?_cell hg h3 0
  unfold isIfc at ht
  split at ht
  · rename_i m hu
    cases fuel with
    | zero => simp [DataW.trod] at h4
    | succ n =>
      unfold DataW.trod at h4
      rw [hu] at h4
      generalize hL' : cs.toList = L at h4
      have hc : cs[0]? = L[0]? := by rw [← hL']; simp
      have fin : ∀ v, L = [v] → isErr v → ∃ v, cell W (some (⟨g, 0, none⟩ : Addr)) 0 = some v ∧ isErr v := fun v hv he => by
        refine ⟨v, ?_, he⟩
        simp only [cell, Option.bind_some, add_zero]
        rw [h5, hc, hv]; rfl
      match L, h4, fin with
      | [], h4, _ => simp at h4
      | [.nilIface], _, fin => exact fin _ rfl (.inl rfl)
      | [.iface a b], _, fin => exact fin _ rfl (.inr ⟨a, b, rfl⟩)
      | x :: y :: r, h4, _ => simp at h4
      | [.int _ _], h4, _ | [.bool _], h4, _ | [.string _], h4, _ | [.float _ _], h4, _ | [.complex _ _ _], h4, _ | [.pointer _], h4, _ | [.slice _ _ _], h4, _ | [.agg _], h4, _ | [.tuple _], h4, _ => simp at h4
      | [x], h4, fin => cases x <;> first | exact fin _ rfl (.inl rfl) | exact fin _ rfl (.inr ⟨_, _, rfl⟩) | simp at h4
  · cases ht

theorem int_of_shape {P : Program} {w : World} {g : Nat} {t : TypeId} {k : IntKind} {zero : Array Value} (h : w.ShapedOpen P) (hg : g < P.globals.size)
    (h0 : ((begin P (fun _ _ => 0) default).world.heap[g]?).bind Obj.row? = some (zero, t)) (hz : zero.size = 1)
    (hb : P.buildable t = true) (hc : P.cellTypes P.depth t = some [t]) (hu : P.underlying t = some (.int k)) : ∃ m, cell w (some (⟨g, 0, none⟩ : Addr)) 0 = some (.int k m) := by
  obtain ⟨cs, hh, hs, hr⟩ := h.1 g zero t hg h0
  obtain ⟨ts, hts, _, hall⟩ := hr hb
  rw [hc] at hts
  cases hts
  have h1 : 0 < cs.size := by omega
  obtain ⟨u, hu', hok⟩ := hall 0 cs[0] (by simp [h1])
  have : u = t := by simpa using hu'.symm
  subst this
  have hcell : cell w (some (⟨g, 0, none⟩ : Addr)) 0 = some cs[0] := by simp [cell, add_zero, World.cell?, hh, h1]
  rw [hcell]
  unfold Cell.ok at hok
  rw [hu] at hok
  cases hv : cs[0] <;> rw [hv] at hok <;> first | (simp at hok; obtain ⟨rfl, _⟩ := hok; exact ⟨_, rfl⟩) | (simp at hok; subst hok; exact ⟨_, rfl⟩) | simp at hok

abbrev GL := GB
theorem gb_of {W : World} {l : List (String × DataW Unit)} (h : laidMetH Tryz.prog l W) (hsp : W.ShapedOpen Tryz.prog) (hp : (l.all fun x => x.2.handleName?.isNone) = true)
    (h2 : ("internal/strconv.uint64pow10", (Rows.laid_internal_strconv_uint64pow10 : DataW Unit)) ∈ l)
    (h3 : ("strconv.ErrRange", (Rows.laid_strconv_ErrRange : DataW Unit)) ∈ l) (h4 : ("strconv.ErrSyntax", (Rows.laid_strconv_ErrSyntax : DataW Unit)) ∈ l) : GB W :=
  ⟨laid_tab h hp (k := .u64) (zs := Lib.pow10Tab) (by exact h2) (g := (Tryz.prog.globalNamed "internal/strconv.uint64pow10").getD 0) (t := (Tryz.prog.globals[(Tryz.prog.globalNamed "internal/strconv.uint64pow10").getD 0]?).elim 0 (·.type)) (e := T_uint64) (n := 20) (by kernel_rfl) (by kernel_rfl) (by kernel_rfl) (by kernel_rfl) (by kernel_rfl) (by kernel_rfl),
    int_of_shape (zero := #[.int .i64 0]) hsp (g := 2) (t := (Tryz.prog.globals[2]?).elim 0 (·.type)) (of_decide_eq_true (by kernel_rfl)) (by kernel_rfl) rfl (by kernel_rfl) (by kernel_rfl) (by kernel_rfl),
    laid_ifc h hp h4 (g := 0) (t := (Tryz.prog.globals[0]?).elim 0 (·.type)) (by kernel_rfl) (by kernel_rfl) (by kernel_rfl),
    laid_ifc h hp h3 (g := 1) (t := (Tryz.prog.globals[1]?).elim 0 (·.type)) (by kernel_rfl) (by kernel_rfl) (by kernel_rfl)⟩


def lB : List (String × DataW Unit) := [("math/bits.deBruijn32tab", Rows.laid_math_bits_deBruijn32tab), ("math/bits.deBruijn64tab", Rows.laid_math_bits_deBruijn64tab), ("internal/strconv.uint64pow10", Rows.laid_internal_strconv_uint64pow10), ("unicode/utf8.acceptRanges", Rows.laid_unicode_utf8_acceptRanges), ("strconv.ErrRange", Rows.laid_strconv_ErrRange), ("strconv.ErrSyntax", Rows.laid_strconv_ErrSyntax), ("unicode/utf8.first", Rows.laid_unicode_utf8_first)]
theorem laid_okS {W : World} (h : laidMetH Tryz.prog lB W) (hsp : W.ShapedOpen Tryz.prog) : GL W := gb_of h hsp (by kernel_rfl) (by simp [lB]) (by simp [lB]) (by simp [lB])
end Go.Proofs.YtenppnomdejmlaaGreatDoor
