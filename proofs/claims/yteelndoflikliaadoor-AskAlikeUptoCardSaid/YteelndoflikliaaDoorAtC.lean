/- The law AskAlike, for arguments of bulk at most 1048576; what the laid values say. -/
import Derived.Test.YteelndoflikliaaDoorAtB
import Derived.Lib.LaidTab
import Derived.Handed
set_option linter.unusedVariables false
set_option linter.unusedSimpArgs false
namespace Go.Proofs.YteelndoflikliaaDoor
open Go.Sx Go.RowKit Go.ChangeShapes Go.WideShapes Go.ChangeAt

section
variable {P : Program} {H : Type} {enc : TypeId × Value → H}
theorem bulk_at {w : World} : ∀ {ts : List TypeId} {vs : List Value} {ds gs : List (DataW H)} {ps : List MemPlace}, DataW.TrodAll enc P w 0 (fun _ => true) true ts vs ds ps →
    ∀ (j : Nat) {t : TypeId} {v : Value}, ts[j]? = some t → vs[j]? = some v → ∃ d qs n, DataW.trod enc P w 0 (fun _ => true) true n t v.cells.toList = some (d, qs) ∧ Rows.uptoBulk d ≤ Rows.uptoBulkAll (ds ++ gs)
  | [], _, _, _, _, _, j, _, _, ht, _ => by simp at ht
  | _ :: _, [], _, _, _, h, _, _, _, _, hv => by simp at hv
  | _ :: _, _ :: _, [], _, _, h, _, _, _, _, _ => by simp [DataW.TrodAll] at h
  | t :: ts, v :: vs, d :: ds, gs, ps, h, j, t', v', ht, hv => by
    obtain ⟨p1, q1, h1, h2, _⟩ := h
    cases j with
    | zero =>
      simp at ht hv
      subst ht hv
      obtain ⟨n, h1⟩ := h1
      exact ⟨d, p1, n, h1, by rw [List.cons_append, Rows.uptoBulkAll]; omega⟩
    | succ j =>
      obtain ⟨e, qs, n, a, b⟩ := bulk_at (gs := gs) h2 j (by simpa using ht) (by simpa using hv)
      exact ⟨e, qs, n, a, by rw [List.cons_append, Rows.uptoBulkAll]; omega⟩
end

theorem alike_args (W : World) (hg : GP W) {x0 : Int} (hx0 : InR .i64 x0) {x1 : ByteArray} (hx1 : x1.size ≤ 9223372036854775807) {x2 : ByteArray} (hx2 : x2.size ≤ 9223372036854775807) {x3 : Int} (hx3 : InR .i64 x3) {px : Option Addr} {lx cx : Nat} (hX : SlcArg Tryd.prog W T_Ask px lx cx)
    {y0 : Int} (hy0 : InR .i64 y0) {y1 : ByteArray} (hy1 : y1.size ≤ 9223372036854775807) {y2 : ByteArray} (hy2 : y2.size ≤ 9223372036854775807) {y3 : Int} (hy3 : InR .i64 y3) {py : Option Addr} {ly cy : Nat} (hY : SlcArg Tryd.prog W T_Ask py ly cy)
    (n0 : ByteArray) {q : Option Addr} {l d : Nat} (hL : SlcArg Tryd.prog W T_Label q l d) (h2 h3 h4 h5 h6 h7 : Int)
    (hbx : ∀ (t : AT), (Value.agg #[.int .i64 x0, .string x1, .string x2, .int .i64 x3, .slice px lx cx]) = av t px cx → IsT W t px cx → nod t ≤ 1048576)
    (hby : ∀ (t : AT), (Value.agg #[.int .i64 y0, .string y1, .string y2, .int .i64 y3, .slice py ly cy]) = av t py cy → IsT W t py cy → nod t ≤ 1048576) :
    FnP Tryd.prog F_shiftbellkeep_AskAlike #[(.agg #[(.int .i64 x0), (.string x1), (.string x2), (.int .i64 x3), (.slice px lx cx)]), (.agg #[(.int .i64 y0), (.string y1), (.string y2), (.int .i64 y3), (.slice py ly cy)]), (.agg #[(.string n0), (.slice q l d), (.int .i64 h2), (.int .i64 h3), (.int .i64 h4), (.int .i64 h5), (.int .i64 h6), (.int .i64 h7)])] W fun v W' => v = .bool true ∧ Ext W W' := by
  obtain ⟨x, rfl, rfl, rfl, rfl, rfl, hTx, hWx⟩ := ask_arg hX hx0 hx1 hx2 hx3
  obtain ⟨y, rfl, rfl, rfl, rfl, rfl, hTy, hWy⟩ := ask_arg hY hy0 hy1 hy2 hy3
  obtain ⟨L, rfl, hlen, hLb⟩ := labels_arg hL
  exact law_alike W hg x y px py cx cy hTx hTy hWx hWy (hbx x rfl hTx) (hby y rfl hTy) ⟨n0, L, ⟨h2, h3, h4⟩, ⟨h5, h6, h7⟩⟩ q d hlen hLb

theorem laid_tab {P : Program} {W : World} {l : List (String × DataW Unit)} (h : laidMetH P l W) (hp : (l.all fun x => x.2.handleName?.isNone) = true) {name : String} {zs : List Int} {k : IntKind}
    (hm : (name, Lib.tabData k zs) ∈ l) {g : Nat} {t e : TypeId} {n : Nat} (hg : P.globalNamed name = some g) (hty : (P.globals[g]?).map (·.type) = some t)
    (ht : P.underlying t = some (.array n e)) (he : P.underlying e = some (.int k)) (hce : P.cellsOf e = 1) (hct : P.cellsOf t = n) : Lib.TabIs P W name k zs := by
  have hnone : (l.filter fun x => x.2.handleName?.isSome) = [] := by
    rw [List.filter_eq_nil_iff]
    intro a ha hs
    have := List.all_eq_true.1 hp a ha
    cases hh : a.2.handleName? <;> simp_all
  have h : laidMet P l W := by
    unfold laidMetH at h
    rw [hnone] at h
    exact h
  obtain ⟨ps, hL, _⟩ := h
  obtain ⟨g', t', cs, fuel, p, h1, h2, h3, h4⟩ := laidVars_mem hL _ hm
  obtain rfl := Option.some.inj (hg.symm.trans h1)
  obtain rfl := Option.some.inj (hty.symm.trans h2)
  unfold Lib.TabIs
  rw [h3, ← Lib.cells_of_tab ht he hce hct h4]

def lA : List (String × DataW Unit) := [("math/bits.deBruijn32tab", Rows.laid_math_bits_deBruijn32tab), ("math/bits.deBruijn64tab", Rows.laid_math_bits_deBruijn64tab), ("internal/strconv.uint64pow10", Rows.laid_internal_strconv_uint64pow10)]
theorem laid_ok {W : World} (h : laidMetH Tryd.prog lA W) : GP W :=
  ⟨laid_tab h (by kernel_rfl) (k := .u64) (zs := Lib.pow10Tab) (by exact (by simp [lA] : ("internal/strconv.uint64pow10", (Rows.laid_internal_strconv_uint64pow10 : DataW Unit)) ∈ lA)) (g := (Tryd.prog.globalNamed "internal/strconv.uint64pow10").getD 0) (t := (Tryd.prog.globals[(Tryd.prog.globalNamed "internal/strconv.uint64pow10").getD 0]?).elim 0 (·.type)) (e := T_uint64) (n := 20) (by kernel_rfl) (by kernel_rfl) (by kernel_rfl) (by kernel_rfl) (by kernel_rfl) (by kernel_rfl)⟩
abbrev GL := GP
end Go.Proofs.YteelndoflikliaaDoor
