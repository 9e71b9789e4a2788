/- The law AskBack, for arguments of bulk at most 1048576; what the laid values say. -/
import Derived.Test.YteelndoflikliaaDoorAbD
import Derived.Test.YteelndoflikliaaDoorAtB
import Derived.Lib.LaidTab
import Derived.Handed
set_option linter.unusedVariables false
set_option linter.unusedSimpArgs false
namespace Go.Proofs.YteelndoflikliaaDoor
open Go.Sx Go.RowKit Go.ChangeShapes Go.WideShapes Go.ChangeAt

section
variable {P : Program} {H : Type} {enc : TypeId × Value → H}
theorem bulk_at {w : World} : ∀ {ts : List TypeId} {vs : List Value} {ds gs : List (DataW H)} {ps : List MemPlace}, DataW.TrodAll enc P w 0 (fun _ => true) true ts vs ds ps →
    ∀ (j : Nat) {t : TypeId} {v : Value}, ts[j]? = some t → vs[j]? = some v → ∃ d qs n, DataW.trod enc P w 0 (fun _ => true) true n t v.cells.toList = some (d, qs) ∧ Rows.uptoBulk d ≤ Rows.uptoBulkAll (ds ++ gs)
  | [], _, _, _, _, _, j, _, _, ht, _ => by simp at ht
  | _ :: _, [], _, _, _, h, _, _, _, _, hv => by simp at hv
  | _ :: _, _ :: _, [], _, _, h, _, _, _, _, _ => by simp [DataW.TrodAll] at h
  | t :: ts, v :: vs, d :: ds, gs, ps, h, j, t', v', ht, hv => by
    obtain ⟨p1, q1, h1, h2, _⟩ := h
    cases j with
    | zero =>
      simp at ht hv
      subst ht hv
      obtain ⟨n, h1⟩ := h1
      exact ⟨d, p1, n, h1, by rw [List.cons_append, Rows.uptoBulkAll]; omega⟩
    | succ j =>
      obtain ⟨e, qs, n, a, b⟩ := bulk_at (gs := gs) h2 j (by simpa using ht) (by simpa using hv)
      exact ⟨e, qs, n, a, by rw [List.cons_append, Rows.uptoBulkAll]; omega⟩
end

theorem back_args (W : World) (hg : GB W) {x0 : Int} (hx0 : InR .i64 x0) {x1 : ByteArray} (hx1 : x1.size ≤ 9223372036854775807) {x2 : ByteArray} (hx2 : x2.size ≤ 9223372036854775807) {x3 : Int} (hx3 : InR .i64 x3) {px : Option Addr} {lx cx : Nat} (hX : SlcArg Tryd.prog W T_Ask px lx cx) (s : ByteArray)
    (hbx : ∀ (t : AT), (Value.agg #[.int .i64 x0, .string x1, .string x2, .int .i64 x3, .slice px lx cx]) = av t px cx → IsT W t px cx → nod t ≤ 1048576) :
    FnP Tryd.prog F_shiftbellkeep_AskBack #[(.agg #[(.int .i64 x0), (.string x1), (.string x2), (.int .i64 x3), (.slice px lx cx)]), .string s] W fun v W' => v = .bool true ∧ Ext W W' := by
  obtain ⟨x, rfl, rfl, rfl, rfl, rfl, hTx, hWx⟩ := ask_arg hX hx0 hx1 hx2 hx3
  exact law_back W hg x px cx hTx hWx (hbx x rfl hTx) s

theorem laid_tab {P : Program} {W : World} {l : List (String × DataW Unit)} (h : laidMetH P l W) (hp : (l.all fun x => x.2.handleName?.isNone) = true) {name : String} {zs : List Int} {k : IntKind}
    (hm : (name, Lib.tabData k zs) ∈ l) {g : Nat} {t e : TypeId} {n : Nat} (hg : P.globalNamed name = some g) (hty : (P.globals[g]?).map (·.type) = some t)
    (ht : P.underlying t = some (.array n e)) (he : P.underlying e = some (.int k)) (hce : P.cellsOf e = 1) (hct : P.cellsOf t = n) : Lib.TabIs P W name k zs := by
  have hnone : (l.filter fun x => x.2.handleName?.isSome) = [] := by
    rw [List.filter_eq_nil_iff]
    intro a ha hs
    have := List.all_eq_true.1 hp a ha
    cases hh : a.2.handleName? <;> simp_all
  have h : laidMet P l W := by
    unfold laidMetH at h
    rw [hnone] at h
    exact h
  obtain ⟨ps, hL, _⟩ := h
  obtain ⟨g', t', cs, fuel, p, h1, h2, h3, h4⟩ := laidVars_mem hL _ hm
  obtain rfl := Option.some.inj (hg.symm.trans h1)
  obtain rfl := Option.some.inj (hty.symm.trans h2)
  unfold Lib.TabIs
  rw [h3, ← Lib.cells_of_tab ht he hce hct h4]

/-- A listed variable of an interface type holds nil, or something. -/
theorem laid_ifc {P : Program} {W : World} {l : List (String × DataW Unit)} (h : laidMetH P l W) (hp : (l.all fun x => x.2.handleName?.isNone) = true) {name : String} {d : DataW Unit}
    (hm : (name, d) ∈ l) {g : Nat} {t : TypeId} (hg : P.globalNamed name = some g) (hty : (P.globals[g]?).map (·.type) = some t) (ht : isIfc P t = true) : ∃ v, cell W (some (⟨g, 0, none⟩ : Addr)) 0 = some v ∧ isErr v := by
  have hnone : (l.filter fun x => x.2.handleName?.isSome) = [] := by
    rw [List.filter_eq_nil_iff]
    intro a ha hs
    have := List.all_eq_true.1 hp a ha
    cases hh : a.2.handleName? <;> simp_all
  have h : laidMet P l W := by
    unfold laidMetH at h
    rw [hnone] at h
    exact h
  obtain ⟨ps, hL, _⟩ := h
  obtain ⟨g', t', cs, fuel, p, h1, h2, h3, h4⟩ := laidVars_mem hL _ hm
  obtain rfl := Option.some.inj (hg.symm.trans h1)
  obtain rfl := Option.some.inj (hty.symm.trans h2)
  have h5 := World.var?_cell hg h3 0
  unfold isIfc at ht
  split at ht
  · rename_i m hu
    cases fuel with
    | zero => simp [DataW.trod] at h4
    | succ n =>
      unfold DataW.trod at h4
      rw [hu] at h4
      generalize hL' : cs.toList = L at h4
      have hc : cs[0]? = L[0]? := by rw [← hL']; simp
      have fin : ∀ v, L = [v] → isErr v → ∃ v, cell W (some (⟨g, 0, none⟩ : Addr)) 0 = some v ∧ isErr v := fun v hv he => by
        refine ⟨v, ?_, he⟩
        simp only [cell, Option.bind_some, add_zero]
        rw [h5, hc, hv]; rfl
      match L, h4, fin with
      | [], h4, _ => simp at h4
      | [.nilIface], _, fin => exact fin _ rfl (.inl rfl)
      | [.iface a b], _, fin => exact fin _ rfl (.inr ⟨a, b, rfl⟩)
      | x :: y :: r, h4, _ => simp at h4
      | [.int _ _], h4, _ | [.bool _], h4, _ | [.string _], h4, _ | [.float _ _], h4, _ | [.complex _ _ _], h4, _ | [.pointer _], h4, _ | [.slice _ _ _], h4, _ | [.agg _], h4, _ | [.tuple _], h4, _ => simp at h4
      | [x], h4, fin => cases x <;> first | exact fin _ rfl (.inl rfl) | exact fin _ rfl (.inr ⟨_, _, rfl⟩) | simp at h4
  · cases ht

theorem int_of_shape {P : Program} {w : World} {g : Nat} {t : TypeId} {k : IntKind} {zero : Array Value} (h : w.ShapedOpen P) (hg : g < P.globals.size)
    (h0 : ((begin P (fun _ _ => 0) default).world.heap[g]?).bind Obj.row? = some (zero, t)) (hz : zero.size = 1)
    (hb : P.buildable t = true) (hc : P.cellTypes P.depth t = some [t]) (hu : P.underlying t = some (.int k)) : ∃ m, cell w (some (⟨g, 0, none⟩ : Addr)) 0 = some (.int k m) := by
  obtain ⟨cs, hh, hs, hr⟩ := h.1 g zero t hg h0
  obtain ⟨ts, hts, _, hall⟩ := hr hb
  rw [hc] at hts
  cases hts
  have h1 : 0 < cs.size := by omega
  obtain ⟨u, hu', hok⟩ := hall 0 cs[0] (by simp [h1])
  have : u = t := by simpa using hu'.symm
  subst this
  have hcell : cell w (some (⟨g, 0, none⟩ : Addr)) 0 = some cs[0] := by simp [cell, add_zero, World.cell?, hh, h1]
  rw [hcell]
  unfold Cell.ok at hok
  rw [hu] at hok
  cases hv : cs[0] <;> rw [hv] at hok <;> first | (simp at hok; obtain ⟨rfl, _⟩ := hok; exact ⟨_, rfl⟩) | (simp at hok; subst hok; exact ⟨_, rfl⟩) | simp at hok

abbrev GL := GB
theorem gb_of {W : World} {l : List (String × DataW Unit)} (h : laidMetH Tryd.prog l W) (hsp : W.ShapedOpen Tryd.prog) (hp : (l.all fun x => x.2.handleName?.isNone) = true)
    (h2 : ("internal/strconv.uint64pow10", (Rows.laid_internal_strconv_uint64pow10 : DataW Unit)) ∈ l)
    (h3 : ("strconv.ErrRange", (Rows.laid_strconv_ErrRange : DataW Unit)) ∈ l) (h4 : ("strconv.ErrSyntax", (Rows.laid_strconv_ErrSyntax : DataW Unit)) ∈ l) : GB W :=
  ⟨laid_tab h hp (k := .u64) (zs := Lib.pow10Tab) (by exact h2) (g := (Tryd.prog.globalNamed "internal/strconv.uint64pow10").getD 0) (t := (Tryd.prog.globals[(Tryd.prog.globalNamed "internal/strconv.uint64pow10").getD 0]?).elim 0 (·.type)) (e := T_uint64) (n := 20) (by kernel_rfl) (by kernel_rfl) (by kernel_rfl) (by kernel_rfl) (by kernel_rfl) (by kernel_rfl),
    int_of_shape (zero := #[.int .i64 0]) hsp (g := 1) (t := (Tryd.prog.globals[1]?).elim 0 (·.type)) (of_decide_eq_true (by kernel_rfl)) (by kernel_rfl) rfl (by kernel_rfl) (by kernel_rfl) (by kernel_rfl),
    laid_ifc h hp h4 (g := 2) (t := (Tryd.prog.globals[2]?).elim 0 (·.type)) (by kernel_rfl) (by kernel_rfl) (by kernel_rfl),
    laid_ifc h hp h3 (g := 3) (t := (Tryd.prog.globals[3]?).elim 0 (·.type)) (by kernel_rfl) (by kernel_rfl) (by kernel_rfl)⟩


def lX : List (String × DataW Unit) := [("math/bits.deBruijn32tab", Rows.laid_math_bits_deBruijn32tab), ("math/bits.deBruijn64tab", Rows.laid_math_bits_deBruijn64tab), ("internal/strconv.uint64pow10", Rows.laid_internal_strconv_uint64pow10), ("strconv.ErrRange", Rows.laid_strconv_ErrRange), ("strconv.ErrSyntax", Rows.laid_strconv_ErrSyntax)]
theorem laid_okS {W : World} (h : laidMetH Tryd.prog lX W) (hsp : W.ShapedOpen Tryd.prog) : GL W := gb_of h hsp (by kernel_rfl) (by simp [lX]) (by simp [lX]) (by simp [lX])
end Go.Proofs.YteelndoflikliaaDoor
