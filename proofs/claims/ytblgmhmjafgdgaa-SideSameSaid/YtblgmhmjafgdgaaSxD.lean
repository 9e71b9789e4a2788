/- Package variables that are laid: tables of integers; the law's end. -/
import Derived.Laws.StructEq
import Derived.Test.YtblgmhmjafgdgaaSxL
import Derived.LaidLaws
import Derived.LaidHandle
import Derived.LaidMore
import Derived.SevenTiedAt
import Derived.JoinedOf
import Derived.FnData
set_option linter.unusedVariables false
set_option linter.unusedSimpArgs false
namespace Go.Sx
open Go.RowKit
variable {P : Program}

theorem laidVars_mem {w : World} : ∀ {l : List (String × DataW Unit)} {ps : List MemPlace}, DataW.LaidVars P w l ps → ∀ x ∈ l,
    ∃ g t cs fuel p, P.globalNamed x.1 = some g ∧ (P.globals[g]?).map (·.type) = some t ∧ w.var? P x.1 = some cs ∧ DataW.trod (fun _ => ()) P w 0 (fun _ => true) false fuel t cs.toList = some (x.2, p)
  | [], ps, _, x, hx => by cases hx
  | (n, d) :: r, ps, h, x, hx => by
    obtain ⟨g, t, cs, fuel, p, q, h1, h2, h3, h4, h5, _⟩ := h
    rcases List.mem_cons.1 hx with rfl | hx
    · exact ⟨g, t, cs, fuel, p, h1, h2, h3, h4⟩
    · exact laidVars_mem h5 x hx

theorem mapM_range_some' {β : Type} {f : Nat → Option β} {n : Nat} {es : List β} (h : (List.range n).mapM f = some es) : es.length = n ∧ ∀ i, i < n → ∃ u, es[i]? = some u ∧ f i = some u := by
  have hg : ∀ (l : List Nat) (es : List β), l.mapM f = some es → es.length = l.length ∧ ∀ (i : Nat) (j : Nat), l[i]? = some j → ∃ u, es[i]? = some u ∧ f j = some u := by
    intro l
    induction l with
    | nil => intro es h; simp at h; subst h; exact ⟨rfl, fun i j h => by simp at h⟩
    | cons a r ih =>
      intro es h
      simp only [List.mapM_cons, Option.bind_eq_bind, Option.bind_eq_some_iff, Option.pure_def, Option.some.injEq] at h
      obtain ⟨y, hy, ys, hys, rfl⟩ := h
      obtain ⟨h1, h2⟩ := ih ys hys
      refine ⟨by simp [h1], fun i j hj => ?_⟩
      cases i with
      | zero => simp at hj; subst hj; exact ⟨y, rfl, hy⟩
      | succ i => simp at hj; simpa using h2 i j hj
  obtain ⟨h1, h2⟩ := hg _ _ h
  exact ⟨by simpa using h1, fun i hi => h2 i i (by simp [hi])⟩

theorem trod_ints {w : World} {fuel : Nat} {t e : TypeId} {n : Nat} {k : IntKind} {cs : List Value} {xs : List Int} {p : List MemPlace} (ht : P.underlying t = some (.array n e)) (he : P.underlying e = some (.int k)) (hc : P.cellsOf e = 1)
    (h : DataW.trod (fun _ => ()) P w 0 (fun _ => true) false fuel t cs = some (.agg (xs.map fun x => .lit (.int k x)), p)) : ∀ (i : Nat) (x : Int), xs[i]? = some x → i < n → cs[i]? = some (.int k x) := by
  cases fuel with
  | zero => simp [DataW.trod] at h
  | succ fuel =>
    unfold DataW.trod at h
    rw [ht] at h
    simp only [hc, Nat.mul_one] at h
    split at h
    · rename_i hl
      rw [Option.map_eq_some_iff] at h
      obtain ⟨ys, h1, h2⟩ := h
      obtain ⟨h3, h4⟩ := mapM_range_some' h1
      simp only [Prod.mk.injEq, DataW.agg.injEq] at h2
      intro i x hx hi
      obtain ⟨y, hy, hf⟩ := h4 i hi
      have hyx : y.1 = .lit (.int k x) := by
        have := congrArg (fun l => l[i]?) h2.1
        simp only [List.getElem?_map, hy, hx, Option.map_some, Option.some.injEq] at this
        exact this
      cases fuel with
      | zero => simp [DataW.trod] at hf
      | succ fuel =>
        unfold DataW.trod at hf
        rw [he] at hf
        have hsome : ∃ c, cs[i]? = some c := by
          cases hcs : cs[i]? with
          | some c => exact ⟨c, rfl⟩
          | none =>
            rw [List.getElem?_eq_none_iff] at hcs
            rw [List.drop_of_length_le hcs] at hf
            simp at hf
        obtain ⟨c, hcs⟩ := hsome
        have htake : (cs.drop i).take 1 = [c] := by
          obtain ⟨hlt, hv⟩ := List.getElem?_eq_some_iff.1 hcs
          rw [List.drop_eq_getElem_cons hlt]
          simp [hv]
        rw [htake] at hf
        rw [hcs]
        have key : ∀ c : Value, (match (some (TypeDesc.int k)), [c] with | some (TypeDesc.int k), [Value.int k' n] => if k' = k ∧ (Lit.int k n).wf = true then some (DataW.lit (H := Unit) (Lit.int k n), ([] : List MemPlace)) else none | _, _ => none) = some y → c = .int k x := by
          intro c hc
          cases c <;> simp at hc
          rename_i k' m
          obtain ⟨⟨rfl, _⟩, rfl⟩ := hc
          simp at hyx
          rw [hyx]
        congr 1
        refine key c ?_
        cases c <;> first | exact hf | (simp at hf)
    · cases h

/-- A listed table of integers: its cells. -/
theorem laid_ints {W : World} {l : List (String × DataW Unit)} (h : laidMetH P l W) (hp : (l.all fun x => x.2.handleName?.isNone) = true) {name : String} {xs : List Int} {k : IntKind}
    (hm : (name, DataW.agg (xs.map fun x => .lit (.int k x))) ∈ l) {g : Nat} {t e : TypeId} {n : Nat} (hg : P.globalNamed name = some g) (ht : (P.globals[g]?).map (·.type) = some t)
    (hu : P.underlying t = some (.array n e)) (he : P.underlying e = some (.int k)) (hc : P.cellsOf e = 1) : ∀ (i : Nat) (x : Int), xs[i]? = some x → i < n → cell W (some (⟨g, 0, none⟩ : Addr)) i = some (.int k x) := by
  have hnone : (l.filter fun x => x.2.handleName?.isSome) = [] := by
    rw [List.filter_eq_nil_iff]
    intro a ha hs
    have := List.all_eq_true.1 hp a ha
    cases hh : a.2.handleName? <;> simp_all
  have h : laidMet P l W := by
    unfold laidMetH at h
    rw [hnone] at h
    exact h
  obtain ⟨ps, hL, _⟩ := h
  obtain ⟨g', t', cs, fuel, p, h1, h2, h3, h4⟩ := laidVars_mem hL _ hm
  obtain rfl := Option.some.inj (hg.symm.trans h1)
  obtain rfl := Option.some.inj (ht.symm.trans h2)
  intro i x hx hi
  have := trod_ints hu he hc h4 i x hx hi
  have h5 := World.var?_cell hg h3 i
  have hadd : (⟨g, 0, none⟩ : Addr).add i = ⟨g, i, none⟩ := by unfold Addr.add; split <;> simp_all
  simp only [cell, Option.bind_some, hadd, h5]
  simpa using this
end Go.Sx
namespace Go.Sx
open Go.RowKit
variable {P : Program}
theorem part_int' {t : TypeId} {k : IntKind} (h : P.underlying t = some (.int k)) {xs : Array Value} {off : Nat} {v : Value} (hx : xs[off]? = some v) (w : World) : (part t xs off).run P w = .ok v w := by
  simp [part, isAgg, run_underlying h, hx]
/-- An array of integers, looked at. -/
theorem run_index_int {t e : TypeId} {n : Nat} {k kk : IntKind} (ht : P.underlying t = some (.array n e)) (he : P.underlying e = some (.int k)) (hc : P.cellsOf e = 1) {Y : List Int} (hl : Y.length = n) {i : Int} (h0 : 0 ≤ i) (hi : i < n) {w : World} {K : Value → World → Prop}
    (hk : K (.int k (Y.getD i.toNat 0)) w) : Run P (.index t (.agg (Y.map (.int k)).toArray) (.int kk i)) w K := by
  refine ⟨_, w, ?_, hk⟩
  show (Instr.index t (.agg (Y.map (.int k)).toArray) (.int kk i)).run P w = _
  have hp : (part e (Y.map (Value.int k)).toArray (i.toNat * P.cellsOf e)).run P w = .ok (.int k (Y.getD i.toNat 0)) w := by
    rw [hc, Nat.mul_one]
    refine part_int' he ?_ w
    have : i.toNat < Y.length := by omega
    simp [List.getD_eq_getElem?_getD, this]
  have hsz : (sizeOf e).run P w = .ok (P.cellsOf e) w := run_sizeOf' he w
  simp only [Instr.index, asIntOf, Sem.run_bind, Sem.run_pure, Result.andThen_ok, run_underlying ht, h0, hi, and_self, if_true, hsz, hp]
end Go.Sx
namespace Go.Sx
open Go.RowKit
variable {P : Program}
theorem eqFields_ints {k : IntKind} (xs ys : List Int) (w : World) (he : xs.length = ys.length) : ∀ (fs : List Field) (off : Nat), off + fs.length = xs.length →
    fs.map (fun f => (f.name != "_", P.underlying f.type, f.offset)) = (List.range' off fs.length).map (fun i => (true, some (.int k), i)) →
    (Op.eqFields 9999 (xs.map (Value.int k)).toArray (ys.map (Value.int k)).toArray fs).run P w = .ok (decide (xs.drop off = ys.drop off)) w
  | [], off, hl, _ => by
    simp only [List.length_nil, Nat.add_zero] at hl
    rw [List.drop_of_length_le (by omega), List.drop_of_length_le (by omega)]
    simp [Op.eqFields]
  | f :: fs, off, hl, hf => by
    rw [List.length_cons, List.range'_succ, List.map_cons, List.map_cons, List.cons.injEq, Prod.mk.injEq, Prod.mk.injEq] at hf
    obtain ⟨⟨n1, u1, o1⟩, hr⟩ := hf
    have h1 : off < xs.length := by simp only [List.length_cons] at hl; omega
    have n1 : f.name ≠ "_" := by simpa using n1
    have p1 : ∀ zs : List Int, (h : off < zs.length) → (part f.type (zs.map (Value.int k)).toArray f.offset).run P w = .ok (.int k zs[off]) w := fun zs h => part_int' u1 (by rw [o1]; simp [h]) w
    have q1 : (Op.equalIn 9999 f.type (.int k xs[off]) (.int k (ys[off]'(he ▸ h1)))).run P w = .ok (xs[off] == ys[off]'(he ▸ h1)) w := run_equalIn_int w 9998 _ _ _ _ _ u1
    have ih := eqFields_ints xs ys w he fs (off + 1) (by simp only [List.length_cons] at hl; omega) hr
    have d1 : xs.drop off = xs[off] :: xs.drop (off + 1) := List.drop_eq_getElem_cons h1
    have d2 : ys.drop off = ys[off]'(he ▸ h1) :: ys.drop (off + 1) := List.drop_eq_getElem_cons (he ▸ h1)
    simp only [Op.eqFields, n1, ne_eq, not_false_eq_true, if_true, Sem.run_bind, p1 xs h1, p1 ys (he ▸ h1), q1, Result.andThen_ok, Sem.run_ite, Sem.run_pure]
    have hd : decide (xs.drop off = ys.drop off) = decide (xs[off] = ys[off]'(he ▸ h1) ∧ xs.drop (off + 1) = ys.drop (off + 1)) := by
      rw [decide_eq_decide, d1, d2, List.cons.injEq]
    rw [hd]
    clear d1 d2 hd
    by_cases e1 : xs[off] = ys[off]'(he ▸ h1)
    · simp [e1, ih]
    · simp [e1]

theorem equalIn_ints {t : TypeId} {k : IntKind} {n : Nat} (ht : P.underlying t = some (.struct (P.fieldsOf t))) (hp : P.stoodInHeld t = false)
    (hf : (P.fieldsOf t).toList.map (fun f => (f.name != "_", P.underlying f.type, f.offset)) = (List.range' 0 n).map (fun i => (true, some (.int k), i))) (xs ys : List Int) (hx : xs.length = n) (hy : ys.length = n) (w : World) :
    (Op.equalIn 10000 t (.agg (xs.map (Value.int k)).toArray) (.agg (ys.map (Value.int k)).toArray)).run P w = .ok (decide (xs = ys)) w := by
  have hn : (P.fieldsOf t).toList.length = n := by simpa using congrArg List.length hf
  rw [run_equalIn_struct w 9999 t _ _ ht hp, eqFields_ints xs ys w (by omega) _ 0 (by omega) (by rw [hn]; exact hf)]
  simp

/-- '==' and '!=' of structs of integers. -/
theorem run_eqs {t : TypeId} {k : IntKind} {n : Nat} (ht : P.underlying t = some (.struct (P.fieldsOf t))) (hp : P.stoodInHeld t = false) (hm : P.eqGuardType P.depth t = false)
    (hf : (P.fieldsOf t).toList.map (fun f => (f.name != "_", P.underlying f.type, f.offset)) = (List.range' 0 n).map (fun i => (true, some (.int k), i))) (xs ys : List Int) (hx : xs.length = n) (hy : ys.length = n)
    {cx cy : Bool} {w : World} {K : Value → World → Prop} (hk : K (.bool (decide (xs = ys))) w) : Run P (.eq .eql t cx cy (.agg (xs.map (Value.int k)).toArray) (.agg (ys.map (Value.int k)).toArray)) w K := by
  refine ⟨_, w, ?_, hk⟩
  show (do eqGuard .eql t _ _ (.agg (xs.map (Value.int k)).toArray) (.agg (ys.map (Value.int k)).toArray); binOp .eql t (.agg (xs.map (Value.int k)).toArray) (.agg (ys.map (Value.int k)).toArray) : Sem Value).run P w = _
  rw [Sem.run_bind, run_eqGuard_agg w _ _ _ _ _ _ hm, Result.andThen_ok, run_eql_struct, equalIn_ints ht hp hf xs ys hx hy]
  rfl
theorem run_nes {t : TypeId} {k : IntKind} {n : Nat} (ht : P.underlying t = some (.struct (P.fieldsOf t))) (hp : P.stoodInHeld t = false) (hm : P.eqGuardType P.depth t = false)
    (hf : (P.fieldsOf t).toList.map (fun f => (f.name != "_", P.underlying f.type, f.offset)) = (List.range' 0 n).map (fun i => (true, some (.int k), i))) (xs ys : List Int) (hx : xs.length = n) (hy : ys.length = n)
    {cx cy : Bool} {w : World} {K : Value → World → Prop} (hk : K (.bool (!decide (xs = ys))) w) : Run P (.eq .neq t cx cy (.agg (xs.map (Value.int k)).toArray) (.agg (ys.map (Value.int k)).toArray)) w K := by
  refine ⟨_, w, ?_, hk⟩
  show (do eqGuard .neq t _ _ (.agg (xs.map (Value.int k)).toArray) (.agg (ys.map (Value.int k)).toArray); binOp .neq t (.agg (xs.map (Value.int k)).toArray) (.agg (ys.map (Value.int k)).toArray) : Sem Value).run P w = _
  rw [Sem.run_bind, run_eqGuard_agg w _ _ _ _ _ _ hm, Result.andThen_ok, run_neq_struct, equalIn_ints ht hp hf xs ys hx hy]
  rfl
end Go.Sx
