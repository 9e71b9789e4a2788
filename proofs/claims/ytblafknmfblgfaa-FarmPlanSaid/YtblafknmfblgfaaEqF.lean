/- '==' of flat structs: integers, texts, booleans. -/
import Derived.Test.YtblafknmfblgfaaSxR
set_option linter.unusedVariables false
set_option linter.unusedSimpArgs false
namespace Go.Sx
open Go.RowKit
variable {P : Program}

/-- A value of a flat type. -/
def FlatV (P : Program) (t : TypeId) (v : Value) : Prop :=
  match P.underlying t with
  | some (.int k) => ∃ a, v = .int k a
  | some .string => ∃ s, v = .string s
  | some .bool => ∃ b, v = .bool b
  | _ => False
theorem part_flat {t : TypeId} {v : Value} (h : FlatV P t v) {xs : Array Value} {off : Nat} (hx : xs[off]? = some v) (w : World) : (part t xs off).run P w = .ok v w := by
  unfold FlatV at h
  split at h
  · rename_i h1; simp [part, isAgg, run_underlying h1, hx]
  · rename_i h1; simp [part, isAgg, run_underlying h1, hx]
  · rename_i h1; simp [part, isAgg, run_underlying h1, hx]
  · exact h.elim
theorem eq_flat {t : TypeId} {u v : Value} (hu : FlatV P t u) (hv : FlatV P t v) (d : Nat) (w : World) : ∃ b : Bool, (Op.equalIn (d + 1) t u v).run P w = .ok b w ∧ (b = true ↔ u = v) := by
  unfold FlatV at hu hv
  split at hu
  · rename_i k h1
    rw [h1] at hv
    obtain ⟨a, rfl⟩ := hu
    obtain ⟨b, rfl⟩ := hv
    exact ⟨_, run_equalIn_int w d _ _ _ _ _ h1, by simp⟩
  · rename_i h1
    rw [h1] at hv
    obtain ⟨a, rfl⟩ := hu
    obtain ⟨b, rfl⟩ := hv
    exact ⟨_, run_equalIn_string w d _ _ _ h1, by rw [ba_eq]; simp⟩
  · rename_i h1
    rw [h1] at hv
    obtain ⟨a, rfl⟩ := hu
    obtain ⟨b, rfl⟩ := hv
    exact ⟨_, run_equalIn_bool w d _ _ _ h1, by simp⟩
  · exact hu.elim
theorem eqFields_flat (xs ys : List Value) (w : World) (he : xs.length = ys.length) : ∀ (fs : List Field) (off : Nat), off + fs.length = xs.length →
    fs.map (fun f => (f.name != "_", f.offset)) = (List.range' off fs.length).map (fun i => (true, i)) → (∀ (i : Nat) f, fs[i]? = some f → ∀ u v, xs[off + i]? = some u → ys[off + i]? = some v → FlatV P f.type u ∧ FlatV P f.type v) →
    ∃ b : Bool, (Op.eqFields 9999 xs.toArray ys.toArray fs).run P w = .ok b w ∧ (b = true ↔ xs.drop off = ys.drop off)
  | [], off, hl, _, _ => by
    simp only [List.length_nil, Nat.add_zero] at hl
    rw [List.drop_of_length_le (by omega), List.drop_of_length_le (by omega)]
    exact ⟨true, by simp [Op.eqFields], by simp⟩
  | f :: fs, off, hl, hf, hfl => by
    rw [List.length_cons, List.range'_succ, List.map_cons, List.map_cons, List.cons.injEq, Prod.mk.injEq] at hf
    obtain ⟨⟨n1, o1⟩, hr⟩ := hf
    have h1 : off < xs.length := by simp only [List.length_cons] at hl; omega
    have h2 : off < ys.length := he ▸ h1
    have n1 : f.name ≠ "_" := by simpa using n1
    obtain ⟨f1, f2⟩ := hfl 0 f rfl xs[off] ys[off] (by simp [h1]) (by simp [h2])
    have p1 : (part f.type xs.toArray f.offset).run P w = .ok xs[off] w := part_flat f1 (by rw [o1]; simp [h1]) w
    have p2 : (part f.type ys.toArray f.offset).run P w = .ok ys[off] w := part_flat f2 (by rw [o1]; simp [h2]) w
    obtain ⟨b1, q1, hb1⟩ := eq_flat f1 f2 9998 w
    obtain ⟨b2, ih, hb2⟩ := eqFields_flat xs ys w he fs (off + 1) (by simp only [List.length_cons] at hl; omega) hr (fun i g hg u v hu hv => hfl (i + 1) g (by simpa using hg) u v (by rw [show off + (i + 1) = off + 1 + i by omega]; exact hu) (by rw [show off + (i + 1) = off + 1 + i by omega]; exact hv))
    have d1 : xs.drop off = xs[off] :: xs.drop (off + 1) := List.drop_eq_getElem_cons h1
    have d2 : ys.drop off = ys[off] :: ys.drop (off + 1) := List.drop_eq_getElem_cons h2
    refine ⟨b1 && b2, ?_, ?_⟩
    · simp only [Op.eqFields, n1, ne_eq, not_false_eq_true, if_true, Sem.run_bind, p1, p2, q1, Result.andThen_ok, Sem.run_ite, Sem.run_pure]
      cases b1 with
      | true => simp [ih]
      | false => simp
    · rw [d1, d2, List.cons.injEq, Bool.and_eq_true, hb1, hb2]

theorem equalIn_flat {t : TypeId} (ht : P.underlying t = some (.struct (P.fieldsOf t))) (hp : P.stoodInHeld t = false)
    (xs ys : List Value) {n : Nat} (hf : (P.fieldsOf t).toList.map (fun f => (f.name != "_", f.offset)) = (List.range' 0 n).map (fun i => (true, i))) (hx : xs.length = n) (hy : ys.length = n)
    (hfl : ∀ (i : Nat) f, (P.fieldsOf t).toList[i]? = some f → ∀ u v, xs[i]? = some u → ys[i]? = some v → FlatV P f.type u ∧ FlatV P f.type v) (w : World) :
    ∃ b : Bool, (Op.equalIn 10000 t (.agg xs.toArray) (.agg ys.toArray)).run P w = .ok b w ∧ (b = true ↔ xs = ys) := by
  have hn : (P.fieldsOf t).toList.length = n := by simpa using congrArg List.length hf
  obtain ⟨b, h1, h2⟩ := eqFields_flat xs ys w (by omega) (P.fieldsOf t).toList 0 (by omega) (by rw [hn]; exact hf) (by simpa using hfl)
  rw [run_equalIn_struct w 9999 t _ _ ht hp]
  exact ⟨b, h1, by simpa using h2⟩

/-- '==' and '!=' of flat structs. -/
theorem run_eqF {op : BinOp} {t : TypeId} {n : Nat} (ht : P.underlying t = some (.struct (P.fieldsOf t))) (hp : P.stoodInHeld t = false) (hm : P.eqGuardType P.depth t = false)
    (hf : (P.fieldsOf t).toList.map (fun f => (f.name != "_", f.offset)) = (List.range' 0 n).map (fun i => (true, i))) (xs ys : List Value) (hx : xs.length = n) (hy : ys.length = n)
    (us : List (Option TypeDesc)) (hu : (P.fieldsOf t).toList.map (fun f => P.underlying f.type) = us) (hfl : ∀ (i : Nat) o, us[i]? = some o → ∀ u v, xs[i]? = some u → ys[i]? = some v →
      match o with | some (.int k) => (∃ a, u = .int k a) ∧ ∃ a, v = .int k a | some .string => (∃ a, u = .string a) ∧ ∃ a, v = .string a | some .bool => (∃ a, u = .bool a) ∧ ∃ a, v = .bool a | _ => False)
    {cx cy : Bool} {w : World} {K : Value → World → Prop} (hop : op = .eql ∨ op = .neq) (hk : ∀ b : Bool, (b = true ↔ if op = .eql then xs = ys else xs ≠ ys) → K (.bool b) w) : Run P (.eq op t cx cy (.agg xs.toArray) (.agg ys.toArray)) w K := by
  obtain ⟨b, h1, h2⟩ := equalIn_flat ht hp xs ys hf hx hy (fun i f hfi u v hxi hyi => by
    have := hfl i (P.underlying f.type) (by rw [← hu, List.getElem?_map, hfi]; rfl) u v hxi hyi
    unfold FlatV
    cases ho : P.underlying f.type with
    | none => rw [ho] at this; exact this.elim
    | some ty => rw [ho] at this; cases ty <;> simp_all) w
  rcases hop with rfl | rfl
  · refine ⟨_, w, ?_, hk b (by simpa using h2)⟩
    show (do eqGuard .eql t _ _ (.agg xs.toArray) (.agg ys.toArray); binOp .eql t (.agg xs.toArray) (.agg ys.toArray) : Sem Value).run P w = _
    rw [Sem.run_bind, run_eqGuard_agg w _ _ _ _ _ _ hm, Result.andThen_ok, run_eql_struct, h1]
    rfl
  · refine ⟨_, w, ?_, hk (!b) (by rw [if_neg (by simp)]; cases b <;> simp_all)⟩
    show (do eqGuard .neq t _ _ (.agg xs.toArray) (.agg ys.toArray); binOp .neq t (.agg xs.toArray) (.agg ys.toArray) : Sem Value).run P w = _
    rw [Sem.run_bind, run_eqGuard_agg w _ _ _ _ _ _ hm, Result.andThen_ok, run_neq_struct, h1]
    rfl
end Go.Sx
