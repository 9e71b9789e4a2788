/- How large a slice that came in may be: its bytes fit the memory. -/
import Derived.Test.YtblafknmfblgfaaSxB
import Derived.Handed
set_option linter.unusedVariables false
namespace Go.Sx
open Go.RowKit
variable {P : Program} {H : Type} {enc : TypeId × Value → H}

theorem mapM_len {α β : Type} {f : α → Option β} : ∀ {l : List α} {r : List β}, l.mapM f = some r → r.length = l.length
  | [], r, h => by simp at h; subst h; rfl
  | a :: l, r, h => by
    rw [List.mapM_cons] at h
    cases hf : f a with
    | none => rw [hf] at h; simp at h
    | some b =>
      rw [hf] at h
      cases hm : l.mapM f with
      | none => rw [hm] at h; simp at h
      | some s => rw [hm] at h; simp at h; subst h; simp [mapM_len hm]

theorem trod_wt {w : World} {t e : TypeId} {p : Option Addr} {l c R : Nat} {d : DataW H} {ps : List MemPlace} (hu : P.underlying t = some (.slice e))
    (h : DataW.Trod enc P w 0 (fun _ => true) true t (.slice p l c) d ps) (hR : (d.weights P t).all (· ≤ R) = true) : l * P.bytesOf e ≤ R := by
  obtain ⟨n, h⟩ := h
  cases n with
  | zero => cases h
  | succ n =>
    unfold DataW.trod at h
    rw [hu] at h
    simp only [Value.cells] at h
    cases p with
    | none =>
      cases l with
      | zero => omega
      | succ l => simp at h
    | some a =>
      simp only at h
      split at h
      · cases hm : (List.range l).mapM (fun j => (w.cells? 0 (a.add (j * P.cellsOf e)) (P.cellsOf e)).bind (DataW.trod enc P w 0 (fun _ => true) true n e)) with
        | none => simp [hm] at h
        | some es =>
          have hlen := mapM_len hm
          rw [List.length_range] at hlen
          rw [hm, Option.bind_some, Option.map_eq_some_iff] at h
          obtain ⟨rest, _, he⟩ := h
          obtain ⟨rfl, _⟩ := Prod.mk.inj he
          rw [DataW.weights] at hR
          rw [hu] at hR
          simp only [List.all_cons, Bool.and_eq_true, decide_eq_true_eq, List.length_map] at hR
          rw [hlen] at hR
          exact Nat.le_trans (Nat.mul_le_mul_right _ (Nat.le_add_right _ _)) hR.1
      · cases h

theorem trodAll_wt {w : World} {R : Nat} {e : TypeId} : ∀ {ts us : List TypeId} {vs : List Value} {ds gs : List (DataW H)} {ps : List MemPlace}, DataW.TrodAll enc P w 0 (fun _ => true) true ts vs ds ps →
    (DataW.weightsEach P (ts ++ us) (ds ++ gs)).all (· ≤ R) = true → ∀ (j : Nat) {t : TypeId} {p : Option Addr} {l c : Nat}, ts[j]? = some t → vs[j]? = some (.slice p l c) → P.underlying t = some (.slice e) → l * P.bytesOf e ≤ R
  | [], _, _, _, _, _, _, _, j, _, _, _, _, ht, _, _ => by simp at ht
  | _ :: _, _, [], _, _, _, h, _, _, _, _, _, _, _, hv, _ => by simp at hv
  | _ :: _, _, _ :: _, [], _, _, h, _, _, _, _, _, _, _, _, _ => by simp [DataW.TrodAll] at h
  | t :: ts, us, v :: vs, d :: ds, gs, ps, h, hR, j, t', p, l, c, ht, hv, hu => by
    obtain ⟨p1, q1, h1, h2, _⟩ := h
    simp only [List.cons_append, DataW.weightsEach, List.all_append, Bool.and_eq_true] at hR
    cases j with
    | zero =>
      simp at ht hv
      subst ht hv
      exact trod_wt hu h1 hR.1
    | succ j => exact trodAll_wt h2 hR.2 j (by simpa using ht) (by simpa using hv) hu
end Go.Sx
namespace Go.Sx
open Go.RowKit Go.ChangeShapes Go.WideShapes Go.ChangeAt
variable {H : Type} {enc : TypeId × Value → H}
theorem handed_sized {a : Assume} {C : Checked} {os : Os} {f : FuncId} {fn : Func} {s : ChangeSpec} {conds : List PathCond} {apart fresh handsOn again : Bool}
    (own : ownKnob C.prog.godebug = none) (started : os.Started) (noInit : C.prog.inits.idxOf? f = none) (hfn : C.prog.funcs[f]? = some fn)
    (witness : ∃ (w : World) (tape : Tape) (i : Input), w.os = os ∧ (w.forCall tape i).Shaped C.prog ∧ i.vars = [] ∧ Input.okWide C.prog (w.forCall tape i) .any w.heap.size f i ∧
      s.pre6 enc C.prog fn conds apart (w.forCall tape i).memory i.args ∧ a.holds C.prog (lone (Frame.enter C.prog f i.args .normal) [] (w.forCall tape i)))
    (contract : ∀ (W : World) (base : Nat) (args : Array Value) (ds gs : List (DataW H)) (before : List MemPlace),
      (∀ (j : Nat) t v, fn.params[j]? = some t → args[j]? = some v → Value.okWide C.prog W .any base t v) →
      DataW.Whole enc C.prog fn.params.toList s.vars apart W args.toList ds gs before →
      (DataW.weightsEach C.prog (fn.params.toList ++ s.plain.varTypes C.prog) (ds ++ gs)).all (· ≤ reachBytes) = true →
      Calls C.prog f args W fun e W' => ∃ v, e = .returned v ∧ s.post enc C.prog fn apart fresh handsOn again W args v W') :
    ReturnsInHanded a C os f .any (s.pre6 enc C.prog fn conds apart) (s.post enc C.prog fn apart fresh handsOn again) := by
  refine returnsInHanded_of_calls own started noInit witness ?_
  intro w tape i _ _ _ hok hpre hholds
  obtain ⟨_, _, _, fn', hfn', _, _, _, _, hval⟩ := hok
  have e : fn' = fn := Option.some.inj (hfn'.symm.trans hfn)
  subst e
  obtain ⟨⟨ds, gs, before, hw, hc⟩, hz⟩ := hpre
  have hw' := DataW.Whole.of_heap (w' := w.forCall tape i) (by rfl) hw
  refine (contract (w.forCall tape i) w.heap.size i.args ds gs before hval hw' (hz.weights hw)).mono fun e W' ⟨v, he, hp⟩ => ?_
  subst he
  exact ChangeSpec.post_blind hp
end Go.Sx
