/- The second form (at most 1048576 values and letters came in): the law's frame, and what the bulk says of a text that came in. -/
import Derived.Test.YtenppnomdejmlaaGreatDoorSxB
import Derived.Test.YtenppnomdejmlaaGreatDoorRows
import Derived.JoinedCond
import Derived.LaidLaws
set_option linter.unusedVariables false
set_option linter.unusedSimpArgs false
namespace Go.Proofs.YtenppnomdejmlaaGreatDoor
open Go.Sx Go.RowKit Go.ChangeShapes Go.WideShapes Go.ChangeAt

section
variable {P : Program} {H : Type} {enc : TypeId × Value → H}
theorem trod_bulk_str {w : World} {t : TypeId} {s : ByteArray} {d : DataW H} {ps : List MemPlace} (hu : P.underlying t = some .string)
    (h : DataW.Trod enc P w 0 (fun _ => true) true t (.string s) d ps) : Rows.uptoBulk d = s.size + 1 := by
  obtain ⟨n, h⟩ := h
  cases n with
  | zero => cases h
  | succ n =>
    unfold DataW.trod at h
    rw [hu] at h
    simp only [Value.cells] at h
    split at h
    · simp only [Option.some.injEq, Prod.mk.injEq] at h
      obtain ⟨rfl, _⟩ := h
      simp [Rows.uptoBulk]
    · cases h

theorem bulk_append : ∀ (a b : List (DataW H)), Rows.uptoBulkAll (a ++ b) = Rows.uptoBulkAll a + Rows.uptoBulkAll b
  | [], b => by simp [Rows.uptoBulkAll]
  | d :: a, b => by simp [Rows.uptoBulkAll, bulk_append a b, Nat.add_assoc]

theorem bulk_str {w : World} : ∀ {ts : List TypeId} {vs : List Value} {ds gs : List (DataW H)} {ps : List MemPlace}, DataW.TrodAll enc P w 0 (fun _ => true) true ts vs ds ps →
    ∀ (j : Nat) {t : TypeId} {s : ByteArray}, ts[j]? = some t → vs[j]? = some (.string s) → P.underlying t = some .string → s.size < Rows.uptoBulkAll (ds ++ gs)
  | [], _, _, _, _, _, j, _, _, ht, _, _ => by simp at ht
  | _ :: _, [], _, _, _, h, _, _, _, _, hv, _ => by simp at hv
  | _ :: _, _ :: _, [], _, _, h, _, _, _, _, _, _ => by simp [DataW.TrodAll] at h
  | t :: ts, v :: vs, d :: ds, gs, ps, h, j, t', s, ht, hv, hu => by
    obtain ⟨p1, q1, h1, h2, _⟩ := h
    simp only [List.cons_append, Rows.uptoBulkAll]
    cases j with
    | zero =>
      simp at ht hv
      subst ht hv
      have := trod_bulk_str hu h1
      omega
    | succ j => have := bulk_str (gs := gs) h2 j (by simpa using ht) (by simpa using hv) hu; omega

theorem handed_upto {a : Assume} {C : Checked} {os : Os} {f : FuncId} {fn : Func} {s : ChangeSpec} {conds : List PathCond} {apart fresh handsOn again : Bool} {X : World → Array Value → Prop}
    (hX : ∀ (w w' : World) (args : Array Value), w.heap = w'.heap → X w args → X w' args)
    (own : ownKnob C.prog.godebug = none) (started : os.Started) (noInit : C.prog.inits.idxOf? f = none) (hfn : C.prog.funcs[f]? = some fn)
    (witness : ∃ (w : World) (tape : Tape) (i : Input), w.os = os ∧ (w.forCall tape i).Shaped C.prog ∧ i.vars = [] ∧ Input.okWide C.prog (w.forCall tape i) .any w.heap.size f i ∧
      (((Rows.OpenSpec.upto s).pre enc C.prog fn conds apart (w.forCall tape i).memory i.args ∧ X (w.forCall tape i).memory i.args) ∧ sizedMet enc C.prog fn (Rows.OpenSpec.upto s) apart (w.forCall tape i).memory i.args) ∧ a.holds C.prog (lone (Frame.enter C.prog f i.args .normal) [] (w.forCall tape i)))
    (contract : ∀ (W : World) (base : Nat) (args : Array Value) (ds gs : List (DataW H)) (before : List MemPlace),
      (∀ (j : Nat) t v, fn.params[j]? = some t → args[j]? = some v → Value.okWide C.prog W .any base t v) →
      DataW.Whole enc C.prog fn.params.toList s.vars apart W args.toList ds gs before →
      Rows.uptoBulkAll (ds ++ gs) ≤ 1048576 → X W args → W.ShapedOpen C.prog →
      Calls C.prog f args W fun e W' => ∃ v, e = .returned v ∧ s.post enc C.prog fn apart fresh handsOn again W args v W') :
    ReturnsInHanded a C os f .any (fun w args => ((Rows.OpenSpec.upto s).pre enc C.prog fn conds apart w args ∧ X w args) ∧ sizedMet enc C.prog fn (Rows.OpenSpec.upto s) apart w args) (s.post enc C.prog fn apart fresh handsOn again) := by
  refine returnsInHanded_of_calls own started noInit witness ?_
  intro w tape i _ hsh _ hok hpre hholds
  obtain ⟨_, _, _, fn', hfn', _, _, _, _, hval⟩ := hok
  have e : fn' = fn := Option.some.inj (hfn'.symm.trans hfn)
  subst e
  obtain ⟨⟨hp0, hx⟩, hz⟩ := hpre
  obtain ⟨ds, gs, before, hw, hc, hk⟩ := (OpenSpec.pre_some (k := Rows.uptoSmall) rfl conds apart _ _).1 hp0
  refine (contract (w.forCall tape i) w.heap.size i.args ds gs before hval (DataW.Whole.of_heap (w' := w.forCall tape i) (by rfl) hw) (of_decide_eq_true hk) (hX _ _ _ (by rfl) hx) hsh).mono fun e W' ⟨v, he, hp⟩ => ?_
  subst he
  exact ChangeSpec.post_blind hp

theorem witness_upto {C : Checked} {os : Os} {f : FuncId} {fn : Func} {s : ChangeSpec} {conds : List PathCond} {apart : Bool} {X : World → Array Value → Prop} (modest : Bool) (w0 : World) (args : Array Value) (fuel : Nat) (hos : w0.os = os)
    (hsh : (w0.forCall (fun _ _ => 0) ⟨#[], args, []⟩).Shaped C.prog)
    (hok : Input.okWideB C.prog (w0.forCall (fun _ _ => 0) ⟨#[], args, []⟩) f ⟨#[], args, []⟩ = true)
    (hpre : (DataW.whole enc C.prog (w0.forCall (fun _ _ => 0) ⟨#[], args, []⟩).memory fn.params.toList s.vars apart args.toList fuel).any
      (fun x => conds.all (PathCond.test C.prog ⟨fn.params.toList, x.1, s.plain.varTypes C.prog, x.2.1⟩) && Rows.uptoSmall H (x.1 ++ x.2.1)) = true)
    (hsz : s.sizedB enc C.prog fn apart (w0.forCall (fun _ _ => 0) ⟨#[], args, []⟩).memory args fuel = true)
    (hx : X (w0.forCall (fun _ _ => 0) ⟨#[], args, []⟩).memory args) :
    ∃ (w : World) (tape : Tape) (i : Input), w.os = os ∧ (w.forCall tape i).Shaped C.prog ∧ i.vars = [] ∧ Input.okWide C.prog (w.forCall tape i) .any w.heap.size f i ∧
      (((Rows.OpenSpec.upto s).pre enc C.prog fn conds apart (w.forCall tape i).memory i.args ∧ X (w.forCall tape i).memory i.args) ∧ sizedMet enc C.prog fn (Rows.OpenSpec.upto s) apart (w.forCall tape i).memory i.args) ∧ ({ modest := modest } : Assume).holds C.prog (lone (Frame.enter C.prog f i.args .normal) [] (w.forCall tape i)) :=
  by
  obtain ⟨x, hx1, hx2⟩ : ∃ x, DataW.whole enc C.prog (w0.forCall (fun _ _ => 0) ⟨#[], args, []⟩).memory fn.params.toList s.vars apart args.toList fuel = some x ∧
      (conds.all (PathCond.test C.prog ⟨fn.params.toList, x.1, s.plain.varTypes C.prog, x.2.1⟩) && Rows.uptoSmall H (x.1 ++ x.2.1)) = true := by
    cases hw : DataW.whole enc C.prog (w0.forCall (fun _ _ => 0) ⟨#[], args, []⟩).memory fn.params.toList s.vars apart args.toList fuel with
    | none => rw [hw] at hpre; cases hpre
    | some x => rw [hw] at hpre; exact ⟨x, rfl, hpre⟩
  rw [Bool.and_eq_true] at hx2
  exact ⟨w0, fun _ _ => 0, ⟨#[], args, []⟩, hos, hsh, (Input.okWide_of_okWideB (base := 0) hok).1, (Input.okWide_of_okWideB hok).2,
    ⟨⟨(OpenSpec.pre_some (k := Rows.uptoSmall) rfl conds apart _ _).2 ⟨x.1, x.2.1, x.2.2, DataW.Whole_of_whole hx1, hx2.1, hx2.2⟩, hx⟩, sizedMet_of_sizedB hsz⟩, by
    simp only [Assume.holds]
    exact ⟨by simp, by simp, fun _ => Modest.zero, by simp, by simp⟩⟩
end
end Go.Proofs.YtenppnomdejmlaaGreatDoor
