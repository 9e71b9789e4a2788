/- The executor's theorem: whole functions. -/
import Derived.Test.YtblgmhmjafgdgaaSxW
set_option linter.unusedVariables false
set_option linter.unusedSimpArgs false
namespace Go.Sx
open RowKit
variable {P : Program} {Q : Value → World → Prop}

theorem look_st0 {ps : List (SV (sem P Q))} {w : World} {i : Nat} {e : Option (Ent (sem P Q))} (h : look (st0 ps w).ov i = some e) : ∃ v, ps[i]? = some v ∧ e = some (.one v, none) := by
  have hm := mem_of_look h
  simp only [st0, List.mem_map] at hm
  obtain ⟨⟨v, j⟩, hx, he⟩ := hm
  simp only [Prod.mk.injEq] at he
  obtain ⟨rfl, rfl⟩ := he
  exact ⟨v, List.mem_zipIdx_iff_getElem?.1 hx, rfl⟩

theorem get_st0 {ps : List (SV (sem P Q))} {w : World} {i : Nat} {e : Ent (sem P Q)} (h : Ro.get { sl := [], bl := [] } (st0 ps w) i = some e) : ∃ v, ps[i]? = some v ∧ e = (.one v, none) := by
  unfold Ro.get at h
  split at h
  · rename_i e' he
    subst h
    obtain ⟨v, h1, h2⟩ := look_st0 he
    exact ⟨v, h1, Option.some.inj h2⟩
  · simp [look] at h

theorem resOf_ok {cfg : Cfg} {ro : Ro (sem P Q)} {st : St (sem P Q)} {a : Act} {w : World} (hc : RelC cfg ro st a) (hs : SlAll ro st) (hw : RelW ro st w) : ∀ {rs : List ResultVar} {l : List (SV (sem P Q))}, resOf P ro st rs = some l →
    (rs.mapM (m := Sem) fun | .tmp t => pure (a.tmps.getD t undef) | .cell c t => do loadVar t (← asAddr (a.tmps.getD c undef))).run P w = .ok (l.map SV.toV) w
  | [], l, h => by simp [resOf] at h; subst h; simp
  | .tmp t :: r, l, h => by
    unfold resOf at h
    split at h
    · rename_i v l' hv hl
      obtain rfl := Option.some.inj h
      have h1 := one?_some hv
      simp only [Option.bind_eq_some_iff] at h1
      obtain ⟨e, he, h2⟩ := h1
      have h3 := (hc.fr t e he).2
      obtain ⟨u, key⟩ := e
      cases key with
      | none =>
        simp only [Option.some.injEq] at h2
        subst h2
        simp only [List.mapM_cons, Sem.run_bind, Sem.run_pure, Result.andThen_ok, resOf_ok hc hs hw hl]
        rw [h3]; rfl
      | some k => cases h2
    · cases h
  | .cell c t :: r, l, h => by
    unfold resOf at h
    split at h
    · rename_i j b off l' hv hl
      split at h
      · rename_i blk hb
        split at h
        · rename_i v hp
          simp only [cond_eq_ite] at h
          split at h
          · rename_i hlen
            obtain rfl := Option.some.inj h
            have h1 := sc?_some hv
            simp only [Option.bind_eq_some_iff] at h1
            obtain ⟨e, he, h2⟩ := h1
            have h3 := (hc.fr c e he).2
            have h4 := hs c e he
            obtain ⟨u, key⟩ := e
            cases key with
            | none =>
              simp only [Option.some.injEq] at h2
              subst h2
              have hn := h4.2 blk hb
              have hbk := hw.bk j blk hb
              unfold blkOk at hbk
              have hload := run_loadAt (P := P) (t := t) (v := v) hbk hp hlen
              rw [hn] at hload
              simp only [List.mapM_cons, Sem.run_bind]
              rw [h3]
              have hl2 : (loadVar t ⟨b, off, none⟩).run P w = .ok v.toV w := by
                simpa [Instr.loadAt, Instr.sureAddr] using hload
              have e1 : (asAddr (SL.toV (SL.one (SV.sc (Sc.loc (A := sem P Q) j b off))))).run P w = .ok ⟨b, off, none⟩ w := by
                simp [SL.toV, SV.toV, Sc.toV, asAddr]
              rw [e1]
              simp only [Result.andThen_ok, hl2, Sem.run_pure, resOf_ok hc hs hw hl]
              rfl
            | some k => cases h2
          · cases h
        · cases h
      · cases h
    · cases h

theorem resultOf_toV (l : List (SV (sem P Q))) : (resultOf l).toV = if h : l.length = 1 then (l[0]'(by omega)).toV else .tuple (l.map SV.toV).toArray := by
  match l with
  | [] => rfl
  | [v] => rfl
  | a :: b :: r => simp [resultOf, SL.toV]

theorem fin_res (l : List (SV (sem P Q))) : (if h : (l.map SV.toV).toArray.size = 1 then (l.map SV.toV).toArray[0] else .tuple (l.map SV.toV).toArray) = (resultOf l).toV := by
  match l with
  | [] => rfl
  | [v] => rfl
  | a :: b :: r => simp [resultOf, SL.toV]

theorem sx_fn {f : FuncId} {fn : Func} {c : Code} {cfg : Cfg} {ps : List (SV (sem P Q))} {args : Array Value} {w : World} (hf : P.funcs[f]? = some fn) (hb : fn.body = some c) (hent : Enters P f)
    (hN : cfg.N = fn.ntmps) (hlen : Nat.ble ps.length fn.ntmps = true) (hargs : args = (ps.map SV.toV).toArray) (hn : ps.all noLocV = true) (h : fnNode (A := sem P Q) P cfg fn c ps w) : FnP P f args w Q := by
  have hlen := Nat.le_of_ble_eq_true hlen
  refine ⟨hent, calls_of_wp hf hb (sx_ok (cfg := cfg) c { sl := [], bl := [] } (st0 ps w) _ _ _ w h ?_ ?_ ?_ ?_)⟩
  · subst hargs
    refine ⟨?_, rfl, fun i e he => ?_⟩
    · simp; omega
    · obtain ⟨v, hv, rfl⟩ := get_st0 he
      refine ⟨rfl, ?_⟩
      have hi : i < ps.length := by
        rw [List.getElem?_eq_some_iff] at hv; exact hv.1
      have h2 : ps[i] = v := by rw [List.getElem?_eq_some_iff] at hv; exact hv.2
      simp [SL.toV, Array.getD, Array.getElem_append, hi, h2]
      intro h; omega
  · intro i e he
    obtain ⟨v, hv, rfl⟩ := get_st0 he
    refine slOk_noLoc ?_
    simp only [List.all_eq_true] at hn
    exact hn v (List.mem_of_getElem? hv)
  · have hno : ∀ j, (Ro.blk { sl := [], bl := [] } (st0 ps w) j : Option (Blk (sem P Q))) = none := fun j => rfl
    refine ⟨But.refl _ _, ?_, ?_, ?_, ?_, ?_, ?_⟩
    · intro j b h; rw [hno] at h; cases h
    · intro j b h; rw [hno] at h; cases h
    · intro i j b c h; rw [hno] at h; cases h
    · intro j b h; rw [hno] at h; cases h
    · intro j b h; rw [hno] at h; cases h
    · intro j b b0 h0 h; rw [hno] at h; cases h
  · intro e st' a' w' hk hc hs hw
    have key : retNode (A := sem P Q) P fn { sl := [], bl := [] } st' → a'.defers = [] ∧ ∃ v, (results fn a'.tmps).run P w' = .ok v w' ∧ ∃ u, Ending.returned v = .returned u ∧ Q u w' := by
      intro hr
      unfold retNode at hr
      split at hr
      · rename_i l hl
        simp only [cond_eq_ite] at hr
        split at hr
        · have hq := allExt_at (P := P) (Q := Q) hr hw.but (fun b hb => by cases hb)
          refine ⟨hc.defers, (resultOf l).toV, ?_, _, rfl, hq⟩
          have h1 := resOf_ok hc hs hw hl
          unfold results
          obtain ⟨rs, hrs⟩ : ∃ rs, fn.results = ⟨rs⟩ := ⟨_, rfl⟩
          rw [hrs] at h1 ⊢
          simp only [List.mapM_toArray, Sem.run_bind, Sem.run_map]
          show (((Sem.run P (List.mapM _ rs) w').andThen _).andThen _) = _
          have h1' : (List.mapM (m := Sem) (fun | ResultVar.tmp t => pure (a'.tmps.getD t undef) | .cell c t => do loadVar t (← asAddr (a'.tmps.getD c undef))) rs).run P w' = .ok (l.map SV.toV) w' := h1
          erw [h1']
          simp only [Result.andThen_ok]
          exact congrArg (fun v => Result.ok v w') (fin_res l)
        · exact hr.elim
      · exact hr.elim
    cases e with
    | normal => exact key hk
    | exit id => exact hk.elim
    | ret => exact key hk

/-- The run's text, shut: no tactic looks into it; the kernel does. -/
@[irreducible] def Runs (P : Program) (Q : Value → World → Prop) (cfg : Cfg) (fn : Func) (c : Code) (ps : List (SV (sem P Q))) (w : World) : Prop := fnNode (A := sem P Q) P cfg fn c ps w

theorem runs_fn {f : FuncId} {fn : Func} {c : Code} {cfg : Cfg} {ps : List (SV (sem P Q))} {args : Array Value} {w : World} (h : Runs P Q cfg fn c ps w) (hf : P.funcs[f]? = some fn) (hb : fn.body = some c) (hent : Enters P f)
    (hN : cfg.N = fn.ntmps) (hlen : Nat.ble ps.length fn.ntmps = true) (hargs : args = (ps.map SV.toV).toArray) (hn : ps.all noLocV = true) : FnP P f args w Q := by
  unfold Runs at h
  exact sx_fn hf hb hent hN hlen hargs hn h
end Go.Sx
