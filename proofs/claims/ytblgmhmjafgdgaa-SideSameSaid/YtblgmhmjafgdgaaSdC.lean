/- A pool of workers that take numbers from a shared counter: it runs to behind its join, on whatever tape. -/
import Derived.Test.YtblgmhmjafgdgaaSdB
import Derived.Conc.CrowdStepC
import Derived.Conc.Beside
import Derived.Conc.CrowdStepC2
import Derived.Conc.CrowdRun
set_option linter.unusedVariables false
set_option linter.unusedSimpArgs false
set_option linter.unusedSectionVars false
/- The pool, part 1: steps that look at no world, reckoned: a row of them is one equation. -/
namespace Go.Po
open Go Go.Conc

/-- What a program that looks at no world yields. (That it enters an entry of the library's it may say.) -/
def purely (P : Program) {α : Type} : Sem α → Option α
  | .pure a => some a
  | .program k => purely P (k P)
  | .mark (.extern _) k => purely P k
  | _ => none
/-- Entries into the library alone. -/
def Ext (es : Array Event) : Prop := ∀ e ∈ es, ∃ f, e.loc = .mark (.extern f)
theorem purely_run {P : Program} {α : Type} {s : Sem α} {a : α} (h : purely P s = some a) (w : World) (es : Array Event) (he : Ext es) : ∃ es', s.runT P w es = (.ok a w, es') ∧ Ext es' := by
  induction s generalizing a es with
  | pure b => cases h; exact ⟨es, rfl, he⟩
  | program k ih => simp only [Sem.runT]; exact ih P h es he
  | mark m k ih =>
    cases m <;> first | (cases h; done) | skip
    rename_i f
    simp only [Sem.runT]
    refine ih h _ fun e hm => ?_
    rcases Array.mem_push.1 hm with h' | h'
    · exact he e h'
    · exact ⟨f, by rw [h']⟩
  | _ => cases h
theorem seen_ext (P : Program) (fn : FuncId) {es : Array Event} (h : Ext es) : seen P fn es = #[] := by
  unfold seen
  refine Array.foldl_induction (motive := fun _ (x : Bool × Array Event) => x.2 = #[]) rfl (fun i x hx => ?_)
  obtain ⟨f, hf⟩ := h es[i] (Array.getElem_mem _)
  simp only [hf]
  exact hx
theorem purely_ok {P : Program} {α : Type} {s : Sem α} {a : α} (h : purely P s = some a) (w : World) : s.run P w = .ok a w ∧ ∀ fn, seen P fn (s.events P w #[]) = #[] := by
  obtain ⟨es', h1, h2⟩ := purely_run h w #[] (fun e he => by simp at he)
  refine ⟨?_, fun fn => ?_⟩
  · have := congrArg Prod.fst h1
    rwa [Sem.runT_fst] at this
  · have := congrArg Prod.snd h1
    have he : s.events P w #[] = es' := this
    rw [he]
    exact seen_ext P fn h2
def behind (P : Program) (fr : Frame) (cs : List Frame) : Option (Frame × List Frame) :=
  match fr.defers with
  | [] => match fr.mode, cs with
    | .returning, c :: rest => match P.funcs[fr.fn]? with
      | some fn => match purely P (results fn fr.tmps) with
        | some v => match fr.kind with
          | .normal => some (c.finish v, rest)
          | .deferred => match c.mode with
            | .panicking ({ recovered := false, .. } :: _) => some (c, rest)
            | .panicking _ => none
            | _ => some (c, rest)
          | _ => none
        | none => none
      | none => none
    | _, _ => none
  | d :: ds => match d.target with
    | .fn f c => match purely P (invoke (.fn f c) d.args) with
      | some (.enter f args) => some (Frame.enter P f args .deferred, { fr with defers := ds } :: cs)
      | _ => none
    | _ => none
/-- One step that looks at no world. -/
def pgs (P : Program) (fr : Frame) (cs : List Frame) : Option (Frame × List Frame) :=
  if fr.roundOf.isSome || fr.kind == .early then none else
  match fr.mode with
  | .run => match fr.todo with
    | [] | .code .ret :: _ => some ({ fr with mode := .returning }, cs)
    | .code .skip :: k | .inBlock _ :: k => some ({ fr with todo := k }, cs)
    | .code (.seq a b) :: k => some ({ fr with todo := .code a :: .code b :: k }, cs)
    | .code (.cond c thn els) :: k => match fr.eval c with
      | .bool b => some ({ fr with todo := .code (if b then thn else els) :: k }, cs)
      | _ => none
    | .code (.block id body) :: k => some ({ fr with todo := .code body :: .inBlock id :: k }, cs)
    | .code (.loop body) :: k | .inLoop body :: k => some ({ fr with todo := .code body :: .inLoop body :: k }, cs)
    | .code (.exit id) :: k => match exitTo id k with
      | some k' => some ({ fr with todo := k' }, cs)
      | none => none
    | .code (.region _ ops draw) :: k => if !draw then some ({ fr with todo := .inRegion ops (List.range ops.size) :: k }, cs) else none
    | .inRegion _ [] :: k => some ({ fr with todo := k }, cs)
    | .inRegion ops (i :: _) :: _ =>
      if ((ops[i]?).map (Region.wanted · (yielded ops fr.tmps))).getD false then match ops[i]? with
        | some o => match purely P (execOp fr.eval o) with
          | some (.value v) => some (fr.finish v, cs)
          | some .skip => some (fr.finish undef, cs)
          | some (.enter f args) => some (Frame.enter P f args .normal, fr :: cs)
          | some (.defer d) => some ({ fr with defers := d :: fr.defers }.finish undef, cs)
          | _ => none
        | none => none
      else some (fr.finish undef, cs)
    | _ => none
  | _ => behind P fr cs
def idl (P : Program) : Nat → Frame → List Frame → Option (Frame × List Frame)
  | 0, fr, cs => some (fr, cs)
  | n + 1, fr, cs => match pgs P fr cs with
    | some (fr', cs') => idl P n fr' cs'
    | none => none
section
variable {P : Program} {main : Bool} {fr fr' : Frame} {cs cs' : List Frame}
theorem behind_step (h : behind P fr cs = some (fr', cs')) (hm : fr.mode ≠ .run) (w : World) : stepG P main (G fr cs) w = .go (G fr' cs') w #[] := by
  have hu : stepG P main (G fr cs) w = unwind P main fr cs none w := by
    unfold G stepG
    cases hmm : fr.mode with
    | run => exact absurd hmm hm
    | _ => simp [hmm]
  rw [hu]
  unfold behind at h
  unfold unwind
  split at h
  · rename_i hd
    rw [hd]
    split at h
    · rename_i c rest hmode
      rw [hmode]
      split at h
      · rename_i fn hfn
        split at h
        · rename_i v hv
          obtain ⟨h1, h2⟩ := purely_ok hv w
          split at h
          · rename_i hk
            cases h
            simp [hfn, h1, h2, doReturn, hk, GStep.after, Tw.seen_nil, G]
          · rename_i hk
            split at h
            · rename_i hcm
              cases h
              simp [hfn, h1, h2, doReturn, hk, GStep.after, Tw.seen_nil, G, hcm]
            · cases h
            · rename_i hnq hnp
              cases h
              have hc : ∀ ch, fr'.mode ≠ .panicking ch := fun ch e => hnp ch e
              simp only [hfn, Sem.runT_eq, h1, h2, doReturn, hk, GStep.after, Tw.seen_nil, G]
              cases hcm : fr'.mode with
              | panicking ch => exact absurd hcm (hc ch)
              | _ => simp [hcm]
          · cases h
        · cases h
      · cases h
    · cases h
  · rename_i d ds hd
    rw [hd]
    split at h
    · rename_i f c ht
      split at h
      · rename_i g args hv
        cases h
        obtain ⟨tg, as⟩ := d
        simp only at ht
        subst ht
        obtain ⟨h1, h2⟩ := purely_ok hv w
        simp only at h1 h2
        simp [callDeferred, h1, h2, GStep.after, Tw.seen_nil, G]
      · cases h
    · cases h
theorem at_of (hm : fr.mode = .run) (hro : fr.roundOf = none) : fr = ({ (default : Frame) with fn := fr.fn, kind := fr.kind } : Frame).at ⟨fr.tmps, fr.defers⟩ fr.todo := by
  obtain ⟨fn, tmps, todo, defers, mode, kind, roundOf⟩ := fr
  simp only at hm hro
  subst hm; subst hro
  rfl
theorem pgs_step (h : pgs P fr cs = some (fr', cs')) (w : World) : stepG P main (G fr cs) w = .go (G fr' cs') w #[] := by
  unfold pgs at h
  split at h
  · cases h
  rename_i hrk
  have hro : fr.roundOf = none := by cases hr : fr.roundOf with | none => rfl | some x => rw [hr] at hrk; simp at hrk
  have hk : fr.kind ≠ .early := by intro e; rw [e] at hrk; simp at hrk
  split at h
  · rename_i hm
    split at h
    · rename_i ht
      cases h
      simp [G, stepG, stepG.exec, hm, ht, hro]
    · rename_i k ht
      cases h
      simp [G, stepG, stepG.exec, hm, ht, hro]
    · rename_i k ht
      cases h
      simp [G, stepG, stepG.exec, hm, ht]
    · rename_i id k ht
      cases h
      simp [G, stepG, stepG.exec, hm, ht]
    · rename_i a b k ht
      cases h
      simp [G, stepG, stepG.exec, hm, ht]
    · rename_i c thn els k ht
      split at h
      · rename_i b hb
        cases h
        simp [G, stepG, stepG.exec, hm, ht, hb]
      · cases h
    · rename_i id body k ht
      cases h
      simp [G, stepG, stepG.exec, hm, ht]
    · rename_i body k ht
      cases h
      simp [G, stepG, stepG.exec, hm, ht]
    · rename_i body k ht
      cases h
      simp [G, stepG, stepG.exec, hm, ht]
    · rename_i id k ht
      split at h
      · rename_i k' hk'
        cases h
        simp [G, stepG, stepG.exec, hm, ht, hk']
      · cases h
    · rename_i id ops draw k ht
      split at h
      · rename_i hd
        cases h
        simp [G, stepG, stepG.exec, hm, ht, hd]
      · cases h
    · rename_i ops k ht
      cases h
      simp [G, stepG, stepG.exec, hm, ht]
    · rename_i ops i rest k ht
      split at h
      · rename_i hw
        split at h
        · rename_i o ho
          have hwf := hw
          simp only [ho, Option.map_some, Option.getD_some] at hw
          have hf := at_of hm hro
          rw [ht] at hf
          have hop := stepG_oper (P := P) (main := main) (b := { (default : Frame) with fn := fr.fn, kind := fr.kind }) (a := ⟨fr.tmps, fr.defers⟩) (rest := rest) (k := k) (cs := cs) (w := w) ho hw
          have he : fr.eval = (⟨fr.tmps, fr.defers⟩ : Act).eval := by rw [hf]; exact Frame.eval_at' _ _ _
          rw [← hf, ← he] at hop
          · rw [hop]
            have hk' : (fr.kind == CallKind.early) = false := by simpa using hk
            split at h <;> first
              | (cases h; done)
              | skip
            all_goals
              rename_i hv
              cases h
              obtain ⟨h1, h2⟩ := purely_ok hv w
              simp [stepG.apply, h1, h2, hk', GStep.after, Tw.seen_nil, G, ht]
        · cases h
      · rename_i hw
        cases h
        have hf := at_of hm hro
        rw [ht] at hf
        have hs : stepG P main (G (({ (default : Frame) with fn := fr.fn, kind := fr.kind } : Frame).at ⟨fr.tmps, fr.defers⟩ (.inRegion ops (i :: rest) :: k)) cs) w = .go (G ((({ (default : Frame) with fn := fr.fn, kind := fr.kind } : Frame).at ⟨fr.tmps, fr.defers⟩ (.inRegion ops (i :: rest) :: k)).finish undef) cs) w := by
          simp only [G, stepG, stepG.exec, Frame.at] at hw ⊢
          simp [hw]
        rw [← hf] at hs
        exact hs
    · cases h
  · rename_i hm
    exact behind_step h (fun e => hm e) w
theorem idl_add {n m : Nat} : ∀ {fr : Frame} {cs : List Frame}, idl P n fr cs = some (fr', cs') → idl P (n + m) fr cs = idl P m fr' cs' := by
  induction n with
  | zero => intro fr cs h; cases h; rw [Nat.zero_add]
  | succ n ih =>
    intro fr cs h
    rw [Nat.succ_add]
    simp only [idl] at h ⊢
    split at h
    · exact ih h
    · cases h

/-- The head's operation, if it is to be carried out. -/
def hd (fr : Frame) : Option Oper :=
  if fr.roundOf.isSome || fr.kind == .early then none else
  match fr.mode, fr.todo with
  | .run, .inRegion ops (i :: _) :: _ => match ops[i]? with
    | some o => if Region.wanted o (yielded ops fr.tmps) then some o else none
    | none => none
  | _, _ => none
theorem hd_apply {o : Oper} (h : hd fr = some o) (w : World) : stepG P main (G fr cs) w = stepG.apply P true fr cs none (execOp fr.eval o) w ∧ (fr.kind == CallKind.early) = false ∧ (match fr.todo with | .call _ true _ _ :: _ => CallKind.wrapped | _ => .normal) = .normal := by
  unfold hd at h
  split at h
  · cases h
  rename_i hrk
  have hro : fr.roundOf = none := by cases hr : fr.roundOf with | none => rfl | some x => rw [hr] at hrk; simp at hrk
  have hk : (fr.kind == CallKind.early) = false := by cases hk : fr.kind == CallKind.early with | false => rfl | true => rw [hk] at hrk; simp at hrk
  split at h
  · rename_i ops i rest k hm ht
    split at h
    · rename_i o' ho
      split at h
      · rename_i hw
        cases h
        refine ⟨?_, hk, by rw [ht]⟩
        have hf := at_of hm hro
        rw [ht] at hf
        have hop := stepG_oper (P := P) (main := main) (b := { (default : Frame) with fn := fr.fn, kind := fr.kind }) (a := ⟨fr.tmps, fr.defers⟩) (rest := rest) (k := k) (cs := cs) (w := w) ho hw
        have he : fr.eval = (⟨fr.tmps, fr.defers⟩ : Act).eval := by rw [hf]; exact Frame.eval_at' _ _ _
        rw [← hf, ← he] at hop
        exact hop
      · cases h
    · cases h
  · cases h
theorem hd_value {o : Oper} (h : hd fr = some o) {w w' : World} {v : Value} (hr : (execOp fr.eval o).run P w = .ok (.value v) w') :
    stepG P main (G fr cs) w = .go (G (fr.finish v) cs) w' (seen P fr.fn ((execOp fr.eval o).events P w #[])) := by
  obtain ⟨h1, h2, h3⟩ := hd_apply (P := P) (main := main) (cs := cs) h w
  rw [h1]
  simp [stepG.apply, hr, h2, GStep.after, G]
theorem hd_skip {o : Oper} (h : hd fr = some o) {w w' : World} (hr : (execOp fr.eval o).run P w = .ok .skip w') :
    stepG P main (G fr cs) w = .go (G (fr.finish undef) cs) w' (seen P fr.fn ((execOp fr.eval o).events P w #[])) := by
  obtain ⟨h1, h2, h3⟩ := hd_apply (P := P) (main := main) (cs := cs) h w
  rw [h1]
  simp [stepG.apply, hr, h2, GStep.after, G]
end
end Go.Po
/- The pool, part 2: what is asked of the workers and of their starter; the measure. -/
namespace Go.Po
open Go Go.Conc Go.Tw
open Go.ConcR (KK WgAt stA smA rd wr)
open Go.ConcN (CTag phi Mode cnt Vc WD upd sumTo)

/-- A pool: its program; types; the world in which the first Add is about to be made; the old blocks lie below N0; the blocks of the counter, of the row of results, of the group; how many workers, how many elements; how many goroutines there were; the blocks that nobody may touch plainly any more; the result of each element; where a worker stands: at the counter's add (PA), at the call with element i (PC), at the store of its result (PS). -/
structure Pool where
  P : Program
  okB : Nat → Bool
  ty : TypeId
  nty : TypeId
  oty : TypeId
  W1 : World
  N0 : Nat
  nx : Nat
  ou : Nat
  wg : Nat
  n : Nat
  len : Nat
  g0 : Nat
  ShB : Nat → Prop
  R : Nat → Value
  PA : Goroutine → Prop
  PC : Nat → Goroutine → Prop
  PS : Nat → Goroutine → Prop
  Anch : Goroutine → Prop
  Exit : Goroutine → Prop
namespace Pool
variable (p : Pool)
/-- Blocks that stand as they stood. -/
def Still (b : Nat) : Prop := b < p.W1.heap.size ∧ b ≠ p.nx ∧ b ≠ p.ou ∧ b ≠ p.wg
/-- .. and may be read. -/
def RO (b : Nat) : Prop := p.Still b ∧ ¬ p.ShB b
def NxAt (w : World) (c : Nat) : Prop := w.heap[p.nx]? = some (.cells #[.int .i64 c] p.nty)
def OuAt (w : World) (os : Array Value) : Prop := w.heap[p.ou]? = some (.cells os p.oty) ∧ os.size = p.len
structure S (w : World) : Prop where
  still : ∀ b, p.Still b → w.heap[b]? = p.W1.heap[b]?
  size : p.W1.heap.size ≤ w.heap.size
  wg : ∃ st sm, WgAt p.ty p.wg w st sm
  nx : ∃ c, p.NxAt w c
  ou : ∃ os, p.OuAt w os
/-- A plain read of what stands. -/
def EvR (e : Event) : Prop := ∃ a, e = ⟨.cell a, false, false⟩ ∧ p.RO a.block
/-- .. or the library's word that it reads, or writes, the group's cells. -/
def EvS (e : Event) : Prop := ∃ a m, e = ⟨.mark m, false, true⟩ ∧ (m = .read a ∨ m = .write a) ∧ a.block = p.wg
/-- Steps that hand the world back, and list what is let. -/
def Wlk (main : Bool) (Ok : Event → Prop) (K : Goroutine → Prop) : Nat → Goroutine → Prop
  | 0, g => K g
  | n + 1, g => K g ∨ (g.status = .running ∧ ∀ w, p.S w → ∃ g' d es, stepG p.P main g w = .go g' (w.at d) es ∧ (∀ e ∈ es, Ok e) ∧ Wlk main Ok K n g')
abbrev W0 := p.Wlk false (fun _ => False)
abbrev WkR := p.Wlk false p.EvR
abbrev M0 := p.Wlk true p.EvS
/-! ### a worker, from its end backwards -/
def AtD4 (g : Goroutine) : Prop :=
  g.status = .running ∧ mayWake p.P g = true ∧ ∀ w, p.S w → WgAt p.ty p.wg w 0 0 → ∃ g', stepG p.P false g w = .go g' (w.setCell (smA p.wg) (.int .u32 1)) (semEvents (smA p.wg)) ∧ ∃ q, QuitsD p.P q 1 g'
def AtD3 (g : Goroutine) : Prop :=
  g.status = .running ∧ ∀ w, p.S w → WgAt p.ty p.wg w 1 0 → ∃ g', stepG p.P false g w = .go g' (w.setCell (stA p.wg) (.int .u64 0)) #[wr (stA p.wg)] ∧ ∃ m, p.W0 p.AtD4 m g'
def AtD2 (g : Goroutine) : Prop :=
  g.status = .running ∧ ∀ w, p.S w → WgAt p.ty p.wg w 1 0 → ∃ g', stepG p.P false g w = .go g' w #[rd (stA p.wg)] ∧ ∃ m, p.W0 p.AtD3 m g'
def AtD1 (g : Goroutine) : Prop :=
  g.status = .running ∧ ∀ (v wt : Nat) w, p.S w → wt ≤ 1 → v < p.n → WgAt p.ty p.wg w ((v + 1) * KK + wt) 0 →
    ∃ g', stepG p.P false g w = .go g' (w.setCell (stA p.wg) (.int .u64 (v * KK + wt))) #[rd (stA p.wg), wr (stA p.wg)] ∧ ((v = 0 ∧ wt = 1) → ∃ m, p.W0 p.AtD2 m g') ∧ (¬ (v = 0 ∧ wt = 1) → ∃ q, QuitsD p.P q 1 g')
def AtK1 (g : Goroutine) : Prop :=
  g.status = .running ∧ ∃ g', (∀ w, p.S w → stepG p.P false g w = .go g' w #[Go.ConcR.mk .disable]) ∧ ∃ m, p.W0 p.AtD1 m g'
def AtR0 (g : Goroutine) : Prop :=
  g.status = .running ∧ ∃ g', (∀ w, p.S w → stepG p.P false g w = .go g' w #[Go.ConcR.mk (.releaseMerge (stA p.wg))]) ∧ ∃ m, p.W0 p.AtK1 m g'
/-! ### the starter, from its end backwards -/
def AtAcq (g : Goroutine) : Prop :=
  g.status = .running ∧ ∃ g', (∀ w, p.S w → stepG p.P true g w = .go g' w #[Go.ConcR.mk (.acquire (stA p.wg))]) ∧ p.Exit g'
def AtKe (g : Goroutine) : Prop :=
  g.status = .running ∧ ∃ g', (∀ w, p.S w → stepG p.P true g w = .go g' w #[Go.ConcR.mk .enable]) ∧ ∃ m, p.M0 p.AtAcq m g'
def AtW4 (g : Goroutine) : Prop :=
  g.status = .running ∧ ∀ w, p.S w → WgAt p.ty p.wg w 0 0 → ∃ g', stepG p.P true g w = .go g' w #[rd (stA p.wg)] ∧ ∃ m, p.M0 p.AtKe m g'
def AtW3 (g : Goroutine) : Prop :=
  g.status = .running ∧ g.offers = none ∧ ∀ w, p.S w → ((∃ st, WgAt p.ty p.wg w st 0) → stepG p.P true g w = .go { g with status := .blocked } w #[]) ∧
    (WgAt p.ty p.wg w 0 1 → ∃ g', stepG p.P true g w = .go g' (w.setCell (smA p.wg) (.int .u32 0)) (semEvents (smA p.wg)) ∧ ∃ m, p.M0 p.AtW4 m g')
def AtW2 (vs : Nat) (g : Goroutine) : Prop :=
  g.status = .running ∧ ∀ (v : Nat) w, p.S w → v ≤ p.n → WgAt p.ty p.wg w (v * KK) 0 →
    (v = vs → ∃ g', stepG p.P true g w = .go g' (w.setCell (stA p.wg) (.int .u64 (v * KK + 1))) #[rd (stA p.wg), wr (stA p.wg)] ∧ ∃ m, p.M0 p.AtW3 m g') ∧
    (v ≠ vs → ∃ g', stepG p.P true g w = .go g' w #[rd (stA p.wg)] ∧ ∃ m, p.M0 p.Anch m g')
def AtW1 (g : Goroutine) : Prop :=
  g.status = .running ∧ ∀ (v : Nat) w, p.S w → v ≤ p.n → WgAt p.ty p.wg w (v * KK) 0 → ∃ g', stepG p.P true g w = .go g' w #[rd (stA p.wg)] ∧
    (v = 0 → ∃ m, p.M0 p.AtKe m g') ∧ (v ≠ 0 → ∃ m, p.M0 (p.AtW2 v) m g')
def AtKd (g : Goroutine) : Prop :=
  g.status = .running ∧ ∃ g', (∀ w, p.S w → stepG p.P true g w = .go g' w #[Go.ConcR.mk .disable]) ∧ ∃ m, p.M0 p.Anch m g'
def AtGoS (Next : Goroutine → Prop) (g : Goroutine) : Prop :=
  g.status = .running ∧ ∃ g' child, (∀ w, p.S w → stepG p.P true g w = .spawn g' child w #[]) ∧ child.status = .running ∧ (∃ m, p.WkR p.PA m child) ∧ Next g'
def AtKeS (Next : Goroutine → Prop) (g : Goroutine) : Prop :=
  g.status = .running ∧ ∃ g', (∀ w, p.S w → stepG p.P true g w = .go g' w #[Go.ConcR.mk .enable]) ∧ ∃ m, p.M0 (p.AtGoS Next) m g'
def AtA1 (Next : Goroutine → Prop) (g : Goroutine) : Prop :=
  g.status = .running ∧ ∀ (v : Nat) w, p.S w → v < p.n → WgAt p.ty p.wg w (v * KK) 0 →
    ∃ g', stepG p.P true g w = .go g' (w.setCell (stA p.wg) (.int .u64 ((v + 1) * KK))) #[rd (stA p.wg), wr (stA p.wg)] ∧ ∃ m, p.M0 (p.AtKeS Next) m g'
def AtKdS (Next : Goroutine → Prop) (g : Goroutine) : Prop :=
  g.status = .running ∧ ∃ g', (∀ w, p.S w → stepG p.P true g w = .go g' w #[Go.ConcR.mk .disable]) ∧ ∃ m, p.M0 (p.AtA1 Next) m g'
def Fin (g : Goroutine) : Prop := ∃ m, p.M0 p.AtKd m g
def Spawns : Nat → Goroutine → Prop
  | 0, g => p.Fin g
  | r + 1, g => ∃ m, p.M0 (p.AtKdS (Spawns r)) m g
def outA (i : Nat) : Addr := ⟨p.ou, i, none⟩
def nxA : Addr := ⟨p.nx, 0, none⟩
end Pool
/-- One child of a lone state. -/
def Chd (P : Program) (y x : St) : Prop := ∃ T d, St1 P (x.at_ T d) y
section
variable [FnSet] {P : Program} {Q : Value → World → Prop}
theorem lt_acc {fr : Frame} {cs : List Frame} {w : World} (h : LT P Q fr cs w) : Acc (Chd P) ⟨fr, cs, w⟩ := by
  induction h with
  | leave fr w fn v hm hfn hr hq =>
    refine ⟨_, fun y ⟨T, d, hy⟩ => ?_⟩
    exact absurd rfl (hy.2 hm)
  | step fr cs w nx ha hs _ ih =>
    refine ⟨_, fun y ⟨T, d, hy⟩ => ?_⟩
    have h1 : St1 P (St.at_ ⟨fr, cs, w⟩ T d) ⟨(nx T d).1, (nx T d).2.1, (nx T d).2.2⟩ := ⟨hs T d, ha⟩
    rw [hy.det h1]
    exact ih T d
end
/-- One of the first n goes on. -/
def VecStep (P : Program) (n : Nat) (v' v : Nat → St) : Prop := ∃ i, i < n ∧ Chd P (v' i) (v i) ∧ ∀ j, j ≠ i → v' j = v j
theorem vec_acc (P : Program) : ∀ (n : Nat) (v : Nat → St), (∀ i, Acc (Chd P) (v i)) → Acc (VecStep P n) v
  | 0, v, _ => ⟨_, fun v' ⟨i, hi, _⟩ => absurd hi (Nat.not_lt_zero i)⟩
  | n + 1, v, hv => by
    have key : ∀ x, Acc (Chd P) x → ∀ v : Nat → St, v n = x → (∀ i, Acc (Chd P) (v i)) → Acc (VecStep P (n + 1)) v := by
      intro x hx
      induction hx with
      | intro x _ ihx =>
        intro v hvn hv
        have hin := vec_acc P n v hv
        induction hin with
        | intro v _ ihv =>
          refine ⟨_, fun v' ⟨i, hi, hc, ho⟩ => ?_⟩
          have hv' : ∀ j, Acc (Chd P) (v' j) := by
            intro j
            by_cases hj : j = i
            · subst hj; exact (hv j).inv hc
            · rw [ho j hj]; exact hv j
          by_cases hin : i = n
          · subst hin
            exact ihx (v' i) (hvn ▸ hc) v' rfl hv'
          · exact ihv v' ⟨i, by omega, hc, ho⟩ (by rw [ho n (fun e => hin e.symm)]; exact hvn) hv'
    exact key _ (hv n) v rfl hv
def VSub (P : Program) : Type := { v : Nat → St // ∀ i, Acc (Chd P) (v i) }
/-- The measure: the stages; the workers' own trees; the counts of steps. -/
def LtM (P : Program) (n : Nat) : Nat × VSub P × Nat → Nat × VSub P × Nat → Prop :=
  Prod.Lex (· < ·) (Prod.Lex (fun a b => VecStep P n a.1 b.1) (· < ·))
theorem ltM_wf (P : Program) (n : Nat) : WellFounded (LtM P n) := by
  have h2 : WellFounded (fun (a b : VSub P) => VecStep P n a.1 b.1) := by
    refine ⟨fun v => ?_⟩
    have := vec_acc P n v.1 v.2
    have key : ∀ u, Acc (VecStep P n) u → ∀ (h : ∀ i, Acc (Chd P) (u i)), Acc (fun (a b : VSub P) => VecStep P n a.1 b.1) ⟨u, h⟩ := by
      intro u hu
      induction hu with
      | intro u _ ih => exact fun h => ⟨_, fun v' hv' => ih v'.1 hv' v'.2⟩
    exact key v.1 this v.2
  exact (Prod.lex Nat.lt_wfRel (Prod.lex ⟨_, h2⟩ Nat.lt_wfRel)).wf
theorem ltM_a {P : Program} {n a' a : Nat} (v' v : VSub P) (f' f : Nat) (h : a' < a) : LtM P n (a', v', f') (a, v, f) := .left _ _ h
theorem ltM_v {P : Program} {n a : Nat} {v' v : VSub P} (f' f : Nat) (h : VecStep P n v'.1 v.1) : LtM P n (a, v', f') (a, v, f) := .right _ (.left _ _ h)
theorem ltM_f {P : Program} {n a f' f : Nat} {v : VSub P} (h : f' < f) : LtM P n (a, v, f') (a, v, f) := .right _ (.right _ h)
end Go.Po
/- The pool, part 3: what holds of the trace. -/
namespace Go.Po
open Go Go.Conc
open Go.ConcR (KK WgAt stA smA rd wr)
open Go.ConcN (RelBy handedOver_all PermW fork_knows Deaf_absent)
namespace Pool
variable (p : Pool)
/-- Touched by many, never plainly. -/
def Shm (l : Loc) : Prop := ∃ a, l = .cell a ∧ (a.block = p.nx ∨ a.block = p.wg)
def ROl (l : Loc) : Prop := (∃ a, l = .cell a ∧ p.RO a.block) ∨ ∃ r, l = .obj r ∧ p.RO r
theorem shm_ro {l : Loc} (h : p.Shm l) : ¬ p.ROl l := by
  obtain ⟨a, rfl, ha⟩ := h
  rintro (⟨b, hb, hr⟩ | ⟨r, hr, _⟩)
  · cases hb
    rcases ha with h | h
    · exact hr.1.2.1 h
    · exact hr.1.2.2.2 h
  · cases hr
structure OwnOk (Own : Nat → Loc → Prop) : Prop where
  one : ∀ k k' l, Own k l → Own k' l → k = k'
  nsh : ∀ k l, Own k l → ¬ p.Shm l
  nro : ∀ k l, Own k l → ¬ p.ROl l
structure TI (Sh0 : Loc → Prop) (t : Trace) (j : Nat) (Own : Nat → Loc → Prop) (B : Nat) : Prop where
  quiet : ∀ (i : Nat) (op : MemOp) (x : Touch), t[i]? = some op → op.act.touch? = some x → p.Shm x.loc → x.kind ≠ .plain ∧ (x.kind = .said → op.g = 0)
  own : ∀ k, k < j → ∀ (i : Nat) (op : MemOp) (x : Touch), t[i]? = some op → op.act.touch? = some x → Own k x.loc → op.g = p.g0 + k
  ro : ∀ g, (g = 0 ∨ ∃ k, k < j ∧ g = p.g0 + k) → ∀ l, p.ROl l → PermW t g l
  known : ∀ (i : Nat) (op : MemOp) (x : Touch), t[i]? = some op → op.act.touch? = some x → x.loc.isMemory = true → Knows t 0 i ∨ (Sh0 x.loc ∧ x.kind = .atomic) ∨ ∃ k, k < j ∧ op.g = p.g0 + k
  atm : ∀ (i : Nat) (op : MemOp) (x : Touch), t[i]? = some op → op.act.touch? = some x → p.g0 ≤ op.g → x.kind = .atomic → p.Shm x.loc
  nr : ∀ said, ¬ Race said t
  low : ∀ op ∈ t, op.act.low B
  gs : ∀ op ∈ t, op.g < p.g0 + j
  over : ∀ i g, t.g? i = some g → g ≠ 0 → g < p.g0 → t.counts i → ∃ jx, t.g? jx = some 0 ∧ HappensBefore t i jx
structure OkW (Own : Nat → Loc → Prop) (B k : Nat) (op : MemOp) : Prop where
  g : op.g = p.g0 + k
  touch : ∀ x, op.act.touch? = some x → (p.Shm x.loc ∧ x.kind = .atomic) ∨ (Own k x.loc ∧ x.kind = .plain) ∨ (p.ROl x.loc ∧ x.write = false ∧ x.kind = .plain)
  low : op.act.low B
structure Ok0 (B : Nat) (op : MemOp) : Prop where
  g : op.g = 0
  touch : ∀ x, op.act.touch? = some x → (p.Shm x.loc ∧ x.kind ≠ .plain) ∨ (p.ROl x.loc ∧ x.write = false)
  low : op.act.low B
end Pool
section
variable {p : Pool} {Sh0 : Loc → Prop} {t u : Trace} {j B B' : Nat} {Own Own' : Nat → Loc → Prop}
theorem low_app {t u : Trace} {B : Nat} (h : ∀ op ∈ t, op.act.low B) (hu : ∀ op ∈ u, op.act.low B) : ∀ op ∈ t ++ u, op.act.low B := fun op hop => (Array.mem_append.1 hop).elim (h op) (hu op)
theorem over_app {g0 : Nat} (h : ∀ i g, t.g? i = some g → g ≠ 0 → g < g0 → t.counts i → ∃ jx, t.g? jx = some 0 ∧ HappensBefore t i jx) (hu : ∀ op ∈ u, op.g = 0 ∨ g0 ≤ op.g ∨ op.act.touch? = none) :
    ∀ i g, (t ++ u).g? i = some g → g ≠ 0 → g < g0 → (t ++ u).counts i → ∃ jx, (t ++ u).g? jx = some 0 ∧ HappensBefore (t ++ u) i jx := by
  intro i g hg hne hlt hc
  have hc0 := hc
  obtain ⟨x, hx, _⟩ := hc
  obtain ⟨op, hop, hox⟩ := touch_of hx
  rcases getElem?_append_cases hop with ⟨hi, hop'⟩ | ⟨_, hopu⟩
  · obtain ⟨jx, hj, hb⟩ := h i g (by simpa [Trace.g?, getElem?_append_old hi] using hg) hne hlt ((counts_old hi).1 hc0)
    have hjl : jx < t.size := by
      unfold Trace.g? at hj
      obtain ⟨z, hz, _⟩ := Option.map_eq_some_iff.1 hj
      exact lt_size_of_getElem? hz
    exact ⟨jx, by simpa [Trace.g?, getElem?_append_old hjl] using hj, hb_app u hb⟩
  · have hgo : op.g = g := by simpa [Trace.g?, hop] using hg
    rcases hu op hopu with h0 | h0 | h0
    · exact absurd (hgo.symm.trans h0) hne
    · omega
    · rw [h0] at hox; cases hox
theorem Pool.TI.mono (h : p.TI Sh0 t j Own B) (hB : B ≤ B') : p.TI Sh0 t j Own B' := ⟨h.quiet, h.own, h.ro, h.known, h.atm, h.nr, fun op hop => MemAct.low_mono hB (h.low op hop), h.gs, h.over⟩
/-- Places that nobody has touched may be given to anybody. -/
theorem Pool.TI.grow (h : p.TI Sh0 t j Own B) (hg : ∀ k l, Own' k l → Own k l ∨ ∀ (i : Nat) (op : MemOp) (x : Touch), t[i]? = some op → op.act.touch? = some x → x.loc ≠ l) : p.TI Sh0 t j Own' B :=
  ⟨h.quiet, fun k hk i op x h1 h2 h3 => (hg k _ h3).elim (h.own k hk i op x h1 h2) (fun hn => absurd rfl (hn i op x h1 h2)), h.ro, h.known, h.atm, h.nr, h.low, h.gs, h.over⟩
theorem Pool.TI.appW (h : p.TI Sh0 t j Own B) (ho : p.OwnOk Own) {k : Nat} (hk : k < j) (hg0 : 0 < p.g0) (hu : ∀ op ∈ u, p.OkW Own B k op) : p.TI Sh0 (t ++ u) j Own B := by
  have tu : ∀ {i : Nat} {op : MemOp}, (t ++ u)[i]? = some op → t[i]? = some op ∧ i < t.size ∨ op ∈ u := fun hi => (getElem?_append_cases hi).imp (fun x => ⟨x.2, x.1⟩) (·.2)
  refine ⟨fun i op x hi hx hs => ?_, fun k' hk' i op x hi hx hs => ?_, fun g hg l hl => ?_, fun i op x hi hx hm => ?_, fun i op x hi hx hg hk' => ?_, fun said => ?_, low_app h.low fun op hop => (hu op hop).low, fun op hop => ?_, over_app h.over fun op hop => .inr (.inl (by rw [(hu op hop).g]; omega))⟩
  · rcases tu hi with ⟨hi, _⟩ | hm
    · exact h.quiet i op x hi hx hs
    · rcases (hu op hm).touch x hx with ⟨_, he⟩ | ⟨ho', _⟩ | ⟨hr, _⟩
      · rw [he]; exact ⟨by simp, by simp⟩
      · exact absurd hs (ho.nsh k _ ho')
      · exact absurd hr (p.shm_ro hs)
  · rcases tu hi with ⟨hi, _⟩ | hm
    · exact h.own k' hk' i op x hi hx hs
    · rcases (hu op hm).touch x hx with ⟨hs', _⟩ | ⟨ho', _⟩ | ⟨hr, _⟩
      · exact absurd hs' (ho.nsh k' _ hs)
      · rw [ho.one k' k _ hs ho']; exact (hu op hm).g
      · exact absurd hr (ho.nro k' _ hs)
  · refine (h.ro g hg l hl).app fun op hop b hb e hw => ?_
    rcases (hu op hop).touch b hb with ⟨hs', _⟩ | ⟨ho', _⟩ | ⟨_, hr, _⟩
    · exact absurd (e ▸ hl) (p.shm_ro hs')
    · exact absurd (e ▸ hl) (ho.nro k _ ho')
    · rw [hr] at hw; cases hw
  · rcases tu hi with ⟨hi', _⟩ | hm'
    · exact (h.known i op x hi' hx hm).imp (·.app u) id
    · exact .inr (.inr ⟨k, hk, (hu op hm').g⟩)
  · rcases tu hi with ⟨hi', _⟩ | hm'
    · exact h.atm i op x hi' hx hg hk'
    · rcases (hu op hm').touch x hx with ⟨hs', _⟩ | ⟨_, he⟩ | ⟨_, _, he⟩
      · exact hs'
      · rw [he] at hk'; cases hk'
      · rw [he] at hk'; cases hk'
  · refine noRace_append (h.nr said) (fun op hop => (hu op hop).g) (fun i a ha op hop b hb hc => ?_)
    obtain ⟨z, hz, hza⟩ := touch_of ha
    have hloc := hc.1
    rcases (hu op hop).touch b hb with ⟨hs', he⟩ | ⟨ho', he⟩ | ⟨hr, hw, he⟩
    · have hq := h.quiet i z a hz hza (by rw [hloc]; exact hs')
      obtain ⟨_, _, _, hcase⟩ := hc
      rw [he] at hcase
      rcases hcase with x | x | ⟨_, _, x⟩
      · exact absurd x hq.1
      · cases x
      · cases x
    · have hg := h.own k hk i z a hz hza (by rw [hloc]; exact ho')
      have := knows_own hz
      rwa [hg] at this
    · exact h.ro _ (.inr ⟨k, hk, rfl⟩) b.loc hr i a ha hloc (hc.2.2.1.resolve_right (by simp [hw]))
  · rcases Array.mem_append.1 hop with h' | h'
    · exact h.gs op h'
    · rw [(hu op h').g]; omega
theorem Pool.TI.app0 (h : p.TI Sh0 t j Own B) (ho : p.OwnOk Own) (hg0 : 0 < p.g0) (hu : ∀ op ∈ u, p.Ok0 B op) : p.TI Sh0 (t ++ u) j Own B := by
  have tu : ∀ {i : Nat} {op : MemOp}, (t ++ u)[i]? = some op → t[i]? = some op ∧ i < t.size ∨ op ∈ u := fun hi => (getElem?_append_cases hi).imp (fun x => ⟨x.2, x.1⟩) (·.2)
  refine ⟨fun i op x hi hx hs => ?_, fun k' hk' i op x hi hx hs => ?_, fun g hg l hl => ?_, fun i op x hi hx hm => ?_, fun i op x hi hx hg hk' => ?_, fun said => ?_, low_app h.low fun op hop => (hu op hop).low, fun op hop => ?_, over_app h.over fun op hop => .inl (hu op hop).g⟩
  · rcases tu hi with ⟨hi, _⟩ | hm
    · exact h.quiet i op x hi hx hs
    · rcases (hu op hm).touch x hx with ⟨_, he⟩ | ⟨hr, _⟩
      · exact ⟨he, fun _ => (hu op hm).g⟩
      · exact absurd hr (p.shm_ro hs)
  · rcases tu hi with ⟨hi, _⟩ | hm
    · exact h.own k' hk' i op x hi hx hs
    · rcases (hu op hm).touch x hx with ⟨hs', _⟩ | ⟨hr, _⟩
      · exact absurd hs' (ho.nsh k' _ hs)
      · exact absurd hr (ho.nro k' _ hs)
  · refine (h.ro g hg l hl).app fun op hop b hb e hw => ?_
    rcases (hu op hop).touch b hb with ⟨hs', _⟩ | ⟨_, hr⟩
    · exact absurd (e ▸ hl) (p.shm_ro hs')
    · rw [hr] at hw; cases hw
  · rcases tu hi with ⟨hi', _⟩ | hm'
    · exact (h.known i op x hi' hx hm).imp (·.app u) id
    · have := knows_own hi
      rw [(hu op hm').g] at this
      exact .inl this
  · rcases tu hi with ⟨hi', _⟩ | hm'
    · exact h.atm i op x hi' hx hg hk'
    · rw [(hu op hm').g] at hg; omega
  · refine noRace_append (h.nr said) (fun op hop => (hu op hop).g) (fun i a ha op hop b hb hc => ?_)
    obtain ⟨z, hz, hza⟩ := touch_of ha
    have hloc := hc.1
    rcases (hu op hop).touch b hb with ⟨hs', he⟩ | ⟨hr, hw⟩
    · have hq := h.quiet i z a hz hza (by rw [hloc]; exact hs')
      obtain ⟨_, _, _, hcase⟩ := hc
      rcases hcase with x | x | ⟨_, x, y⟩
      · exact absurd x hq.1
      · exact absurd x he
      · have := knows_own hz
        rwa [hq.2 x] at this
    · exact h.ro 0 (.inl rfl) b.loc hr i a ha hloc (hc.2.2.1.resolve_right (by simp [hw]))
  · rcases Array.mem_append.1 hop with h' | h'
    · exact h.gs op h'
    · rw [(hu op h').g]; omega
/-- Operations that touch nothing, of one goroutine that is there. -/
theorem Pool.TI.mute (h : p.TI Sh0 t j Own B) {g : Nat} (hg : g < p.g0 + j) (hu : ∀ op ∈ u, op.g = g) (hn : ∀ op ∈ u, op.act.touch? = none) (hl : ∀ op ∈ u, op.act.low B) : p.TI Sh0 (t ++ u) j Own B := by
  have tu : ∀ {i : Nat} {op : MemOp} {x : Touch}, (t ++ u)[i]? = some op → op.act.touch? = some x → t[i]? = some op := fun hi hx => by
    rcases getElem?_append_cases hi with h | h
    · exact h.2
    · rw [hn _ h.2] at hx; cases hx
  refine ⟨fun i op x hi hx => h.quiet i op x (tu hi hx) hx, fun k hk i op x hi hx => h.own k hk i op x (tu hi hx) hx, fun g hg l hl => (h.ro g hg l hl).app (fun op hop b hb => by (rw [hn op hop] at hb; cases hb)),
    fun i op x hi hx hm => (h.known i op x (tu hi hx) hx hm).imp (·.app u) id, fun i op x hi hx => h.atm i op x (tu hi hx) hx, fun said => noRace_append (h.nr said) hu (fun i a ha op hop b hb => by (rw [hn op hop] at hb; cases hb)),
    low_app h.low hl, fun op hop => ?_, over_app h.over fun op hop => .inr (.inr (hn op hop))⟩
  rcases Array.mem_append.1 hop with h' | h'
  · exact h.gs op h'
  · rw [hu op h']; exact hg
/-- A go STATEMENT. -/
theorem Pool.TI.fork (h : p.TI Sh0 t j Own B) (hg0 : 0 < p.g0) (hOwn : ∀ l, ¬ Own j l) {x y : MemOp} (hx : x.g = 0 ∧ x.act = .go (p.g0 + j)) (hy : y.g = p.g0 + j ∧ y.act = .start) (h0 : Deaf t 0 = 0) : p.TI Sh0 (t ++ #[x, y]) (j + 1) Own B := by
  have hk : Deaf t (p.g0 + j) = 0 := Deaf_absent fun i op hi e => by have := h.gs op (Array.mem_of_getElem? hi); omega
  have hnt : ∀ op ∈ #[x, y], op.act.touch? = none := by
    intro op hop
    simp only [List.mem_toArray, List.mem_cons, List.not_mem_nil, or_false] at hop
    rcases hop with rfl | rfl
    · rw [hx.2]; rfl
    · rw [hy.2]; rfl
  have tu : ∀ {i : Nat} {op : MemOp} {z : Touch}, (t ++ #[x, y])[i]? = some op → op.act.touch? = some z → t[i]? = some op := fun hi hz => by
    rcases getElem?_append_cases hi with h | h
    · exact h.2
    · rw [hnt _ h.2] at hz; cases hz
  refine ⟨fun i op z hi hz => h.quiet i op z (tu hi hz) hz, fun k hk' i op z hi hz ho => ?_, fun g hg l hl => ?_, fun i op z hi hz hm => ?_, fun i op z hi hz => h.atm i op z (tu hi hz) hz, fun said => ?_, low_app h.low ?_, fun op hop => ?_, over_app h.over fun op hop => .inr (.inr (hnt op hop))⟩
  · rcases Nat.lt_or_ge k j with hlt | hge
    · exact h.own k hlt i op z (tu hi hz) hz ho
    · obtain rfl : k = j := by omega
      exact absurd ho (hOwn _)
  · by_cases hgj : g = p.g0 + j
    · subst hgj
      intro i a ha e hw
      obtain ⟨z, hz, hza⟩ := touch_of ha
      have hz' := tu hz hza
      exact fork_knows hx hy h0 hk (h.ro 0 (.inl rfl) l hl i a (by rw [touchAt_of hz']; exact hza) e hw)
    · exact (h.ro g (hg.imp id fun ⟨k, hk', e⟩ => ⟨k, by omega, e⟩) l hl).app fun op hop b hb => by rw [hnt op hop] at hb; cases hb
  · rcases h.known i op z (tu hi hz) hz hm with hh | hh | ⟨k, hk', e⟩
    · exact .inl (hh.app _)
    · exact .inr (.inl hh)
    · exact .inr (.inr ⟨k, by omega, e⟩)
  · have e : t ++ #[x, y] = (t ++ #[x]) ++ #[y] := by apply Array.ext'; simp
    rw [e]
    refine noRace_append (g := p.g0 + j) (noRace_append (g := 0) (h.nr said) (fun op hop => by simp at hop; rw [hop]; exact hx.1) (fun i a _ op hop b hb _ => by rw [hnt op (by simp at hop ⊢; exact .inl hop)] at hb; cases hb))
      (fun op hop => by simp at hop; rw [hop]; exact hy.1) (fun i a _ op hop b hb _ => by rw [hnt op (by simp at hop ⊢; exact .inr hop)] at hb; cases hb)
  · intro op hop
    simp only [List.mem_toArray, List.mem_cons, List.not_mem_nil, or_false] at hop
    rcases hop with rfl | rfl
    · rw [hx.2]; trivial
    · rw [hy.2]; trivial
  · rcases Array.mem_append.1 hop with h' | h'
    · have := h.gs op h'; omega
    · simp only [List.mem_toArray, List.mem_cons, List.not_mem_nil, or_false] at h'
      rcases h' with rfl | rfl
      · rw [hx.1]; omega
      · rw [hy.1]; omega
/-- BEHIND THE JOIN. -/
theorem Pool.TI.past (h : p.TI Sh0 t j Own B) (hn : NoRelease (stA p.wg) t) {q : Nat} (hq : t.act? q = some (.mark (.acquire (stA p.wg)))) (hqg : t.g? q = some 0) (hqh : t.heard q)
    (all : ∀ k, k < j → ∃ r, RelBy (stA p.wg) t (p.g0 + k) r ∧ r < q) (hd : Deaf t 0 = 0) : Past (fun l => Sh0 l ∨ p.Shm l) B t := by
  have edge : ∀ i k, k < j → t.g? i = some (p.g0 + k) → t.counts i → HappensBefore t i q := by
    intro i k hk hg hc
    obtain ⟨r, hr, hrq⟩ := all k hk
    have e : HappensBefore t r q := .single (.inr ⟨.marked hrq (.inr hr.act) hq (fun k _ _ => hn k), hr.heard, hqh⟩)
    have hle : i ≤ r := Nat.le_of_not_lt fun hlt => hr.after i hlt hg hc
    rcases Nat.lt_or_ge i r with hlt | hge
    · exact .trans (.single (.inl ⟨hlt, _, hg, hr.g⟩)) e
    · obtain rfl : i = r := by omega
      exact e
  obtain ⟨zq, hzq, hzg⟩ := Option.map_eq_some_iff.1 hqg
  refine ⟨h.nr, fun i a ha hm => ?_, fun i g hg hne hc => ?_, hd, h.low⟩
  · obtain ⟨z, hz, hza⟩ := touch_of ha
    rcases h.known i z a hz hza hm with hh | ⟨h1, h2⟩ | ⟨k, hk, e⟩
    · exact .inl hh
    · exact .inr ⟨.inl h1, h2⟩
    · have hg : t.g? i = some (p.g0 + k) := by simp [Trace.g?, hz, e]
      by_cases hc : t.counts i
      · exact .inl ⟨q, zq, hzq, hzg, .inr (edge i k hk hg hc)⟩
      · refine .inr ?_
        have hat : a.kind = .atomic := by
          refine Classical.byContradiction fun hna => hc ⟨a, ha, hm, .inl hna⟩
        exact ⟨.inr (h.atm i z a hz hza (by omega) hat), hat⟩
  · rcases Nat.lt_or_ge g p.g0 with hlt | hge
    · exact h.over i g hg hne hlt hc
    · obtain ⟨z, hz, hzg'⟩ := Option.map_eq_some_iff.1 hg
      have := h.gs z (Array.mem_of_getElem? hz)
      obtain ⟨k, rfl⟩ := Nat.exists_eq_add_of_le hge
      exact ⟨q, hqg, edge i k (by omega) hg hc⟩
end
end Go.Po
/- The pool, part 4: a worker within the function that it calls. -/
namespace Go.Po
open Go Go.Conc Go.Tw
open Go.ConcR (KK WgAt stA smA rd wr)

theorem mem_seen {P : Program} {fn : FuncId} {es : Array Event} {e : Event} (h : e ∈ seen P fn es) : e ∈ es := by
  have key : ∀ x ∈ (seen P fn es), x ∈ es := by
    unfold seen
    refine Array.foldl_induction (motive := fun _ (x : Bool × Array Event) => ∀ e ∈ x.2, e ∈ es) (fun e he => by simp at he) (fun i x hx => ?_)
    simp only
    split
    · exact hx
    · split
      · exact hx
      · intro e he
        rcases Array.mem_push.1 he with h' | h'
        · exact hx e h'
        · rw [h']; exact Array.getElem_mem _
  exact key e h
variable [FnSet]
/-- What is asked of the pool's numbers. -/
structure Pool.Geo (p : Pool) : Prop where
  n0 : p.N0 ≤ p.W1.heap.size
  nx : p.N0 ≤ p.nx ∧ p.nx < p.W1.heap.size
  ou : p.N0 ≤ p.ou ∧ p.ou < p.W1.heap.size
  wg : p.N0 ≤ p.wg ∧ p.wg < p.W1.heap.size
  nx_ou : p.nx ≠ p.ou
  nx_wg : p.nx ≠ p.wg
  ou_wg : p.ou ≠ p.wg
  cb : ∀ b, b < p.N0 → FnSet.cb b → ¬ p.ShB b
  env : EnvC p.P p.okB
  int : ∀ i, ∃ k x, p.R i = .int k x
  g0 : 0 < p.g0
/-- A worker within f. -/
def Pool.Fs (p : Pool) (i : Nat) (M : Nat → Prop) (x : St) (g : Goroutine) (w : World) : Prop :=
  ∃ (ρ : Ren) (nn : Nat) (frC : Frame) (csC : List Frame) (c : Frame) (rest : List Frame), g = G frC (csC ++ c :: rest) ∧ FR p.P p.okB ρ nn x.fr frC ∧ CR p.P p.okB ρ nn x.cs csC ∧ WR p.N0 ρ nn x.w w ∧
    LT p.P (fun v _ => v = p.R i) x.fr x.cs x.w ∧ (∀ b, p.N0 ≤ b → b < nn → M (ρ b)) ∧ ∃ m, p.WkR (p.PS i) m (G (c.finish (p.R i)) rest)
/-- What a step within f may list. -/
def Pool.EvF (p : Pool) (M : Nat → Prop) (e : Event) : Prop :=
  (∃ a wr, e = ⟨.cell a, wr, false⟩ ∧ (M a.block ∨ (p.RO a.block ∧ wr = false))) ∨ (∃ r, e = ⟨.obj r, false, false⟩ ∧ (M r ∨ p.RO r)) ∨ e = ⟨.mark .noRoom, false, true⟩
theorem WR.wtL {B : Nat} {ρ : Ren} {n : Nat} {wL wC : World} (h : WR B ρ n wL wC) (T : TapeF) (d : Nat) : WR B ρ n (Tw.wt wL T d) wC := ⟨h.size, h.base, h.old, h.inj, h.obj, h.cbn, h.in_, h.frz⟩
/-- What others do does not unseat it. -/
theorem WR.stable {B : Nat} {ρ : Ren} {n : Nat} {wL wC wC' : World} (h : WR B ρ n wL wC) (hs : wC.heap.size ≤ wC'.heap.size) (hb : ∀ b, b < n → FnSet.cb b → wC'.heap[ρ b]? = wC.heap[ρ b]?) : WR B ρ n wL wC' := by
  refine ⟨h.size, h.base, h.old, h.inj, fun b o hcb hbo => ?_, h.cbn, fun b hb => Nat.lt_of_lt_of_le (h.in_ b hb) hs, h.frz⟩
  have hlt : b < n := by rw [← h.size]; exact (Array.getElem?_eq_some_iff.1 hbo).1
  obtain ⟨o', h1, h2⟩ := h.obj b o hcb hbo
  exact ⟨o', (hb b hlt hcb).trans h1, h2⟩
theorem VR.intEq {ρ : Ren} {n : Nat} {v v' : Value} (h : VR ρ n v v') (hi : ∃ k x, v = .int k x) : v' = v := by
  obtain ⟨k, x, rfl⟩ := hi
  cases h; rfl
section
variable {p : Pool} {i : Nat} {M : Nat → Prop} {x : St} {g : Goroutine} {w : World}
theorem evF_of (G0 : p.Geo) {ρ ρ' : Ren} {nn nn' : Nat} {w' : World} {wL : World} (hM : ∀ b, p.N0 ≤ b → b < nn → M (ρ b)) (ex : Ex ρ nn ρ' nn') (gu : Gu p.N0 ρ nn w ρ' nn' w') (hw : WR p.N0 ρ' nn' wL w') {e : Event} (h : Ev p.N0 ρ' nn' e) :
    p.EvF (fun b => M b ∨ (w.heap.size ≤ b ∧ b < w'.heap.size)) e := by
  have own : ∀ y, p.N0 ≤ y → y < nn' → (M (ρ' y) ∨ (w.heap.size ≤ ρ' y ∧ ρ' y < w'.heap.size)) := by
    intro y h1 h2
    rcases Nat.lt_or_ge y nn with hlt | hge
    · rw [ex.eq y hlt]; exact .inl (hM y h1 hlt)
    · exact .inr ⟨gu.fresh y hge h2, hw.in_ y h2⟩
  have old : ∀ y, In nn' y → y < p.N0 → p.RO (ρ' y) := by
    intro y hy hlt
    rw [hw.old y hlt]
    exact ⟨⟨Nat.lt_of_lt_of_le hlt G0.n0, fun e => by have := G0.nx.1; omega, fun e => by have := G0.ou.1; omega, fun e => by have := G0.wg.1; omega⟩, G0.cb y hlt hy.cb⟩
  cases h with
  | rd a y hy ha =>
    refine .inl ⟨a, false, rfl, ?_⟩
    rw [ha]
    rcases Nat.lt_or_ge y p.N0 with hlt | hge
    · exact .inr ⟨old y hy hlt, rfl⟩
    · exact .inl (own y hge hy.lt)
  | wr a y h1 h2 ha =>
    refine .inl ⟨a, true, rfl, .inl ?_⟩
    rw [ha]
    exact own y h1 h2
  | room => exact .inr (.inr rfl)
  | obj r y hy ha =>
    refine .inr (.inl ⟨r, rfl, ?_⟩)
    rw [ha]
    rcases Nat.lt_or_ge y p.N0 with hlt | hge
    · exact .inr (old y hy hlt)
    · exact .inl (own y hge hy.lt)
/-- What a step of it does. -/
structure Pool.FStep (p : Pool) (M : Nat → Prop) (w w' : World) (es : Array Event) : Prop where
  size : w.heap.size ≤ w'.heap.size
  same : ∀ b, b < w.heap.size → ¬ M b → w'.heap[b]? = w.heap[b]?
  tape : w'.tape = w.tape
  os : w'.os = w.os
  out : w'.output = w.output
  ev : ∀ e ∈ es, p.EvF (fun b => M b ∨ (w.heap.size ≤ b ∧ b < w'.heap.size)) e
theorem fs_step (G0 : p.Geo) (h : p.Fs i M x g w) : ∃ g' w' es, stepG p.P false g w = .go g' w' es ∧ p.FStep M w w' es ∧
    ((∃ y, Chd p.P y x ∧ p.Fs i (fun b => M b ∨ (w.heap.size ≤ b ∧ b < w'.heap.size)) y g' w') ∨ ∃ m, p.WkR (p.PS i) m g') := by
  obtain ⟨ρ, nn, frC, csC, c, rest, rfl, hf, hc, hw, hlt, hM, m, hk⟩ := h
  obtain ⟨xf, xc, xw⟩ := x
  simp only at hf hc hw hlt
  have gu_ : ∀ {ρ' : Ren} {nn' : Nat} {w' : World} {wL : World} {es : Array Event}, Ex ρ nn ρ' nn' → Gu p.N0 ρ nn w ρ' nn' w' → WR p.N0 ρ' nn' wL w' → (∀ e ∈ es, Ev p.N0 ρ' nn' e) → p.FStep M w w' (seen p.P frC.fn es) := by
    intro ρ' nn' w' wL es ex gu hw' hes
    exact ⟨gu.size, fun b hb hMb => gu.same b hb fun y h1 h2 e => hMb (e ▸ hM y h1 h2), gu.tape, gu.os, gu.out, fun e he => evF_of G0 hM ex gu hw' (hes e (mem_seen he))⟩
  cases hlt with
  | leave fr w0 fn v hm hfn hr hq =>
    cases hc with
    | nil =>
      obtain ⟨ρ', nn', v', w', ex, r1, hv, hw', gu, _, hes⟩ := rel_results (P := p.P) (B := p.N0) fn hf.tmps (Tw.wt xw w.tape w.drawn) w (WR.wtL hw _ _) v _ (hr w.tape w.drawn) (fun i _ q => rfl)
      have hv' : v' = p.R i := by
        have := VR.intEq hv (by rw [hq]; exact G0.int i)
        rw [this, hq]
      subst hv'
      have hg : (gsem p.P frC ([] ++ c :: rest)).run p.P w = .ok (c.finish (p.R i), rest) w' := by
        unfold gsem
        simp only [hf.mode, hm, List.nil_append, hf.fn, hfn]
        rw [Sem.run_bind, r1]
        rfl
      have hst := gsem_step (main := false) hf.pl' hg
      have hge : (gsem p.P frC ([] ++ c :: rest)).events p.P w #[] = (results fn frC.tmps).events p.P w #[] := by
        unfold gsem
        simp only [hf.mode, hm, List.nil_append, hf.fn, hfn]
        rw [Sem.events_bind, r1, Result.evThen_ok, Sem.events_acc, pure_events]
        simp
      rw [hge] at hst
      exact ⟨_, w', _, hst, gu_ ex gu hw' hes, .inr ⟨m, hk⟩⟩
  | step fr cs w0 nx ha hs hl =>
    have hr := hs w.tape w.drawn
    obtain ⟨ρ', nn', b, w', ex, r1, ⟨hf', xs, ys, h1, h2, hc'⟩, hw', gu, _, hes⟩ := rel_gsem (B := p.N0) G0.env hf hc [bot] (c :: rest) ha (Tw.wt xw w.tape w.drawn) w (WR.wtL hw _ _) _ _ hr (fun i _ q => rfl)
    simp only at hf' h1
    have hxs : (nx w.tape w.drawn).2.1 = xs := by simpa using h1
    subst hxs
    obtain ⟨b1, b2⟩ := b
    simp only at h2 hf'
    subst h2
    have hst := gsem_step (main := false) hf.pl' r1
    refine ⟨_, w', _, hst, gu_ ex gu hw' hes, .inl ⟨⟨(nx w.tape w.drawn).1, (nx w.tape w.drawn).2.1, (nx w.tape w.drawn).2.2⟩, ⟨w.tape, w.drawn, hr, ha⟩, ρ', nn', b1, ys, c, rest, rfl, hf', hc', hw', hl _ _, fun y h1 h2 => ?_, m, hk⟩⟩
    rcases Nat.lt_or_ge y nn with hlt | hge
    · rw [ex.eq y hlt]; exact .inl (hM y h1 hlt)
    · exact .inr ⟨gu.fresh y hge h2, hw'.in_ y h2⟩
end
end Go.Po
/- The pool, part 5: what holds at every moment; a step of a worker's. -/
namespace Go.Po
open Go Go.Conc Go.Tw
open Go.ConcR (KK WgAt stA smA rd wr g_of_ofEvents loc_of_ofEvent)
open Go.ConcN (CTag phi Mode cnt Vc WD upd sumTo upd_same upd_ne RelBy get_map_set get_map_set_same Deaf_absent sumTo_congr sumTo_upd)

structure PD where
  wd : WD
  sub : Nat
  st : St
  M : Nat → Prop
  T : Nat → Prop
  cur : Option Nat
def ov (d : PD) : Nat := if d.sub = 0 then 1 else 0
variable [FnSet]
/-- What is asked of the workers. -/
structure Pool.Hyp (p : Pool) : Prop extends p.Geo where
  add : ∀ g, p.PA g → g.status = .running ∧ ∀ (c : Nat) w, p.S w → c ≤ p.len + p.n → p.NxAt w c →
    ∃ g', stepG p.P false g w = .go g' (w.setCell p.nxA (.int .i64 (c + 1))) #[rd p.nxA, wr p.nxA] ∧ (c < p.len → ∃ m, p.WkR (p.PC c) m g') ∧ (p.len ≤ c → ∃ m, p.WkR p.AtR0 m g')
  call : ∀ i g, i < p.len → p.PC i g → ∃ frL fr xw c rest, g = G fr (c :: rest) ∧ FR p.P p.okB idr p.N0 frL fr ∧ LT p.P (fun v _ => v = p.R i) frL [] xw ∧ (∀ w, p.S w → WR p.N0 idr p.N0 xw w) ∧ ∃ m, p.WkR (p.PS i) m (G (c.finish (p.R i)) rest)
  store : ∀ i g, i < p.len → p.PS i g → g.status = .running ∧ ∀ w, p.S w → ∃ g', stepG p.P false g w = .go g' (w.setCell (p.outA i) (p.R i)) #[⟨.cell (p.outA i), true, false⟩] ∧ ∃ m, p.WkR p.PA m g'
/-- Where a worker stands. -/
inductive WSit (p : Pool) (d : PD) (g : Goroutine) (w : World) : Prop
  | add (m : Nat) : d.wd = ⟨7, m, 0⟩ → d.sub = 4 → d.cur = none → p.WkR p.PA m g → WSit p d g w
  | call (i m : Nat) : d.wd = ⟨7, m, 0⟩ → d.sub = 7 → d.cur = some i → i < p.len → d.T i → p.WkR (p.PC i) m g → WSit p d g w
  | fst (i : Nat) : d.wd = ⟨7, 0, 0⟩ → d.sub = 6 → d.cur = some i → i < p.len → d.T i → p.Fs i d.M d.st g w → WSit p d g w
  | store (i m : Nat) : d.wd = ⟨7, m, 0⟩ → d.sub = 5 → d.cur = some i → i < p.len → d.T i → p.WkR (p.PS i) m g → WSit p d g w
  | r0 (m : Nat) : d.wd = ⟨7, m, 0⟩ → d.sub = 0 → d.cur = none → p.WkR p.AtR0 m g → WSit p d g w
  | k1 (m : Nat) : d.wd = ⟨6, m, 0⟩ → d.sub = 0 → d.cur = none → p.W0 p.AtK1 m g → WSit p d g w
  | d1 (m : Nat) : d.wd = ⟨5, m, 1⟩ → d.sub = 0 → d.cur = none → p.W0 p.AtD1 m g → WSit p d g w
  | d2 (m : Nat) : d.wd = ⟨4, m, 1⟩ → d.sub = 0 → d.cur = none → p.W0 p.AtD2 m g → WSit p d g w
  | d3 (m : Nat) : d.wd = ⟨3, m, 1⟩ → d.sub = 0 → d.cur = none → p.W0 p.AtD3 m g → WSit p d g w
  | d4 (m : Nat) : d.wd = ⟨2, m, 1⟩ → d.sub = 0 → d.cur = none → p.W0 p.AtD4 m g → WSit p d g w
  | quit (q dd : Nat) : d.wd = ⟨1, q, dd⟩ → d.sub = 0 → d.cur = none → QuitsD p.P q dd g → WSit p d g w
def Own (p : Pool) (j : Nat) (D : Nat → PD) (k : Nat) (l : Loc) : Prop :=
  k < j ∧ ((∃ a, l = .cell a ∧ ((D k).M a.block ∨ ∃ x, (D k).T x ∧ a = p.outA x)) ∨ ∃ r, l = .obj r ∧ (D k).M r)
/-- What holds at every moment. -/
structure Com (p : Pool) (Sh0 : Loc → Prop) (gs : Array Goroutine) (w : World) (t : Trace) (j : Nat) (D : Nat → PD) (q : Nat → Nat) (d0 c : Nat) (os : Array Value) : Prop where
  size : gs.size = p.g0 + j
  old : ∀ i g, 0 < i → i < p.g0 → gs[i]? = some g → QuitsD p.P (q i) (Deaf t i) g
  wk : ∀ i, i < j → ∃ g, gs[p.g0 + i]? = some g ∧ WSit p (D i) g w
  still : ∀ b, p.Still b → w.heap[b]? = p.W1.heap[b]?
  sizeW : p.W1.heap.size ≤ w.heap.size
  outs : w.os = p.W1.os ∧ w.output = p.W1.output
  ti : p.TI Sh0 t j (Own p j D) w.heap.size
  norel : NoRelease (stA p.wg) t
  deaf0 : Deaf t 0 = d0
  deafW : ∀ i, i < j → Deaf t (p.g0 + i) = (D i).wd.deaf
  rel : ∀ i, i < j → (D i).wd.stage ≤ 6 → ∃ r, RelBy (stA p.wg) t (p.g0 + i) r
  mine : ∀ i b, i < j → (D i).M b → p.W1.heap.size ≤ b ∧ b < w.heap.size
  apart : ∀ i i' b, i < j → i' < j → (D i).M b → (D i').M b → i = i'
  tk : ∀ i x, i < j → (D i).T x → x < c
  tapart : ∀ i i' x, i < j → i' < j → (D i).T x → (D i').T x → i = i'
  nx : p.NxAt w c
  ou : p.OuAt w os
  virgin : ∀ x, (∀ i, i < j → ¬ (D i).T x) → ∀ (k : Nat) (op : MemOp) (y : Touch), t[k]? = some op → op.act.touch? = some y → y.loc ≠ .cell (p.outA x)
  done : ∀ x, x < c → x < p.len → os[x]? = some (p.R x) ∨ ∃ i, i < j ∧ (D i).cur = some x
  over : ∀ i, i < j → (D i).sub = 0 → p.len ≤ c
  cle : c ≤ p.len + sumTo j fun i => ov (D i)
section
variable {p : Pool} {Sh0 : Loc → Prop} {gs : Array Goroutine} {w w' : World} {t : Trace} {j : Nat} {D : Nat → PD} {q : Nat → Nat} {d0 c c' : Nat} {os os' : Array Value} {d d' : PD} {g g' : Goroutine}
theorem Pool.Wlk.running {main : Bool} {Ok : Event → Prop} {K : Goroutine → Prop} (hK : ∀ g, K g → g.status = .running) : ∀ {m : Nat} {g : Goroutine}, p.Wlk main Ok K m g → g.status = .running
  | 0, g, h => hK g h
  | m + 1, g, h => h.elim (hK g) (·.1)
theorem WSit.status (H : p.Hyp) (h : WSit p d g w) : g.status = .running ∨ g.status = .finished := by
  cases h with
  | add m _ _ _ h => exact .inl (h.running fun g hg => (H.add g hg).1)
  | call i m _ _ _ hi _ h => exact .inl (h.running fun g hg => by obtain ⟨_, fr, _, _, _, rfl, _⟩ := H.call i g hi hg; rfl)
  | fst i _ _ _ _ _ h => obtain ⟨_, _, _, _, _, _, rfl, _⟩ := h; exact .inl rfl
  | store i m _ _ _ hi _ h => exact .inl (h.running fun g hg => (H.store i g hi hg).1)
  | r0 m _ _ _ h => exact .inl (h.running fun g hg => hg.1)
  | k1 m _ _ _ h => exact .inl (h.running fun g hg => hg.1)
  | d1 m _ _ _ h => exact .inl (h.running fun g hg => hg.1)
  | d2 m _ _ _ h => exact .inl (h.running fun g hg => hg.1)
  | d3 m _ _ _ h => exact .inl (h.running fun g hg => hg.1)
  | d4 m _ _ _ h => exact .inl (h.running fun g hg => hg.1)
  | quit q dd _ _ _ h => exact h.status
theorem WSit.woken (H : p.Hyp) (h : WSit p d g w) (a a' : Goroutine) (w' : World) : Conc.woken p.P a a' w' g = g := by
  unfold Conc.woken
  split
  · exact again_running _ (h.status H)
  · rfl
/-- What others do does not unseat it. -/
theorem WSit.stable (G0 : p.Geo) (h : WSit p d g w) (hs : w.heap.size ≤ w'.heap.size) (h1 : ∀ b, p.Still b → w'.heap[b]? = w.heap[b]?) (h2 : ∀ b, d.M b → w'.heap[b]? = w.heap[b]?) : WSit p d g w' := by
  cases h with
  | add m a b c h => exact .add m a b c h
  | call i m a b c e f h => exact .call i m a b c e f h
  | fst i a b c e f h =>
    obtain ⟨ρ, nn, frC, csC, cc, rest, hg, hf, hc, hw, hl, hM, hk⟩ := h
    refine .fst i a b c e f ⟨ρ, nn, frC, csC, cc, rest, hg, hf, hc, WR.stable hw hs fun y hy _ => ?_, hl, hM, hk⟩
    rcases Nat.lt_or_ge y p.N0 with hlt | hge
    · rw [hw.old y hlt]
      exact h1 y ⟨Nat.lt_of_lt_of_le hlt G0.n0, fun e => by have := G0.nx.1; omega, fun e => by have := G0.ou.1; omega, fun e => by have := G0.wg.1; omega⟩
    · exact h2 _ (hM y hge hy)
  | store i m a b c e f h => exact .store i m a b c e f h
  | r0 m a b c h => exact .r0 m a b c h
  | k1 m a b c h => exact .k1 m a b c h
  | d1 m a b c h => exact .d1 m a b c h
  | d2 m a b c h => exact .d2 m a b c h
  | d3 m a b c h => exact .d3 m a b c h
  | d4 m a b c h => exact .d4 m a b c h
  | quit m a b c d h => exact .quit m a b c d h
theorem ownOk (G0 : p.Geo) (mine : ∀ i b, i < j → (D i).M b → p.W1.heap.size ≤ b) (apart : ∀ i i' b, i < j → i' < j → (D i).M b → (D i').M b → i = i')
    (tapart : ∀ i i' x, i < j → i' < j → (D i).T x → (D i').T x → i = i') : p.OwnOk (Own p j D) := by
  have inM : ∀ {k b}, k < j → (D k).M b → b ≠ p.nx ∧ b ≠ p.ou ∧ b ≠ p.wg ∧ ¬ p.RO b := fun hk hb => by
    have := mine _ _ hk hb
    have h1 := G0.nx.2; have h2 := G0.ou.2; have h3 := G0.wg.2
    exact ⟨by omega, by omega, by omega, fun hr => by have := hr.1.1; omega⟩
  refine ⟨fun k k' l hk hk' => ?_, fun k l hk hs => ?_, fun k l hk hr => ?_⟩
  · obtain ⟨hkj, hk⟩ := hk
    obtain ⟨hkj', hk'⟩ := hk'
    rcases hk with ⟨a, rfl, hm | ⟨x, hx, rfl⟩⟩ | ⟨r, rfl, hm⟩
    · rcases hk' with ⟨a', ha, hm' | ⟨x', hx', rfl⟩⟩ | ⟨r', hr', _⟩
      · cases ha; exact apart k k' _ hkj hkj' hm hm'
      · cases ha; exact absurd rfl (inM hkj hm).2.1
      · cases hr'
    · rcases hk' with ⟨a', ha, hm' | ⟨x', hx', rfl⟩⟩ | ⟨r', hr', _⟩
      · cases ha; exact absurd rfl (inM hkj' hm').2.1
      · have : x = x' := by simpa [Pool.outA] using ha
        subst this
        exact tapart k k' x hkj hkj' hx hx'
      · cases hr'
    · rcases hk' with ⟨a', ha, _⟩ | ⟨r', hr', hm'⟩
      · cases ha
      · cases hr'; exact apart k k' _ hkj hkj' hm hm'
  · obtain ⟨hkj, hk⟩ := hk
    obtain ⟨b, rfl, hb⟩ := hs
    rcases hk with ⟨a, ha, hm | ⟨x, hx, rfl⟩⟩ | ⟨r, hr, _⟩
    · cases ha
      rcases hb with hb | hb
      · exact (inM hkj hm).1 hb
      · exact (inM hkj hm).2.2.1 hb
    · cases ha
      rcases hb with hb | hb
      · exact G0.nx_ou hb.symm
      · exact G0.ou_wg hb
    · cases hr
  · obtain ⟨hkj, hk⟩ := hk
    rcases hk with ⟨a, rfl, hm | ⟨x, hx, rfl⟩⟩ | ⟨r, rfl, hm⟩
    · rcases hr with ⟨b, hb, hro⟩ | ⟨r, hr, _⟩
      · cases hb; exact (inM hkj hm).2.2.2 hro
      · cases hr
    · rcases hr with ⟨b, hb, hro⟩ | ⟨r, hr, _⟩
      · cases hb; exact hro.1.2.2.1 rfl
      · cases hr
    · rcases hr with ⟨b, hb, _⟩ | ⟨r, hr, hro⟩
      · cases hb
      · cases hr; exact (inM hkj hm).2.2.2 hro
theorem Com.own (G0 : p.Geo) (h : Com p Sh0 gs w t j D q d0 c os) : p.OwnOk (Own p j D) := ownOk G0 (fun i b hi hb => (h.mine i b hi hb).1) h.apart h.tapart
theorem Com.inM (G0 : p.Geo) (h : Com p Sh0 gs w t j D q d0 c os) {k b : Nat} (hk : k < j) (hb : (D k).M b) : b ≠ p.nx ∧ b ≠ p.ou ∧ b ≠ p.wg ∧ ¬ p.Still b := by
  have := h.mine _ _ hk hb
  have h1 := G0.nx.2; have h2 := G0.ou.2; have h3 := G0.wg.2
  exact ⟨by omega, by omega, by omega, fun hr => by have := hr.1; omega⟩
theorem Com.s (h : Com p Sh0 gs w t j D q d0 c os) {st sm : Int} (hw : WgAt p.ty p.wg w st sm) : p.S w := ⟨h.still, h.sizeW, ⟨st, sm, hw⟩, ⟨c, h.nx⟩, ⟨os, h.ou⟩⟩
theorem low_touch {a : MemAct} {B : Nat} {x : Touch} (h : a.low B) (hx : a.touch? = some x) : x.loc.low B := by
  cases a with
  | access e => simp only [MemAct.touch?, Option.some.injEq] at hx; subst hx; exact h
  | mark m => cases m <;> simp only [MemAct.touch?, Option.some.injEq, reduceCtorEq] at hx <;> (subst hx; exact h)
  | _ => cases hx
/-- WHATEVER STEP OF WORKER NUMBER i. -/
theorem Com.stepW (H : p.Hyp) (h : Com p Sh0 gs w t j D q d0 c os) {i : Nat} (hi : i < j) {fn : FuncId} {pos : String} {es : Array Event}
    (hsame : ∀ b, b < w.heap.size → ¬ (D i).M b → b ≠ p.nx → b ≠ p.ou → b ≠ p.wg → w'.heap[b]? = w.heap[b]?) (hsize : w.heap.size ≤ w'.heap.size) (hos : w'.os = w.os ∧ w'.output = w.output)
    (hM : ∀ b, (D i).M b → d'.M b) (hM' : ∀ b, d'.M b → (D i).M b ∨ (w.heap.size ≤ b ∧ b < w'.heap.size))
    (hT : ∀ x, (D i).T x → d'.T x) (hT' : ∀ x, d'.T x → (D i).T x ∨ (x = c ∧ c < c')) (hcc : c ≤ c')
    (hwk : WSit p d' g' w') (hev : ∀ op ∈ MemOp.ofEvents (p.g0 + i) fn pos es, p.OkW (Own p j (upd D i d')) w'.heap.size i op) (hnr : ∀ e ∈ es, e.loc ≠ .mark (.release (stA p.wg)))
    (hdeaf : deafBehind (D i).wd.deaf es = d'.wd.deaf) (hrel : d'.wd.stage ≤ 6 → ∃ r, RelBy (stA p.wg) (t ++ MemOp.ofEvents (p.g0 + i) fn pos es) (p.g0 + i) r)
    (hnx : p.NxAt w' c') (hou : p.OuAt w' os') (hdone : ∀ x, x < c' → x < p.len → os'[x]? = some (p.R x) ∨ ∃ i', i' < j ∧ (upd D i d' i').cur = some x)
    (hover : d'.sub = 0 → p.len ≤ c') (hcle : c' ≤ p.len + sumTo j fun a => ov (upd D i d' a)) :
    Com p Sh0 ((gs.map (Conc.woken p.P g g' w')).setIfInBounds (p.g0 + i) g') w' (t ++ MemOp.ofEvents (p.g0 + i) fn pos es) j (upd D i d') q d0 c' os' := by
  have hg0 := H.g0
  have other : ∀ {k}, k ≠ p.g0 + i → Deaf (t ++ MemOp.ofEvents (p.g0 + i) fn pos es) k = Deaf t k := fun hk => Deaf_other t (Ne.symm hk) _ g_of_ofEvents
  have mine' : ∀ k b, k < j → (upd D i d' k).M b → p.W1.heap.size ≤ b ∧ b < w'.heap.size := by
    intro k b hk hb
    by_cases e : k = i
    · subst e
      rw [upd_same] at hb
      rcases hM' b hb with hb | hb
      · have := h.mine k b hk hb; exact ⟨this.1, by omega⟩
      · exact ⟨Nat.le_trans h.sizeW hb.1, hb.2⟩
    · rw [upd_ne D _ e] at hb
      have := h.mine k b hk hb; exact ⟨this.1, by omega⟩
  have old_new : ∀ k b, k < j → k ≠ i → (D k).M b → d'.M b → False := by
    intro k b hk hne hb hb'
    rcases hM' b hb' with h1 | h1
    · exact hne (h.apart k i b hk hi hb h1)
    · have := h.mine k b hk hb; omega
  have apart' : ∀ k k' b, k < j → k' < j → (upd D i d' k).M b → (upd D i d' k').M b → k = k' := by
    intro k k' b hk hk' hb hb'
    by_cases e : k = i
    · by_cases e' : k' = i
      · rw [e, e']
      · subst e
        rw [upd_same] at hb
        rw [upd_ne D _ e'] at hb'
        exact (old_new k' b hk' e' hb' hb).elim
    · rw [upd_ne D _ e] at hb
      by_cases e' : k' = i
      · subst e'
        rw [upd_same] at hb'
        exact (old_new k b hk e hb hb').elim
      · rw [upd_ne D _ e'] at hb'
        exact h.apart k k' b hk hk' hb hb'
  have old_newT : ∀ k x, k < j → k ≠ i → (D k).T x → d'.T x → False := by
    intro k x hk hne hx hx'
    rcases hT' x hx' with h1 | ⟨h1, _⟩
    · exact hne (h.tapart k i x hk hi hx h1)
    · have := h.tk k x hk hx; omega
  have tapart' : ∀ k k' x, k < j → k' < j → (upd D i d' k).T x → (upd D i d' k').T x → k = k' := by
    intro k k' x hk hk' hb hb'
    by_cases e : k = i
    · by_cases e' : k' = i
      · rw [e, e']
      · subst e
        rw [upd_same] at hb
        rw [upd_ne D _ e'] at hb'
        exact (old_newT k' x hk' e' hb' hb).elim
    · rw [upd_ne D _ e] at hb
      by_cases e' : k' = i
      · subst e'
        rw [upd_same] at hb'
        exact (old_newT k x hk e hb hb').elim
      · rw [upd_ne D _ e'] at hb'
        exact h.tapart k k' x hk hk' hb hb'
  have own' := ownOk (D := upd D i d') H.toGeo (fun k b hk hb => (mine' k b hk hb).1) apart' tapart'
  have ti' : p.TI Sh0 (t ++ MemOp.ofEvents (p.g0 + i) fn pos es) j (Own p j (upd D i d')) w'.heap.size := by
    refine ((h.ti.grow (Own' := Own p j (upd D i d')) fun k l hk => ?_).mono hsize).appW own' hi hg0 hev
    by_cases e : k = i
    · subst e
      obtain ⟨hkj, hk⟩ := hk
      rw [upd_same] at hk
      have fresh : ∀ b, w.heap.size ≤ b → ∀ (i' : Nat) (op : MemOp) (x : Touch), t[i']? = some op → op.act.touch? = some x → (∀ a, x.loc = .cell a → a.block ≠ b) ∧ (∀ r, x.loc = .obj r → r ≠ b) := by
        intro b hb i' op x h1 h2
        have hl := low_touch (h.ti.low op (Array.mem_of_getElem? h1)) h2
        refine ⟨fun a e => ?_, fun r e => ?_⟩
        · rw [e] at hl
          have : a.block < w.heap.size := hl
          omega
        · rw [e] at hl
          have : r < w.heap.size := hl
          omega
      rcases hk with ⟨a, rfl, hm | ⟨x, hx, rfl⟩⟩ | ⟨r, rfl, hm⟩
      · rcases hM' _ hm with h1 | h1
        · exact .inl ⟨hkj, .inl ⟨a, rfl, .inl h1⟩⟩
        · exact .inr fun i' op x h2 h3 e => (fresh _ h1.1 i' op x h2 h3).1 a e rfl
      · rcases hT' x hx with h1 | ⟨h1, _⟩
        · exact .inl ⟨hkj, .inl ⟨_, rfl, .inr ⟨x, h1, rfl⟩⟩⟩
        · refine .inr fun i' op y h2 h3 => h.virgin x (fun k' hk' hx' => ?_) i' op y h2 h3
          have := h.tk k' x hk' hx'
          omega
      · rcases hM' _ hm with h1 | h1
        · exact .inl ⟨hkj, .inr ⟨r, rfl, h1⟩⟩
        · exact .inr fun i' op x h2 h3 e => (fresh _ h1.1 i' op x h2 h3).2 r e rfl
    · obtain ⟨hkj, hk⟩ := hk
      rw [upd_ne D _ e] at hk
      exact .inl ⟨hkj, hk⟩
  have still' : ∀ b, p.Still b → w'.heap[b]? = w.heap[b]? := fun b hb =>
    hsame b (Nat.lt_of_lt_of_le hb.1 h.sizeW) (fun hm => (h.inM H.toGeo hi hm).2.2.2 hb) hb.2.1 hb.2.2.1 hb.2.2.2
  refine ⟨by simp [h.size], fun k x hk0 hk hx => ?_, fun k hk => ?_, fun b hb => (still' b hb).trans (h.still b hb), Nat.le_trans h.sizeW hsize, ⟨hos.1.trans h.outs.1, hos.2.trans h.outs.2⟩, ti', h.norel.app fun op hop hm => ?_, by rw [other (by omega), h.deaf0], fun k hk => ?_, fun k hk hst => ?_, mine', apart', fun k x hk hx => ?_, tapart', hnx, hou, fun x hx k op y h1 h2 => ?_, hdone, fun k hk hs => ?_, hcle⟩
  · have hne : p.g0 + i ≠ k := by omega
    rw [get_map_set _ _ _ _ hne] at hx
    obtain ⟨y, hy, rfl⟩ := Option.map_eq_some_iff.1 hx
    have hq := h.old k y hk0 hk hy
    rw [woken_quitsD hq, other (by omega)]
    exact hq
  · by_cases e : k = i
    · subst e
      exact ⟨g', get_map_set_same _ _ _ (by rw [h.size]; omega), by rw [upd_same]; exact hwk⟩
    · obtain ⟨x, hx, hsx⟩ := h.wk k hk
      refine ⟨x, by rw [get_map_set _ _ _ _ (by omega), hx, Option.map_some, hsx.woken H], ?_⟩
      rw [upd_ne D _ e]
      refine hsx.stable H.toGeo hsize still' fun b hb => ?_
      have hin := h.inM H.toGeo hk hb
      exact hsame b (h.mine k b hk hb).2 (fun hb' => e (h.apart k i b hk hi hb hb')) hin.1 hin.2.1 hin.2.2.1
  · rw [ofEvents_eq] at hop
    obtain ⟨e, he, rfl⟩ := Array.mem_map.1 hop
    exact hnr e he (loc_of_ofEvent hm)
  · by_cases e : k = i
    · subst e; rw [Deaf_own, h.deafW k hk, upd_same]; exact hdeaf
    · rw [other (by omega), h.deafW k hk, upd_ne D _ e]
  · by_cases e : k = i
    · subst e; rw [upd_same] at hst; exact hrel hst
    · rw [upd_ne D _ e] at hst
      obtain ⟨r, hr⟩ := h.rel k hk hst
      exact ⟨r, hr.appOther g_of_ofEvents (by omega)⟩
  · by_cases e : k = i
    · subst e
      rw [upd_same] at hx
      rcases hT' x hx with h1 | ⟨h1, h2⟩
      · have := h.tk k x hk h1; omega
      · omega
    · rw [upd_ne D _ e] at hx
      have := h.tk k x hk hx; omega
  · rcases getElem?_append_cases h1 with ⟨_, h1'⟩ | ⟨_, hm⟩
    · refine h.virgin x (fun k hk hx' => hx k hk ?_) _ op y h1' h2
      by_cases e : k = i
      · subst e
        rw [upd_same]
        exact hT x hx'
      · rw [upd_ne D _ e]; exact hx'
    · intro e
      rcases (hev op hm).touch y h2 with ⟨⟨a, ha, hb⟩, _⟩ | ⟨⟨_, ho⟩, _⟩ | ⟨hr, _⟩
      · rw [e] at ha; cases ha
        rcases hb with hb | hb
        · exact H.nx_ou hb.symm
        · exact H.ou_wg hb
      · rw [upd_same] at ho
        rcases ho with ⟨a, ha, hm' | ⟨x', hx', rfl⟩⟩ | ⟨r, hr, _⟩
        · rw [e] at ha; cases ha
          have := mine' i p.ou hi (by rw [upd_same]; exact hm')
          have := H.ou.2
          omega
        · rw [e] at ha
          have : x = x' := by simpa [Pool.outA] using ha
          subst this
          exact hx i hi (by rw [upd_same]; exact hx')
        · rw [e] at hr; cases hr
      · rcases hr with ⟨a, ha, hro⟩ | ⟨r, hr, _⟩
        · rw [e] at ha; cases ha; exact hro.1.2.2.1 rfl
        · rw [e] at hr; cases hr
  · by_cases e : k = i
    · subst e; rw [upd_same] at hs; exact hover hs
    · rw [upd_ne D _ e] at hs
      exact Nat.le_trans (h.over k hk hs) hcc
end
end Go.Po
/- The pool, part 6: the starter; the invariant; the master law for a worker's step. -/
namespace Go.Po
open Go Go.Conc Go.Tw
open Go.ConcR (KK WgAt stA smA rd wr g_of_ofEvents loc_of_ofEvent again_blocked)
open Go.ConcN (CTag phi Mode cnt Vc WD upd sumTo upd_same upd_ne RelBy get_map_set get_map_set_same Deaf_absent sumTo_congr sumTo_upd phi_mono phi_retag)

variable [FnSet]
/-- Where the starter stands. -/
inductive CS (p : Pool) : CTag → Nat → Nat → Nat → Goroutine → Prop
  | skd {r m : Nat} {g : Goroutine} : r < p.n → p.M0 (p.AtKdS (p.Spawns r)) m g → CS p (.sp r 5) (p.n - (r + 1)) m 0 g
  | sa1 {r m : Nat} {g : Goroutine} : r < p.n → p.M0 (p.AtA1 (p.Spawns r)) m g → CS p (.sp r 4) (p.n - (r + 1)) m 1 g
  | ske {r m : Nat} {g : Goroutine} : r < p.n → p.M0 (p.AtKeS (p.Spawns r)) m g → CS p (.sp r 3) (p.n - (r + 1)) m 1 g
  | sgo {r m : Nat} {g : Goroutine} : r < p.n → p.M0 (p.AtGoS (p.Spawns r)) m g → CS p (.sp r 2) (p.n - (r + 1)) m 0 g
  | kd {m : Nat} {g : Goroutine} : p.M0 p.AtKd m g → CS p .kd p.n m 0 g
  | anch {m : Nat} {g : Goroutine} : p.M0 p.Anch m g → CS p .anch p.n m 1 g
  | w1 {m : Nat} {g : Goroutine} : p.M0 p.AtW1 m g → CS p .w1 p.n m 1 g
  | w2 {vs m : Nat} {g : Goroutine} : p.M0 (p.AtW2 vs) m g → CS p (.w2 vs) p.n m 1 g
  | w3 {m : Nat} {g : Goroutine} : p.M0 p.AtW3 m g → CS p .w3 p.n (m + 1) 1 g
  | blk {g : Goroutine} : p.AtW3 g → CS p .blk p.n 0 1 { g with status := .blocked }
  | w4 {m : Nat} {g : Goroutine} : p.M0 p.AtW4 m g → CS p .w4 p.n m 1 g
  | ke {m : Nat} {g : Goroutine} : p.M0 p.AtKe m g → CS p .ke p.n m 1 g
  | acq {m : Nat} {g : Goroutine} : p.M0 p.AtAcq m g → CS p .acq p.n m 0 g
/-- What is asked of the starter. -/
structure Pool.HypM (p : Pool) : Prop extends p.Hyp where
  n : p.n < 2147483648
  pos : 0 < p.n
  anch : ∀ g, p.Anch g → g.status = .running ∧ ∃ m, p.M0 p.AtW1 m g
section
variable {p : Pool} {tag : CTag} {j f d : Nat} {a : Goroutine}
theorem CS.running (H : p.HypM) (h : CS p tag j f d a) (hb : tag ≠ .blk) : a.status = .running := by
  cases h with
  | blk _ => exact absurd rfl hb
  | anch h => exact h.running fun g hg => (H.anch g hg).1
  | skd _ h => exact h.running fun g hg => hg.1
  | sa1 _ h => exact h.running fun g hg => hg.1
  | ske _ h => exact h.running fun g hg => hg.1
  | sgo _ h => exact h.running fun g hg => hg.1
  | kd h => exact h.running fun g hg => hg.1
  | w1 h => exact h.running fun g hg => hg.1
  | w2 h => exact h.running fun g hg => hg.1
  | w3 h => exact h.running fun g hg => hg.1
  | w4 h => exact h.running fun g hg => hg.1
  | ke h => exact h.running fun g hg => hg.1
  | acq h => exact h.running fun g hg => hg.1
theorem CS.status (H : p.HypM) (h : CS p tag j f d a) : a.status = .running ∨ a.status = .blocked := by
  by_cases hb : tag = .blk
  · subst hb; cases h; exact .inr rfl
  · exact .inl (h.running H hb)
/-- Under a step of another's. -/
theorem CS.wokenBy (H : p.HypM) (h : CS p tag j f d a) (x x' : Goroutine) (w' : World) : ∃ tag' f', CS p tag' j f' d (Conc.woken p.P x x' w' a) ∧ f' ≤ f + 1 ∧ (tag' = tag ∨ (tag = .blk ∧ tag' = .w3)) ∧
    (mayWake p.P x = true → x'.status = .running → tag' ≠ .blk) := by
  by_cases hb : tag = .blk
  · subst hb
    cases h with
    | @blk g hw =>
      unfold Conc.woken
      by_cases hc : (mayWake p.P x && x'.status != .blocked && x'.status != .waiting) = true
      · rw [if_pos hc, again_blocked hw.1 hw.2.1]
        exact ⟨.w3, 1, .w3 (m := 0) hw, by omega, .inr ⟨rfl, rfl⟩, fun _ _ => by simp⟩
      · rw [if_neg hc]
        refine ⟨.blk, 0, .blk hw, by omega, .inl rfl, fun h1 h2 => ?_⟩
        exact absurd (by rw [h1, h2]; rfl) hc
  · have hr := h.running H hb
    have : Conc.woken p.P x x' w' a = a := by
      unfold Conc.woken
      split
      · exact again_running _ (.inl hr)
      · rfl
    rw [this]
    exact ⟨tag, f, h, by omega, .inl rfl, fun _ _ => hb⟩
theorem CS.bound (h : CS p tag j f d a) : j + Go.ConcN.pend tag ≤ p.n ∧ j ≤ p.n := by
  cases h <;> simp only [Go.ConcN.pend] <;> (try simp) <;> omega
end
abbrev DW (D : Nat → PD) : Nat → WD := fun i => (D i).wd
def wgt (d : PD) : Nat := 8 * d.wd.stage + d.sub
/-- The measure's three parts. -/
def mA (p : Pool) (tag : CTag) (j : Nat) (D : Nat → PD) (c : Nat) : Nat := 100 * phi p.n (Vc j (DW D)) tag + sumTo j (fun i => wgt (D i)) + 4 * (p.len - c)
def mV (p : Pool) (D : Nat → PD) (h : ∀ i, Acc (Chd p.P) (D i).st) : VSub p.P := ⟨fun i => (D i).st, h⟩
def mF (p : Pool) (f0 j : Nat) (D : Nat → PD) (q : Nat → Nat) : Nat := f0 + 2 * sumTo j (fun i => (D i).wd.fuel) + 2 * sumTo p.g0 q
def Inv (p : Pool) (Sh0 : Loc → Prop) (μ : Nat × VSub p.P × Nat) (m : Machine) (t : Trace) : Prop :=
  ∃ (gs : Array Goroutine) (w : World) (sl : Option (Nat × Nat)) (j : Nat) (D : Nat → PD) (q : Nat → Nat) (tag : CTag) (f0 d0 c : Nat) (os : Array Value) (a : Goroutine) (st sm : Int) (hacc : ∀ i, Acc (Chd p.P) (D i).st),
    m = crowd gs w sl ∧ gs[0]? = some a ∧ CS p tag j f0 d0 a ∧ Com p Sh0 gs w t j D q d0 c os ∧ WgAt p.ty p.wg w st sm ∧ Go.ConcN.Mode j (DW D) tag st sm ∧ μ = (mA p tag j D c, mV p D hacc, mF p f0 j D q)
section
variable {p : Pool} {Sh0 : Loc → Prop} {gs : Array Goroutine} {w w' : World} {t : Trace} {j : Nat} {D : Nat → PD} {q : Nat → Nat} {d0 c c' : Nat} {os os' : Array Value} {d' : PD} {g g' a : Goroutine} {tag : CTag} {f0 : Nat} {st' sm' : Int} {sl : Option (Nat × Nat)}
theorem DW_upd (D : Nat → PD) (i : Nat) (d' : PD) : DW (upd D i d') = upd (DW D) i d'.wd := by
  funext k
  by_cases e : k = i
  · subst e; simp [DW, upd_same]
  · simp [DW, upd_ne _ _ e]
/-- How the measure falls at a worker's step. -/
def Falls (p : Pool) (dO dN : PD) (c c' : Nat) : Prop :=
  (cnt dN.wd ≤ cnt dO.wd ∧ wgt dN + 4 * (p.len - c') < wgt dO + 4 * (p.len - c)) ∨ (dN.wd.stage = dO.wd.stage ∧ dN.sub = dO.sub ∧ c' = c ∧ Chd p.P dN.st dO.st) ∨ (dN.wd.stage = dO.wd.stage ∧ dN.sub = dO.sub ∧ c' = c ∧ dN.st = dO.st ∧ dN.wd.fuel + 1 = dO.wd.fuel)
theorem workerStep (H : p.HypM) (ha : gs[0]? = some a) (hcs : CS p tag j f0 d0 a) (hcom : Com p Sh0 gs w t j D q d0 c os) (hacc : ∀ i, Acc (Chd p.P) (D i).st) {i : Nat} (hi : i < j) (hg : gs[p.g0 + i]? = some g) {es : Array Event}
    (hgo : stepG p.P false g w = .go g' w' es) (hcom' : Com p Sh0 ((gs.map (Conc.woken p.P g g' w')).setIfInBounds (p.g0 + i) g') w' (t ++ MemOp.ofEvents (p.g0 + i) g.frame.fn g.frame.place es) j (upd D i d') q d0 c' os')
    (hwg' : WgAt p.ty p.wg w' st' sm') (hmode : ∀ tag', (tag' = tag ∨ (tag = .blk ∧ tag' = .w3)) → (mayWake p.P g = true → g'.status = .running → tag' ≠ .blk) → Go.ConcN.Mode j (upd (DW D) i d'.wd) tag' st' sm')
    (hacc' : Acc (Chd p.P) d'.st) (hlt : Falls p (D i) d' c c') :
    ∃ m₁ ops μ', runT p.P (crowd gs w sl) (p.g0 + i) = (.next m₁, ops) ∧ LtM p.P p.n μ' (mA p tag j D c, mV p D hacc, mF p f0 j D q) ∧ Inv p Sh0 μ' m₁ (t ++ ops) := by
  have hg0 := H.g0
  obtain ⟨tag', f', hcs', hf', htag, hwk⟩ := hcs.wokenBy H g g' w'
  have hrun := runT_crowd_go (P := p.P) (sl := sl) (i := p.g0 + i) hg (by rw [show (p.g0 + i == 0) = false by simp; omega]; exact hgo)
  have hacc2 : ∀ k, Acc (Chd p.P) (upd D i d' k).st := fun k => by
    by_cases e : k = i
    · subst e; rw [upd_same]; exact hacc'
    · rw [upd_ne D _ e]; exact hacc k
  have e1 := sumTo_upd (DW D) d'.wd cnt hi
  have e2 := sumTo_upd D d' wgt hi
  have e3 := sumTo_upd D d' (fun d => d.wd.fuel) hi
  have ev : Vc j (DW (upd D i d')) = sumTo j fun a => cnt (upd (DW D) i d'.wd a) := by rw [DW_upd]; rfl
  have ev0 : Vc j (DW D) = sumTo j fun a => cnt (DW D a) := rfl
  have ha' : ((gs.map (Conc.woken p.P g g' w')).setIfInBounds (p.g0 + i) g')[0]? = some (Conc.woken p.P g g' w' a) := by
    rw [get_map_set _ _ _ _ (by omega), ha]; rfl
  refine ⟨_, _, (mA p tag' j (upd D i d') c', mV p (upd D i d') hacc2, mF p f' j (upd D i d') q), hrun, ?_, _, w', sl, j, upd D i d', q, tag', f', d0, c', os', _, st', sm', hacc2, rfl, ha', hcs', hcom', hwg', by rw [DW_upd]; exact hmode tag' htag hwk, rfl⟩
  have hj := hcs.bound
  rcases hlt with ⟨h1, h2⟩ | ⟨h1, h2, h3, h4⟩ | ⟨h1, h2, h3, h4, h5⟩
  · refine ltM_a _ _ _ _ ?_
    have hle : Vc j (DW (upd D i d')) ≤ Vc j (DW D) := by rw [ev, ev0]; simp only [DW] at e1 ⊢; omega
    have hphi := phi_mono p.n hle tag'
    rw [phi_retag p.n _ htag, phi_retag p.n _ htag] at hphi
    unfold mA
    rw [phi_retag p.n _ htag]
    have hk : wgt (D i) ≤ sumTo j (fun k => wgt (D k)) := Go.ConcN.le_sumTo (f := fun k => wgt (D k)) hi
    omega
  · have hc : cnt d'.wd = cnt (D i).wd := by simp only [cnt, h1]
    have hA : mA p tag' j (upd D i d') c' = mA p tag j D c := by
      unfold mA
      have hv : Vc j (DW (upd D i d')) = Vc j (DW D) := by rw [ev, ev0]; simp only [DW] at e1 ⊢; omega
      rw [hv, phi_retag p.n _ htag, h3]
      have : wgt d' = wgt (D i) := by simp only [wgt, h1, h2]
      omega
    rw [hA]
    refine ltM_v _ _ ⟨i, by omega, ?_, fun k hk => ?_⟩
    · simp only [mV, upd_same]; exact h4
    · simp only [mV, upd_ne D _ hk]
  · have hc : cnt d'.wd = cnt (D i).wd := by simp only [cnt, h1]
    have hA : mA p tag' j (upd D i d') c' = mA p tag j D c := by
      unfold mA
      have hv : Vc j (DW (upd D i d')) = Vc j (DW D) := by rw [ev, ev0]; simp only [DW] at e1 ⊢; omega
      rw [hv, phi_retag p.n _ htag, h3]
      have : wgt d' = wgt (D i) := by simp only [wgt, h1, h2]
      omega
    have hV : mV p (upd D i d') hacc2 = mV p D hacc := by
      unfold mV
      congr 1
      funext k
      by_cases e : k = i
      · subst e; rw [upd_same]; exact h4
      · rw [upd_ne D _ e]
    rw [hA, hV]
    refine ltM_f ?_
    unfold mF
    omega
end
end Go.Po
/- The pool, part 7: each of a worker's situations: its step keeps the invariant and lowers the measure. -/
namespace Go.Po
open Go Go.Conc Go.Tw
open Go.ConcR (KK WgAt stA smA rd wr g_of_ofEvents loc_of_ofEvent again_blocked Bk ofEvent_loc_mark ofEvent_cell bk_of_mute)
open Go.ConcN (CTag phi cnt Vc WD upd sumTo upd_same upd_ne RelBy get_map_set get_map_set_same Deaf_absent sumTo_congr sumTo_upd phi_mono phi_retag bk_cell)

variable [FnSet]
section
variable {p : Pool} {Sh0 : Loc → Prop} {gs : Array Goroutine} {w w' : World} {t : Trace} {j : Nat} {D : Nat → PD} {q : Nat → Nat} {d0 c c' : Nat} {os os' : Array Value} {d' : PD} {g g' a : Goroutine} {tag : CTag} {f0 : Nat} {st sm st' sm' : Int} {sl : Option (Nat × Nat)} {es : Array Event}
theorem own_upd {i : Nat} (hM : d'.M = (D i).M) (hT : d'.T = (D i).T) : Own p j (upd D i d') = Own p j D := by
  funext k l
  unfold Own
  by_cases e : k = i
  · subst e; rw [upd_same, hM, hT]
  · rw [upd_ne D _ e]
theorem ov_upd {i : Nat} (hs : ov d' = ov (D i)) : (sumTo j fun a => ov (upd D i d' a)) = sumTo j fun a => ov (D a) := by
  refine sumTo_congr fun a _ => ?_
  by_cases e : a = i
  · subst e; rw [upd_same, hs]
  · rw [upd_ne D _ e]
/-- At most the group's block turns; the worker's own stays. -/
theorem Com.quiet (H : p.Hyp) (h : Com p Sh0 gs w t j D q d0 c os) {i : Nat} (hi : i < j) {fn : FuncId} {pos : String}
    (hb : ∀ b, b ≠ p.wg → w'.heap[b]? = w.heap[b]?) (hsz : w'.heap.size = w.heap.size) (hos : w'.os = w.os ∧ w'.output = w.output) (hM : d'.M = (D i).M) (hT : d'.T = (D i).T) (hcur : d'.cur = (D i).cur) (hsub : d'.sub = (D i).sub)
    (hwk : WSit p d' g' w') (hev : ∀ op ∈ MemOp.ofEvents (p.g0 + i) fn pos es, p.OkW (Own p j D) w.heap.size i op) (hnr : ∀ e ∈ es, e.loc ≠ .mark (.release (stA p.wg)))
    (hdeaf : deafBehind (D i).wd.deaf es = d'.wd.deaf) (hrel : d'.wd.stage ≤ 6 → ∃ r, RelBy (stA p.wg) (t ++ MemOp.ofEvents (p.g0 + i) fn pos es) (p.g0 + i) r) :
    Com p Sh0 ((gs.map (Conc.woken p.P g g' w')).setIfInBounds (p.g0 + i) g') w' (t ++ MemOp.ofEvents (p.g0 + i) fn pos es) j (upd D i d') q d0 c os := by
  refine h.stepW H hi (fun b hb1 hb2 hb3 hb4 hb5 => hb b hb5) (by omega) hos (fun b hb => by rw [hM]; exact hb) (fun b hb => by rw [hM] at hb; exact .inl hb) (fun x hx => by rw [hT]; exact hx) (fun x hx => by rw [hT] at hx; exact .inl hx) (Nat.le_refl _) hwk
    (by rw [own_upd hM hT, hsz]; exact hev) hnr hdeaf hrel ((hb _ H.nx_wg).trans h.nx) ⟨(hb _ H.ou_wg).trans h.ou.1, h.ou.2⟩ (fun x h1 h2 => ?_) (fun hs => h.over i hi (by rw [← hsub]; exact hs)) (by rw [ov_upd (by simp only [ov, hsub])]; exact h.cle)
  refine (h.done x h1 h2).imp id fun ⟨k, hk, hc⟩ => ⟨k, hk, ?_⟩
  by_cases e : k = i
  · subst e; rw [upd_same, hcur]; exact hc
  · rw [upd_ne D _ e]; exact hc
theorem okW_of_EvR (H : p.Hyp) (h : Com p Sh0 gs w t j D q d0 c os) {i : Nat} {fn : FuncId} {pos : String} (hes : ∀ e ∈ es, p.EvR e) {Ow : Nat → Loc → Prop} {B : Nat} (hB : w.heap.size ≤ B) : ∀ op ∈ MemOp.ofEvents (p.g0 + i) fn pos es, p.OkW Ow B i op := by
  intro op hop
  rw [ofEvents_eq] at hop
  obtain ⟨e, he, rfl⟩ := Array.mem_map.1 hop
  obtain ⟨b, rfl, hb⟩ := hes e he
  refine ⟨rfl, fun x hx => ?_, ?_⟩
  · simp only [ofEvent_cell, MemAct.touch?, Option.some.injEq] at hx
    subst hx
    exact .inr (.inr ⟨.inl ⟨b, rfl, hb⟩, rfl, rfl⟩)
  · simp only [ofEvent_cell]
    have := hb.1.1
    have := h.sizeW
    show b.block < B
    omega
theorem okW_of_Bk (H : p.Hyp) (h : Com p Sh0 gs w t j D q d0 c os) {i : Nat} {fn : FuncId} {pos : String} (hes : ∀ e ∈ es, Bk p.wg e) {Ow : Nat → Loc → Prop} : ∀ op ∈ MemOp.ofEvents (p.g0 + i) fn pos es, p.OkW Ow w.heap.size i op := by
  intro op hop
  rw [ofEvents_eq] at hop
  obtain ⟨e, he, rfl⟩ := Array.mem_map.1 hop
  rcases hes e he with h1 | h1 | ⟨b, wr, rfl, hb⟩
  · refine ⟨rfl, fun x hx => ?_, ?_⟩
    · simp only [ofEvent_loc_mark h1] at hx; cases hx
    · simp only [ofEvent_loc_mark h1]; trivial
  · refine ⟨rfl, fun x hx => ?_, ?_⟩
    · simp only [ofEvent_loc_mark h1] at hx; cases hx
    · simp only [ofEvent_loc_mark h1]; trivial
  · refine ⟨rfl, fun x hx => ?_, ?_⟩
    · simp only [ofEvent_cell, MemAct.touch?, Option.some.injEq] at hx
      subst hx
      exact .inl ⟨⟨b, rfl, .inr hb⟩, rfl⟩
    · simp only [ofEvent_cell]
      have := H.wg.2
      have := h.sizeW
      show b.block < _
      omega
theorem idle_EvR (hes : ∀ e ∈ es, p.EvR e) (d : Nat) : deafBehind d es = d := Go.ConcN.deafBehind_idle (fun e he => by obtain ⟨b, rfl, _⟩ := hes e he; exact ⟨by simp, by simp⟩) d
theorem nr_EvR (hes : ∀ e ∈ es, p.EvR e) : ∀ e ∈ es, e.loc ≠ .mark (.release (stA p.wg)) := fun e he => by obtain ⟨b, rfl, _⟩ := hes e he; simp
theorem Pool.Wlk.cases {main : Bool} {Ok : Event → Prop} {K : Goroutine → Prop} {m : Nat} {g : Goroutine} (h : p.Wlk main Ok K m g) :
    K g ∨ ∃ m', m = m' + 1 ∧ g.status = .running ∧ ∀ w, p.S w → ∃ g' d es, stepG p.P main g w = .go g' (w.at d) es ∧ (∀ e ∈ es, Ok e) ∧ p.Wlk main Ok K m' g' := by
  cases m with
  | zero => exact .inl h
  | succ m => exact h.imp id fun ⟨h1, h2⟩ => ⟨m, rfl, h1, h2⟩
end
end Go.Po
/- The pool, part 8: whatever step of a worker's keeps the invariant and lowers the measure. -/
namespace Go.Po
open Go Go.Conc Go.Tw
open Go.ConcR (KK WgAt stA smA rd wr g_of_ofEvents loc_of_ofEvent again_blocked Bk ofEvent_loc_mark ofEvent_cell bk_of_mute)
open Go.ConcN (CTag phi cnt Vc WD upd sumTo upd_same upd_ne RelBy get_map_set get_map_set_same Deaf_absent sumTo_congr sumTo_upd phi_mono phi_retag bk_cell isW3 OpenSt pend)

/-- What a step of goroutine k owes. -/
def Goal [FnSet] (p : Pool) (Sh0 : Loc → Prop) (gs : Array Goroutine) (w : World) (sl : Option (Nat × Nat)) (t : Trace) (k : Nat) (μ : Nat × VSub p.P × Nat) : Prop :=
  ∃ m₁ ops μ', runT p.P (crowd gs w sl) k = (.next m₁, ops) ∧ LtM p.P p.n μ' μ ∧ Inv p Sh0 μ' m₁ (t ++ ops)
variable [FnSet]
section
variable {p : Pool} {Sh0 : Loc → Prop} {gs : Array Goroutine} {w w' : World} {t : Trace} {j : Nat} {D : Nat → PD} {q : Nat → Nat} {d0 c c' : Nat} {os os' : Array Value} {d' : PD} {g g' a : Goroutine} {tag : CTag} {f0 : Nat} {st sm st' sm' : Int} {sl : Option (Nat × Nat)} {es : Array Event}
theorem setCell_size (w : World) (a : Addr) (v : Value) : (w.setCell a v).heap.size = w.heap.size := by simp [World.setCell]
theorem setCell_ne (w : World) (a : Addr) (v : Value) {b : Nat} (h : b ≠ a.block) : (w.setCell a v).heap[b]? = w.heap[b]? := by
  simp only [World.setCell, Array.getElem?_modify]
  rw [if_neg (fun e => h e.symm)]
theorem setCell_at_ (w : World) {b : Nat} (off : Nat) (v : Value) {cs : Array Value} {ty : TypeId} (h : w.heap[b]? = some (.cells cs ty)) : (w.setCell ⟨b, off, none⟩ v).heap[b]? = some (.cells (cs.setIfInBounds off v) ty) := by
  simp only [World.setCell, Array.getElem?_modify, if_true, h, Option.map_some]
  rfl
/-- A step at stage 7 that stays there. -/
theorem at7 (H : p.HypM) (ha : gs[0]? = some a) (hcs : CS p tag j f0 d0 a) (hcom : Com p Sh0 gs w t j D q d0 c os) (hacc : ∀ i, Acc (Chd p.P) (D i).st) (hmode : Go.ConcN.Mode j (DW D) tag st sm) {i : Nat} (hi : i < j) (hg : gs[p.g0 + i]? = some g)
    {m m' : Nat} (hwd : (D i).wd = ⟨7, m, 0⟩) (hwd' : d'.wd = ⟨7, m', 0⟩)
    (hgo : stepG p.P false g w = .go g' w' es) (hcom' : Com p Sh0 ((gs.map (Conc.woken p.P g g' w')).setIfInBounds (p.g0 + i) g') w' (t ++ MemOp.ofEvents (p.g0 + i) g.frame.fn g.frame.place es) j (upd D i d') q d0 c' os')
    (hwg' : WgAt p.ty p.wg w' st sm) (hacc' : Acc (Chd p.P) d'.st) (hlt : Falls p (D i) d' c c') : Goal p Sh0 gs w sl t (p.g0 + i) (mA p tag j D c, mV p D hacc, mF p f0 j D q) :=
  workerStep H ha hcs hcom hacc hi hg hgo hcom' hwg' (fun tag' ht _ => Go.ConcN.Mode.retag (by have := hmode.same (i := i) m' 0; simp only [DW, hwd] at this; rw [hwd']; exact this) ht) hacc' hlt
/-- An idle one. -/
theorem idle7 (H : p.HypM) (ha : gs[0]? = some a) (hcs : CS p tag j f0 d0 a) (hcom : Com p Sh0 gs w t j D q d0 c os) (hacc : ∀ i, Acc (Chd p.P) (D i).st) (hwg : WgAt p.ty p.wg w st sm) (hmode : Go.ConcN.Mode j (DW D) tag st sm) {i : Nat} (hi : i < j) (hg : gs[p.g0 + i]? = some g)
    {m' : Nat} {d : Nat} (hwd : (D i).wd = ⟨7, m' + 1, 0⟩) (hgo : stepG p.P false g w = .go g' (w.at d) es) (hes : ∀ e ∈ es, p.EvR e) (hwk : WSit p { D i with wd := ⟨7, m', 0⟩ } g' (w.at d)) :
    Goal p Sh0 gs w sl t (p.g0 + i) (mA p tag j D c, mV p D hacc, mF p f0 j D q) :=
  at7 (d' := { D i with wd := ⟨7, m', 0⟩ }) (c' := c) (os' := os) H ha hcs hcom hacc hmode hi hg hwd rfl hgo
    (hcom.quiet H.toHyp hi (fun _ _ => rfl) rfl ⟨rfl, rfl⟩ rfl rfl rfl rfl hwk (okW_of_EvR H.toHyp hcom hes (Nat.le_refl _)) (nr_EvR hes) (by rw [idle_EvR hes, hwd]) (fun h => absurd h (by simp)))
    hwg (hacc i) (.inr (.inr ⟨by simp [hwd], rfl, rfl, rfl, by simp [hwd]⟩))
theorem okW_atm {Ow : Nat → Loc → Prop} {B i : Nat} {fn : FuncId} {pos : String} {A : Addr} (hA : A.block = p.nx) (hB : A.block < B) : ∀ op ∈ MemOp.ofEvents (p.g0 + i) fn pos #[rd A, wr A], p.OkW Ow B i op := by
  intro op hop
  rw [ofEvents_eq] at hop
  obtain ⟨e, he, rfl⟩ := Array.mem_map.1 hop
  have he' : ∃ b, e = ⟨.cell A, b, true⟩ := by simp at he; rcases he with rfl | rfl <;> exact ⟨_, rfl⟩
  obtain ⟨b, rfl⟩ := he'
  refine ⟨rfl, fun x hx => ?_, ?_⟩
  · simp only [ofEvent_cell, MemAct.touch?, Option.some.injEq] at hx
    subst hx
    exact .inl ⟨⟨A, rfl, .inl hA⟩, rfl⟩
  · simp only [ofEvent_cell]; exact hB
theorem step_add (H : p.HypM) (ha : gs[0]? = some a) (hcs : CS p tag j f0 d0 a) (hcom : Com p Sh0 gs w t j D q d0 c os) (hacc : ∀ i, Acc (Chd p.P) (D i).st) (hwg : WgAt p.ty p.wg w st sm) (hmode : Go.ConcN.Mode j (DW D) tag st sm) {i : Nat} (hi : i < j) (hg : gs[p.g0 + i]? = some g)
    {m : Nat} (hwd : (D i).wd = ⟨7, m, 0⟩) (hsub : (D i).sub = 4) (hcur : (D i).cur = none) (h : p.WkR p.PA m g) : Goal p Sh0 gs w sl t (p.g0 + i) (mA p tag j D c, mV p D hacc, mF p f0 j D q) := by
  have hS := hcom.s hwg
  rcases h.cases with hK | ⟨m', rfl, _, hst⟩
  · obtain ⟨_, hall⟩ := H.add g hK
    have hov : sumTo j (fun a => ov (D a)) ≤ 1 * j := Go.ConcN.sumTo_le fun a _ => by simp only [ov]; split <;> omega
    have hcl := hcom.cle
    have hb := hcs.bound.2
    obtain ⟨g', hgo, h1, h2⟩ := hall c w hS (by omega) hcom.nx
    have hnxl : p.nx < w.heap.size := Nat.lt_of_lt_of_le H.nx.2 hcom.sizeW
    have hnr : ∀ e ∈ #[rd p.nxA, wr p.nxA], e.loc ≠ .mark (.release (stA p.wg)) := by intro e he; simp at he; rcases he with rfl | rfl <;> simp [rd, wr]
    have hidle : ∀ d, deafBehind d #[rd p.nxA, wr p.nxA] = d := Go.ConcN.deafBehind_idle (by intro e he; simp at he; rcases he with rfl | rfl <;> simp [rd, wr])
    have hheap : ∀ b, b ≠ p.nx → (w.setCell p.nxA (.int .i64 (c + 1))).heap[b]? = w.heap[b]? := fun b hb => setCell_ne _ _ _ hb
    have hnx' : p.NxAt (w.setCell p.nxA (.int .i64 (c + 1))) (c + 1) := by
      have := setCell_at_ w 0 (.int .i64 (c + 1)) hcom.nx
      simpa [Pool.NxAt, Pool.nxA] using this
    have hwg' : WgAt p.ty p.wg (w.setCell p.nxA (.int .i64 (c + 1))) st sm := hwg.of_block (hheap _ (Ne.symm H.nx_wg))
    by_cases hlt : c < p.len
    · obtain ⟨m', hk⟩ := h1 hlt
      refine at7 (d' := { D i with wd := ⟨7, m', 0⟩, sub := 7, T := fun x => (D i).T x ∨ x = c, cur := some c }) (c' := c + 1) (os' := os) H ha hcs hcom hacc hmode hi hg hwd rfl hgo ?_ hwg' (hacc i) (.inl ⟨by simp [cnt, hwd], by simp only [wgt, hwd, hsub]; omega⟩)
      refine hcom.stepW H.toHyp hi (fun b _ _ hb _ _ => hheap b hb) (by rw [setCell_size]; exact Nat.le_refl _) ⟨rfl, rfl⟩ (fun _ h => h) (fun _ h => .inl h) (fun _ h => .inl h) (fun x hx => hx.imp id fun e => ⟨e, by omega⟩) (by omega)
        (.call c m' rfl rfl rfl hlt (.inr rfl) hk) (okW_atm rfl (by rw [setCell_size]; exact hnxl)) hnr (by rw [hidle, hwd]) (fun h => absurd h (by simp)) hnx' ⟨(hheap _ (Ne.symm H.nx_ou)).trans hcom.ou.1, hcom.ou.2⟩ (fun x h1 h2 => ?_) (fun h => absurd h (by simp)) ?_
      · by_cases hx : x = c
        · exact .inr ⟨i, hi, by rw [upd_same, hx]⟩
        · refine (hcom.done x (by omega) h2).imp id fun ⟨k, hk, hc⟩ => ⟨k, hk, ?_⟩
          by_cases e : k = i
          · subst e; rw [hcur] at hc; cases hc
          · rw [upd_ne D _ e]; exact hc
      · omega
    · obtain ⟨m', hk⟩ := h2 (by omega)
      refine at7 (d' := { D i with wd := ⟨7, m', 0⟩, sub := 0 }) (c' := c + 1) (os' := os) H ha hcs hcom hacc hmode hi hg hwd rfl hgo ?_ hwg' (hacc i) (.inl ⟨by simp [cnt, hwd], by simp only [wgt, hwd, hsub]; omega⟩)
      refine hcom.stepW H.toHyp hi (fun b _ _ hb _ _ => hheap b hb) (by rw [setCell_size]; exact Nat.le_refl _) ⟨rfl, rfl⟩ (fun _ h => h) (fun _ h => .inl h) (fun _ h => h) (fun x hx => .inl hx) (by omega)
        (.r0 m' rfl rfl hcur hk) (okW_atm rfl (by rw [setCell_size]; exact hnxl)) hnr (by rw [hidle, hwd]) (fun h => absurd h (by simp)) hnx' ⟨(hheap _ (Ne.symm H.nx_ou)).trans hcom.ou.1, hcom.ou.2⟩ (fun x h1 h2 => ?_) (fun _ => by omega) ?_
      · refine (hcom.done x (by omega) h2).imp id fun ⟨k, hk, hc⟩ => ⟨k, hk, ?_⟩
        by_cases e : k = i
        · subst e; rw [hcur] at hc; cases hc
        · rw [upd_ne D _ e]; exact hc
      · have := sumTo_upd D ({ D i with wd := ⟨7, m', 0⟩, sub := 0 } : PD) ov hi
        have e1 : ov (D i) = 0 := by simp [ov, hsub]
        have e2 : ov ({ D i with wd := ⟨7, m', 0⟩, sub := 0 } : PD) = 1 := rfl
        omega
  · obtain ⟨g', d, es, hgo, hes, hk⟩ := hst w hS
    exact idle7 H ha hcs hcom hacc hwg hmode hi hg hwd hgo hes (.add m' rfl hsub hcur hk)
/-- What a step within f gives. -/
theorem Com.ofF (H : p.Hyp) (h : Com p Sh0 gs w t j D q d0 c os) {i x : Nat} (hi : i < j) {fn : FuncId} {pos : String} (hF : p.FStep (D i).M w w' es) (hwd : (D i).wd.deaf = 0) (hwd' : d'.wd.deaf = 0 ∧ 6 < d'.wd.stage)
    (hM : d'.M = fun b => (D i).M b ∨ (w.heap.size ≤ b ∧ b < w'.heap.size)) (hT : d'.T = (D i).T) (hcur : d'.cur = (D i).cur) (hsub : d'.sub ≠ 0) (hsub0 : (D i).sub ≠ 0) (hwk : WSit p d' g' w') :
    Com p Sh0 ((gs.map (Conc.woken p.P g g' w')).setIfInBounds (p.g0 + i) g') w' (t ++ MemOp.ofEvents (p.g0 + i) fn pos es) j (upd D i d') q d0 c os := by
  have inM := fun b (hb : (D i).M b) => h.inM H.toGeo hi hb
  have kept : ∀ b, b < p.W1.heap.size → w'.heap[b]? = w.heap[b]? := fun b hb => hF.same b (Nat.lt_of_lt_of_le hb h.sizeW) fun hm => by have := h.mine i b hi hm; omega
  refine h.stepW H hi (fun b hb1 hb2 _ _ _ => hF.same b hb1 hb2) hF.size ⟨hF.os, hF.out⟩ (fun b hb => by rw [hM]; exact .inl hb) (fun b hb => by rw [hM] at hb; exact hb) (fun x hx => by rw [hT]; exact hx) (fun x hx => by rw [hT] at hx; exact .inl hx) (Nat.le_refl _) hwk (fun op hop => ?_) (fun e he => ?_)
    ?_ (fun h => by omega) ((kept _ H.nx.2).trans h.nx) ⟨(kept _ H.ou.2).trans h.ou.1, h.ou.2⟩ (fun x h1 h2 => ?_) (fun hs => absurd hs hsub) (by rw [ov_upd (by simp only [ov, if_neg hsub, if_neg hsub0])]; exact h.cle)
  · rw [ofEvents_eq] at hop
    obtain ⟨e, he, rfl⟩ := Array.mem_map.1 hop
    have hlow : ∀ b, ((D i).M b ∨ (w.heap.size ≤ b ∧ b < w'.heap.size)) → b < w'.heap.size := fun b hb => hb.elim (fun hm => Nat.lt_of_lt_of_le (h.mine i b hi hm).2 hF.size) (·.2)
    have hlow' : ∀ b, p.RO b → b < w'.heap.size := fun b hb => Nat.lt_of_lt_of_le (Nat.lt_of_lt_of_le hb.1.1 h.sizeW) hF.size
    rcases hF.ev e he with ⟨a, wr, rfl, ha⟩ | ⟨r, rfl, hr⟩ | rfl
    · refine ⟨rfl, fun x hx => ?_, ?_⟩
      · simp only [ofEvent_cell, MemAct.touch?, Option.some.injEq] at hx
        subst hx
        rcases ha with ha | ⟨ha, rfl⟩
        · exact .inr (.inl ⟨⟨hi, .inl ⟨a, rfl, .inl (by rw [upd_same, hM]; exact ha)⟩⟩, rfl⟩)
        · exact .inr (.inr ⟨.inl ⟨a, rfl, ha⟩, rfl, rfl⟩)
      · simp only [ofEvent_cell]
        exact ha.elim (hlow _) fun ha => hlow' _ ha.1
    · refine ⟨rfl, fun x hx => ?_, ?_⟩
      · simp only [show MemAct.ofEvent ⟨.obj r, false, false⟩ = .access ⟨.obj r, false, false⟩ from rfl, MemAct.touch?, Option.some.injEq] at hx
        subst hx
        rcases hr with ha | ha
        · exact .inr (.inl ⟨⟨hi, .inr ⟨r, rfl, by rw [upd_same, hM]; exact ha⟩⟩, rfl⟩)
        · exact .inr (.inr ⟨.inr ⟨r, rfl, ha⟩, rfl, rfl⟩)
      · exact hr.elim (hlow _) fun ha => hlow' _ ha
    · exact ⟨rfl, fun x hx => (by simp only [show (MemAct.ofEvent ⟨.mark .noRoom, false, true⟩).touch? = none from rfl] at hx; cases hx), trivial⟩
  · rcases hF.ev e he with ⟨a, wr, rfl, ha⟩ | ⟨r, rfl, hr⟩ | rfl <;> simp
  · rw [Go.ConcN.deafBehind_idle (fun e he => by rcases hF.ev e he with ⟨a, wr, rfl, ha⟩ | ⟨r, rfl, hr⟩ | rfl <;> simp), hwd, hwd'.1]
  · refine (h.done x h1 h2).imp id fun ⟨k, hk, hc⟩ => ⟨k, hk, ?_⟩
    by_cases e : k = i
    · subst e; rw [upd_same, hcur]; exact hc
    · rw [upd_ne D _ e]; exact hc
/-- A step within f. -/
theorem step_fs (H : p.HypM) (ha : gs[0]? = some a) (hcs : CS p tag j f0 d0 a) (hcom : Com p Sh0 gs w t j D q d0 c os) (hacc : ∀ i, Acc (Chd p.P) (D i).st) (hwg : WgAt p.ty p.wg w st sm) (hmode : Go.ConcN.Mode j (DW D) tag st sm) {i : Nat} (hi : i < j) (hg : gs[p.g0 + i]? = some g)
    {m x : Nat} {s : St} (hwd : (D i).wd = ⟨7, m, 0⟩) (hsub : ((D i).sub = 7 ∧ Acc (Chd p.P) s) ∨ ((D i).sub = 6 ∧ s = (D i).st)) (hcur : (D i).cur = some x) (hx : x < p.len) (hT : (D i).T x) (h : p.Fs x (D i).M s g w) : Goal p Sh0 gs w sl t (p.g0 + i) (mA p tag j D c, mV p D hacc, mF p f0 j D q) := by
  obtain ⟨g', w', es, hgo, hF, hn⟩ := fs_step H.toGeo h
  have hs0 : (D i).sub ≠ 0 := by omega
  have hwg' : WgAt p.ty p.wg w' st sm := hwg.of_block (hF.same _ (Nat.lt_of_lt_of_le H.wg.2 hcom.sizeW) fun hm => (hcom.inM H.toGeo hi hm).2.2.1 rfl)
  have hsacc : Acc (Chd p.P) s := hsub.elim (·.2) fun h => h.2 ▸ hacc i
  rcases hn with ⟨y, hy, hfs⟩ | ⟨m', hk⟩
  · refine at7 (d' := { D i with wd := ⟨7, 0, 0⟩, sub := 6, st := y, M := fun b => (D i).M b ∨ (w.heap.size ≤ b ∧ b < w'.heap.size) }) (c' := c) (os' := os) H ha hcs hcom hacc hmode hi hg hwd rfl hgo ?_ hwg' (hsacc.inv hy) ?_
    · exact hcom.ofF (x := x) H.toHyp hi hF (by rw [hwd]) ⟨rfl, by simp⟩ rfl rfl rfl (by simp) hs0 (.fst x rfl rfl hcur hx hT hfs)
    · rcases hsub with ⟨h1, _⟩ | ⟨h1, rfl⟩
      · exact .inl ⟨by simp [cnt, hwd], by simp only [wgt, hwd, h1]; omega⟩
      · exact .inr (.inl ⟨by simp [hwd], h1.symm, rfl, hy⟩)
  · refine at7 (d' := { D i with wd := ⟨7, m', 0⟩, sub := 5, M := fun b => (D i).M b ∨ (w.heap.size ≤ b ∧ b < w'.heap.size) }) (c' := c) (os' := os) H ha hcs hcom hacc hmode hi hg hwd rfl hgo ?_ hwg' (hacc i) ?_
    · exact hcom.ofF (x := x) H.toHyp hi hF (by rw [hwd]) ⟨rfl, by simp⟩ rfl rfl rfl (by simp) hs0 (.store x m' rfl rfl hcur hx hT hk)
    · exact .inl ⟨by simp [cnt, hwd], by simp only [wgt, hwd]; omega⟩
theorem step_call (H : p.HypM) (ha : gs[0]? = some a) (hcs : CS p tag j f0 d0 a) (hcom : Com p Sh0 gs w t j D q d0 c os) (hacc : ∀ i, Acc (Chd p.P) (D i).st) (hwg : WgAt p.ty p.wg w st sm) (hmode : Go.ConcN.Mode j (DW D) tag st sm) {i : Nat} (hi : i < j) (hg : gs[p.g0 + i]? = some g)
    {m x : Nat} (hwd : (D i).wd = ⟨7, m, 0⟩) (hsub : (D i).sub = 7) (hcur : (D i).cur = some x) (hx : x < p.len) (hT : (D i).T x) (h : p.WkR (p.PC x) m g) : Goal p Sh0 gs w sl t (p.g0 + i) (mA p tag j D c, mV p D hacc, mF p f0 j D q) := by
  have hS := hcom.s hwg
  rcases h.cases with hK | ⟨m', rfl, _, hst⟩
  · obtain ⟨frL, fr, xw, cc, rest, rfl, hf, hl, hw, m', hk⟩ := H.call x g hx hK
    refine step_fs (s := ⟨frL, [], xw⟩) H ha hcs hcom hacc hwg hmode hi hg hwd (.inl ⟨hsub, lt_acc hl⟩) hcur hx hT ⟨idr, p.N0, fr, [], cc, rest, rfl, hf, .nil, hw w hS, hl, fun b h1 h2 => by omega, m', hk⟩
  · obtain ⟨g', d, es, hgo, hes, hk⟩ := hst w hS
    exact idle7 H ha hcs hcom hacc hwg hmode hi hg hwd hgo hes (.call x m' rfl hsub hcur hx hT hk)
theorem step_store (H : p.HypM) (ha : gs[0]? = some a) (hcs : CS p tag j f0 d0 a) (hcom : Com p Sh0 gs w t j D q d0 c os) (hacc : ∀ i, Acc (Chd p.P) (D i).st) (hwg : WgAt p.ty p.wg w st sm) (hmode : Go.ConcN.Mode j (DW D) tag st sm) {i : Nat} (hi : i < j) (hg : gs[p.g0 + i]? = some g)
    {m x : Nat} (hwd : (D i).wd = ⟨7, m, 0⟩) (hsub : (D i).sub = 5) (hcur : (D i).cur = some x) (hx : x < p.len) (hT : (D i).T x) (h : p.WkR (p.PS x) m g) : Goal p Sh0 gs w sl t (p.g0 + i) (mA p tag j D c, mV p D hacc, mF p f0 j D q) := by
  have hS := hcom.s hwg
  rcases h.cases with hK | ⟨m', rfl, _, hst⟩
  · obtain ⟨_, hall⟩ := H.store x g hx hK
    obtain ⟨g', hgo, m', hk⟩ := hall w hS
    have hheap : ∀ b, b ≠ p.ou → (w.setCell (p.outA x) (p.R x)).heap[b]? = w.heap[b]? := fun b hb => setCell_ne _ _ _ hb
    have hoB : p.ou < w.heap.size := Nat.lt_of_lt_of_le H.ou.2 hcom.sizeW
    refine at7 (d' := { D i with wd := ⟨7, m', 0⟩, sub := 4, cur := none }) (c' := c) (os' := os.setIfInBounds x (p.R x)) H ha hcs hcom hacc hmode hi hg hwd rfl hgo ?_ (hwg.of_block (hheap _ (Ne.symm H.ou_wg))) (hacc i) (.inl ⟨by simp [cnt, hwd], by simp only [wgt, hwd, hsub]; omega⟩)
    refine hcom.stepW H.toHyp hi (fun b _ _ _ hb _ => hheap b hb) (by rw [setCell_size]; exact Nat.le_refl _) ⟨rfl, rfl⟩ (fun _ h => h) (fun _ h => .inl h) (fun _ h => h) (fun x hx => .inl hx) (by omega)
        (.add m' rfl rfl rfl hk) (fun op hop => ?_) (by intro e he; simp at he; subst he; simp) (by rw [Go.ConcN.deafBehind_idle (by intro e he; simp at he; subst he; simp), hwd]) (fun h => absurd h (by simp)) ((hheap _ H.nx_ou).trans hcom.nx) ⟨setCell_at_ w x _ hcom.ou.1, by simp [hcom.ou.2]⟩ (fun y h1 h2 => ?_) (fun h => absurd h (by simp)) ?_
    · rw [ofEvents_eq] at hop
      obtain ⟨e, he, rfl⟩ := Array.mem_map.1 hop
      simp at he
      subst he
      refine ⟨rfl, fun y hy => ?_, ?_⟩
      · simp only [ofEvent_cell, MemAct.touch?, Option.some.injEq] at hy
        subst hy
        exact .inr (.inl ⟨⟨hi, .inl ⟨_, rfl, .inr ⟨x, by rw [upd_same]; exact hT, rfl⟩⟩⟩, rfl⟩)
      · simp only [ofEvent_cell]
        show p.ou < _
        rw [setCell_size]; exact hoB
    · by_cases hy : y = x
      · subst hy
        exact .inl (by rw [Array.getElem?_setIfInBounds_self_of_lt (by rw [hcom.ou.2]; exact hx)])
      · rcases hcom.done y h1 h2 with hd | ⟨k, hk, hc⟩
        · exact .inl (by rw [Array.getElem?_setIfInBounds_ne (fun e => hy e.symm)]; exact hd)
        · refine .inr ⟨k, hk, ?_⟩
          by_cases e : k = i
          · subst e; rw [hcur] at hc; cases hc; exact absurd rfl hy
          · rw [upd_ne D _ e]; exact hc
    · rw [ov_upd (by simp [ov, hsub])]; exact hcom.cle
  · obtain ⟨g', d, es, hgo, hes, hk⟩ := hst w hS
    exact idle7 H ha hcs hcom hacc hwg hmode hi hg hwd hgo hes (.store x m' rfl hsub hcur hx hT hk)
end
end Go.Po
/- The pool, part 9: a worker's steps of the library's bookkeeping; every step of a worker's. -/
namespace Go.Po
open Go Go.Conc Go.Tw
open Go.ConcR (KK WgAt stA smA rd wr g_of_ofEvents loc_of_ofEvent again_blocked Bk ofEvent_loc_mark ofEvent_cell bk_of_mute)
open Go.ConcN (CTag phi cnt Vc WD upd sumTo upd_same upd_ne RelBy get_map_set get_map_set_same Deaf_absent sumTo_congr sumTo_upd phi_mono phi_retag bk_cell isW3 OpenSt pend norel_of_Bk Vc_upd Vc_le others_uncounted le_sumTo)
variable [FnSet]
section
variable {p : Pool} {Sh0 : Loc → Prop} {gs : Array Goroutine} {w w' : World} {t : Trace} {j : Nat} {D : Nat → PD} {q : Nat → Nat} {d0 c c' : Nat} {os os' : Array Value} {d' : PD} {g g' a : Goroutine} {tag : CTag} {f0 : Nat} {st sm st' sm' : Int} {sl : Option (Nat × Nat)} {es : Array Event}
/-- At most the group's block turns. -/
theorem bookG (H : p.HypM) (ha : gs[0]? = some a) (hcs : CS p tag j f0 d0 a) (hcom : Com p Sh0 gs w t j D q d0 c os) (hacc : ∀ i, Acc (Chd p.P) (D i).st) {i : Nat} (hi : i < j) (hg : gs[p.g0 + i]? = some g)
    {s m dd s' m' dd' : Nat} (hwd : (D i).wd = ⟨s, m, dd⟩) (hsub : (D i).sub = 0) (h6 : s ≤ 6) (hgo : stepG p.P false g w = .go g' w' es) (hAs : Aside p.wg w w') (hwg' : WgAt p.ty p.wg w' st' sm') (hbk : ∀ e ∈ es, Bk p.wg e)
    (hd : ∀ jx e, es[jx]? = some e → (MemAct.ofEvent e).touch? = none ∨ 0 < deafBehind dd (es.extract 0 jx)) (hwk : WSit p { D i with wd := ⟨s', m', dd'⟩ } g' w') (hdd : deafBehind dd es = dd')
    (hmode : ∀ tag', (tag' = tag ∨ (tag = .blk ∧ tag' = .w3)) → (mayWake p.P g = true → g'.status = .running → tag' ≠ .blk) → Go.ConcN.Mode j (upd (DW D) i ⟨s', m', dd'⟩) tag' st' sm') (hlt : (s' < s ∧ cnt ⟨s', m', dd'⟩ ≤ cnt ⟨s, m, dd⟩) ∨ (s' = s ∧ m' + 1 = m)) :
    Goal p Sh0 gs w sl t (p.g0 + i) (mA p tag j D c, mV p D hacc, mF p f0 j D q) := by
  have hdk : Deaf t (p.g0 + i) = dd := by rw [hcom.deafW i hi, hwd]
  refine workerStep (d' := { D i with wd := ⟨s', m', dd'⟩ }) (c' := c) (os' := os) H ha hcs hcom hacc hi hg hgo
    (hcom.quiet (d' := { D i with wd := ⟨s', m', dd'⟩ }) H.toHyp hi hAs.block hAs.size ⟨hAs.os, hAs.output⟩ rfl rfl rfl rfl hwk (okW_of_Bk H.toHyp hcom hbk) (norel_of_Bk hbk) (by rw [hwd]; exact hdd) (fun _ => let ⟨r, hr⟩ := hcom.rel i hi (by rw [hwd]; exact h6); ⟨r, hr.book hdk _ _ hbk hd⟩)) hwg' hmode (hacc i) ?_
  rcases hlt with ⟨h1, h2⟩ | ⟨h1, h2⟩
  · exact .inl ⟨by rw [hwd]; exact h2, by simp only [wgt, hwd]; omega⟩
  · exact .inr (.inr ⟨by simp [hwd, h1], rfl, rfl, rfl, by simp [hwd, h2]⟩)
theorem book (H : p.HypM) (ha : gs[0]? = some a) (hcs : CS p tag j f0 d0 a) (hcom : Com p Sh0 gs w t j D q d0 c os) (hacc : ∀ i, Acc (Chd p.P) (D i).st) {i : Nat} (hi : i < j) (hg : gs[p.g0 + i]? = some g)
    {s m dd s' m' dd' : Nat} (hwd : (D i).wd = ⟨s, m, dd⟩) (hsub : (D i).sub = 0) (h6 : s ≤ 6) (hgo : stepG p.P false g w = .go g' w' es) (hAs : Aside p.wg w w') (hwg' : WgAt p.ty p.wg w' st' sm') (hbk : ∀ e ∈ es, Bk p.wg e)
    (hd : ∀ jx e, es[jx]? = some e → (MemAct.ofEvent e).touch? = none ∨ 0 < deafBehind dd (es.extract 0 jx)) (hwk : WSit p { D i with wd := ⟨s', m', dd'⟩ } g' w') (hdd : deafBehind dd es = dd')
    (hmode : Go.ConcN.Mode j (upd (DW D) i ⟨s', m', dd'⟩) tag st' sm') (hlt : (s' < s ∧ cnt ⟨s', m', dd'⟩ ≤ cnt ⟨s, m, dd⟩) ∨ (s' = s ∧ m' + 1 = m)) :
    Goal p Sh0 gs w sl t (p.g0 + i) (mA p tag j D c, mV p D hacc, mF p f0 j D q) :=
  bookG H ha hcs hcom hacc hi hg hwd hsub h6 hgo hAs hwg' hbk hd hwk hdd (fun _ ht _ => hmode.retag ht) hlt
/-- An idle step behind the release. -/
theorem idle0 (H : p.HypM) (ha : gs[0]? = some a) (hcs : CS p tag j f0 d0 a) (hcom : Com p Sh0 gs w t j D q d0 c os) (hacc : ∀ i, Acc (Chd p.P) (D i).st) (hwg : WgAt p.ty p.wg w st sm) (hmode : Go.ConcN.Mode j (DW D) tag st sm) {i : Nat} (hi : i < j) (hg : gs[p.g0 + i]? = some g)
    {s m' dd d : Nat} (hwd : (D i).wd = ⟨s, m' + 1, dd⟩) (hsub : (D i).sub = 0) (h6 : s ≤ 6) (hgo : stepG p.P false g w = .go g' (w.at d) es) (hes : ∀ e ∈ es, False) (hwk : WSit p { D i with wd := ⟨s, m', dd⟩ } g' (w.at d)) :
    Goal p Sh0 gs w sl t (p.g0 + i) (mA p tag j D c, mV p D hacc, mF p f0 j D q) :=
  book (es := es) H ha hcs hcom hacc hi hg hwd hsub h6 hgo (Aside.at _ w d) hwg (fun e he => (hes e he).elim) (fun jx e he => (hes e (Array.mem_of_getElem? he)).elim) hwk (Go.ConcN.deafBehind_idle (fun e he => (hes e he).elim) dd)
    (by have := hmode.same (i := i) m' dd; simp only [DW, hwd] at this; exact this) (.inr ⟨rfl, rfl⟩)
set_option maxHeartbeats 1600000 in
theorem step_d1 (H : p.HypM) (ha : gs[0]? = some a) (hcs : CS p tag j f0 d0 a) (hcom : Com p Sh0 gs w t j D q d0 c os) (hacc : ∀ i, Acc (Chd p.P) (D i).st) (hwg : WgAt p.ty p.wg w st sm) (hmode : Go.ConcN.Mode j (DW D) tag st sm) {i : Nat} (hi : i < j) (hg : gs[p.g0 + i]? = some g)
    {m : Nat} (hwd : (D i).wd = ⟨5, m, 1⟩) (hsub : (D i).sub = 0) (hcur : (D i).cur = none) (h : p.AtD1 g) : Goal p Sh0 gs w sl t (p.g0 + i) (mA p tag j D c, mV p D hacc, mF p f0 j D q) := by
  have hS := hcom.s hwg
  obtain ⟨_, hall⟩ := h
  have hst : (DW D i).stage = 5 := by simp [DW, hwd]
  have hc1 : cnt (DW D i) = 1 := by simp [cnt, hst]
  have hV1 : 1 ≤ Vc j (DW D) := by have := le_sumTo (f := fun x => cnt (DW D x)) hi; simp only [Vc]; omega
  have hb := hcs.bound
  have hVj := Vc_le j (DW D)
  have bk2 : ∀ e ∈ #[rd (stA p.wg), wr (stA p.wg)], Bk p.wg e := by intro e he; simp at he; rcases he with rfl | rfl <;> exact bk_cell _ _ rfl
  have df2 : ∀ jx e, (#[rd (stA p.wg), wr (stA p.wg)] : Array Event)[jx]? = some e → (MemAct.ofEvent e).touch? = none ∨ 0 < deafBehind 1 ((#[rd (stA p.wg), wr (stA p.wg)] : Array Event).extract 0 jx) := by
    intro jx e he
    match jx, he with
    | 0, _ => exact .inr (by simp [deafBehind])
    | 1, _ => exact .inr (by simp [deafBehind, rd])
    | jx + 2, he => simp at he
  have hq0 : ∀ q, cnt (⟨1, q, 1⟩ : WD) = 0 := fun _ => rfl
  have opq : ∀ q, OpenSt j (DW D) → OpenSt j (upd (DW D) i ⟨1, q, 1⟩) := fun q h a ha => by
    by_cases e : a = i
    · subst e; rw [upd_same]; simp
    · rw [upd_ne _ _ e]; exact h a ha
  cases hmode with
  | opn h1 h2 h3 =>
    obtain ⟨v, hv⟩ : ∃ v, Vc j (DW D) + pend tag = v + 1 := ⟨Vc j (DW D) + pend tag - 1, by omega⟩
    rw [hv] at hwg
    have hw1 : WgAt p.ty p.wg w (((v : Nat) + 1) * KK + ((0 : Nat) : Int)) 0 := by simpa using hwg
    obtain ⟨g', hgo, _, hq⟩ := hall v 0 w hS (by omega) (by omega) hw1
    obtain ⟨q, hq⟩ := hq (by omega)
    have hv' : Vc j (upd (DW D) i ⟨1, q, 1⟩) + pend tag = v := by have := Vc_upd (DW D) (⟨1, q, 1⟩ : WD) hi; have := hq0 q; omega
    refine book H ha hcs hcom hacc hi hg hwd hsub (by omega) hgo (aside_setCell w (stA p.wg) _) (hwg.setSt _) bk2 df2 (.quit q 1 rfl hsub hcur hq) rfl ?_ (.inl ⟨by omega, by simp [cnt]⟩)
    have e : ((v : Nat) : Int) * KK + ((0 : Nat) : Int) = ((Vc j (upd (DW D) i ⟨1, q, 1⟩) + pend tag : Nat) : Int) * KK := by rw [hv']; simp
    rw [e]
    exact .opn h1 (opq q h2) (fun vs ev => by have := h3 vs ev; omega)
  | reg h1 h2 h3 =>
    obtain ⟨v, hv⟩ : ∃ v, Vc j (DW D) = v + 1 := ⟨Vc j (DW D) - 1, by omega⟩
    rw [hv] at hwg
    have hp : pend tag = 0 := by cases tag <;> first | rfl | exact h1.elim
    have hw1 : WgAt p.ty p.wg w (((v : Nat) + 1) * KK + ((1 : Nat) : Int)) 0 := by simpa using hwg
    obtain ⟨g', hgo, hl, hq⟩ := hall v 1 w hS (by omega) (by omega) hw1
    by_cases hv0 : v = 0
    · subst hv0
      obtain ⟨m₂, hk⟩ := hl ⟨rfl, rfl⟩
      refine book H ha hcs hcom hacc hi hg hwd hsub (by omega) hgo (aside_setCell w (stA p.wg) _) (hwg.setSt _) bk2 df2 (.d2 m₂ rfl hsub hcur hk) rfl ?_ (.inl ⟨by omega, by simp [cnt]⟩)
      have hoth : ∀ a, a < j → a ≠ i → (DW D a).stage = 1 := fun a ha e => by
        have c0 := others_uncounted hi hv hc1 a ha e
        have := h2 a ha
        simp only [cnt] at c0
        split at c0 <;> omega
      have := Go.ConcN.Mode.last (j := j) (D := upd (DW D) i ⟨4, m₂, 1⟩) (tag := tag) i h1 hi (by rw [upd_same]; simp) (fun a ha e => by rw [upd_ne _ _ e]; exact hoth a ha e)
      rw [upd_same] at this
      simpa using this
    · obtain ⟨q, hq⟩ := hq (by omega)
      have hv' : Vc j (upd (DW D) i ⟨1, q, 1⟩) = v := by have := Vc_upd (DW D) (⟨1, q, 1⟩ : WD) hi; have := hq0 q; omega
      refine book H ha hcs hcom hacc hi hg hwd hsub (by omega) hgo (aside_setCell w (stA p.wg) _) (hwg.setSt _) bk2 df2 (.quit q 1 rfl hsub hcur hq) rfl ?_ (.inl ⟨by omega, by simp [cnt]⟩)
      have e : ((v : Nat) : Int) * KK + ((1 : Nat) : Int) = ((Vc j (upd (DW D) i ⟨1, q, 1⟩) : Nat) : Int) * KK + 1 := by rw [hv']; simp
      rw [e]
      exact .reg h1 (opq q h2) (by omega)
  | last L _ h2 h3 h4 =>
    by_cases e : i = L
    · subst e; omega
    · have := h4 i hi e; omega
  | sema h2 => have := h2 i hi; omega
  | fin _ h2 => have := h2 i hi; omega
set_option maxHeartbeats 1600000 in
theorem stepWorker (H : p.HypM) (ha : gs[0]? = some a) (hcs : CS p tag j f0 d0 a) (hcom : Com p Sh0 gs w t j D q d0 c os) (hacc : ∀ i, Acc (Chd p.P) (D i).st) (hwg : WgAt p.ty p.wg w st sm) (hmode : Go.ConcN.Mode j (DW D) tag st sm) {i : Nat} (hi : i < j) (hg : gs[p.g0 + i]? = some g)
    (hrun : g.status = .running) : Goal p Sh0 gs w sl t (p.g0 + i) (mA p tag j D c, mV p D hacc, mF p f0 j D q) := by
  have hS := hcom.s hwg
  obtain ⟨g₁, hg₁, hs⟩ := hcom.wk i hi
  obtain rfl : g = g₁ := by rw [hg] at hg₁; exact Option.some.inj hg₁
  have lastMode : ∀ {m : Nat} {s : Nat} {st' : Int}, isW3 tag → (∀ a, a < j → a ≠ i → (DW D a).stage = 1) → (s = 3 ∧ st' = 1 ∨ s = 2 ∧ st' = 0) → Go.ConcN.Mode j (upd (DW D) i ⟨s, m, 1⟩) tag st' 0 := by
    intro m s st' hW3 hoth hs
    have := Go.ConcN.Mode.last (j := j) (D := upd (DW D) i ⟨s, m, 1⟩) (tag := tag) i hW3 hi (by rw [upd_same]; simp; omega) (fun a ha e => by rw [upd_ne _ _ e]; exact hoth a ha e)
    rw [upd_same] at this
    rcases hs with ⟨rfl, rfl⟩ | ⟨rfl, rfl⟩ <;> simpa using this
  cases hs with
  | add m h1 h2 h3 h4 => exact step_add H ha hcs hcom hacc hwg hmode hi hg h1 h2 h3 h4
  | call x m h1 h2 h3 h4 h5 h6 => exact step_call H ha hcs hcom hacc hwg hmode hi hg h1 h2 h3 h4 h5 h6
  | fst x h1 h2 h3 h4 h5 h6 => exact step_fs H ha hcs hcom hacc hwg hmode hi hg h1 (.inr ⟨h2, rfl⟩) h3 h4 h5 h6
  | store x m h1 h2 h3 h4 h5 h6 => exact step_store H ha hcs hcom hacc hwg hmode hi hg h1 h2 h3 h4 h5 h6
  | r0 m hwd hsub hcur h =>
    rcases h.cases with hK | ⟨m', rfl, _, hst⟩
    · obtain ⟨_, g', hgo, m₂, hk⟩ := hK
      have hdk : Deaf t (p.g0 + i) = 0 := by rw [hcom.deafW i hi, hwd]
      refine workerStep (d' := { D i with wd := ⟨6, m₂, 0⟩ }) (c' := c) (os' := os) H ha hcs hcom hacc hi hg (hgo w hS)
        (hcom.quiet (d' := { D i with wd := ⟨6, m₂, 0⟩ }) H.toHyp hi (fun _ _ => rfl) rfl ⟨rfl, rfl⟩ rfl rfl rfl rfl (.k1 m₂ rfl hsub hcur hk) ?_ (by intro e he; simp at he; subst he; simp [Go.ConcR.mk]) (by rw [hwd]; rfl) (fun _ => ⟨t.size, RelBy.new hdk _ _⟩)) hwg
        (fun _ ht _ => (hmode.counted hi (by simp [DW, hwd]) (.inl rfl) _ _).retag ht) (hacc i) (.inl ⟨by simp [cnt, hwd], by simp only [wgt, hwd]; omega⟩)
      intro op hop
      rw [ofEvents_eq] at hop
      obtain ⟨e, he, rfl⟩ := Array.mem_map.1 hop
      simp at he; subst he
      exact ⟨rfl, fun x hx => (by cases hx), (by simp only [Go.ConcR.ofEvent_mk]; exact Nat.lt_of_lt_of_le H.wg.2 hcom.sizeW)⟩
    · obtain ⟨g', d, es, hgo, hes, hk⟩ := hst w hS
      exact idle7 H ha hcs hcom hacc hwg hmode hi hg hwd hgo hes (.r0 m' rfl hsub hcur hk)
  | k1 m hwd hsub hcur h =>
    rcases h.cases with hK | ⟨m', rfl, _, hst⟩
    · obtain ⟨_, g', hgo, m₂, hk⟩ := hK
      exact book H ha hcs hcom hacc hi hg hwd hsub (by omega) (hgo w hS) (.refl p.wg w) hwg (by intro e he; simp at he; subst he; exact .inl rfl) (by intro jx e he; exact .inl (by have := Array.mem_of_getElem? he; simp at this; subst this; rfl)) (.d1 m₂ rfl hsub hcur hk) rfl
        (hmode.counted hi (by simp [DW, hwd]) (.inr rfl) _ _) (.inl ⟨by omega, by simp [cnt]⟩)
    · obtain ⟨g', d, es, hgo, hes, hk⟩ := hst w hS
      exact idle0 H ha hcs hcom hacc hwg hmode hi hg hwd hsub (by omega) hgo hes (.k1 m' rfl hsub hcur hk)
  | d1 m hwd hsub hcur h =>
    rcases h.cases with hK | ⟨m', rfl, _, hst⟩
    · exact step_d1 H ha hcs hcom hacc hwg hmode hi hg hwd hsub hcur hK
    · obtain ⟨g', d, es, hgo, hes, hk⟩ := hst w hS
      exact idle0 H ha hcs hcom hacc hwg hmode hi hg hwd hsub (by omega) hgo hes (.d1 m' rfl hsub hcur hk)
  | d2 m hwd hsub hcur h =>
    rcases h.cases with hK | ⟨m', rfl, _, hst⟩
    · obtain ⟨_, hx⟩ := hK
      have hst : (DW D i).stage = 4 := by simp [DW, hwd]
      obtain ⟨hW3, hoth, rfl, rfl⟩ := hmode.isLast hi (by omega)
      simp only [hst] at hwg
      obtain ⟨g', hgo, m₂, hk⟩ := hx w hS (by simpa using hwg)
      exact book H ha hcs hcom hacc hi hg hwd hsub (by omega) hgo (.refl p.wg w) hwg (by intro e he; simp at he; subst he; exact bk_cell _ _ rfl) (by intro jx e he; match jx, he with | 0, _ => exact .inr (by simp [deafBehind]) | jx + 1, he => simp at he) (.d3 m₂ rfl hsub hcur hk) rfl
        (lastMode hW3 hoth (.inl ⟨rfl, by simp⟩)) (.inl ⟨by omega, by simp [cnt]⟩)
    · obtain ⟨g', d, es, hgo, hes, hk⟩ := hst w hS
      exact idle0 H ha hcs hcom hacc hwg hmode hi hg hwd hsub (by omega) hgo hes (.d2 m' rfl hsub hcur hk)
  | d3 m hwd hsub hcur h =>
    rcases h.cases with hK | ⟨m', rfl, _, hst⟩
    · obtain ⟨_, hx⟩ := hK
      have hst : (DW D i).stage = 3 := by simp [DW, hwd]
      obtain ⟨hW3, hoth, rfl, rfl⟩ := hmode.isLast hi (by omega)
      simp only [hst] at hwg
      obtain ⟨g', hgo, m₂, hk⟩ := hx w hS (by simpa using hwg)
      exact book H ha hcs hcom hacc hi hg hwd hsub (by omega) hgo (aside_setCell w (stA p.wg) _) (hwg.setSt 0) (by intro e he; simp at he; subst he; exact bk_cell _ _ rfl) (by intro jx e he; match jx, he with | 0, _ => exact .inr (by simp [deafBehind]) | jx + 1, he => simp at he) (.d4 m₂ rfl hsub hcur hk) rfl
        (lastMode hW3 hoth (.inr ⟨rfl, rfl⟩)) (.inl ⟨by omega, by simp [cnt]⟩)
    · obtain ⟨g', d, es, hgo, hes, hk⟩ := hst w hS
      exact idle0 H ha hcs hcom hacc hwg hmode hi hg hwd hsub (by omega) hgo hes (.d3 m' rfl hsub hcur hk)
  | d4 m hwd hsub hcur h =>
    rcases h.cases with hK | ⟨m', rfl, _, hst⟩
    · obtain ⟨_, hmw, hx⟩ := hK
      have hst : (DW D i).stage = 2 := by simp [DW, hwd]
      obtain ⟨hW3, hoth, rfl, rfl⟩ := hmode.isLast hi (by omega)
      simp only [hst] at hwg
      obtain ⟨g', hgo, q, hq⟩ := hx w hS (by simpa using hwg)
      have hrun' : g'.status = .running := by
        cases q with
        | zero => exact absurd hq.2 (by decide)
        | succ q => exact hq.elim (fun x => absurd x.2 (by decide)) (fun x => x.1)
      refine bookG H ha hcs hcom hacc hi hg hwd hsub (by omega) hgo (aside_setCell w (smA p.wg) _) (hwg.setSm 1) (es := semEvents (smA p.wg)) ?_ ?_ (.quit q 1 rfl hsub hcur hq) (by simp [deafBehind, semEvents]) ?_ (.inl ⟨by omega, by simp [cnt]⟩)
      · intro e he
        simp [semEvents] at he
        rcases he with rfl | rfl | rfl | rfl
        · exact .inl rfl
        · exact bk_cell _ _ rfl
        · exact bk_cell _ _ rfl
        · exact .inr (.inl rfl)
      · intro jx e he
        match jx, he with
        | 0, he => simp [semEvents] at he; subst he; exact .inl rfl
        | 1, _ => exact .inr (by simp [deafBehind, semEvents])
        | 2, _ => exact .inr (by simp [deafBehind, semEvents])
        | 3, he => simp [semEvents] at he; subst he; exact .inl rfl
        | jx + 4, he => simp [semEvents] at he
      · intro tag' ht hw
        have hnb := hw hmw hrun'
        have e3 : tag' = .w3 := by
          rcases ht with rfl | ⟨_, rfl⟩
          · cases tag' <;> first | rfl | exact hW3.elim | exact absurd rfl hnb
          · rfl
        subst e3
        simp only [hst, if_true]
        exact .sema fun a ha => by
          by_cases e : a = i
          · subst e; rw [upd_same]
          · rw [upd_ne _ _ e]; exact hoth a ha e
    · obtain ⟨g', d, es, hgo, hes, hk⟩ := hst w hS
      exact idle0 H ha hcs hcom hacc hwg hmode hi hg hwd hsub (by omega) hgo hes (.d4 m' rfl hsub hcur hk)
  | quit q dd hwd hsub hcur h =>
    cases q with
    | zero => rw [h.1] at hrun; cases hrun
    | succ q =>
      rcases h with ⟨hf, _⟩ | ⟨_, g', es, hmute, hstep, hq⟩
      · rw [hf] at hrun; cases hrun
      · have hbk : ∀ e ∈ es, Bk p.wg e := fun e he => bk_of_mute (hmute e he)
        have hno : ∀ jx e, es[jx]? = some e → (MemAct.ofEvent e).touch? = none ∨ 0 < deafBehind dd (es.extract 0 jx) := fun jx e he => .inl (by
          rcases bk_of_mute (Wg := p.wg) (hmute e (Array.mem_of_getElem? he)) with h1 | h1 | ⟨a, wr, rfl, _⟩
          · rw [ofEvent_loc_mark h1]; rfl
          · rw [ofEvent_loc_mark h1]; rfl
          · have := hmute _ (Array.mem_of_getElem? he); simp [Event.mute] at this)
        exact book H ha hcs hcom hacc hi hg hwd hsub (by omega) (hstep w) (.refl p.wg w) hwg hbk hno (.quit q _ rfl hsub hcur hq) rfl (by have := hmode.same (i := i) q (deafBehind dd es); simp only [DW, hwd] at this; exact this) (.inr ⟨rfl, rfl⟩)
end
end Go.Po
/- The pool, part 10: the starter's steps; the leavers'; the draws. -/
namespace Go.Po
open Go Go.Conc Go.Tw
open Go.ConcR (KK WgAt stA smA rd wr g_of_ofEvents loc_of_ofEvent again_blocked Bk ofEvent_loc_mark ofEvent_cell bk_of_mute ofEvent_mk)
open Go.ConcN (CTag phi cnt Vc WD upd sumTo upd_same upd_ne RelBy get_map_set get_map_set_same Deaf_absent Deaf_still sumTo_congr sumTo_upd sumTo_upd_out phi_mono phi_retag bk_cell bk_dis bk_en bk_rd bk_rw bk_sem isW3 isOpen OpenSt AllQuit pend norel_of_Bk norel_of Vc_upd Vc_le others_uncounted le_sumTo allQuit_of)
variable [FnSet]
section
variable {p : Pool} {Sh0 : Loc → Prop} {gs : Array Goroutine} {w w' : World} {t : Trace} {j : Nat} {D : Nat → PD} {q : Nat → Nat} {d0 c c' : Nat} {os os' : Array Value} {d' : PD} {g g' a a' : Goroutine} {tag tag' : CTag} {f0 f' : Nat} {st sm st' sm' : Int} {sl : Option (Nat × Nat)} {es : Array Event}
/-- Draws. -/
theorem Com.at (H : p.Hyp) (h : Com p Sh0 gs w t j D q d0 c os) (d : Nat) : Com p Sh0 gs (w.at d) t j D q d0 c os :=
  ⟨h.size, h.old, fun i hi => let ⟨g, hg, hs⟩ := h.wk i hi; ⟨g, hg, hs.stable H.toGeo (Nat.le_refl _) (fun _ _ => rfl) (fun _ _ => rfl)⟩, h.still, h.sizeW, h.outs, h.ti, h.norel, h.deaf0, h.deafW, h.rel, h.mine, h.apart, h.tk, h.tapart, h.nx, h.ou, h.virgin, h.done, h.over, h.cle⟩
theorem ok0_of_Bk (H : p.Hyp) {B : Nat} (hB : p.wg < B) {fn : FuncId} {pos : String} (hes : ∀ e ∈ es, Bk p.wg e) : ∀ op ∈ MemOp.ofEvents 0 fn pos es, p.Ok0 B op := by
  intro op hop
  rw [ofEvents_eq] at hop
  obtain ⟨e, he, rfl⟩ := Array.mem_map.1 hop
  rcases hes e he with h1 | h1 | ⟨b, wr, rfl, hb⟩
  · refine ⟨rfl, fun x hx => ?_, ?_⟩
    · simp only [ofEvent_loc_mark h1] at hx; cases hx
    · simp only [ofEvent_loc_mark h1]; trivial
  · refine ⟨rfl, fun x hx => ?_, ?_⟩
    · simp only [ofEvent_loc_mark h1] at hx; cases hx
    · simp only [ofEvent_loc_mark h1]; trivial
  · refine ⟨rfl, fun x hx => ?_, ?_⟩
    · simp only [ofEvent_cell, MemAct.touch?, Option.some.injEq] at hx
      subst hx
      exact .inl ⟨⟨b, rfl, .inr hb⟩, by simp⟩
    · simp only [ofEvent_cell]
      show b.block < B
      omega
theorem ok0_of_EvS {B : Nat} (hB : p.wg < B) {fn : FuncId} {pos : String} (hes : ∀ e ∈ es, p.EvS e) : ∀ op ∈ MemOp.ofEvents 0 fn pos es, p.Ok0 B op := by
  intro op hop
  rw [ofEvents_eq] at hop
  obtain ⟨e, he, rfl⟩ := Array.mem_map.1 hop
  obtain ⟨b, m, rfl, hm, hb⟩ := hes e he
  rcases hm with rfl | rfl
  · refine ⟨rfl, fun x hx => ?_, by show b.block < B; omega⟩
    simp only [show MemAct.ofEvent ⟨.mark (.read b), false, true⟩ = .mark (.read b) from rfl, MemAct.touch?, Option.some.injEq] at hx
    subst hx
    exact .inl ⟨⟨b, rfl, .inr hb⟩, by simp⟩
  · refine ⟨rfl, fun x hx => ?_, by show b.block < B; omega⟩
    simp only [show MemAct.ofEvent ⟨.mark (.write b), false, true⟩ = .mark (.write b) from rfl, MemAct.touch?, Option.some.injEq] at hx
    subst hx
    exact .inl ⟨⟨b, rfl, .inr hb⟩, by simp⟩
theorem idle_EvS (hes : ∀ e ∈ es, p.EvS e) (d : Nat) : deafBehind d es = d := Go.ConcN.deafBehind_idle (fun e he => by obtain ⟨b, m, rfl, hm, _⟩ := hes e he; rcases hm with rfl | rfl <;> simp) d
theorem nr_EvS (hes : ∀ e ∈ es, p.EvS e) : ∀ e ∈ es, e.loc ≠ .mark (.release (stA p.wg)) := fun e he => by obtain ⟨b, m, rfl, hm, _⟩ := hes e he; rcases hm with rfl | rfl <;> simp
/-- WHATEVER STEP OF THE STARTER's but the go statement: at most the group's block turns. -/
theorem Com.step0 (H : p.Hyp) (h : Com p Sh0 gs w t j D q d0 c os) {fn : FuncId} {pos : String} (hAs : Aside p.wg w w') (hok : ∀ op ∈ MemOp.ofEvents 0 fn pos es, p.Ok0 w.heap.size op) (hnr : ∀ e ∈ es, e.loc ≠ .mark (.release (stA p.wg))) :
    Com p Sh0 ((gs.map (Conc.woken p.P a a' w')).setIfInBounds 0 a') w' (t ++ MemOp.ofEvents 0 fn pos es) j D q (deafBehind d0 es) c os := by
  have hg0 := H.g0
  have hm : ∀ i b, i < j → (D i).M b → b ≠ p.wg := fun i b hi hb => (h.inM H.toGeo hi hb).2.2.1
  refine ⟨by simp [h.size], fun i x hi hlt hx => ?_, fun i hi => ?_, fun b hb => (hAs.block b hb.2.2.2).trans (h.still b hb), by rw [hAs.size]; exact h.sizeW, ⟨hAs.os.trans h.outs.1, hAs.output.trans h.outs.2⟩, ?_, h.norel.app (norel_of hnr), by rw [Deaf_own, h.deaf0], fun i hi => by rw [Deaf_other t (by omega) _ g_of_ofEvents, h.deafW i hi],
    fun i hi hst => ?_, fun i b hi hb => by rw [hAs.size]; exact h.mine i b hi hb, h.apart, h.tk, h.tapart, (hAs.block _ H.nx_wg).trans h.nx, ⟨(hAs.block _ H.ou_wg).trans h.ou.1, h.ou.2⟩, fun x hx k op y h1 h2 => ?_, h.done, h.over, h.cle⟩
  · rw [get_map_set _ _ _ _ (by omega)] at hx
    obtain ⟨y, hy, rfl⟩ := Option.map_eq_some_iff.1 hx
    have hq := h.old i y hi hlt hy
    rw [woken_quitsD hq, Deaf_other t (by omega) _ g_of_ofEvents]
    exact hq
  · obtain ⟨x, hx, hsx⟩ := h.wk i hi
    exact ⟨x, by rw [get_map_set _ _ _ _ (by omega), hx, Option.map_some, hsx.woken H], hsx.stable H.toGeo (by rw [hAs.size]; exact Nat.le_refl _) (fun b hb => hAs.block b hb.2.2.2) (fun b hb => hAs.block b (hm i b hi hb))⟩
  · rw [hAs.size]
    exact h.ti.app0 (h.own H.toGeo) hg0 hok
  · obtain ⟨r, hr⟩ := h.rel i hi hst
    exact ⟨r, hr.appOther g_of_ofEvents (by omega)⟩
  · rcases getElem?_append_cases h1 with ⟨_, h1'⟩ | ⟨_, hmm⟩
    · exact h.virgin x hx k op y h1' h2
    · intro e
      rcases (hok op hmm).touch y h2 with ⟨⟨b, hb, hbb⟩, _⟩ | ⟨hr, _⟩
      · rw [e] at hb; cases hb
        rcases hbb with hbb | hbb
        · exact H.nx_ou hbb.symm
        · exact H.ou_wg hbb
      · rcases hr with ⟨b, hb, hro⟩ | ⟨r, hr, _⟩
        · rw [e] at hb; cases hb; exact hro.1.2.2.1 rfl
        · rw [e] at hr; cases hr
/-- THE go STATEMENT. -/
theorem Com.spawn (H : p.Hyp) (h : Com p Sh0 gs w t j D q 0 c os) {a' child : Goroutine} {x y : MemOp} {m : Nat} (hx : x.g = 0 ∧ x.act = .go (p.g0 + j)) (hy : y.g = p.g0 + j ∧ y.act = .start) (hc : p.WkR p.PA m child) :
    Com p Sh0 ((gs.setIfInBounds 0 a').push child) w (t ++ #[x, y]) (j + 1) (upd D j ⟨⟨7, m, 0⟩, 4, (D j).st, fun _ => False, fun _ => False, none⟩) q 0 c os := by
  have hg0 := H.g0
  have hm : ∀ op ∈ #[x, y], op = x ∨ op = y := by intro op hop; simpa using hop
  have hnt : ∀ op ∈ #[x, y], op.act.touch? = none := fun op hop => by
    rcases hm op hop with rfl | rfl
    · rw [hx.2]; rfl
    · rw [hy.2]; rfl
  have hst : ∀ op ∈ #[x, y], op.act ≠ .mark .disable ∧ op.act ≠ .mark .enable := by
    intro op hop
    rcases hm op hop with rfl | rfl
    · rw [hx.2]; exact ⟨by simp, by simp⟩
    · rw [hy.2]; exact ⟨by simp, by simp⟩
  have getOld : ∀ i, 0 < i → i < gs.size → ((gs.setIfInBounds 0 a').push child)[i]? = gs[i]? := fun i hi hlt => by
    rw [Array.getElem?_push_lt (by simpa using hlt), ← Array.getElem?_eq_getElem, Array.getElem?_setIfInBounds_ne (by omega)]
  -- the new one has nothing
  have nM : ∀ i b, i < j + 1 → (upd D j ⟨⟨7, m, 0⟩, 4, (D j).st, fun _ => False, fun _ => False, none⟩ i).M b → i < j ∧ (D i).M b := fun i b hi hb => by
    by_cases e : i = j
    · subst e; rw [upd_same] at hb; exact hb.elim
    · rw [upd_ne D _ e] at hb; exact ⟨by omega, hb⟩
  have nT : ∀ i b, i < j + 1 → (upd D j ⟨⟨7, m, 0⟩, 4, (D j).st, fun _ => False, fun _ => False, none⟩ i).T b → i < j ∧ (D i).T b := fun i b hi hb => by
    by_cases e : i = j
    · subst e; rw [upd_same] at hb; exact hb.elim
    · rw [upd_ne D _ e] at hb; exact ⟨by omega, hb⟩
  refine ⟨by simp [h.size]; omega, fun i g hi hlt hg => ?_, fun i hi => ?_, h.still, h.sizeW, h.outs, ?_, h.norel.app fun op hop => ?_, by rw [Deaf_still t 0 _ hst, h.deaf0], fun i hi => ?_, fun i hi hs => ?_, fun i b hi hb => let ⟨h1, h2⟩ := nM i b hi hb; h.mine i b h1 h2,
    fun i i' b hi hi' hb hb' => let ⟨h1, h2⟩ := nM i b hi hb; let ⟨h3, h4⟩ := nM i' b hi' hb'; h.apart i i' b h1 h3 h2 h4, fun i b hi hb => let ⟨h1, h2⟩ := nT i b hi hb; h.tk i b h1 h2,
    fun i i' b hi hi' hb hb' => let ⟨h1, h2⟩ := nT i b hi hb; let ⟨h3, h4⟩ := nT i' b hi' hb'; h.tapart i i' b h1 h3 h2 h4, h.nx, h.ou, fun x' hx' k op y' h1 h2 => ?_, fun x' h1 h2 => (h.done x' h1 h2).imp id fun ⟨k, hk, hc⟩ => ⟨k, by omega, by rw [upd_ne D _ (by omega)]; exact hc⟩, fun i hi hs => ?_, ?_⟩
  · rw [getOld i hi (by rw [h.size]; omega)] at hg
    rw [Deaf_still t _ _ hst]
    exact h.old i g hi hlt hg
  · rcases Nat.lt_or_ge i j with hlt | hge
    · obtain ⟨g, hg, hsg⟩ := h.wk i hlt
      exact ⟨g, by rw [getOld _ (by omega) (by rw [h.size]; omega)]; exact hg, by rw [upd_ne D _ (by omega)]; exact hsg⟩
    · obtain rfl : i = j := by omega
      refine ⟨child, ?_, by rw [upd_same]; exact .add m rfl rfl rfl hc⟩
      rw [show p.g0 + i = (gs.setIfInBounds 0 a').size by simp [h.size], Array.getElem?_push_size]
  · refine Pool.TI.fork (h.ti.grow fun k l hk => ?_) hg0 (fun l hl => ?_) hx hy h.deaf0
    · obtain ⟨hkj, hk⟩ := hk
      by_cases e : k = j
      · subst e
        rw [upd_same] at hk
        rcases hk with ⟨_, _, hk | ⟨_, hk, _⟩⟩ | ⟨_, _, hk⟩ <;> exact hk.elim
      · rw [upd_ne D _ e] at hk
        exact .inl ⟨by omega, hk⟩
    · obtain ⟨_, hk⟩ := hl
      rw [upd_same] at hk
      rcases hk with ⟨_, _, hk | ⟨_, hk, _⟩⟩ | ⟨_, _, hk⟩ <;> exact hk.elim
  · rcases hm op hop with rfl | rfl
    · rw [hx.2]; simp
    · rw [hy.2]; simp
  · rw [Deaf_still t _ _ hst]
    rcases Nat.lt_or_ge i j with hlt | hge
    · rw [h.deafW i hlt, upd_ne D _ (by omega)]
    · obtain rfl : i = j := by omega
      rw [upd_same]
      exact Deaf_absent fun a op ha e => by have := h.ti.gs op (Array.mem_of_getElem? ha); omega
  · rcases Nat.lt_or_ge i j with hlt | hge
    · rw [upd_ne D _ (by omega)] at hs
      obtain ⟨r, hr⟩ := h.rel i hlt hs
      refine ⟨r, hr.appNot fun op hop => ?_⟩
      rcases hm op hop with rfl | rfl
      · rw [hx.1]; omega
      · rw [hy.1]; omega
    · obtain rfl : i = j := by omega
      rw [upd_same] at hs
      simp at hs
  · rcases getElem?_append_cases h1 with ⟨_, h1'⟩ | ⟨_, hmm⟩
    · exact h.virgin x' (fun i hi hT => hx' i (by omega) (by rw [upd_ne D _ (by omega)]; exact hT)) k op y' h1' h2
    · rw [hnt op hmm] at h2; cases h2
  · by_cases e : i = j
    · subst e; rw [upd_same] at hs; simp at hs
    · rw [upd_ne D _ e] at hs; exact h.over i (by omega) hs
  · have e1 : (sumTo (j + 1) fun a => ov (upd D j ⟨⟨7, m, 0⟩, 4, (D j).st, fun _ => False, fun _ => False, none⟩ a)) = sumTo j fun a => ov (D a) := by
      rw [sumTo, upd_same, sumTo_upd_out D _ ov (Nat.le_refl _)]
      rfl
    rw [e1]; exact h.cle
/-- A LEAVER SLIPS. -/
theorem leaverStep (H : p.HypM) (ha : gs[0]? = some a) (hcs : CS p tag j f0 d0 a) (hcom : Com p Sh0 gs w t j D q d0 c os) (hacc : ∀ i, Acc (Chd p.P) (D i).st) (hwg : WgAt p.ty p.wg w st sm) (hmode : Go.ConcN.Mode j (DW D) tag st sm) {i : Nat} (hi : 0 < i) (hlt : i < p.g0) (hg : gs[i]? = some g)
    (hrun : g.status = .running) : Goal p Sh0 gs w sl t i (mA p tag j D c, mV p D hacc, mF p f0 j D q) := by
  have hg0 := H.g0
  have hq := hcom.old i g hi hlt hg
  cases hqi : q i with
  | zero => rw [hqi] at hq; rw [hq.1] at hrun; cases hrun
  | succ k =>
    rw [hqi] at hq
    rcases hq with ⟨hf, _⟩ | ⟨_, g', es, hmute, hstep, hq'⟩
    · rw [hf] at hrun; cases hrun
    have hgo := hstep w
    obtain ⟨tag', f', hcs', hf', htag, hwk⟩ := hcs.wokenBy H g g' w
    have hrunT := runT_crowd_go (P := p.P) (sl := sl) (i := i) hg (by rw [show (i == 0) = false by simp; omega]; exact hgo)
    have hn : ∀ op ∈ MemOp.ofEvents i g.frame.fn g.frame.place es, op.act.touch? = none := fun op hop => by obtain ⟨e, he, rfl⟩ := Go.Conc.mem_ofEvents hop; exact touch_mute (hmute e he)
    have hlo : ∀ op ∈ MemOp.ofEvents i g.frame.fn g.frame.place es, op.act.low w.heap.size := fun op hop => by obtain ⟨e, he, rfl⟩ := Go.Conc.mem_ofEvents hop; exact low_mute (hmute e he) _
    have hbk : ∀ e ∈ es, Bk p.wg e := fun e he => bk_of_mute (hmute e he)
    have ha' : ((gs.map (Conc.woken p.P g g' w)).setIfInBounds i g')[0]? = some (Conc.woken p.P g g' w a) := by
      rw [get_map_set _ _ _ _ (by omega), ha]; rfl
    have hsq := sumTo_upd q k id hlt
    have hcom' : Com p Sh0 ((gs.map (Conc.woken p.P g g' w)).setIfInBounds i g') w (t ++ MemOp.ofEvents i g.frame.fn g.frame.place es) j D (upd q i k) d0 c os := by
      refine ⟨by simp [hcom.size], fun b x hb hbl hx => ?_, fun b hb => ?_, hcom.still, hcom.sizeW, hcom.outs, hcom.ti.mute (g := i) (by omega) (fun op hop => by obtain ⟨e, _, rfl⟩ := Go.Conc.mem_ofEvents hop; rfl) hn hlo, hcom.norel.app (norel_of (norel_of_Bk hbk)), by rw [Deaf_other t (by omega) _ g_of_ofEvents, hcom.deaf0],
        fun b hb => by rw [Deaf_other t (by omega) _ g_of_ofEvents, hcom.deafW b hb], fun b hb hst => let ⟨r, hr⟩ := hcom.rel b hb hst; ⟨r, hr.appOther g_of_ofEvents (by omega)⟩, hcom.mine, hcom.apart, hcom.tk, hcom.tapart, hcom.nx, hcom.ou, fun x hx b op y h1 h2 => ?_, hcom.done, hcom.over, hcom.cle⟩
      · by_cases e : b = i
        · subst e
          rw [get_map_set_same _ _ _ (by rw [hcom.size]; omega)] at hx
          cases hx
          rw [upd_same, Deaf_own]
          exact hq'
        · rw [get_map_set _ _ _ _ (fun e' => e e'.symm)] at hx
          obtain ⟨y, hy, rfl⟩ := Option.map_eq_some_iff.1 hx
          have hqb := hcom.old b y hb hbl hy
          rw [woken_quitsD hqb, upd_ne q _ e, Deaf_other t (fun e' => e e'.symm) _ g_of_ofEvents]
          exact hqb
      · obtain ⟨x, hx, hsx⟩ := hcom.wk b hb
        exact ⟨x, by rw [get_map_set _ _ _ _ (by omega), hx, Option.map_some, hsx.woken H.toHyp], hsx⟩
      · rcases getElem?_append_cases h1 with ⟨_, h1'⟩ | ⟨_, hmm⟩
        · exact hcom.virgin x hx b op y h1' h2
        · rw [hn op hmm] at h2; cases h2
    refine ⟨_, _, (mA p tag' j D c, mV p D hacc, mF p f' j D (upd q i k)), hrunT, ?_, _, w, sl, j, D, upd q i k, tag', f', d0, c, os, _, st, sm, hacc, rfl, ha', hcs', hcom', hwg, hmode.retag htag, rfl⟩
    have hA : mA p tag' j D c = mA p tag j D c := by unfold mA; rw [phi_retag p.n _ htag]
    rw [hA]
    refine ltM_f ?_
    unfold mF
    have e1 : sumTo p.g0 (fun a => id (upd q i k a)) = sumTo p.g0 (upd q i k) := rfl
    have e2 : sumTo p.g0 (fun a => id (q a)) = sumTo p.g0 q := rfl
    rw [e1, e2, hqi] at hsq
    simp only [id] at hsq
    omega
end
end Go.Po
/- The pool, part 11: the starter's situations: its step keeps the invariant and lowers the measure, or the pool is done. -/
namespace Go.Po
open Go Go.Conc Go.Tw
open Go.ConcR (KK WgAt stA smA rd wr g_of_ofEvents loc_of_ofEvent again_blocked Bk ofEvent_loc_mark ofEvent_cell bk_of_mute ofEvent_mk)
open Go.ConcN (CTag phi cnt Vc WD upd sumTo upd_same upd_ne RelBy get_map_set get_map_set_same Deaf_absent Deaf_still sumTo_congr sumTo_upd sumTo_upd_out phi_mono phi_retag bk_cell bk_dis bk_en bk_rd bk_rw bk_sem isW3 isOpen OpenSt AllQuit pend norel_of_Bk norel_of Vc_upd Vc_le others_uncounted le_sumTo allQuit_of)
variable [FnSet]
/-- THE POOL IS DONE: goroutine 0 stands behind the join; all others are only leaving. -/
def Pool.Done (p : Pool) (Sh0 : Loc → Prop) (m : Machine) (t : Trace) : Prop :=
  ∃ (gs : Array Goroutine) (w : World) (sl : Option (Nat × Nat)) (a : Goroutine) (q : Nat → Nat) (os : Array Value) (c : Nat), m = crowd gs w sl ∧ gs[0]? = some a ∧ p.Exit a ∧ gs.size = p.g0 + p.n ∧ (∀ op ∈ t, op.g < gs.size) ∧ Leavers p.P t gs q ∧ Past (fun l => Sh0 l ∨ p.Shm l) w.heap.size t ∧
    (∀ b, p.Still b → w.heap[b]? = p.W1.heap[b]?) ∧ p.W1.heap.size ≤ w.heap.size ∧ (w.os = p.W1.os ∧ w.output = p.W1.output) ∧ WgAt p.ty p.wg w 0 0 ∧ p.NxAt w c ∧ p.OuAt w os ∧ ∀ x, x < p.len → os[x]? = some (p.R x)
section
variable {p : Pool} {Sh0 : Loc → Prop} {gs : Array Goroutine} {w w' : World} {t : Trace} {j : Nat} {D : Nat → PD} {q : Nat → Nat} {d0 c c' : Nat} {os os' : Array Value} {d' : PD} {g g' a a' : Goroutine} {tag tag' : CTag} {f0 f' : Nat} {st sm st' sm' : Int} {sl : Option (Nat × Nat)} {es : Array Event}
theorem callerStep (H : p.HypM) (ha : gs[0]? = some a) (hcom : Com p Sh0 gs w t j D q d0 c os) (hacc : ∀ i, Acc (Chd p.P) (D i).st) (hgo : stepG p.P true a w = .go a' w' es) (hAs : Aside p.wg w w') (hwg' : WgAt p.ty p.wg w' st' sm')
    (hok : ∀ op ∈ MemOp.ofEvents 0 a.frame.fn a.frame.place es, p.Ok0 w.heap.size op) (hnr : ∀ e ∈ es, e.loc ≠ .mark (.release (stA p.wg))) (hcs' : CS p tag' j f' (deafBehind d0 es) a') (hmode' : Go.ConcN.Mode j (DW D) tag' st' sm')
    (hlt : phi p.n (Vc j (DW D)) tag' < phi p.n (Vc j (DW D)) tag ∨ (phi p.n (Vc j (DW D)) tag' = phi p.n (Vc j (DW D)) tag ∧ f' < f0)) : Goal p Sh0 gs w sl t 0 (mA p tag j D c, mV p D hacc, mF p f0 j D q) := by
  have hg0 := H.g0
  have hrun := runT_crowd_go (P := p.P) (sl := sl) (i := 0) ha (by simpa using hgo)
  refine ⟨_, _, (mA p tag' j D c, mV p D hacc, mF p f' j D q), hrun, ?_, _, w', sl, j, D, q, tag', f', deafBehind d0 es, c, os, a', st', sm', hacc, rfl, get_map_set_same _ _ _ (by rw [hcom.size]; omega), hcs', hcom.step0 H.toHyp hAs hok hnr, hwg', hmode', rfl⟩
  rcases hlt with h | ⟨h1, h2⟩
  · exact ltM_a _ _ _ _ (by unfold mA; omega)
  · have hA : mA p tag' j D c = mA p tag j D c := by unfold mA; rw [h1]
    rw [hA]
    exact ltM_f (by unfold mF; omega)
theorem Com.wgl (H : p.Hyp) (h : Com p Sh0 gs w t j D q d0 c os) : p.wg < w.heap.size := Nat.lt_of_lt_of_le H.wg.2 h.sizeW
theorem bookC (H : p.HypM) (ha : gs[0]? = some a) (hcom : Com p Sh0 gs w t j D q d0 c os) (hacc : ∀ i, Acc (Chd p.P) (D i).st) (hgo : stepG p.P true a w = .go a' w' es) (hAs : Aside p.wg w w') (hwg' : WgAt p.ty p.wg w' st' sm')
    (hbk : ∀ e ∈ es, Bk p.wg e) (hcs' : CS p tag' j f' (deafBehind d0 es) a') (hmode' : Go.ConcN.Mode j (DW D) tag' st' sm')
    (hlt : phi p.n (Vc j (DW D)) tag' < phi p.n (Vc j (DW D)) tag ∨ (phi p.n (Vc j (DW D)) tag' = phi p.n (Vc j (DW D)) tag ∧ f' < f0)) : Goal p Sh0 gs w sl t 0 (mA p tag j D c, mV p D hacc, mF p f0 j D q) :=
  callerStep H ha hcom hacc hgo hAs hwg' (ok0_of_Bk H.toHyp (hcom.wgl H.toHyp) hbk) (norel_of_Bk hbk) hcs' hmode' hlt
theorem idleC (H : p.HypM) (ha : gs[0]? = some a) (hcom : Com p Sh0 gs w t j D q d0 c os) (hacc : ∀ i, Acc (Chd p.P) (D i).st) (hwg : WgAt p.ty p.wg w st sm) (hmode : Go.ConcN.Mode j (DW D) tag st sm) {d : Nat} (hgo : stepG p.P true a w = .go a' (w.at d) es) (hes : ∀ e ∈ es, p.EvS e)
    (hcs' : CS p tag j f' d0 a') (hf : f' < f0) : Goal p Sh0 gs w sl t 0 (mA p tag j D c, mV p D hacc, mF p f0 j D q) :=
  callerStep H ha hcom hacc hgo (Aside.at _ w d) hwg (ok0_of_EvS (hcom.wgl H.toHyp) hes) (nr_EvS hes) (by rw [idle_EvS hes]; exact hcs') hmode (.inr ⟨rfl, hf⟩)
theorem w1Step (H : p.HypM) (ha : gs[0]? = some a) (hcom : Com p Sh0 gs w t p.n D q 1 c os) (hacc : ∀ i, Acc (Chd p.P) (D i).st) (hwg : WgAt p.ty p.wg w st sm) (hmode : Go.ConcN.Mode p.n (DW D) .w1 st sm) (h : p.M0 p.AtW1 f0 a) :
    Goal p Sh0 gs w sl t 0 (mA p .w1 p.n D c, mV p D hacc, mF p f0 p.n D q) := by
  have hS := hcom.s hwg
  rcases h.cases with hK | ⟨m', rfl, _, hst⟩
  · obtain ⟨_, hall⟩ := hK
    obtain ⟨ho, rfl, rfl, _⟩ := hmode.open_inv trivial
    have hV := Vc_le p.n (DW D)
    obtain ⟨a', hgo, h0, hne⟩ := hall (Vc p.n (DW D)) w hS (by omega) (by simpa [pend] using hwg)
    have hbk : ∀ e ∈ #[rd (stA p.wg)], Bk p.wg e := by intro e he; simp at he; subst he; exact bk_cell _ _ rfl
    by_cases hv : Vc p.n (DW D) = 0
    · obtain ⟨m₂, hk⟩ := h0 hv
      refine bookC H ha hcom hacc hgo (.refl p.wg w) hwg hbk (tag' := .ke) (.ke hk) ?_ (.inl (by simp only [phi]; omega))
      have e : ((Vc p.n (DW D) + pend .w1 : Nat) : Int) * KK = 0 := by rw [hv]; simp [pend]
      rw [e]
      exact .fin trivial (allQuit_of ho hv)
    · obtain ⟨m₂, hk⟩ := hne hv
      exact bookC H ha hcom hacc hgo (.refl p.wg w) hwg hbk (tag' := .w2 (Vc p.n (DW D))) (.w2 hk) (hmode.reopen trivial trivial rfl (fun vs e => by cases e; omega)) (.inl (by simp only [phi]; omega))
  · obtain ⟨g', d, es, hgo, hes, hk⟩ := hst w hS
    exact idleC H ha hcom hacc hwg hmode hgo hes (.w1 hk) (by omega)
/-- The go statement's step. -/
theorem step_go (H : p.HypM) {r : Nat} (hr : r < p.n) (ha : gs[0]? = some a) (hcom : Com p Sh0 gs w t (p.n - (r + 1)) D q 0 c os) (hacc : ∀ i, Acc (Chd p.P) (D i).st) (hwg : WgAt p.ty p.wg w st sm) (hmode : Go.ConcN.Mode (p.n - (r + 1)) (DW D) (.sp r 2) st sm) (h : p.AtGoS (p.Spawns r) a) :
    Goal p Sh0 gs w sl t 0 (mA p (.sp r 2) (p.n - (r + 1)) D c, mV p D hacc, mF p f0 (p.n - (r + 1)) D q) := by
  have hS := hcom.s hwg
  obtain ⟨_, a', child, hsp, _, ⟨m₂, hwk⟩, hnext⟩ := h
  obtain ⟨ho, rfl, rfl, _⟩ := hmode.open_inv trivial
  have hrun' := runT_crowd_spawn (P := p.P) (sl := sl) (i := 0) ha (by simpa using hsp w hS)
  rw [hcom.size] at hrun'
  have hg0 := H.g0
  have hcom' := hcom.spawn H.toHyp (a' := a') (x := { g := 0, fn := a.frame.fn, pos := a.frame.place, act := .go (p.g0 + (p.n - (r + 1))) }) (y := { g := p.g0 + (p.n - (r + 1)), fn := child.frame.fn, pos := a.frame.place, act := .start }) ⟨rfl, rfl⟩ ⟨rfl, rfl⟩ hwk
  generalize hdn : (⟨⟨7, m₂, 0⟩, 4, (D (p.n - (r + 1))).st, fun _ => False, fun _ => False, none⟩ : PD) = dn at hcom'
  have hdw : dn.wd = ⟨7, m₂, 0⟩ := by rw [← hdn]
  have hds : dn.sub = 4 := by rw [← hdn]
  have hdst : dn.st = (D (p.n - (r + 1))).st := by rw [← hdn]
  have eV : Vc (p.n - (r + 1) + 1) (DW (upd D (p.n - (r + 1)) dn)) = Vc (p.n - (r + 1)) (DW D) + 1 := by
    rw [DW_upd, hdw]
    simp only [Vc, sumTo, upd_same]
    rw [sumTo_upd_out (DW D) _ cnt (Nat.le_refl _)]; rfl
  have eS : sumTo (p.n - (r + 1) + 1) (fun i => wgt (upd D (p.n - (r + 1)) dn i)) = sumTo (p.n - (r + 1)) (fun i => wgt (D i)) + 60 := by
    simp only [sumTo, upd_same]
    rw [sumTo_upd_out D _ wgt (Nat.le_refl _)]
    simp [wgt, hdw, hds]
  have ho' : OpenSt (p.n - (r + 1) + 1) (DW (upd D (p.n - (r + 1)) dn)) := fun i hi => by
    rw [DW_upd]
    by_cases e : i = p.n - (r + 1)
    · subst e; rw [upd_same, hdw]; simp
    · rw [upd_ne _ _ e]; exact ho i (by omega)
  have ha' : ((gs.setIfInBounds 0 a').push child)[0]? = some a' := by
    rw [Array.getElem?_push_lt (by simp [hcom.size]; omega), ← Array.getElem?_eq_getElem]
    exact Array.getElem?_setIfInBounds_self_of_lt (by rw [hcom.size]; omega)
  have hacc2 : ∀ k, Acc (Chd p.P) (upd D (p.n - (r + 1)) dn k).st := fun k => by
    by_cases e : k = p.n - (r + 1)
    · subst e; rw [upd_same, hdst]; exact hacc _
    · rw [upd_ne D _ e]; exact hacc k
  have ej : p.n - (r + 1) + 1 = p.n - r := by omega
  rw [ej] at hcom' eV eS ho'
  have est : ∀ tag', pend tag' = 0 → ((Vc (p.n - (r + 1)) (DW D) + pend (.sp r 2) : Nat) : Int) * KK = ((Vc (p.n - r) (DW (upd D (p.n - (r + 1)) dn)) + pend tag' : Nat) : Int) * KK := fun tag' hp => by rw [eV, hp]; simp [pend]
  have fin : ∀ (tag' : CTag) (f' : Nat), phi p.n (Vc (p.n - r) (DW (upd D (p.n - (r + 1)) dn))) tag' < phi p.n (Vc (p.n - (r + 1)) (DW D)) (.sp r 2) → CS p tag' (p.n - r) f' 0 a' → isOpen tag' → pend tag' = 0 → (∀ vs, tag' ≠ .w2 vs) →
      Goal p Sh0 gs w sl t 0 (mA p (.sp r 2) (p.n - (r + 1)) D c, mV p D hacc, mF p f0 (p.n - (r + 1)) D q) := fun tag' f' hphi hcs hop hpd hw2 => by
    refine ⟨_, _, (mA p tag' (p.n - r) (upd D (p.n - (r + 1)) dn) c, mV p _ hacc2, mF p f' (p.n - r) (upd D (p.n - (r + 1)) dn) q), hrun', ltM_a _ _ _ _ ?_, _, w, sl, p.n - r, _, q, tag', f', 0, c, os, a', _, _, hacc2, rfl, ha', hcs, hcom', hwg, ?_, rfl⟩
    · unfold mA
      rw [eS]
      omega
    · rw [est tag' hpd]
      exact .opn hop ho' (fun vs e => absurd e (hw2 vs))
  cases r with
  | zero =>
    obtain ⟨m₃, hk⟩ := hnext
    exact fin .kd m₃ (by simp only [phi]; omega) (by simpa using CS.kd hk) trivial rfl (by simp)
  | succ r' =>
    obtain ⟨m₃, hk⟩ := hnext
    exact fin (.sp r' 5) m₃ (by simp only [phi]; omega) (.skd (by omega) hk) trivial rfl (by simp)
/-- THE JOIN. -/
theorem step_acq (H : p.HypM) (ha : gs[0]? = some a) (hcom : Com p Sh0 gs w t p.n D q 0 c os) (hwg : WgAt p.ty p.wg w st sm) (hmode : Go.ConcN.Mode p.n (DW D) .acq st sm) (h : p.AtAcq a) :
    ∃ m₁ ops, runT p.P (crowd gs w sl) 0 = (.next m₁, ops) ∧ p.Done Sh0 m₁ (t ++ ops) := by
  have hS := hcom.s hwg
  have hg0 := H.g0
  obtain ⟨_, a', hgo, hex⟩ := h
  obtain ⟨hq, rfl, rfl⟩ := hmode.fin_inv trivial
  have hrun := runT_crowd_go (P := p.P) (sl := sl) (i := 0) ha (by simpa using hgo w hS)
  have hwl := hcom.wgl H.toHyp
  have hcom' := hcom.step0 (a := a) (a' := a') (fn := a.frame.fn) (pos := a.frame.place) (es := #[Go.ConcR.mk (.acquire (stA p.wg))]) H.toHyp (.refl p.wg w) (fun op hop => by
      rw [ofEvents_eq] at hop
      obtain ⟨e, he, rfl⟩ := Array.mem_map.1 hop
      simp at he; subst he
      exact ⟨rfl, fun x hx => (by cases hx), (by simp only [ofEvent_mk]; exact hwl)⟩) (by intro e he; simp at he; subst he; simp [Go.ConcR.mk])
  have e1 : MemOp.ofEvents 0 a.frame.fn a.frame.place #[Go.ConcR.mk (.acquire (stA p.wg))] = #[{ g := 0, fn := a.frame.fn, pos := a.frame.place, act := .mark (.acquire (stA p.wg)) }] := by rw [ofEvents_eq]; simp [ofEvent_mk]
  have hy : (t ++ #[({ g := 0, fn := a.frame.fn, pos := a.frame.place, act := .mark (.acquire (stA p.wg)) } : MemOp)])[t.size]? = some { g := 0, fn := a.frame.fn, pos := a.frame.place, act := .mark (.acquire (stA p.wg)) } := by simp
  have hidle : deafBehind 0 #[Go.ConcR.mk (.acquire (stA p.wg))] = 0 := rfl
  have hpast := hcom'.ti.past hcom'.norel (q := t.size) (by rw [e1, act?_of hy]) (by rw [e1]; simp [Trace.g?]) (by rw [e1]; exact ⟨0, by simp [Trace.g?], by rw [deaf_old (Nat.le_refl _)]; exact hcom.deaf0⟩)
    (fun i hi => by
      obtain ⟨r, hr⟩ := hcom.rel i hi (by have := hq i hi; simp only [DW] at this; omega)
      exact ⟨r, hr.appOther g_of_ofEvents (by omega), lt_of_act? hr.act⟩) (by rw [hcom'.deaf0, hidle])
  have quit : ∀ i, i < p.n → ∃ g qq dd, gs[p.g0 + i]? = some g ∧ (D i).wd = ⟨1, qq, dd⟩ ∧ (D i).sub = 0 ∧ (D i).cur = none ∧ QuitsD p.P qq dd g := fun i hi => by
    obtain ⟨g, hg, hs⟩ := hcom.wk i hi
    have h1 : (D i).wd.stage = 1 := hq i hi
    cases hs with
    | quit qq dd h2 h3 h4 h5 => exact ⟨g, qq, dd, hg, h2, h3, h4, h5⟩
    | add _ h2 => rw [h2] at h1; cases h1
    | call _ _ h2 => rw [h2] at h1; cases h1
    | fst _ h2 => rw [h2] at h1; cases h1
    | store _ _ h2 => rw [h2] at h1; cases h1
    | r0 _ h2 => rw [h2] at h1; cases h1
    | k1 _ h2 => rw [h2] at h1; cases h1
    | d1 _ h2 => rw [h2] at h1; cases h1
    | d2 _ h2 => rw [h2] at h1; cases h1
    | d3 _ h2 => rw [h2] at h1; cases h1
    | d4 _ h2 => rw [h2] at h1; cases h1
  have hc : p.len ≤ c := by
    obtain ⟨g, _, _, _, _, h3, _⟩ := quit 0 H.pos
    exact hcom.over 0 H.pos h3
  refine ⟨_, _, hrun, _, w, sl, a', fun i => if i < p.g0 then q i else (D (i - p.g0)).wd.fuel, os, c, rfl, get_map_set_same _ _ _ (by rw [hcom.size]; omega), hex, hcom'.size, fun op hop => by rw [hcom'.size]; exact hcom'.ti.gs op hop, ⟨fun i g hi hg => ?_, fun i hi => ?_⟩, hpast, hcom.still, hcom.sizeW, hcom.outs, hwg, hcom.nx, hcom.ou, fun x hx => ?_⟩
  · by_cases hlt : i < p.g0
    · rw [if_pos hlt]
      exact hcom'.old i g hi hlt hg
    · rw [if_neg hlt]
      obtain ⟨k, rfl⟩ := Nat.exists_eq_add_of_le (Nat.le_of_not_lt hlt)
      have hk : k < p.n := by have := (Array.getElem?_eq_some_iff.1 hg).1; rw [hcom'.size] at this; omega
      obtain ⟨g', hg', hs'⟩ := hcom'.wk k hk
      rw [hg] at hg'; cases hg'
      obtain ⟨_, qq, dd, _, h2, _⟩ := quit k hk
      rw [Nat.add_sub_cancel_left]
      rw [hcom'.deafW k hk]
      cases hs' with
      | quit qq' dd' h2' h3 h4 h5 => rw [h2']; exact h5
      | add _ h2' => rw [h2] at h2'; simp at h2'
      | call _ _ h2' => rw [h2] at h2'; simp at h2'
      | fst _ h2' => rw [h2] at h2'; simp at h2'
      | store _ _ h2' => rw [h2] at h2'; simp at h2'
      | r0 _ h2' => rw [h2] at h2'; simp at h2'
      | k1 _ h2' => rw [h2] at h2'; simp at h2'
      | d1 _ h2' => rw [h2] at h2'; simp at h2'
      | d2 _ h2' => rw [h2] at h2'; simp at h2'
      | d3 _ h2' => rw [h2] at h2'; simp at h2'
      | d4 _ h2' => rw [h2] at h2'; simp at h2'
  · refine Deaf_absent fun b op hb e => ?_
    have := hcom'.ti.gs op (Array.mem_of_getElem? hb)
    rw [hcom'.size] at hi
    omega
  · rcases hcom.done x (by omega) hx with h1 | ⟨k, hk, h1⟩
    · exact h1
    · obtain ⟨_, _, _, _, _, _, h4, _⟩ := quit k hk
      rw [h4] at h1; cases h1
set_option maxHeartbeats 1600000 in
theorem stepStarter (H : p.HypM) (ha : gs[0]? = some a) (hcs : CS p tag j f0 d0 a) (hcom : Com p Sh0 gs w t j D q d0 c os) (hacc : ∀ i, Acc (Chd p.P) (D i).st) (hwg : WgAt p.ty p.wg w st sm) (hmode : Go.ConcN.Mode j (DW D) tag st sm) (hrun : a.status = .running) :
    (∃ m₁ ops, runT p.P (crowd gs w sl) 0 = (.next m₁, ops) ∧ p.Done Sh0 m₁ (t ++ ops)) ∨ Goal p Sh0 gs w sl t 0 (mA p tag j D c, mV p D hacc, mF p f0 j D q) := by
  have hS := hcom.s hwg
  have hVj := Vc_le j (DW D)
  cases hcs with
  | skd hr h =>
    rcases h.cases with hK | ⟨m', rfl, _, hst⟩
    · obtain ⟨_, a', hgo, m₂, hk⟩ := hK
      exact .inr (bookC H ha hcom hacc (hgo w hS) (.refl p.wg w) hwg bk_dis (.sa1 hr hk) (hmode.reopen trivial trivial rfl (by simp)) (.inl (by simp only [phi]; omega)))
    · obtain ⟨g', d, es, hgo, hes, hk⟩ := hst w hS
      exact .inr (idleC H ha hcom hacc hwg hmode hgo hes (.skd hr hk) (by omega))
  | sa1 hr h =>
    rename_i r
    rcases h.cases with hK | ⟨m', rfl, _, hst⟩
    · obtain ⟨_, hall⟩ := hK
      obtain ⟨ho, rfl, rfl, _⟩ := hmode.open_inv trivial
      obtain ⟨a', hgo, m₂, hk⟩ := hall (Vc (p.n - (r + 1)) (DW D)) w hS (by omega) (by simpa [pend] using hwg)
      refine .inr (bookC H ha hcom hacc hgo (aside_setCell w (stA p.wg) _) (hwg.setSt _) bk_rw (.ske hr hk) ?_ (.inl (by simp only [phi]; omega)))
      have e : (((Vc (p.n - (r + 1)) (DW D) : Nat) : Int) + 1) * KK = ((Vc (p.n - (r + 1)) (DW D) + pend (.sp r 3) : Nat) : Int) * KK := by simp [pend]
      rw [e]
      exact .opn trivial ho (by simp)
    · obtain ⟨g', d, es, hgo, hes, hk⟩ := hst w hS
      exact .inr (idleC H ha hcom hacc hwg hmode hgo hes (.sa1 hr hk) (by omega))
  | ske hr h =>
    rcases h.cases with hK | ⟨m', rfl, _, hst⟩
    · obtain ⟨_, a', hgo, m₂, hk⟩ := hK
      exact .inr (bookC H ha hcom hacc (hgo w hS) (.refl p.wg w) hwg bk_en (.sgo hr hk) (hmode.reopen trivial trivial rfl (by simp)) (.inl (by simp only [phi]; omega)))
    · obtain ⟨g', d, es, hgo, hes, hk⟩ := hst w hS
      exact .inr (idleC H ha hcom hacc hwg hmode hgo hes (.ske hr hk) (by omega))
  | sgo hr h =>
    rcases h.cases with hK | ⟨m', rfl, _, hst⟩
    · exact .inr (step_go H hr ha hcom hacc hwg hmode hK)
    · obtain ⟨g', d, es, hgo, hes, hk⟩ := hst w hS
      exact .inr (idleC H ha hcom hacc hwg hmode hgo hes (.sgo hr hk) (by omega))
  | kd h =>
    rcases h.cases with hK | ⟨m', rfl, _, hst⟩
    · obtain ⟨_, a', hgo, m₂, hk⟩ := hK
      exact .inr (bookC H ha hcom hacc (hgo w hS) (.refl p.wg w) hwg bk_dis (.anch hk) (hmode.reopen trivial trivial rfl (by simp)) (.inl (by simp only [phi]; omega)))
    · obtain ⟨g', d, es, hgo, hes, hk⟩ := hst w hS
      exact .inr (idleC H ha hcom hacc hwg hmode hgo hes (.kd hk) (by omega))
  | anch h =>
    rcases h.cases with hK | ⟨m', rfl, _, hst⟩
    · obtain ⟨_, m₂, hk⟩ := H.anch a hK
      obtain ⟨m₁, ops, μ', h1, h2, h3⟩ := w1Step (sl := sl) H ha hcom hacc hwg (hmode.reopen trivial trivial rfl (by simp)) hk
      refine .inr ⟨m₁, ops, μ', h1, ?_, h3⟩
      have hA : mA p .w1 p.n D c < mA p .anch p.n D c := by unfold mA; simp only [phi]; omega
      rcases Prod.lex_def.1 h2 with h4 | ⟨h4, _⟩
      · exact Prod.lex_def.2 (.inl (by simp only at h4 ⊢; omega))
      · exact Prod.lex_def.2 (.inl (by simp only at h4 ⊢; omega))
    · obtain ⟨g', d, es, hgo, hes, hk⟩ := hst w hS
      exact .inr (idleC H ha hcom hacc hwg hmode hgo hes (.anch hk) (by omega))
  | w1 h => exact .inr (w1Step H ha hcom hacc hwg hmode h)
  | w2 h =>
    rename_i vs
    rcases h.cases with hK | ⟨m', rfl, _, hst⟩
    · obtain ⟨_, hall⟩ := hK
      obtain ⟨ho, rfl, rfl, hw2⟩ := hmode.open_inv trivial
      obtain ⟨hle, h1⟩ := hw2 vs rfl
      obtain ⟨hhit, hmiss⟩ := hall (Vc p.n (DW D)) w hS (by omega) (by simpa [pend] using hwg)
      by_cases e : Vc p.n (DW D) = vs
      · obtain ⟨a', hgo, m₂, hk⟩ := hhit e
        exact .inr (bookC H ha hcom hacc hgo (aside_setCell w (stA p.wg) _) (hwg.setSt _) bk_rw (.w3 hk) (.reg trivial ho (by omega)) (.inl (by simp only [phi]; omega)))
      · obtain ⟨a', hgo, m₂, hk⟩ := hmiss e
        exact .inr (bookC H ha hcom hacc hgo (.refl p.wg w) hwg bk_rd (.anch hk) (hmode.reopen trivial trivial rfl (by simp)) (.inl (by simp only [phi]; omega)))
    · obtain ⟨g', d, es, hgo, hes, hk⟩ := hst w hS
      exact .inr (idleC H ha hcom hacc hwg hmode hgo hes (.w2 hk) (by omega))
  | w3 h =>
    rcases h.cases with hK | ⟨m', rfl, _, hst⟩
    · have hK0 := hK
      obtain ⟨_, hoff, hx⟩ := hK
      obtain ⟨hblk, htake⟩ := hx w hS
      cases hmode with
      | opn h1 _ _ => exact h1.elim
      | reg h1 h2 h3 => exact .inr (bookC H ha hcom hacc (hblk ⟨_, hwg⟩) (.refl p.wg w) hwg (by simp) (.blk hK0) (.reg trivial h2 h3) (.inr ⟨rfl, by omega⟩))
      | last L h1 h2 h3 h4 => exact .inr (bookC H ha hcom hacc (hblk ⟨_, hwg⟩) (.refl p.wg w) hwg (by simp) (.blk hK0) (.last L trivial h2 h3 h4) (.inr ⟨rfl, by omega⟩))
      | sema h2 =>
        obtain ⟨a', hgo, m₂, hk⟩ := htake hwg
        exact .inr (bookC H ha hcom hacc hgo (aside_setCell w (smA p.wg) _) (hwg.setSm 0) bk_sem (.w4 hk) (.fin trivial h2) (.inl (by simp only [phi]; omega)))
      | fin h1 _ => exact h1.elim
    · obtain ⟨g', d, es, hgo, hes, hk⟩ := hst w hS
      exact .inr (idleC H ha hcom hacc hwg hmode hgo hes (.w3 hk) (by omega))
  | blk h => simp at hrun
  | w4 h =>
    rcases h.cases with hK | ⟨m', rfl, _, hst⟩
    · obtain ⟨_, hx⟩ := hK
      obtain ⟨hq, rfl, rfl⟩ := hmode.fin_inv trivial
      obtain ⟨a', hgo, m₂, hk⟩ := hx w hS hwg
      exact .inr (bookC H ha hcom hacc hgo (.refl p.wg w) hwg bk_rd (.ke hk) (.fin trivial hq) (.inl (by simp only [phi]; omega)))
    · obtain ⟨g', d, es, hgo, hes, hk⟩ := hst w hS
      exact .inr (idleC H ha hcom hacc hwg hmode hgo hes (.w4 hk) (by omega))
  | ke h =>
    rcases h.cases with hK | ⟨m', rfl, _, hst⟩
    · obtain ⟨_, a', hgo, m₂, hk⟩ := hK
      obtain ⟨hq, rfl, rfl⟩ := hmode.fin_inv trivial
      exact .inr (bookC H ha hcom hacc (hgo w hS) (.refl p.wg w) hwg bk_en (.acq hk) (.fin trivial hq) (.inl (by simp only [phi]; omega)))
    · obtain ⟨g', d, es, hgo, hes, hk⟩ := hst w hS
      exact .inr (idleC H ha hcom hacc hwg hmode hgo hes (.ke hk) (by omega))
  | acq h =>
    rcases h.cases with hK | ⟨m', rfl, _, hst⟩
    · exact .inl (step_acq H ha hcom hwg hmode hK)
    · obtain ⟨g', d, es, hgo, hes, hk⟩ := hst w hS
      exact .inr (idleC H ha hcom hacc hwg hmode hgo hes (.acq hk) (by omega))
end
end Go.Po
/- The pool, part 12: from the first Add to behind the join, on whatever tape. -/
namespace Go.Po
open Go Go.Conc Go.Tw
open Go.ConcR (KK WgAt stA smA rd wr)
open Go.ConcN (CTag phi cnt Vc WD upd sumTo upd_same upd_ne RelBy Deaf_absent OpenSt pend exists_counted)
variable [FnSet]
section
variable {p : Pool} {Sh0 : Loc → Prop} {gs : Array Goroutine} {w w' : World} {t : Trace} {j : Nat} {D : Nat → PD} {q : Nat → Nat} {d0 c : Nat} {os : Array Value} {d : PD} {g a : Goroutine} {tag : CTag} {f0 : Nat} {st sm : Int} {sl : Option (Nat × Nat)}
theorem WSit.running_of (H : p.Hyp) (h : WSit p d g w) (hs : d.wd.stage ≠ 1) : g.status = .running := by
  rcases h.status H with h1 | h1
  · exact h1
  · cases h with
    | quit q dd h2 => rw [h2] at hs; exact absurd rfl hs
    | add m _ _ _ h => exact h.running fun g hg => (H.add g hg).1
    | call i m _ _ _ hi _ h => exact h.running fun g hg => by obtain ⟨_, fr, _, _, _, rfl, _⟩ := H.call i g hi hg; rfl
    | fst i _ _ _ _ _ h => obtain ⟨_, _, _, _, _, _, rfl, _⟩ := h; rfl
    | store i m _ _ _ hi _ h => exact h.running fun g hg => (H.store i g hi hg).1
    | r0 m _ _ _ h => exact h.running fun g hg => hg.1
    | k1 m _ _ _ h => exact h.running fun g hg => hg.1
    | d1 m _ _ _ h => exact h.running fun g hg => hg.1
    | d2 m _ _ _ h => exact h.running fun g hg => hg.1
    | d3 m _ _ _ h => exact h.running fun g hg => hg.1
    | d4 m _ _ _ h => exact h.running fun g hg => hg.1
/-- NO DEADLOCK. -/
theorem someone_runs (H : p.HypM) (ha : gs[0]? = some a) (hcs : CS p tag j f0 d0 a) (hcom : Com p Sh0 gs w t j D q d0 c os) (hmode : Go.ConcN.Mode j (DW D) tag st sm) : ∃ (i : Nat) (g : Goroutine), gs[i]? = some g ∧ g.status = .running := by
  by_cases hb : tag = .blk
  · subst hb
    cases hmode with
    | opn h1 _ _ => exact h1.elim
    | reg _ _ h3 =>
      obtain ⟨i, hi, h5⟩ := exists_counted h3
      obtain ⟨g, hg, hs⟩ := hcom.wk i hi
      exact ⟨_, g, hg, hs.running_of H.toHyp (by simp only [DW] at h5; omega)⟩
    | last L _ h2 h3 _ =>
      obtain ⟨g, hg, hs⟩ := hcom.wk L h2
      exact ⟨_, g, hg, hs.running_of H.toHyp (by simp only [DW] at h3; omega)⟩
    | fin h1 _ => exact h1.elim
  · exact ⟨0, a, ha, hcs.running H hb⟩
theorem all_awake (H : p.HypM) (ha : gs[0]? = some a) (hcs : CS p tag j f0 d0 a) (hcom : Com p Sh0 gs w t j D q d0 c os) : ∀ g ∈ gs, awake g := by
  intro g hg tm
  obtain ⟨i, hi⟩ := Array.mem_iff_getElem?.1 hg
  rcases Nat.eq_zero_or_pos i with rfl | hpos
  · rw [ha] at hi; cases hi
    rcases hcs.status H with hs | hs <;> rw [hs] <;> simp
  · rcases Nat.lt_or_ge i p.g0 with hlt | hge
    · rcases (hcom.old i g hpos hlt hi).status with h | h <;> rw [h] <;> simp
    · obtain ⟨k, rfl⟩ := Nat.exists_eq_add_of_le hge
      have hk : k < j := by have := (Array.getElem?_eq_some_iff.1 hi).1; rw [hcom.size] at this; omega
      obtain ⟨g', hg', hs⟩ := hcom.wk k hk
      rw [hi] at hg'; cases hg'
      rcases hs.status H.toHyp with h | h <;> rw [h] <;> simp
/-- EVERY STEP OF THE MACHINE. -/
theorem pool_step (H : p.HypM) (μ : Nat × VSub p.P × Nat) (m : Machine) (t : Trace) (h : Inv p Sh0 μ m t) :
    (∃ m' ops, stepT p.P m = (.next m', ops) ∧ p.Done Sh0 m' (t ++ ops)) ∨ ∃ m' ops μ', stepT p.P m = (.next m', ops) ∧ LtM p.P p.n μ' μ ∧ Inv p Sh0 μ' m' (t ++ ops) := by
  obtain ⟨gs, w, sl, j, D, q, tag, f0, d0, c, os, a, st, sm, hacc, rfl, ha, hcs, hcom, hwg, hmode, rfl⟩ := h
  obtain ⟨i, g, d, sl', hg, hrun, hstep⟩ := crowd_pick (P := p.P) (w := w) (sl := sl) (all_awake H ha hcs hcom) (someone_runs H ha hcs hcom hmode)
  rw [hstep]
  have hcom' := hcom.at H.toHyp d
  have hwg' : WgAt p.ty p.wg (w.at d) st sm := hwg
  rcases Nat.eq_zero_or_pos i with rfl | hpos
  · rw [ha] at hg; cases hg
    exact stepStarter (sl := sl') H ha hcs hcom' hacc hwg' hmode hrun
  · rcases Nat.lt_or_ge i p.g0 with hlt | hge
    · exact .inr (leaverStep H ha hcs hcom' hacc hwg' hmode hpos hlt hg hrun)
    · obtain ⟨k, rfl⟩ := Nat.exists_eq_add_of_le hge
      have hk : k < j := by have := (Array.getElem?_eq_some_iff.1 hg).1; rw [hcom.size] at this; omega
      exact .inr (stepWorker H ha hcs hcom' hacc hwg' hmode hk hg hrun)
/-- ████ THE POOL RUNS TO BEHIND ITS JOIN. ████ -/
theorem pool_runs (H : p.HypM) : ∀ (μ : Nat × VSub p.P × Nat) (m : Machine) (t : Trace), Inv p Sh0 μ m t → ∃ N m' t', runNT p.P N m t = (.next m', t') ∧ p.Done Sh0 m' t' := by
  intro μ
  induction μ using (ltM_wf p.P p.n).induction with
  | _ μ ih =>
    intro m t h
    rcases pool_step H μ m t h with ⟨m', ops, h1, h2⟩ | ⟨m', ops, μ', h1, h2, h3⟩
    · exact ⟨1, m', t ++ ops, by simp only [runNT, h1], h2⟩
    · obtain ⟨N, m'', t', h4, h5⟩ := ih μ' h2 m' (t ++ ops) h3
      exact ⟨N + 1, m'', t', by simp only [runNT, h1]; exact h4, h5⟩
/-- THE ENTRY: goroutine 0 ahead of the first Add, beside leavers. -/
theorem pool_from (H : p.HypM) {m : Nat} (h0 : gs[0]? = some a) (hk : p.M0 (p.AtKdS (p.Spawns (p.n - 1))) m a) (hgs : gs.size = p.g0) (hL : Leavers p.P t gs q) (hP : Past Sh0 w.heap.size t) (hheap : w.heap = p.W1.heap) (hos : w.os = p.W1.os ∧ w.output = p.W1.output)
    (hnx : p.NxAt p.W1 0) (hou : p.OuAt p.W1 os) (hwg : WgAt p.ty p.wg p.W1 0 0)
    (hv : ∀ (i : Nat) (op : MemOp) (y : Touch), t[i]? = some op → op.act.touch? = some y → (∀ b, y.loc = .cell b → b.block ≠ p.nx ∧ b.block ≠ p.ou ∧ b.block ≠ p.wg))
    (hro : ∀ l, p.ROl l → ¬ Sh0 l) (hno : NoRelease (stA p.wg) t) (hg : ∀ op ∈ t, op.g < p.g0) :
    ∃ N m' t', runNT p.P N (crowd gs w sl) t = (.next m', t') ∧ p.Done Sh0 m' t' := by
  have hg0 := H.g0
  have hpos := H.pos
  have hst : Acc (Chd p.P) (⟨{ (default : Frame) with mode := .returning }, [], w⟩ : St) := ⟨_, fun y ⟨T, d, hy⟩ => absurd rfl (hy.2 rfl)⟩
  generalize (⟨{ (default : Frame) with mode := .returning }, [], w⟩ : St) = s0 at hst
  have hcom : Com p Sh0 gs w t 0 (fun _ => ⟨⟨0, 0, 0⟩, 0, s0, fun _ => False, fun _ => False, none⟩) q 0 0 os := by
    refine ⟨by simpa using hgs, fun i g hi _ hg => hL.old i g hi hg, fun i hi => absurd hi (Nat.not_lt_zero i), fun b _ => by rw [hheap], by rw [hheap]; exact Nat.le_refl _, hos, ?_, hno, hP.hears, fun i hi => absurd hi (Nat.not_lt_zero i), fun i hi => absurd hi (Nat.not_lt_zero i), fun i b hi => absurd hi (Nat.not_lt_zero i), fun i i' b hi => absurd hi (Nat.not_lt_zero i), fun i x hi => absurd hi (Nat.not_lt_zero i), fun i i' x hi => absurd hi (Nat.not_lt_zero i),
      by unfold Pool.NxAt; rw [hheap]; exact hnx, by unfold Pool.OuAt; rw [hheap]; exact hou, fun x _ k op y h1 h2 e => (hv k op y h1 h2 _ e).2.1 rfl, fun x hx => absurd hx (Nat.not_lt_zero x), fun i hi => absurd hi (Nat.not_lt_zero i), Nat.zero_le _⟩
    refine ⟨fun i op x h1 h2 hs => ?_, fun k hk => absurd hk (Nat.not_lt_zero k), fun g hg l hl => ?_, fun i op x h1 h2 hm => ?_, fun i op x h1 h2 hge => ?_, hP.clean, hP.seen, fun op hop => by have := hg op hop; omega, fun i g hgi hne hlt hc => hP.over i g hgi hne hc⟩
    · obtain ⟨b, hb, hbb⟩ := hs
      have := hv i op x h1 h2 b hb
      rcases hbb with e | e
      · exact absurd e this.1
      · exact absurd e this.2.2
    · obtain rfl : g = 0 := hg.elim id fun ⟨k, hk, _⟩ => absurd hk (Nat.not_lt_zero k)
      intro i x hx e hw
      refine (hP.known i x hx ?_).elim id fun h => absurd h.1 (hro _ (e ▸ hl))
      rw [e]
      rcases hl with ⟨b, rfl, _⟩ | ⟨r, rfl, _⟩ <;> rfl
    · rcases hP.known i x (by rw [touchAt_of h1]; exact h2) hm with h | h
      · exact .inl h
      · exact .inr (.inl h)
    · have := hg op (Array.mem_of_getElem? h1); omega
  refine pool_runs H _ _ t ⟨gs, w, sl, 0, _, q, .sp (p.n - 1) 5, m, 0, 0, os, a, 0, 0, fun _ => hst, rfl, h0, ?_, hcom, by unfold WgAt; rw [hheap]; exact hwg, ?_, rfl⟩
  · have := CS.skd (p := p) (r := p.n - 1) (m := m) (g := a) (by omega) hk
    rwa [show p.n - (p.n - 1 + 1) = 0 by omega] at this
  · have h := Go.ConcN.Mode.opn (j := 0) (D := DW fun _ => ⟨⟨0, 0, 0⟩, 0, s0, fun _ => False, fun _ => False, none⟩) (tag := .sp (p.n - 1) 5) trivial (fun i hi => absurd hi (Nat.not_lt_zero i)) (fun vs e => by cases e)
    have e : ((Vc 0 (DW fun _ => ⟨⟨0, 0, 0⟩, 0, s0, fun _ => False, fun _ => False, none⟩) + pend (.sp (p.n - 1) 5) : Nat) : Int) * KK = 0 := by simp [Vc, Go.ConcN.sumTo, pend]
    rw [e] at h
    exact h
end
end Go.Po
/- The pool, part 13: walks by scripts; goroutine 0 alone beside leavers. -/
namespace Go.Po
open Go Go.Conc Go.Tw
open Go.ConcR (KK WgAt stA smA rd wr g_of_ofEvents)
open Go.ConcN (upd upd_same upd_ne sumTo)

/-- What an operation that stops nobody leaves. -/
def nextOf : Option Value → Next
  | some v => .value v
  | none => .skip
def valOf : Option Value → Value
  | some v => v
  | none => undef
/-- What the step at the head asks, and the frame behind it: an operation; or the entry of the library's that was deferred last. -/
def ask (fr : Frame) : Option (Sem Next × (Value → Frame)) :=
  match hd fr with
  | some o => some (execOp fr.eval o, fun v => fr.finish v)
  | none => match fr.mode with
    | .run => none
    | _ => match fr.defers with
      | d :: ds => match d.target with
        | .fn f c => some (invoke (.fn f c) d.args, fun _ => { fr with defers := ds })
        | _ => none
      | [] => none
theorem ask_next {P : Program} {main : Bool} {fr : Frame} {cs : List Frame} {s : Sem Next} {k : Value → Frame} (h : ask fr = some (s, k)) {w w' : World} {v : Option Value} (hr : s.run P w = .ok (nextOf v) w') :
    stepG P main (G fr cs) w = .go (G (k (valOf v)) cs) w' (seen P fr.fn (s.events P w #[])) := by
  unfold ask at h
  split at h
  · rename_i o ho
    cases h
    cases v with
    | some v => exact hd_value ho hr
    | none => exact hd_skip ho hr
  · split at h
    · cases h
    · rename_i hm
      split at h
      · rename_i d ds hd
        split at h
        · rename_i f c ht
          cases h
          have hu : stepG P main (G fr cs) w = unwind P main fr cs none w := by
            unfold G stepG
            cases hmm : fr.mode with
            | run => exact absurd hmm hm
            | _ => simp [hmm]
          rw [hu]
          unfold unwind
          rw [hd]
          obtain ⟨tg, av⟩ := d
          simp only at ht
          subst ht
          simp only at hr ⊢
          cases v <;> simp [callDeferred, Sem.runT_eq, hr, nextOf, GStep.after, G]
        · cases h
      · cases h
/-- A script: so many steps that look at no world; then the step at the head leaves this. Told: what those steps ask. -/
def scr (P : Program) : List (Nat × Option Value) → Frame → List Frame → Option (List (Sem Next) × Frame × List Frame)
  | [], fr, cs => some ([], fr, cs)
  | (n, v) :: l, fr, cs => match idl P n fr cs with
    | some (fr', cs') => match ask fr' with
      | some (s, k) => match scr P l (k (valOf v)) cs' with
        | some (ss, x) => some (s :: ss, x)
        | none => none
      | none => none
    | none => none
theorem scr_cons {P : Program} {n : Nat} {v : Option Value} {l : List (Nat × Option Value)} {fr : Frame} {cs : List Frame} {ss : List (Sem Next)} {x : Frame × List Frame} (h : scr P ((n, v) :: l) fr cs = some (ss, x)) :
    ∃ fr' cs' s k ss', idl P n fr cs = some (fr', cs') ∧ ask fr' = some (s, k) ∧ scr P l (k (valOf v)) cs' = some (ss', x) ∧ ss = s :: ss' := by
  simp only [scr] at h
  split at h
  · rename_i fr' cs' h1
    split at h
    · rename_i s k h2
      split at h
      · rename_i ss' y h3
        cases h
        exact ⟨fr', cs', s, k, ss', h1, h2, h3, rfl⟩
      · cases h
    · cases h
  · cases h
theorem hd_running {fr : Frame} {cs : List Frame} : (G fr cs).status = .running := rfl
/-! ### in company -/
section
variable [FnSet] {p : Pool} {main : Bool} {Ok : Event → Prop} {K : Goroutine → Prop}
theorem wlk_idl : ∀ {n m : Nat} {fr fr' : Frame} {cs cs' : List Frame}, idl p.P n fr cs = some (fr', cs') → p.Wlk main Ok K m (G fr' cs') → p.Wlk main Ok K (n + m) (G fr cs)
  | 0, m, fr, fr', cs, cs', h, hk => by cases h; rw [Nat.zero_add]; exact hk
  | n + 1, m, fr, fr', cs, cs', h, hk => by
    simp only [idl] at h
    split at h
    · rename_i f1 c1 h1
      rw [Nat.succ_add]
      exact .inr ⟨rfl, fun w _ => ⟨_, w.drawn, #[], pgs_step h1 w, fun e he => by simp at he, wlk_idl h hk⟩⟩
    · cases h
/-- What an operation asks is met in every world of the pool's: it leaves v, and the world as it is. -/
def Pool.Asks (p : Pool) (Ok : Event → Prop) (s : Sem Next) (v : Option Value) : Prop := ∀ w, p.S w → ∃ d, s.run p.P w = .ok (nextOf v) (w.at d) ∧ ∀ e ∈ s.events p.P w #[], Ok e
def Pool.AllAsk (p : Pool) (Ok : Event → Prop) : List (Sem Next) → List (Nat × Option Value) → Prop
  | s :: ss, (_, v) :: l => p.Asks Ok s v ∧ p.AllAsk Ok ss l
  | [], [] => True
  | _, _ => False
theorem wlk_scr : ∀ {l : List (Nat × Option Value)} {ss : List (Sem Next)} {m : Nat} {fr fr' : Frame} {cs cs' : List Frame}, scr p.P l fr cs = some (ss, fr', cs') → p.AllAsk Ok ss l → p.Wlk main Ok K m (G fr' cs') → ∃ m', p.Wlk main Ok K m' (G fr cs)
  | [], ss, m, fr, fr', cs, cs', h, _, hk => by cases h; exact ⟨m, hk⟩
  | (n, v) :: l, ss, m, fr, fr', cs, cs', h, ha, hk => by
    obtain ⟨f1, c1, sx, kx, ss', h1, h2, h3, rfl⟩ := scr_cons h
    obtain ⟨m', hk'⟩ := wlk_scr h3 ha.2 hk
    refine ⟨n + (m' + 1), wlk_idl h1 (.inr ⟨rfl, fun w hw => ?_⟩)⟩
    obtain ⟨d, hr, he⟩ := ha.1 w hw
    exact ⟨_, d, _, ask_next h2 hr, fun e hm => he e (mem_seen hm), hk'⟩
end
/-! ### goroutine 0, alone beside leavers -/
/-- It goes on, whatever it draws, to K. -/
inductive Go0 (P : Program) (Ok : World → Event → Prop) (K : Goroutine → World → Prop) : Goroutine → World → Prop
  | stop {g : Goroutine} {w : World} : (∀ d, K g (w.at d)) → Go0 P Ok K g w
  | step {g : Goroutine} {w : World} (nx : Nat → Goroutine × World × Array Event) : g.status = .running → (∀ d, stepG P true g (w.at d) = .go (nx d).1 (nx d).2.1 (nx d).2.2) → (∀ d, w.heap.size ≤ (nx d).2.1.heap.size) → (∀ d, ∀ e ∈ (nx d).2.2, Ok (nx d).2.1 e) →
      (∀ d, Go0 P Ok K (nx d).1 (nx d).2.1) → Go0 P Ok K g w
/-- What the operations listed meanwhile are. -/
def ByOp (Ok : World → Event → Prop) (sz : Nat) (op : MemOp) : Prop := (op.g = 0 ∧ ∃ w e, Ok w e ∧ op.act = .ofEvent e) ∨ (op.g ≠ 0 ∧ op.g < sz ∧ ∃ e, e.mute = true ∧ op.act = .ofEvent e)
section
variable {P : Program} {Ok : World → Event → Prop} {K K' : Goroutine → World → Prop} {Shun : Loc → Prop}
theorem Go0.mono (h : ∀ g w, K g w → K' g w) {g : Goroutine} {w : World} (hg : Go0 P Ok K g w) : Go0 P Ok K' g w := by
  induction hg with
  | stop hk => exact .stop fun d => h _ _ (hk d)
  | step nx h1 h2 h3 h4 _ ih => exact .step nx h1 h2 h3 h4 ih
theorem Go0.bind (h : ∀ g w, K g w → Go0 P Ok K' g w) {g : Goroutine} {w : World} (hg : Go0 P Ok K g w) : Go0 P Ok K' g w := by
  induction hg with
  | @stop g w hk => exact h g w (hk w.drawn)
  | step nx h1 h2 h3 h4 _ ih => exact .step nx h1 h2 h3 h4 ih
theorem Go0.at {g : Goroutine} {w : World} (hg : Go0 P Ok K g w) (d : Nat) : Go0 P Ok K g (w.at d) := by
  cases hg with
  | stop hk => exact .stop fun d' => hk d'
  | step nx h1 h2 h3 h4 h5 => exact .step nx h1 h2 h3 h4 h5
/-- ████ IN THE MACHINE. ████ -/
theorem go0_beside (hOk : ∀ w e, Ok w e → EvL Shun w.heap.size e) {g : Goroutine} {w : World} (hG : Go0 P Ok K g w) : ∀ (d0 : Nat) (gs : Array Goroutine) (sl : Option (Nat × Nat)) (t : Trace) (q : Nat → Nat), gs[0]? = some g → Leavers P t gs q → Past Shun w.heap.size t →
    ∃ (N : Nat) (gs' : Array Goroutine) (a' : Goroutine) (w' : World) (sl' : Option (Nat × Nat)) (t' u : Trace) (q' : Nat → Nat), runNT P N (crowd gs (w.at d0) sl) t = (.next (crowd gs' w' sl'), t') ∧ gs'.size = gs.size ∧ gs'[0]? = some a' ∧ K a' w' ∧ Leavers P t' gs' q' ∧ Past Shun w'.heap.size t' ∧ t' = t ++ u ∧ ∀ op ∈ u, ByOp Ok gs.size op := by
  induction hG with
  | @stop g w hk => exact fun d0 gs sl t q h0 hL hP => ⟨0, gs, g, w.at d0, sl, t, #[], q, rfl, rfl, h0, hk d0, hL, hP, by simp, by simp⟩
  | @step g w nx hrun hst hsz hev _ ih =>
    intro d0 gs sl t q
    generalize hs : sumTo gs.size q = s
    induction s using Nat.strongRecOn generalizing d0 gs sl t q with
    | _ s ihs =>
      intro h0 hL hP
      have haw : ∀ x ∈ gs, awake x := by
        intro x hx
        obtain ⟨i, hi, rfl⟩ := Array.mem_iff_getElem.1 hx
        rcases Nat.eq_zero_or_pos i with rfl | hpos
        · have : gs[0] = g := by simpa [Array.getElem?_eq_getElem hi] using h0
          rw [this]; exact awake_of (.inl hrun)
        · exact awake_of ((hL.old i _ hpos (Array.getElem?_eq_getElem hi)).status.elim .inl fun x => .inr (.inr x))
      have hgs : 0 < gs.size := (Array.getElem?_eq_some_iff.1 h0).1
      obtain ⟨i, x, d, sl', hi, hg, hpk⟩ := crowd_pick (P := P) (w := w.at d0) (sl := sl) haw ⟨0, g, h0, hrun⟩
      rcases Nat.eq_zero_or_pos i with rfl | hpos
      · obtain rfl : x = g := by rw [h0] at hi; exact (Option.some.inj hi).symm
        have hrunT := runT_crowd_go (P := P) (sl := sl') (i := 0) hi (show stepG P (0 == 0) x (w.at d) = _ from hst d)
        have hsz' : ((gs.map (woken P x (nx d).1 (nx d).2.1)).setIfInBounds 0 (nx d).1).size = gs.size := by simp
        have hP' : Past Shun (nx d).2.1.heap.size t := hP.mono (hsz d)
        obtain ⟨N, gs', a', w', sl'', t', u, q', hr, hs', h0', hK', hL', hP'', hu, hby⟩ := ih d ((nx d).2.1.drawn) ((gs.map (woken P x (nx d).1 (nx d).2.1)).setIfInBounds 0 (nx d).1) sl' (t ++ MemOp.ofEvents 0 x.frame.fn x.frame.place (nx d).2.2) q (by simp [hgs])
          ⟨fun j y hj hy => by
            have hne : 0 ≠ j := by omega
            rw [Array.getElem?_setIfInBounds_ne hne, Array.getElem?_map] at hy
            obtain ⟨z, hz, rfl⟩ := Option.map_eq_some_iff.1 hy
            have hq := hL.old j z hj hz
            rw [woken_quitsD hq, Deaf_other t (by omega) _ g_of_ofEvents]
            exact hq, fun j hj => by
            rw [Deaf_other t (g' := 0) (by simp at hj; omega) _ g_of_ofEvents]
            exact hL.above j (by simpa using hj)⟩
          (hP'.own fun e he => hOk _ _ (hev d e he))
        refine ⟨N + 1, gs', a', w', sl'', t', MemOp.ofEvents 0 x.frame.fn x.frame.place (nx d).2.2 ++ u, q', ?_, hs'.trans hsz', h0', hK', hL', hP'', by rw [hu, Array.append_assoc], fun op hop => ?_⟩
        · have e1 : stepT P (crowd gs (w.at d0) sl) = (.next (crowd ((gs.map (woken P x (nx d).1 (nx d).2.1)).setIfInBounds 0 (nx d).1) (nx d).2.1 sl'), MemOp.ofEvents 0 x.frame.fn x.frame.place (nx d).2.2) := hpk.trans hrunT
          simp only [runNT, e1]
          exact hr
        · rcases Array.mem_append.1 hop with h1 | h1
          · obtain ⟨e, he, rfl⟩ := Go.Conc.mem_ofEvents h1
            exact .inl ⟨rfl, _, e, hev d e he, rfl⟩
          · have := hby op h1
            rwa [hsz'] at this
      · have hq := hL.old i x hpos hi
        have hi0 : (i == 0) = false := by simp; omega
        have hlt : i < gs.size := (Array.getElem?_eq_some_iff.1 hi).1
        cases hqi : q i with
        | zero => rw [hqi] at hq; rw [hq.1] at hg; cases hg
        | succ k =>
          rw [hqi] at hq
          rcases hq with ⟨hf, _⟩ | ⟨_, g', es, hm, hstp, hq'⟩
          · rw [hf] at hg; cases hg
          have hrunT := runT_crowd_go (P := P) (sl := sl') (i := i) hi (by rw [hi0]; exact hstp ((w.at d0).at d))
          have hsz' : ((gs.map (woken P x g' ((w.at d0).at d))).setIfInBounds i g').size = gs.size := by simp
          have hsum : sumTo gs.size (upd q i k) + (k + 1) = sumTo gs.size q + k := by
            have := Go.ConcN.sumTo_upd q k id hlt
            simpa [hqi] using this
          obtain ⟨N, gs', a', w', sl'', t', u, q', hr, hs', h0', hK', hL', hP'', hu, hby⟩ := ihs (sumTo gs.size (upd q i k)) (by omega) d ((gs.map (woken P x g' ((w.at d0).at d))).setIfInBounds i g') sl' (t ++ MemOp.ofEvents i x.frame.fn x.frame.place es) (upd q i k) (by rw [hsz'])
            (by
              have hne : i ≠ 0 := by omega
              rw [Array.getElem?_setIfInBounds_ne hne, Array.getElem?_map, h0]
              simp [woken_run hrun])
            ⟨fun j y hj hy => by
              by_cases hji : i = j
              · subst hji
                rw [Array.getElem?_setIfInBounds_self_of_lt (by simpa using hlt)] at hy
                obtain rfl := Option.some.inj hy
                rw [upd_same, Deaf_own]
                exact hq'
              · rw [Array.getElem?_setIfInBounds_ne hji, Array.getElem?_map] at hy
                obtain ⟨z, hz, rfl⟩ := Option.map_eq_some_iff.1 hy
                have hqj := hL.old j z hj hz
                rw [woken_quitsD hqj, upd_ne q k (Ne.symm hji), Deaf_other t hji _ g_of_ofEvents]
                exact hqj, fun j hj => by
              rw [Deaf_other t (g' := i) (by simp at hj; omega) _ g_of_ofEvents]
              exact hL.above j (by simpa using hj)⟩
            (hP.mute (by omega) hm)
          refine ⟨N + 1, gs', a', w', sl'', t', MemOp.ofEvents i x.frame.fn x.frame.place es ++ u, q', ?_, hs'.trans hsz', h0', hK', hL', hP'', by rw [hu, Array.append_assoc], fun op hop => ?_⟩
          · have e1 : stepT P (crowd gs (w.at d0) sl) = (.next (crowd ((gs.map (woken P x g' ((w.at d0).at d))).setIfInBounds i g') ((w.at d0).at d) sl'), MemOp.ofEvents i x.frame.fn x.frame.place es) := hpk.trans hrunT
            simp only [runNT, e1]
            exact hr
          · rcases Array.mem_append.1 hop with h1 | h1
            · obtain ⟨e, he, rfl⟩ := Go.Conc.mem_ofEvents h1
              exact .inr ⟨by simp; omega, hlt, e, hm e he, rfl⟩
            · have := hby op h1
              rwa [hsz'] at this
/-! ### by scripts -/
theorem go0_idl : ∀ {n : Nat} {fr fr' : Frame} {cs cs' : List Frame} {w : World}, idl P n fr cs = some (fr', cs') → Go0 P Ok K (G fr' cs') w → Go0 P Ok K (G fr cs) w
  | 0, fr, fr', cs, cs', w, h, hk => by cases h; exact hk
  | n + 1, fr, fr', cs, cs', w, h, hk => by
    simp only [idl] at h
    split at h
    · rename_i f1 c1 h1
      exact .step (fun d => (G f1 c1, w.at d, #[])) rfl (fun d => pgs_step h1 _) (fun d => Nat.le_refl _) (fun d e he => by simp at he) (fun d => (go0_idl h hk).at d)
    · cases h
/-- One operation turns w to w', and leaves v. -/
def Turns (P : Program) (Ok : World → Event → Prop) (s : Sem Next) (v : Option Value) (w w' : World) : Prop := w.heap.size ≤ w'.heap.size ∧ ∀ d, ∃ d', s.run P (w.at d) = .ok (nextOf v) (w'.at d') ∧ ∀ e ∈ s.events P (w.at d) #[], Ok w' e
def AllTurn (P : Program) (Ok : World → Event → Prop) : List (Sem Next) → List (Nat × Option Value) → World → World → Prop
  | s :: ss, (_, v) :: l, w, w' => ∃ w1, Turns P Ok s v w w1 ∧ AllTurn P Ok ss l w1 w'
  | [], [], w, w' => w' = w
  | _, _, _, _ => False
theorem go0_scr : ∀ {l : List (Nat × Option Value)} {ss : List (Sem Next)} {fr fr' : Frame} {cs cs' : List Frame} {w w' : World}, (∀ w d e, Ok w e → Ok (w.at d) e) → scr P l fr cs = some (ss, fr', cs') → AllTurn P Ok ss l w w' → Go0 P Ok K (G fr' cs') w' → Go0 P Ok K (G fr cs) w
  | [], ss, fr, fr', cs, cs', w, w', hat, h, ha, hk => by
    cases h
    rw [show w' = w from ha] at hk
    exact hk
  | (n, v) :: l, ss, fr, fr', cs, cs', w, w', hat, h, ha, hk => by
    obtain ⟨f1, c1, sx, kx, ss', h1, h2, h3, rfl⟩ := scr_cons h
    obtain ⟨w1, ⟨hsz, hr⟩, hrest⟩ := ha
    refine go0_idl h1 (.step (fun d => (G (kx (valOf v)) c1, w1.at (hr d).choose, seen P f1.fn (sx.events P (w.at d) #[]))) rfl (fun d => ask_next h2 (hr d).choose_spec.1) (fun d => hsz) (fun d e he => hat _ _ _ ((hr d).choose_spec.2 e (mem_seen he))) (fun d => (go0_scr hat h3 hrest hk).at _))
end
end Go.Po
