/- The pool's code in this program: the group's walks, a worker of each at nets. -/
import Derived.Test.YtblgmhmjafgdgaaSdC
import Derived.Conc.AtomicLaws2
import Derived.Conc.MarkLaws
import Derived.Conc.FxWorld
import Derived.Conc.SmallLaws
import Derived.Test.YtblgmhmjafgdgaaProg
import Derived.KernelRfl
import Derived.Laws.Entries
import Derived.Conc.EventLaws
import Derived.Orders
import Derived.Laws.MakeOwn
set_option linter.unusedVariables false
set_option linter.unusedSimpArgs false
set_option linter.unusedSectionVars false
/- The pool, part 14: states by reckoning; entries of the library's; the go statement; the end. -/
namespace Go.Po
open Go Go.Conc Go.Tw
open Go.ConcR (KK WgAt stA smA rd wr)

abbrev FrS : Type := Frame × List Frame
abbrev Gx (x : FrS) : Goroutine := G x.1 x.2
/-- So many steps on. -/
def nx (P : Program) (n : Nat) (x : FrS) : FrS := (idl P n x.1 x.2).getD default
def okx (P : Program) (n : Nat) (x : FrS) : Bool := (idl P n x.1 x.2).isSome
/-- What the step at the head asks; the state behind it. -/
def asked (x : FrS) : Option (Sem Next) := (ask x.1).map (·.1)
def put (x : FrS) (v : Value) : FrS := match ask x.1 with
  | some (_, k) => (k v, x.2)
  | none => x
section
variable {P : Program} {main : Bool} {x : FrS}
theorem nx_eq {n : Nat} (h : okx P n x = true) : idl P n x.1 x.2 = some ((nx P n x).1, (nx P n x).2) := by
  unfold okx at h
  unfold nx
  cases hi : idl P n x.1 x.2 with
  | none => rw [hi] at h; cases h
  | some y => rfl
theorem asked_step {s : Sem Next} (h : asked x = some s) {w w' : World} (v : Option Value) (hr : s.run P w = .ok (nextOf v) w') : stepG P main (Gx x) w = .go (Gx (put x (valOf v))) w' (seen P x.1.fn (s.events P w #[])) := by
  unfold asked at h
  obtain ⟨⟨s', k⟩, hk, e⟩ := Option.map_eq_some_iff.1 h
  cases e
  rw [ask_next hk hr]
  unfold put
  rw [hk]
section
variable [FnSet] {p : Pool} {Ok : Event → Prop} {K : Goroutine → Prop}
theorem wlk_nx {n : Nat} (h : okx p.P n x = true) (hk : ∃ m, p.Wlk main Ok K m (Gx (nx p.P n x))) : ∃ m, p.Wlk main Ok K m (Gx x) := let ⟨m, hk⟩ := hk; ⟨n + m, wlk_idl (nx_eq h) hk⟩
theorem wlk_put {s : Sem Next} (h : asked x = some s) (v : Option Value) (ha : p.Asks Ok s v) (hk : ∃ m, p.Wlk main Ok K m (Gx (put x (valOf v)))) : ∃ m, p.Wlk main Ok K m (Gx x) := by
  obtain ⟨m, hk⟩ := hk
  refine ⟨m + 1, .inr ⟨rfl, fun w hw => ?_⟩⟩
  obtain ⟨d, hr, he⟩ := ha w hw
  exact ⟨_, d, _, asked_step h v hr, fun e hm => he e (mem_seen hm), hk⟩
theorem wlk_stop (h : K (Gx x)) : ∃ m, p.Wlk main Ok K m (Gx x) := ⟨0, h⟩
end
section
variable {Ok : World → Event → Prop} {K : Goroutine → World → Prop}
theorem go0_nx {n : Nat} {w : World} (h : okx P n x = true) (hk : Go0 P Ok K (Gx (nx P n x)) w) : Go0 P Ok K (Gx x) w := go0_idl (nx_eq h) hk
theorem go0_put {s : Sem Next} {w w' : World} (h : asked x = some s) (v : Option Value) (hat : ∀ w d e, Ok w e → Ok (w.at d) e) (ha : Turns P Ok s v w w') (hk : Go0 P Ok K (Gx (put x (valOf v))) w') : Go0 P Ok K (Gx x) w := by
  obtain ⟨hsz, hr⟩ := ha
  exact .step (fun d => (Gx (put x (valOf v)), w'.at (hr d).choose, seen P x.1.fn (s.events P (w.at d) #[]))) rfl (fun d => asked_step h v (hr d).choose_spec.1) (fun d => hsz) (fun d e he => hat _ _ _ ((hr d).choose_spec.2 e (mem_seen he))) (fun d => hk.at _)
end
/-! ### the end of a goroutine -/
theorem quits_nx {n q d : Nat} (h : okx P n x = true) (hk : QuitsD P q d (Gx (nx P n x))) : QuitsD P (n + q) d (Gx x) := by
  have key : ∀ {n : Nat} {fr fr' : Frame} {cs cs' : List Frame}, idl P n fr cs = some (fr', cs') → QuitsD P q d (G fr' cs') → QuitsD P (n + q) d (G fr cs) := by
    intro n
    induction n with
    | zero => intro fr fr' cs cs' h hk; cases h; rw [Nat.zero_add]; exact hk
    | succ n ih =>
      intro fr fr' cs cs' h hk
      simp only [idl] at h
      split at h
      · rename_i f1 c1 h1
        rw [Nat.succ_add]
        exact .inr ⟨rfl, _, #[], by simp, fun w => pgs_step h1 w, ih h hk⟩
      · cases h
  exact key (nx_eq h) hk
theorem quits_put {s : Sem Next} {q d : Nat} (h : asked x = some s) (v : Option Value) {es : Array Event} (hr : ∀ w, s.run P w = .ok (nextOf v) w ∧ seen P x.1.fn (s.events P w #[]) = es) (hm : ∀ e ∈ es, Event.mute e = true) (hk : QuitsD P q (deafBehind d es) (Gx (put x (valOf v)))) : QuitsD P (q + 1) d (Gx x) :=
  .inr ⟨rfl, _, es, hm, fun w => by rw [asked_step h v (hr w).1, (hr w).2], hk⟩
theorem quits_end (hm : x.1.mode = .panicking [goexitEntry]) (hd : x.1.defers = []) (hc : x.2 = []) (hp : x.1.catches P = false) : QuitsD P 1 0 (Gx x) := by
  refine .inr ⟨rfl, { Gx x with status := .finished }, #[], by simp, fun w => ?_, rfl, rfl⟩
  obtain ⟨fr, cs⟩ := x
  simp only at hm hd hc hp
  subst hc
  have hu : stepG P false (G fr []) w = unwind P false fr [] none w := by
    unfold G stepG
    simp [hm]
  show stepG P false (G fr []) w = _
  rw [hu]
  unfold unwind
  simp [hd, hm, hp, goexitEntry, G]
/-! ### the go statement -/
theorem spawn_step {o : Oper} {d : Deferred} {f : Fn} {c : Array Value} (h : hd x.1 = some o) (hd' : d.target = .fn f c) {w : World} (hr : (execOp x.1.eval o).run P w = .ok (.spawn d) w) (he : seen P x.1.fn ((execOp x.1.eval o).events P w #[]) = #[]) :
    stepG P main (Gx x) w = .spawn (Gx (x.1.finish undef, x.2)) (G { (default : Frame) with fn := P.funcs.size, defers := [d], mode := .panicking [goexitEntry] } []) w #[] := by
  obtain ⟨h1, h2, h3⟩ := hd_apply (P := P) (main := main) (cs := x.2) h w
  show stepG P main (G x.1 x.2) w = _
  rw [h1]
  obtain ⟨tg, av⟩ := d
  simp only at hd'
  subst hd'
  simp [stepG.apply, hr, h2, GStep.after, G, he]
/-! ### the library's entries -/
/-- Function f is this entry. -/
def Ent (P : Program) (f : FuncId) (e : Array Value → Sem Value) : Prop := ∃ fn, P.funcs[f]? = some fn ∧ (fn.name == "runtime.NumGoroutine") = false ∧ fn.body.isNone = true ∧ Extern.findNext fn = none ∧ Extern.find fn = some e
theorem Ent.run {f : FuncId} {e : Array Value → Sem Value} (h : Ent P f e) {args : Array Value} {w w' : World} {v : Value} (hr : (e args).run P w = .ok v w') : (callFunc f args).run P w = .ok (nextOf (some v)) w' := by
  obtain ⟨fn, h1, h2, h3, h4, h5⟩ := h
  rw [run_callFunc_extern h1 h2 h3 h4 h5, hr]; rfl
theorem Ent.seen {f : FuncId} {e : Array Value → Sem Value} (h : Ent P f e) {args : Array Value} {w : World} {evs : Array Event} (fn' : FuncId) (hev : (e args).events P w #[⟨.mark (.extern f), false, true⟩] = #[⟨.mark (.extern f), false, true⟩] ++ evs) (hs : ∀ x ∈ evs, x.sync = true ∧ ∀ g, x.loc ≠ .mark (.extern g)) :
    seen P fn' ((callFunc f args).events P w #[]) = evs := by
  obtain ⟨fn, h1, h2, h3, h4, h5⟩ := h
  rw [events_callFunc_extern h1 h2 h3 h4 h5]
  simp only [List.push_toArray, List.nil_append]
  rw [hev, seen_entry _ _ _ hs]
end
theorem all_of {n : Nat} {f : Nat → Bool} (h : (List.range n).map f = List.replicate n true) : ∀ v, v < n → f v = true := by
  intro v hv
  have := congrArg (·[v]?) h
  simpa [hv] using this
theorem all_some {α : Type} {n : Nat} {f : Nat → Option α} {s : α} (h : (List.range n).map f = List.replicate n (some s)) : ∀ v, v < n → f v = some s := by
  intro v hv
  have := congrArg (·[v]?) h
  simpa [hv] using this
end Go.Po
/- The pool, part 15: the library's entries, one by one; which they are in this program. -/
namespace Go.Po
open Go Go.Conc Go.Tw Go.Proofs
open Go.ConcR (KK WgAt stA smA rd wr)

abbrev tup0 : Value := .tuple #[]
section
variable {P : Program} {f fn' : FuncId} {w : World} {ad : Addr} {k : IntKind} {args : Array Value}
theorem ent_mark0 {m : Mark} (hm : ∀ g, m ≠ .extern g) (h : Ent P f (fun _ => do mark m; pure Extern.Race.none_)) (args : Array Value) (w : World) (fn' : FuncId) : (callFunc f args).run P w = .ok (nextOf (some tup0)) w ∧ seen P fn' ((callFunc f args).events P w #[]) = #[⟨.mark m, false, true⟩] :=
  ⟨h.run (by simp [Extern.Race.none_]), h.seen fn' (by simp) (by
    intro x hx
    simp at hx
    subst hx
    exact ⟨rfl, fun g h => hm g (by cases h; rfl)⟩)⟩
theorem ent_markAt {mk : Addr → Mark} (hm : ∀ ad g, mk ad ≠ .extern g) (h : Ent P f (Extern.Race.marked mk)) (hx : args[0]? = some (.pointer (some ad))) (w : World) (fn' : FuncId) : (callFunc f args).run P w = .ok (nextOf (some tup0)) w ∧ seen P fn' ((callFunc f args).events P w #[]) = #[⟨.mark (mk ad), false, true⟩] :=
  ⟨h.run (by simp [Extern.Race.marked, Extern.Race.at_, hx, Extern.Race.none_]), h.seen fn' (by simp [Extern.Race.marked, Extern.Race.at_, hx]) (by
    intro x hx'
    simp at hx'
    subst hx'
    exact ⟨rfl, fun g h => hm ad g (Loc.mark.inj h)⟩)⟩
theorem ent_add {v d : Int} (h : Ent P f (Extern.Atomic.update (Op.intArith .add) k true)) (hc : w.cell? ad = some (.int k v)) (hz : w.frozen? ad = false) (fn' : FuncId) :
    (callFunc f #[.pointer (some ad), .int k d]).run P w = .ok (nextOf (some (.int k (k.wrap (v + d))))) (w.setCell ad (.int k (k.wrap (v + d)))) ∧ seen P fn' ((callFunc f #[.pointer (some ad), .int k d]).events P w #[]) = #[rd ad, wr ad] :=
  ⟨h.run (run_add_entry hc hz), h.seen fn' (by rw [events_add_entry hc hz]; rfl) (sync_rw ad)⟩
theorem ent_load {v : Int} (h : Ent P f (Extern.Atomic.loadT (.int k))) (hc : w.cell? ad = some (.int k v)) (fn' : FuncId) :
    (callFunc f #[.pointer (some ad)]).run P w = .ok (nextOf (some (.int k v))) w ∧ seen P fn' ((callFunc f #[.pointer (some ad)]).events P w #[]) = #[rd ad] := by
  obtain ⟨fn, h1, h2, h3, h4, h5⟩ := h
  refine ⟨run_call_load h1 h2 h3 h4 k h5 hc, ?_⟩
  rw [events_call_load h1 h2 h3 h4 k h5 hc, seen_extern_sync]; rfl
theorem ent_store {u : Value} {y : Int} (h : Ent P f Extern.Atomic.storeT) (hc : w.cell? ad = some u) (hz : w.frozen? ad = false) (fn' : FuncId) :
    (callFunc f #[.pointer (some ad), .int k y]).run P w = .ok (nextOf (some tup0)) (w.setCell ad (.int k y)) ∧ seen P fn' ((callFunc f #[.pointer (some ad), .int k y]).events P w #[]) = #[wr ad] := by
  obtain ⟨fn, h1, h2, h3, h4, h5⟩ := h
  refine ⟨run_call_store h1 h2 h3 h4 h5 hc hz, ?_⟩
  rw [events_call_store h1 h2 h3 h4 h5 hc hz, seen_extern_sync]; rfl
theorem ent_hit {v n : Int} (h : Ent P f (Extern.Atomic.casT (.int k))) (hc : w.cell? ad = some (.int k v)) (hz : w.frozen? ad = false) (fn' : FuncId) :
    (callFunc f #[.pointer (some ad), .int k v, .int k n]).run P w = .ok (nextOf (some (.bool true))) (w.setCell ad (.int k n)) ∧ seen P fn' ((callFunc f #[.pointer (some ad), .int k v, .int k n]).events P w #[]) = #[rd ad, wr ad] :=
  ⟨h.run (by rw [casT_eq]; exact run_cas_hit_entry hc hz), h.seen fn' (by rw [casT_eq, events_cas_hit_entry hc hz]; rfl) (sync_rw ad)⟩
theorem ent_miss {v old n : Int} (h : Ent P f (Extern.Atomic.casT (.int k))) (hc : w.cell? ad = some (.int k v)) (hz : w.frozen? ad = false) (hne : ¬ v = old) (fn' : FuncId) :
    (callFunc f #[.pointer (some ad), .int k old, .int k n]).run P w = .ok (nextOf (some (.bool false))) w ∧ seen P fn' ((callFunc f #[.pointer (some ad), .int k old, .int k n]).events P w #[]) = #[rd ad] :=
  ⟨h.run (by rw [casT_eq]; exact run_cas_miss_entry hc hz hne), h.seen fn' (by rw [casT_eq, events_cas_miss_entry hc hz hne]; rfl) (sync_r ad)⟩
theorem ent_take (h : Ent P f Extern.Sync.semacquire) (hx : args[0]? = some (.pointer (some ad))) (hc : w.cell? ad = some (.int .u32 1)) (hz : w.frozen? ad = false) (fn' : FuncId) :
    (callFunc f args).run P w = .ok (nextOf (some tup0)) (w.setCell ad (.int .u32 0)) ∧ seen P fn' ((callFunc f args).events P w #[]) = semEvents ad :=
  ⟨h.run (by simp [Extern.Sync.semacquire, Extern.Sync.count, hx, hc, hz, Extern.Sync.none_, run_store P w ad (.int .u32 0) .atomic rfl, Result.andThen]),
    h.seen fn' (by simp [Extern.Sync.semacquire, Extern.Sync.count, hx, hc, hz, semEvents, events_load, events_store P w _ ad (.int .u32 0) .atomic rfl, run_store P w ad (.int .u32 0) .atomic rfl, Result.evThen]) (semEvents_sync ad)⟩
theorem ent_wait (h : Ent P f Extern.Sync.semacquire) (hx : args[0]? = some (.pointer (some ad))) (hc : w.cell? ad = some (.int .u32 0)) : (callFunc f args).run P w = .halt .blocked w := by
  obtain ⟨fn, h1, h2, h3, h4, h5⟩ := h
  rw [run_callFunc_extern h1 h2 h3 h4 h5]
  simp [Extern.Sync.semacquire, Extern.Sync.count, hx, hc]
theorem ent_give (h : Ent P f Extern.Sync.semrelease) (hx : args[0]? = some (.pointer (some ad))) (hc : w.cell? ad = some (.int .u32 0)) (hz : w.frozen? ad = false) (fn' : FuncId) :
    (callFunc f args).run P w = .ok (nextOf (some tup0)) (w.setCell ad (.int .u32 1)) ∧ seen P fn' ((callFunc f args).events P w #[]) = semEvents ad := by
  have e1 : IntKind.u32.wrap 1 = 1 := by decide
  exact ⟨h.run (by simp [Extern.Sync.semrelease, Extern.Sync.count, hx, hc, hz, Extern.Sync.none_, Op.intArith, run_store P w ad (.int .u32 1) .atomic rfl, Result.andThen, e1]),
    h.seen fn' (by simp [Extern.Sync.semrelease, Extern.Sync.count, hx, hc, hz, semEvents, Op.intArith, events_load, events_store P w _ ad (.int .u32 1) .atomic rfl, run_store P w ad (.int .u32 1) .atomic rfl, Result.evThen, e1]) (semEvents_sync ad)⟩
/-- A pointer turned to one without a type. -/
abbrev cvt (s d : TypeId) (ad : Addr) : Sem Next := do pure (.value (← convert s d (.pointer (some ad))))
theorem cvt_ok {src dst t : TypeId} (hs : P.underlying src = some (.pointer t)) (hd : P.underlying dst = some .unsafePointer) (hsz : (P.info? t).map (fun i => decide (i.size = 0)) = some false) {v : Value} (hc : w.cell? ad = some v) (fn' : FuncId) :
    (cvt src dst ad).run P w = .ok (nextOf (some (.pointer (some ad)))) w ∧ (cvt src dst ad).events P w #[] = #[] := by
  have h1 := run_convert_to_unsafe (P := P) hs hd hsz hc
  have h2 := events_convert_to_unsafe (P := P) hs hd hsz hc #[]
  exact ⟨by rw [Sem.run_bind, h1]; rfl, by rw [Sem.events_bind, h1, Result.evThen_ok, h2]; rfl⟩
end
/-! ### this program's -/
theorem ent_intro {P : Program} {f : FuncId} {e : Array Value → Sem Value} (h : (P.funcs[f]?).map (fun fn => (fn.name == "runtime.NumGoroutine", fn.body.isNone, Extern.findNext fn, Extern.find fn)) = some (false, true, none, some e)) : Ent P f e := by
  obtain ⟨fn, h1, h2⟩ := Option.map_eq_some_iff.1 h
  simp only [Prod.mk.injEq] at h2
  exact ⟨fn, h1, h2.1, h2.2.1, h2.2.2.1, h2.2.2.2⟩
theorem e29 : Ent Try.prog 29 (fun _ => do mark .disable; pure Extern.Race.none_) := ent_intro (by kernel_rfl)
theorem e30 : Ent Try.prog 30 (fun _ => do mark .enable; pure Extern.Race.none_) := ent_intro (by kernel_rfl)
theorem e28 : Ent Try.prog 28 (Extern.Race.marked .releaseMerge) := ent_intro (by kernel_rfl)
theorem e36 : Ent Try.prog 36 (Extern.Race.marked .read) := ent_intro (by kernel_rfl)
theorem e45 : Ent Try.prog 45 (Extern.Race.marked .write) := ent_intro (by kernel_rfl)
theorem e42 : Ent Try.prog 42 (Extern.Race.marked .acquire) := ent_intro (by kernel_rfl)
theorem e52 : Ent Try.prog 52 (Extern.Atomic.update (Op.intArith .add) .u64 true) := ent_intro (by kernel_rfl)
theorem e53 : Ent Try.prog 53 (Extern.Atomic.loadT (.int .u64)) := ent_intro (by kernel_rfl)
theorem e54 : Ent Try.prog 54 Extern.Atomic.storeT := ent_intro (by kernel_rfl)
theorem e55 : Ent Try.prog 55 (Extern.Atomic.casT (.int .u64)) := ent_intro (by kernel_rfl)
theorem e41 : Ent Try.prog 41 (Extern.Atomic.update (Op.intArith .add) .i64 true) := ent_intro (by kernel_rfl)
theorem e46 : Ent Try.prog 46 Extern.Sync.semacquire := ent_intro (by kernel_rfl)
theorem e40 : Ent Try.prog 40 Extern.Sync.semrelease := ent_intro (by kernel_rfl)
theorem u80 : Try.prog.underlying 80 = some (.pointer 57) := by kernel_rfl
theorem u72 : Try.prog.underlying 72 = some (.pointer 59) := by kernel_rfl
theorem u74 : Try.prog.underlying 74 = some .unsafePointer := by kernel_rfl
theorem z57 : (Try.prog.info? 57).map (fun i => decide (i.size = 0)) = some false := by kernel_rfl
theorem z59 : (Try.prog.info? 59).map (fun i => decide (i.size = 0)) = some false := by kernel_rfl
end Go.Po
/- The pool, part 16: (*WaitGroup).Add(1), Done, Wait, walked by reckoning. -/
namespace Go.Po
open Go Go.Conc Go.Tw Go.Proofs
open Go.ConcR (KK WgAt stA smA rd wr mk)

/-- Steps and stops, to a state. -/
def legs (P : Program) : List (Nat × Value) → Nat → FrS → Option (List (Sem Next) × FrS)
  | [], m, x => match idl P m x.1 x.2 with
    | some y => some ([], y)
    | none => none
  | (n, v) :: l, m, x => match idl P n x.1 x.2 with
    | some y => match ask y.1 with
      | some (s, k) => match legs P l m (k v, y.2) with
        | some (ss, z) => some (s :: ss, z)
        | none => none
      | none => none
    | none => none
theorem legs_nil {P : Program} {m : Nat} {x z : FrS} {ss : List (Sem Next)} (h : legs P [] m x = some (ss, z)) : ss = [] ∧ okx P m x = true ∧ nx P m x = z := by
  simp only [legs] at h
  split at h
  · rename_i y hy
    cases h
    exact ⟨rfl, by simp [okx, hy], by simp [nx, hy]⟩
  · cases h
theorem legs_cons {P : Program} {n m : Nat} {v : Value} {l : List (Nat × Value)} {x z : FrS} {ss : List (Sem Next)} (h : legs P ((n, v) :: l) m x = some (ss, z)) :
    okx P n x = true ∧ ∃ s ss', ss = s :: ss' ∧ asked (nx P n x) = some s ∧ legs P l m (put (nx P n x) v) = some (ss', z) := by
  simp only [legs] at h
  split at h
  · rename_i y hy
    split at h
    · rename_i s k hk
      split at h
      · rename_i ss' z' hz
        cases h
        refine ⟨by simp [okx, hy], s, ss', rfl, by simp [nx, hy, asked, hk], ?_⟩
        simp only [nx, hy, Option.getD_some, put, hk]
        exact hz
      · cases h
    · cases h
  · cases h
theorem legs1 {P : Program} {n m : Nat} {v : Value} {x z : FrS} {s : Sem Next} (h : legs P [(n, v)] m x = some ([s], z)) : okx P n x = true ∧ asked (nx P n x) = some s ∧ okx P m (put (nx P n x) v) = true ∧ nx P m (put (nx P n x) v) = z := by
  obtain ⟨h1, s', ss', h2, h3, h4⟩ := legs_cons h
  cases h2
  obtain ⟨_, h5, h6⟩ := legs_nil h4
  exact ⟨h1, h3, h5, h6⟩
/-- The group's address, as a value. -/
abbrev wgp (wg : Nat) : Value := .pointer (some ⟨wg, 0, none⟩)
section
variable [FnSet] {p : Pool} {P : Program} {main : Bool} {Ok : Event → Prop} {K : Goroutine → Prop} {x : FrS}
theorem wlk_nxP (hP : p.P = P) {n : Nat} (h : okx P n x = true) (hk : ∃ m, p.Wlk main Ok K m (Gx (nx P n x))) : ∃ m, p.Wlk main Ok K m (Gx x) := by
  subst hP; exact wlk_nx h hk
/-- A stop at the head with exactly these events. -/
theorem stop_step (hP : p.P = P) {s : Sem Next} (h : asked x = some s) {w w' : World} {v : Option Value} {es : Array Event} (hr : s.run P w = .ok (nextOf v) w' ∧ seen P x.1.fn (s.events P w #[]) = es) : stepG p.P main (Gx x) w = .go (Gx (put x (valOf v))) w' es := by
  subst hP; rw [asked_step h v hr.1, hr.2]
end
/-! ### Add(1) -/
noncomputable def a0 (wg : Nat) (c : Frame) (rest : List Frame) : FrS := (Frame.enter Try.prog 15 #[wgp wg, .int .i64 1] .normal, c :: rest)
noncomputable def a1 (wg : Nat) (c : Frame) (rest : List Frame) : FrS := nx Try.prog 12 (a0 wg c rest)
theorem a0_ok (wg : Nat) (c : Frame) (rest : List Frame) : okx Try.prog 12 (a0 wg c rest) = true := by kernel_rfl
theorem a1_ask (wg : Nat) (c : Frame) (rest : List Frame) : asked (a1 wg c rest) = some (callFunc 29 #[]) := by kernel_rfl
noncomputable def a2 (wg : Nat) (c : Frame) (rest : List Frame) : FrS := nx Try.prog 34 (put (a1 wg c rest) tup0)
theorem a1_ok (wg : Nat) (c : Frame) (rest : List Frame) : okx Try.prog 34 (put (a1 wg c rest) tup0) = true := by kernel_rfl
theorem a2_ask (wg : Nat) (c : Frame) (rest : List Frame) : asked (a2 wg c rest) = some (callFunc 52 #[wgp wg, .int .u64 4294967296]) := by kernel_rfl
noncomputable def a3 (wg : Nat) (c : Frame) (rest : List Frame) (v : Nat) : FrS := put (a2 wg c rest) (.int .u64 (((v + 1 : Nat) : Int) * KK))
theorem a3_one (wg : Nat) (c : Frame) (rest : List Frame) : legs Try.prog [(52, .pointer (some ⟨wg, 1, none⟩)), (0, tup0), (39, tup0)] 1 (a3 wg c rest 0) = some ([cvt 80 74 ⟨wg, 1, none⟩, callFunc 36 #[.pointer (some ⟨wg, 1, none⟩)], callFunc 30 #[]], (c.finish tup0, rest)) := by kernel_rfl
theorem a3_more (wg : Nat) (c : Frame) (rest : List Frame) : (List.range 15).map (fun u => legs Try.prog [(87, tup0)] 1 (a3 wg c rest (u + 1))) = List.replicate 15 (some ([callFunc 30 #[]], (c.finish tup0, rest))) := by kernel_rfl
theorem wrap_u64 (n : Int) : IntKind.u64.wrap n = n % 18446744073709551616 := rfl
theorem wrap64 {v : Nat} (h : v < 1048576) : IntKind.u64.wrap ((v : Int) * KK + 4294967296) = ((v + 1 : Nat) : Int) * KK := by
  have e : KK = 4294967296 := rfl
  rw [wrap_u64, e]
  omega
section
variable [FnSet] {p : Pool}
theorem enable_step (hP : p.P = Try.prog) {main : Bool} {x : FrS} {args : Array Value} (h : asked x = some (callFunc 30 args)) (w : World) : stepG p.P main (Gx x) w = .go (Gx (put x tup0)) w #[mk .enable] :=
  stop_step hP h (v := some tup0) (ent_mark0 (by intro g; simp) e30 args w _)
theorem disable_step (hP : p.P = Try.prog) {main : Bool} {x : FrS} {args : Array Value} (h : asked x = some (callFunc 29 args)) (w : World) : stepG p.P main (Gx x) w = .go (Gx (put x tup0)) w #[mk .disable] :=
  stop_step hP h (v := some tup0) (ent_mark0 (by intro g; simp) e29 args w _)
/-- .. whose cells are there. -/
theorem S_cells {w : World} (h : p.S w) : ∃ st sm, w.cell? (stA p.wg) = some (.int .u64 st) ∧ w.cell? (smA p.wg) = some (.int .u32 sm) := let ⟨st, sm, hw⟩ := h.wg; ⟨st, sm, hw.cellSt, hw.cellSm⟩
theorem wAdd (hP : p.P = Try.prog) (hn : p.n ≤ 16) {Next : Goroutine → Prop} {c : Frame} {rest : List Frame} (h : ∃ m, p.M0 (p.AtGoS Next) m (Gx (c.finish tup0, rest))) : ∃ m, p.M0 (p.AtKdS Next) m (Gx (a0 p.wg c rest)) := by
  refine wlk_nxP hP (a0_ok _ _ _) (wlk_stop ⟨rfl, Gx (put (a1 p.wg c rest) tup0), fun w _ => disable_step hP (a1_ask _ _ _) w, ?_⟩)
  refine wlk_nxP hP (a1_ok _ _ _) (wlk_stop ⟨rfl, fun v w hw hv hwg => ⟨Gx (a3 p.wg c rest v), ?_, ?_⟩⟩)
  · have := stop_step (main := true) hP (a2_ask p.wg c rest) (ent_add (fn' := (a2 p.wg c rest).1.fn) e52 hwg.cellSt (hwg.thaw 0))
    rw [wrap64 (by omega)] at this
    exact this
  · have fin : ∀ {y : FrS}, legs Try.prog [(0, tup0)] 1 y = some ([callFunc 30 #[]], (c.finish tup0, rest)) → ∃ m, p.M0 (p.AtKeS Next) m (Gx y) := fun {y} hy => by
      obtain ⟨h1, h2, h3, h4⟩ := legs1 hy
      refine wlk_nxP hP h1 (wlk_stop ⟨rfl, Gx (put (nx Try.prog 0 y) tup0), fun w _ => enable_step hP h2 w, wlk_nxP hP h3 (by rw [h4]; exact h)⟩)
    rcases Nat.eq_zero_or_pos v with rfl | hpos
    · obtain ⟨h1, s1, ss1, e1, h2, h3⟩ := legs_cons (a3_one p.wg c rest)
      cases e1
      obtain ⟨h4, s2, ss2, e2, h5, h6⟩ := legs_cons h3
      cases e2
      obtain ⟨h7, h8, h9, h10⟩ := legs1 h6
      have hs : ∀ w, p.S w → (cvt 80 74 ⟨p.wg, 1, none⟩).run p.P w = .ok (nextOf (some (.pointer (some ⟨p.wg, 1, none⟩)))) w ∧ (cvt 80 74 ⟨p.wg, 1, none⟩).events p.P w #[] = #[] := fun w hw => by
        obtain ⟨st, sm, _, hc⟩ := S_cells hw
        rw [hP]
        exact cvt_ok u80 u74 z57 hc 0
      refine wlk_nxP hP h1 (wlk_put h2 (some (.pointer (some ⟨p.wg, 1, none⟩))) (fun w hw => ⟨w.drawn, (hs w hw).1, by rw [(hs w hw).2]; intro e he; simp at he⟩) ?_)
      refine wlk_nxP hP h4 ?_
      have hst : ∀ w, stepG p.P true (Gx (nx Try.prog 0 (put (nx Try.prog 52 (a3 p.wg c rest 0)) (.pointer (some ⟨p.wg, 1, none⟩))))) w = .go (Gx (put (nx Try.prog 0 (put (nx Try.prog 52 (a3 p.wg c rest 0)) (.pointer (some ⟨p.wg, 1, none⟩)))) tup0)) w #[mk (.read ⟨p.wg, 1, none⟩)] := fun w =>
        stop_step hP h5 (v := some tup0) (ent_markAt (by intro ad g; simp) e36 rfl w _)
      have hk : ∃ m, p.M0 (p.AtKeS Next) m (Gx (put (nx Try.prog 0 (put (nx Try.prog 52 (a3 p.wg c rest 0)) (.pointer (some ⟨p.wg, 1, none⟩)))) tup0)) :=
        wlk_nxP hP h7 (wlk_stop ⟨rfl, _, fun w _ => enable_step hP h8 w, wlk_nxP hP h9 (by rw [h10]; exact h)⟩)
      obtain ⟨m, hk⟩ := hk
      exact ⟨m + 1, .inr ⟨rfl, fun w _ => ⟨_, w.drawn, _, hst w, fun e he => by simp at he; subst he; exact ⟨_, _, rfl, .inl rfl, rfl⟩, hk⟩⟩⟩
    · obtain ⟨u, rfl⟩ : ∃ u, v = u + 1 := ⟨v - 1, by omega⟩
      have hl := all_some (a3_more p.wg c rest) u (by omega)
      obtain ⟨h1, h2, h3, h4⟩ := legs1 hl
      exact wlk_nxP hP h1 (wlk_stop ⟨rfl, _, fun w _ => enable_step hP h2 w, wlk_nxP hP h3 (by rw [h4]; exact h)⟩)
end
end Go.Po
/- The pool, part 17: (*WaitGroup).Done, deferred, walked by reckoning. -/
namespace Go.Po
open Go Go.Conc Go.Tw Go.Proofs
open Go.ConcR (KK WgAt stA smA rd wr mk)

/-- A frame that is returning, with nothing deferred. -/
abbrev ret (c : Frame) : Frame := { c with mode := .returning, defers := [] }
noncomputable def d0 (wg : Nat) (c : Frame) (rest : List Frame) : FrS := (Frame.enter Try.prog 17 #[wgp wg] .deferred, ret c :: rest)
noncomputable def d1 (wg : Nat) (c : Frame) (rest : List Frame) : FrS := nx Try.prog 14 (d0 wg c rest)
theorem d0_ok (wg : Nat) (c : Frame) (rest : List Frame) : okx Try.prog 14 (d0 wg c rest) = true := by kernel_rfl
theorem d1_ask (wg : Nat) (c : Frame) (rest : List Frame) : asked (d1 wg c rest) = some (cvt 72 74 ⟨wg, 0, none⟩) := by kernel_rfl
noncomputable def d2 (wg : Nat) (c : Frame) (rest : List Frame) : FrS := put (d1 wg c rest) (wgp wg)
theorem d2_ask (wg : Nat) (c : Frame) (rest : List Frame) : asked (d2 wg c rest) = some (callFunc 28 #[wgp wg]) := by kernel_rfl
noncomputable def d3 (wg : Nat) (c : Frame) (rest : List Frame) : FrS := nx Try.prog 3 (put (d2 wg c rest) tup0)
theorem d3_ok (wg : Nat) (c : Frame) (rest : List Frame) : okx Try.prog 3 (put (d2 wg c rest) tup0) = true := by kernel_rfl
theorem d3_ask (wg : Nat) (c : Frame) (rest : List Frame) : asked (d3 wg c rest) = some (callFunc 29 #[]) := by kernel_rfl
noncomputable def d4 (wg : Nat) (c : Frame) (rest : List Frame) : FrS := nx Try.prog 34 (put (d3 wg c rest) tup0)
theorem d4_ok (wg : Nat) (c : Frame) (rest : List Frame) : okx Try.prog 34 (put (d3 wg c rest) tup0) = true := by kernel_rfl
theorem d4_ask (wg : Nat) (c : Frame) (rest : List Frame) : asked (d4 wg c rest) = some (callFunc 52 #[wgp wg, .int .u64 18446744069414584320]) := by kernel_rfl
noncomputable def d5 (wg : Nat) (c : Frame) (rest : List Frame) (v wt : Nat) : FrS := put (d4 wg c rest) (.int .u64 ((v : Int) * KK + (wt : Int)))
theorem d5_a (wg : Nat) (c : Frame) (rest : List Frame) : (List.range 16).map (fun u => legs Try.prog [(87, tup0)] 4 (d5 wg c rest u 0)) = List.replicate 16 (some ([callFunc 30 #[]], (ret c, rest))) := by kernel_rfl
theorem d5_b (wg : Nat) (c : Frame) (rest : List Frame) : (List.range 15).map (fun u => legs Try.prog [(87, tup0)] 4 (d5 wg c rest (u + 1) 1)) = List.replicate 15 (some ([callFunc 30 #[]], (ret c, rest))) := by kernel_rfl
noncomputable def d6 (wg : Nat) (c : Frame) (rest : List Frame) : FrS := nx Try.prog 103 (d5 wg c rest 0 1)
theorem d5_ok (wg : Nat) (c : Frame) (rest : List Frame) : okx Try.prog 103 (d5 wg c rest 0 1) = true := by kernel_rfl
theorem d6_ask (wg : Nat) (c : Frame) (rest : List Frame) : asked (d6 wg c rest) = some (callFunc 53 #[wgp wg]) := by kernel_rfl
noncomputable def d7 (wg : Nat) (c : Frame) (rest : List Frame) : FrS := nx Try.prog 20 (put (d6 wg c rest) (.int .u64 1))
theorem d7_ok (wg : Nat) (c : Frame) (rest : List Frame) : okx Try.prog 20 (put (d6 wg c rest) (.int .u64 1)) = true := by kernel_rfl
theorem d7_ask (wg : Nat) (c : Frame) (rest : List Frame) : asked (d7 wg c rest) = some (callFunc 54 #[wgp wg, .int .u64 0]) := by kernel_rfl
noncomputable def d8 (wg : Nat) (c : Frame) (rest : List Frame) : FrS := nx Try.prog 27 (put (d7 wg c rest) tup0)
theorem d8_ok (wg : Nat) (c : Frame) (rest : List Frame) : okx Try.prog 27 (put (d7 wg c rest) tup0) = true := by kernel_rfl
theorem d8_ask (wg : Nat) (c : Frame) (rest : List Frame) : asked (d8 wg c rest) = some (callFunc 40 #[.pointer (some ⟨wg, 1, none⟩), .bool false, .int .i64 0]) := by kernel_rfl
theorem d8_wake (wg : Nat) (c : Frame) (rest : List Frame) : mayWake Try.prog (Gx (d8 wg c rest)) = true := by kernel_rfl
theorem d8_end (wg : Nat) (c : Frame) (rest : List Frame) : legs Try.prog [(17, tup0)] 4 (put (d8 wg c rest) tup0) = some ([callFunc 30 #[]], (ret c, rest)) := by kernel_rfl
theorem wrap64m {v wt : Nat} (h : v < 1048576) (hw : wt ≤ 1) : IntKind.u64.wrap (((v : Int) + 1) * KK + (wt : Int) + 18446744069414584320) = (v : Int) * KK + (wt : Int) := by
  have e : KK = 4294967296 := rfl
  rw [wrap_u64, e]
  omega
section
variable [FnSet] {p : Pool}
theorem quits_tail (hP : p.P = Try.prog) {x : FrS} {n m q : Nat} {c : Frame} {rest : List Frame} (hl : legs Try.prog [(n, tup0)] m x = some ([callFunc 30 #[]], (ret c, rest))) (h : QuitsD p.P q 0 (Gx (ret c, rest))) : ∃ q, QuitsD p.P q 1 (Gx x) := by
  obtain ⟨h1, h2, h3, h4⟩ := legs1 hl
  rw [hP] at h ⊢
  rw [← h4] at h
  exact ⟨_, quits_nx h1 (quits_put h2 (some tup0) (es := #[mk .enable]) (fun w => ent_mark0 (by intro g; simp) e30 #[] w _) (by intro e he; simp at he; subst he; rfl) (quits_nx h3 h))⟩
theorem wDone (hP : p.P = Try.prog) (hn : p.n ≤ 16) {c : Frame} {rest : List Frame} {q : Nat} (h : QuitsD p.P q 0 (Gx (ret c, rest))) : ∃ m, p.WkR p.AtR0 m (Gx (d0 p.wg c rest)) := by
  refine wlk_nxP hP (d0_ok _ _ _) (wlk_put (d1_ask p.wg c rest) (some (wgp p.wg)) (fun w hw => ?_) (wlk_stop (x := d2 p.wg c rest) ⟨rfl, Gx (put (d2 p.wg c rest) tup0), fun w _ => stop_step hP (d2_ask _ _ _) (v := some tup0) (ent_markAt (by intro ad g; simp) e28 rfl w _), ?_⟩))
  · obtain ⟨st, sm, hc, _⟩ := S_cells hw
    rw [hP]
    obtain ⟨h1, h2⟩ := cvt_ok (w := w) (ad := stA p.wg) u72 u74 z59 hc 0
    exact ⟨w.drawn, h1, by intro e he; have := h2 ▸ he; simp at this⟩
  refine wlk_nxP hP (d3_ok _ _ _) (wlk_stop ⟨rfl, Gx (put (d3 p.wg c rest) tup0), fun w _ => disable_step hP (d3_ask _ _ _) w, ?_⟩)
  refine wlk_nxP hP (d4_ok _ _ _) (wlk_stop ⟨rfl, fun v wt w hw hwt hv hwg => ⟨Gx (d5 p.wg c rest v wt), ?_, fun ⟨h1, h2⟩ => ?_, fun hne => ?_⟩⟩)
  · have := stop_step (main := false) hP (d4_ask p.wg c rest) (ent_add (fn' := (d4 p.wg c rest).1.fn) e52 hwg.cellSt (hwg.thaw 0))
    rw [wrap64m (by omega) hwt] at this
    exact this
  · subst h1; subst h2
    refine wlk_nxP hP (d5_ok _ _ _) (wlk_stop ⟨rfl, fun w hw hwg => ⟨Gx (put (d6 p.wg c rest) (.int .u64 1)), stop_step hP (d6_ask _ _ _) (v := some (.int .u64 1)) (ent_load (fn' := (d6 p.wg c rest).1.fn) e53 hwg.cellSt), ?_⟩⟩)
    refine wlk_nxP hP (d7_ok _ _ _) (wlk_stop ⟨rfl, fun w hw hwg => ⟨Gx (put (d7 p.wg c rest) tup0), stop_step hP (d7_ask _ _ _) (v := some tup0) (ent_store (fn' := (d7 p.wg c rest).1.fn) e54 hwg.cellSt (hwg.thaw 0)), ?_⟩⟩)
    refine wlk_nxP hP (d8_ok _ _ _) (wlk_stop ⟨rfl, by rw [hP]; exact d8_wake _ _ _, fun w hw hwg => ⟨Gx (put (d8 p.wg c rest) tup0), stop_step hP (d8_ask _ _ _) (v := some tup0) (ent_give (ad := smA p.wg) (fn' := (d8 p.wg c rest).1.fn) e40 rfl hwg.cellSm (hwg.thaw 1)), quits_tail hP (d8_end _ _ _) h⟩⟩)
  · rcases (by omega : wt = 0 ∨ wt = 1) with rfl | rfl
    · exact quits_tail hP (all_some (d5_a p.wg c rest) v (by omega)) h
    · obtain ⟨u, rfl⟩ : ∃ u, v = u + 1 := ⟨v - 1, by omega⟩
      exact quits_tail hP (all_some (d5_b p.wg c rest) u (by omega)) h
end
end Go.Po
/- The pool, part 18: (*WaitGroup).Wait, walked by reckoning. -/
namespace Go.Po
open Go Go.Conc Go.Tw Go.Proofs
open Go.ConcR (KK WgAt stA smA rd wr mk)

theorem all_eq {α : Type} {n : Nat} {f g : Nat → α} (h : (List.range n).map f = (List.range n).map g) : ∀ v, v < n → f v = g v := by
  intro v hv
  have := congrArg (·[v]?) h
  simpa [hv] using this
theorem blocked_step {P : Program} {main : Bool} {x : FrS} {o : Oper} (h : hd x.1 = some o) {w : World} (hr : (execOp x.1.eval o).run P w = .halt .blocked w) : stepG P main (Gx x) w = .go { Gx x with status := .blocked } w #[] := by
  obtain ⟨h1, h2, h3⟩ := hd_apply (P := P) (main := main) (cs := x.2) h w
  show stepG P main (G x.1 x.2) w = _
  rw [h1]
  simp [stepG.apply, hr, h2, GStep.after, G, Tw.seen_nil]
theorem asked_blocked {P : Program} {main : Bool} {x : FrS} {s : Sem Next} (hm : (hd x.1).isSome = true) (h : asked x = some s) {w : World} (hr : s.run P w = .halt .blocked w) : stepG P main (Gx x) w = .go { Gx x with status := .blocked } w #[] := by
  cases ho : hd x.1 with
  | none => rw [ho] at hm; cases hm
  | some o =>
    refine blocked_step ho ?_
    unfold asked ask at h
    rw [ho] at h
    cases h
    exact hr
noncomputable def w0 (wg : Nat) (c : Frame) (rest : List Frame) : FrS := (Frame.enter Try.prog 19 #[wgp wg] .normal, c :: rest)
noncomputable def w1 (wg : Nat) (c : Frame) (rest : List Frame) : FrS := nx Try.prog 3 (w0 wg c rest)
theorem w0_ok (wg : Nat) (c : Frame) (rest : List Frame) : okx Try.prog 3 (w0 wg c rest) = true := by kernel_rfl
theorem w1_ask (wg : Nat) (c : Frame) (rest : List Frame) : asked (w1 wg c rest) = some (callFunc 29 #[]) := by kernel_rfl
/-- At the load; what an earlier round has left in Wait's temporaries, f tells. -/
def leave (f : Nat → Value) (h : Frame) : Frame := { h with tmps := [2, 3, 4, 11, 12, 13, 14, 15, 16, 17, 18, 19, 42, 43, 44, 45, 46, 47, 48].foldl (fun a i => a.setIfInBounds i (f i)) h.tmps }
def lead (x : FrS) (i : Nat) : Value := (x.2.headD default).tmps.getD i undef
noncomputable def w2 (f : Nat → Value) (wg : Nat) (c : Frame) (rest : List Frame) : FrS := match nx Try.prog 19 (put (w1 wg c rest) tup0) with
  | (a, h :: t) => (a, leave f h :: t)
  | x => x
theorem w1_ok (wg : Nat) (c : Frame) (rest : List Frame) : okx Try.prog 19 (put (w1 wg c rest) tup0) = true := by kernel_rfl
theorem w1_to (wg : Nat) (c : Frame) (rest : List Frame) : nx Try.prog 19 (put (w1 wg c rest) tup0) = w2 (lead (nx Try.prog 19 (put (w1 wg c rest) tup0))) wg c rest := by kernel_rfl
theorem w2_ask (f : Nat → Value) (wg : Nat) (c : Frame) (rest : List Frame) : asked (w2 f wg c rest) = some (callFunc 53 #[wgp wg]) := by kernel_rfl
noncomputable def w3 (f : Nat → Value) (wg : Nat) (c : Frame) (rest : List Frame) (v : Nat) : FrS := put (w2 f wg c rest) (.int .u64 ((v : Int) * KK))
/-- Nobody is counted. -/
theorem w3_none (f : Nat → Value) (wg : Nat) (c : Frame) (rest : List Frame) : legs Try.prog [(31, tup0), (3, wgp wg), (0, tup0)] 20 (w3 f wg c rest 0) = some ([callFunc 30 #[], cvt 72 74 ⟨wg, 0, none⟩, callFunc 42 #[wgp wg]], (c.finish tup0, rest)) := by kernel_rfl
noncomputable def w4 (f : Nat → Value) (wg : Nat) (c : Frame) (rest : List Frame) (v : Nat) : FrS := nx Try.prog 48 (w3 f wg c rest v)
def lits : List (Int × Int × Int) := [(4294967296, 1, 4294967297), (8589934592, 2, 8589934593), (12884901888, 3, 12884901889), (17179869184, 4, 17179869185), (21474836480, 5, 21474836481), (25769803776, 6, 25769803777), (30064771072, 7, 30064771073), (34359738368, 8, 34359738369), (38654705664, 9, 38654705665), (42949672960, 10, 42949672961), (47244640256, 11, 47244640257), (51539607552, 12, 51539607553), (55834574848, 13, 55834574849), (60129542144, 14, 60129542145), (64424509440, 15, 64424509441), (68719476736, 16, 68719476737)]
theorem lits_eq : (List.range 16).map (fun u => ((((u + 1 : Nat) : Int) * KK), ((u + 1 : Nat) : Int), (((u + 1 : Nat) : Int) * KK + 1))) = lits := by decide
def missed (wg : Nat) (s n s1 : Int) : Nat → Value
  | 2 | 11 | 12 | 15 | 45 | 46 => .int .u64 s
  | 3 | 14 | 18 => .int .i32 n
  | 4 | 17 => .int .u32 0
  | 13 => .int .u64 n
  | 16 => .int .u64 0
  | 19 | 48 => .bool false
  | 42 | 43 | 44 => wgp wg
  | 47 => .int .u64 s1
  | _ => undef
theorem w4_ask (f : Nat → Value) (wg : Nat) (c : Frame) (rest : List Frame) : (List.range 16).map (fun u => (okx Try.prog 48 (w3 f wg c rest (u + 1)), asked (w4 f wg c rest (u + 1)))) = lits.map (fun l => (true, some (callFunc 55 #[wgp wg, .int .u64 l.1, .int .u64 l.2.2]))) := by kernel_rfl
theorem w4_miss (f : Nat → Value) (wg : Nat) (c : Frame) (rest : List Frame) : (List.range 16).map (fun u => (okx Try.prog 25 (put (w4 f wg c rest (u + 1)) (.bool false)), nx Try.prog 25 (put (w4 f wg c rest (u + 1)) (.bool false)))) = lits.map (fun l => (true, w2 (missed wg l.1 l.2.1 l.2.2) wg c rest)) := by kernel_rfl
theorem w4_hit (f : Nat → Value) (wg : Nat) (c : Frame) (rest : List Frame) : (List.range 16).map (fun u => legs Try.prog [(19, .pointer (some ⟨wg, 1, none⟩)), (0, tup0), (23, tup0), (16, .int .u64 0), (11, tup0), (3, wgp wg), (0, tup0)] 10 (put (w4 f wg c rest (u + 1)) (.bool true))) =
    List.replicate 16 (some ([cvt 80 74 ⟨wg, 1, none⟩, callFunc 45 #[.pointer (some ⟨wg, 1, none⟩)], callFunc 46 #[.pointer (some ⟨wg, 1, none⟩), .bool false], callFunc 53 #[wgp wg], callFunc 30 #[], cvt 72 74 ⟨wg, 0, none⟩, callFunc 42 #[wgp wg]], (c.finish tup0, rest))) := by kernel_rfl
theorem w4_heads (f : Nat → Value) (wg : Nat) (c : Frame) (rest : List Frame) : (List.range 16).map (fun u => (hd (nx Try.prog 23 (put (nx Try.prog 0 (put (nx Try.prog 19 (put (w4 f wg c rest (u + 1)) (.bool true))) (.pointer (some ⟨wg, 1, none⟩)))) tup0)).1).isSome) = List.replicate 16 true := by kernel_rfl
section
variable [FnSet] {p : Pool}
theorem cvt_asks (hP : p.P = Try.prog) {Ok : Event → Prop} : p.Asks Ok (cvt 72 74 ⟨p.wg, 0, none⟩) (some (wgp p.wg)) ∧ p.Asks Ok (cvt 80 74 ⟨p.wg, 1, none⟩) (some (.pointer (some ⟨p.wg, 1, none⟩))) := by
  refine ⟨fun w hw => ?_, fun w hw => ?_⟩
  · obtain ⟨st, sm, hc, _⟩ := S_cells hw
    rw [hP]
    obtain ⟨h1, h2⟩ := cvt_ok (w := w) (ad := stA p.wg) u72 u74 z59 hc 0
    exact ⟨w.drawn, h1, by intro e he; have := h2 ▸ he; simp at this⟩
  · obtain ⟨st, sm, _, hc⟩ := S_cells hw
    rw [hP]
    obtain ⟨h1, h2⟩ := cvt_ok (w := w) (ad := smA p.wg) u80 u74 z57 hc 0
    exact ⟨w.drawn, h1, by intro e he; have := h2 ▸ he; simp at this⟩
/-- From the enabling to behind the join. -/
theorem w_tail (hP : p.P = Try.prog) {c : Frame} {rest : List Frame} {x : FrS} {n m : Nat} (hE : ∀ y n, okx Try.prog n y = true → nx Try.prog n y = (c.finish tup0, rest) → p.Exit (Gx y))
    (hl : legs Try.prog [(n, tup0), (3, wgp p.wg), (0, tup0)] m x = some ([callFunc 30 #[], cvt 72 74 ⟨p.wg, 0, none⟩, callFunc 42 #[wgp p.wg]], (c.finish tup0, rest))) : ∃ m, p.M0 p.AtKe m (Gx x) := by
  obtain ⟨h1, s1, ss1, e1, h2, h3⟩ := legs_cons hl
  cases e1
  obtain ⟨h4, s2, ss2, e2, h5, h6⟩ := legs_cons h3
  cases e2
  obtain ⟨h7, h8, h9, h10⟩ := legs1 h6
  refine wlk_nxP hP h1 (wlk_stop ⟨rfl, _, fun w _ => enable_step hP h2 w, ?_⟩)
  refine wlk_nxP hP h4 (wlk_put h5 (some (wgp p.wg)) (cvt_asks hP).1 (wlk_nxP hP h7 (wlk_stop ⟨rfl, _, fun w _ => stop_step hP h8 (v := some tup0) (ent_markAt (by intro ad g; simp) e42 rfl w _), hE _ _ h9 h10⟩)))
theorem wAnch (hP : p.P = Try.prog) (hn : p.n ≤ 16) {c : Frame} {rest : List Frame} (hE : ∀ y n, okx Try.prog n y = true → nx Try.prog n y = (c.finish tup0, rest) → p.Exit (Gx y)) (hA : ∀ f, p.Anch (Gx (w2 f p.wg c rest))) (f : Nat → Value) : p.AtW1 (Gx (w2 f p.wg c rest)) := by
  have kk : ∀ u, u < 16 → ((((u + 1 : Nat) : Int) * KK), ((u + 1 : Nat) : Int), (((u + 1 : Nat) : Int) * KK + 1)) = lits.getD u (0, 0, 0) := fun u hu => by
    have := congrArg (·[u]?) lits_eq
    simp only [List.getElem?_map, List.getElem?_range hu, Option.map_some] at this
    simp [List.getD, ← this]
  refine ⟨rfl, fun v w hw hv hwg => ⟨Gx (w3 f p.wg c rest v), stop_step hP (w2_ask f p.wg c rest) (v := some (.int .u64 ((v : Int) * KK))) (ent_load (fn' := (w2 f p.wg c rest).1.fn) e53 hwg.cellSt), fun h0 => ?_, fun h0 => ?_⟩⟩
  · subst h0
    exact w_tail hP hE (w3_none f p.wg c rest)
  · obtain ⟨u, rfl⟩ : ∃ u, v = u + 1 := ⟨v - 1, by omega⟩
    have hu : u < 16 := by omega
    have h1 := congrArg (·[u]?) (w4_ask f p.wg c rest)
    have h2 := congrArg (·[u]?) (w4_miss f p.wg c rest)
    have hl : lits[u]? = some ((((u + 1 : Nat) : Int) * KK), ((u + 1 : Nat) : Int), (((u + 1 : Nat) : Int) * KK + 1)) := by
      have := congrArg (·[u]?) lits_eq
      simpa only [List.getElem?_map, List.getElem?_range hu, Option.map_some] using this.symm
    simp only [List.getElem?_map, List.getElem?_range hu, Option.map_some, hl, Option.some.injEq, Prod.mk.injEq] at h1 h2
    have h3 := all_some (w4_hit f p.wg c rest) u hu
    have h4 := all_of (w4_heads f p.wg c rest) u hu
    refine wlk_nxP hP h1.1 (wlk_stop ⟨rfl, fun v' w' hw' hv' hwg' => ⟨fun e => ?_, fun hne => ?_⟩⟩)
    · subst e
      refine ⟨Gx (put (w4 f p.wg c rest (u + 1)) (.bool true)), stop_step hP h1.2 (v := some (.bool true)) (ent_hit (fn' := (w4 f p.wg c rest (u + 1)).1.fn) e55 hwg'.cellSt (hwg'.thaw 0)), ?_⟩
      obtain ⟨k1, s1, ss1, e1, k2, k3⟩ := legs_cons h3
      cases e1
      obtain ⟨k4, s2, ss2, e2, k5, k6⟩ := legs_cons k3
      cases e2
      obtain ⟨k7, s3, ss3, e3, k8, k9⟩ := legs_cons k6
      cases e3
      obtain ⟨k10, s4, ss4, e4, k11, k12⟩ := legs_cons k9
      cases e4
      refine wlk_nxP hP k1 (wlk_put k2 (some (.pointer (some ⟨p.wg, 1, none⟩))) (cvt_asks hP).2 (wlk_nxP hP k4 ?_))
      have hst := fun w => stop_step (main := true) hP k5 (v := some tup0) (ent_markAt (ad := ⟨p.wg, 1, none⟩) (mk := .write) (by intro ad g; simp) e45 rfl w _)
      have hk : ∃ m, p.M0 p.AtW3 m (Gx (put (nx Try.prog 0 (put (nx Try.prog 19 (put (w4 f p.wg c rest (u + 1)) (.bool true))) (.pointer (some ⟨p.wg, 1, none⟩)))) tup0)) := by
        refine wlk_nxP hP k7 (wlk_stop ⟨rfl, rfl, fun w hw => ⟨fun ⟨st, hwg⟩ => ?_, fun hwg => ⟨Gx _, stop_step hP k8 (v := some tup0) (ent_take (ad := smA p.wg) e46 rfl hwg.cellSm (hwg.thaw 1) _), ?_⟩⟩⟩)
        · have := asked_blocked (P := Try.prog) (main := true) h4 k8 (w := w) (ent_wait (ad := smA p.wg) e46 rfl hwg.cellSm)
          rw [hP]; exact this
        · refine wlk_nxP hP k10 (wlk_stop ⟨rfl, fun w hw hwg => ⟨Gx _, stop_step hP k11 (v := some (.int .u64 0)) (ent_load e53 hwg.cellSt _), w_tail hP hE k12⟩⟩)
      obtain ⟨m, hk⟩ := hk
      exact ⟨m + 1, .inr ⟨rfl, fun w _ => ⟨_, w.drawn, _, hst w, fun e he => by simp at he; subst he; exact ⟨_, _, rfl, .inr rfl, rfl⟩, hk⟩⟩⟩
    · refine ⟨Gx (put (w4 f p.wg c rest (u + 1)) (.bool false)), stop_step hP h1.2 (v := some (.bool false)) (ent_miss (fn' := (w4 f p.wg c rest (u + 1)).1.fn) e55 hwg'.cellSt (hwg'.thaw 0) ?_), wlk_nxP hP h2.1 (by rw [h2.2]; exact wlk_stop (hA _))⟩
      intro e
      have e' : KK = 4294967296 := rfl
      rw [e'] at e
      omega
theorem wWait (hP : p.P = Try.prog) {c : Frame} {rest : List Frame} (hA : ∀ f, p.Anch (Gx (w2 f p.wg c rest))) : p.Fin (Gx (w0 p.wg c rest)) := by
  refine wlk_nxP hP (w0_ok _ _ _) (wlk_stop ⟨rfl, Gx (put (w1 p.wg c rest) tup0), fun w _ => disable_step hP (w1_ask _ _ _) w, ?_⟩)
  exact wlk_nxP hP (w1_ok _ _ _) (by rw [w1_to]; exact wlk_stop (hA _))
end
end Go.Po
/- The pool, part 19: plain loads, stores, places: run and events. -/
namespace Go.Po
open Go Go.Conc Go.Tw Go.Proofs
open Go.ConcR (KK WgAt stA smA rd wr mk)

section
variable {P : Program} {w : World} {ad : Addr} {v : Value} {t : TypeId}
abbrev ldS (t : TypeId) (ad : Addr) : Sem Next := do pure (.value (← Instr.loadAt t (.pointer (some ad))))
abbrev stS (t : TypeId) (ad : Addr) (v : Value) : Sem Next := do Instr.storeAt t (.pointer (some ad)) v; pure .skip
abbrev ixS (t : TypeId) (s : Value) (i : Value) : Sem Next := do pure (.value (← Instr.indexAt t s i))
theorem ld_ok {d : TypeDesc} (hu : P.underlying t = some d) (hd : (∃ fs, d = .struct fs) ∨ (∃ n e, d = .array n e) → False) (hc : w.cell? ad = some v) : (ldS t ad).run P w = .ok (nextOf (some v)) w ∧ (ldS t ad).events P w #[] = #[⟨.cell ad, false, false⟩] := by
  have ha : (isAgg t).run P w = .ok false w := by
    cases d <;> first | exact (hd (.inl ⟨_, rfl⟩)).elim | exact (hd (.inr ⟨_, _, rfl⟩)).elim | simp [isAgg, run_underlying hu]
  have he : ∀ es, (isAgg t).events P w es = es := fun es => by
    cases d <;> first | exact (hd (.inl ⟨_, rfl⟩)).elim | exact (hd (.inr ⟨_, _, rfl⟩)).elim | simp [isAgg, run_underlying hu, Result.evThen]
  constructor
  · simp [ldS, Instr.loadAt, Instr.sureAddr, loadVar, ha, hc, Result.andThen, nextOf]
  · simp [ldS, Instr.loadAt, Instr.sureAddr, loadVar, ha, he, hc, events_load, Result.evThen]
theorem add_none (b o i : Nat) : (⟨b, o, none⟩ : Addr).add i = ⟨b, o + i, none⟩ := by unfold Addr.add; split <;> simp_all
theorem ld3_ok {fs : Array Field} {b o : Nat} {c0 c1 c2 : Value} (hu : P.underlying t = some (.struct fs)) (hz : (P.info? t).map (·.size) = some 3) (h0 : w.cell? ⟨b, o, none⟩ = some c0) (h1 : w.cell? ⟨b, o + 1, none⟩ = some c1) (h2 : w.cell? ⟨b, o + 2, none⟩ = some c2) :
    (ldS t ⟨b, o, none⟩).run P w = .ok (nextOf (some (.agg #[c0, c1, c2]))) w ∧ (ldS t ⟨b, o, none⟩).events P w #[] = #[⟨.cell ⟨b, o, none⟩, false, false⟩, ⟨.cell ⟨b, o + 1, none⟩, false, false⟩, ⟨.cell ⟨b, o + 2, none⟩, false, false⟩] := by
  have ha : (isAgg t).run P w = .ok true w := by simp [isAgg, run_underlying hu]
  have he : ∀ es, (isAgg t).events P w es = es := fun es => by simp [isAgg, run_underlying hu, Result.evThen]
  obtain ⟨i, hi, hs⟩ := Option.map_eq_some_iff.1 hz
  have hsz : (sizeOf t).run P w = .ok 3 w := by simp [sizeOf, typeInfo, hi, hs]
  have hse : ∀ es, (sizeOf t).events P w es = es := fun es => by simp [sizeOf, typeInfo, hi, hs, Result.evThen]
  constructor
  · simp [ldS, Instr.loadAt, Instr.sureAddr, loadVar, ha, hsz, loadCells, loadCellsFrom, add_none, h0, h1, h2, Result.andThen, nextOf]
  · simp [ldS, Instr.loadAt, Instr.sureAddr, loadVar, ha, he, hsz, hse, loadCells, loadCellsFrom, add_none, h0, h1, h2, events_load, Result.evThen]
theorem st_ok {b o : Nat} {u : Value} (hz : (P.info? t).map (·.size) = some 1) (h1 : v.cells = #[v]) (hv : v.oneCell' = true) (hc : w.cell? ⟨b, o, none⟩ = some u) (hf : w.frozen? ⟨b, o, none⟩ = false) :
    (stS t ⟨b, o, none⟩ v).run P w = .ok (nextOf none) (w.setCell ⟨b, o, none⟩ v) ∧ (stS t ⟨b, o, none⟩ v).events P w #[] = #[⟨.cell ⟨b, o, none⟩, true, false⟩] := by
  obtain ⟨i, hi, hs⟩ := Option.map_eq_some_iff.1 hz
  have hsz : (sizeOf t).run P w = .ok 1 w := by simp [sizeOf, typeInfo, hi, hs]
  have hse : ∀ es, (sizeOf t).events P w es = es := fun es => by simp [sizeOf, typeInfo, hi, hs, Result.evThen]
  constructor
  · simp [stS, Instr.storeAt, Instr.sureAddr, storeVar, hsz, h1, storeCells, add_none, run_store P w ⟨b, o, none⟩ v .plain hv, hc, hf, Result.andThen, nextOf]
  · simp [stS, Instr.storeAt, Instr.sureAddr, storeVar, hsz, hse, h1, storeCells, add_none, events_store P w _ ⟨b, o, none⟩ v .plain hv, run_store P w ⟨b, o, none⟩ v .plain hv, hc, hf, Result.evThen]
theorem ix_ok {e b o len cap i n : Nat} (hu : P.underlying t = some (.slice e)) (hz : (P.info? e).map (·.size) = some n) (hi : i < len) :
    (ixS t (.slice (some ⟨b, o, none⟩) len cap) (.int .i64 i)).run P w = .ok (nextOf (some (.pointer (some ⟨b, o + i * n, none⟩)))) w ∧ (ixS t (.slice (some ⟨b, o, none⟩) len cap) (.int .i64 i)).events P w #[] = #[] := by
  obtain ⟨x, hx, hs⟩ := Option.map_eq_some_iff.1 hz
  have hsz : (sizeOf e).run P w = .ok n w := by simp [sizeOf, typeInfo, hx, hs]
  have hse : ∀ es, (sizeOf e).events P w es = es := fun es => by simp [sizeOf, typeInfo, hx, hs, Result.evThen]
  have h0 : 0 ≤ (i : Int) ∧ (i : Int) < len := by omega
  constructor
  · simp [ixS, Instr.indexAt, run_underlying hu, asIntOf, h0, hi, hsz, add_none, Result.andThen, nextOf]
  · simp [ixS, Instr.indexAt, run_underlying hu, asIntOf, h0, hi, hsz, hse, Result.evThen]
end
end Go.Po
/- The pool, part 20: a region whose order is drawn, with one call and a last store. -/
namespace Go.Po
open Go Go.Conc Go.Tw Go.Proofs

theorem go_cons {ops : Array Oper} {l : Array Bool} (h : Region.ready .any ops l ≠ []) (fuel t : Nat) : ∃ i t', i ∈ Region.ready .any ops l ∧ Region.linearise.go .any ops (fuel + 1) t l [] = i :: Region.linearise.go .any ops fuel t' (l.setIfInBounds i true) [] := by
  simp only [Region.linearise.go]
  change ∃ i t', i ∈ Region.ready .any ops l ∧ (match (Region.ready .any ops l)[t % (Region.ready .any ops l).length]? with
      | some i => Region.linearise.go .any ops fuel (t / (Region.ready .any ops l).length) (l.setIfInBounds i true) [i]
      | none => [].reverse) = _
  cases hi : (Region.ready .any ops l)[t % (Region.ready .any ops l).length]? with
  | none =>
    exfalso
    cases hr : Region.ready .any ops l with
    | nil => exact h hr
    | cons x xs =>
      rw [hr] at hi
      have hlt : t % (x :: xs).length < (x :: xs).length := Nat.mod_lt _ (by simp)
      simp at hi
      simp at hlt
      omega
  | some i =>
    refine ⟨i, t / (Region.ready .any ops l).length, List.mem_of_getElem? hi, ?_⟩
    exact linearise_go_acc _ _ _ _ _ [i]
theorem go_nil {ops : Array Oper} {l : Array Bool} (h : Region.ready .any ops l = []) (fuel t : Nat) : Region.linearise.go .any ops fuel t l [] = [] := by
  cases fuel with
  | zero => rfl
  | succ fuel =>
    simp only [Region.linearise.go]
    change (match (Region.ready .any ops l)[t % (Region.ready .any ops l).length]? with
      | some i => Region.linearise.go .any ops fuel (t / (Region.ready .any ops l).length) (l.setIfInBounds i true) [i]
      | none => [].reverse) = _
    rw [h]; rfl
/-- What is asked of a region: its operations; the sets of those that may be done, by size; the state with these done and this order ahead; the values; what each asks; the function's frame. -/
structure Reg (P : Program) (ops : Array Oper) (sz ic la : Nat) (LL : List (List (Array Bool))) (st : Array Bool → List Nat → FrS) (vals : Nat → Value) (sem : Nat → Sem Next) (fr : Frame) : Prop where
  top : ∀ n, sz ≤ n → LL.getD n [] = []
  clo : ∀ n l, l ∈ LL.getD n [] → ∀ i ∈ Region.ready .any ops l, i ≠ la → l.setIfInBounds i true ∈ LL.getD (n + 1) []
  non : ∀ n l, l ∈ LL.getD n [] → Region.ready .any ops l ≠ []
  one : ∀ n l, l ∈ LL.getD n [] → ∀ i ∈ Region.ready .any ops l, i ≠ ic → i ≠ la → ∀ order, asked (st l (i :: order)) = some (sem i) ∧ put (st l (i :: order)) (vals i) = st (l.setIfInBounds i true) order
  call : ∀ n l, l ∈ LL.getD n [] → ic ∈ Region.ready .any ops l → ∀ order, okx P 1 (st l (ic :: order)) = true ∧ nx P 1 (st l (ic :: order)) = (fr, (st l (ic :: order)).1 :: (st l (ic :: order)).2) ∧ ((st l (ic :: order)).1.finish (vals ic), (st l (ic :: order)).2) = st (l.setIfInBounds ic true) order
  last : ∀ n l, l ∈ LL.getD n [] → la ∈ Region.ready .any ops l → Region.ready .any ops (l.setIfInBounds la true) = [] ∧ l.getD ic false = true
  nic : ∀ n l, l ∈ LL.getD n [] → ic ∈ Region.ready .any ops l → l.getD ic false = false ∧ (l.setIfInBounds ic true).getD ic false = true
  keep : ∀ n l, l ∈ LL.getD n [] → ∀ i ∈ Region.ready .any ops l, i ≠ ic → (l.setIfInBounds i true).getD ic false = l.getD ic false
section
variable [FnSet] {p : Pool} {main : Bool} {Ok : Event → Prop} {K : Goroutine → Prop} {P : Program} {ops : Array Oper} {sz ic la : Nat} {LL : List (List (Array Bool))} {st : Array Bool → List Nat → FrS} {vals : Nat → Value} {sem : Nat → Sem Next} {fr : Frame}
/-- Behind the call: to the last store. -/
theorem reg_behind (hP : p.P = P) (R : Reg P ops sz ic la LL st vals sem fr) (ha : ∀ n l, l ∈ LL.getD n [] → ∀ i ∈ Region.ready .any ops l, i ≠ ic → i ≠ la → p.Asks Ok (sem i) (some (vals i))) (hK : ∀ n l, l ∈ LL.getD n [] → la ∈ Region.ready .any ops l → K (Gx (st l [la]))) :
    ∀ (fuel t n : Nat) (l : Array Bool), fuel + n = sz → l ∈ LL.getD n [] → l.getD ic false = true → ∃ m, p.Wlk main Ok K m (Gx (st l (Region.linearise.go .any ops fuel t l [])))
  | 0, t, n, l, hf, hl, hic => by rw [R.top n (by omega)] at hl; cases hl
  | fuel + 1, t, n, l, hf, hl, hic => by
    obtain ⟨i, t', hi, e⟩ := go_cons (R.non n l hl) fuel t
    rw [e]
    by_cases h9 : i = la
    · subst h9
      rw [go_nil (R.last n l hl hi).1]
      exact wlk_stop (hK n l hl hi)
    · have h7 : i ≠ ic := by rintro rfl; rw [(R.nic n l hl hi).1] at hic; cases hic
      obtain ⟨h1, h2⟩ := R.one n l hl i hi h7 h9 (Region.linearise.go .any ops fuel t' (l.setIfInBounds i true) [])
      refine wlk_put h1 (some (vals i)) (ha n l hl i hi h7 h9) ?_
      rw [show valOf (some (vals i)) = vals i from rfl, h2]
      exact reg_behind hP R ha hK fuel t' (n + 1) _ (by omega) (R.clo n l hl i hi h9) (by rw [R.keep n l hl i hi h7]; exact hic)
theorem wlk_mono : ∀ {m k : Nat} {g : Goroutine}, p.Wlk main Ok K m g → p.Wlk main Ok K (m + k) g
  | 0, 0, g, h => h
  | 0, k + 1, g, h => .inl h
  | m + 1, k, g, h => by
    rw [Nat.succ_add]
    exact h.imp id fun ⟨h1, h2⟩ => ⟨h1, fun w hw => let ⟨g', d, es, h3, h4, h5⟩ := h2 w hw; ⟨g', d, es, h3, h4, wlk_mono h5⟩⟩
theorem wlk_put1 {x : FrS} {s : Sem Next} (h : asked x = some s) (v : Option Value) (ha : p.Asks Ok s v) {m : Nat} (hk : p.Wlk main Ok K m (Gx (put x (valOf v)))) : p.Wlk main Ok K (m + 1) (Gx x) :=
  .inr ⟨rfl, fun w hw => let ⟨d, hr, he⟩ := ha w hw; ⟨_, d, _, asked_step h v hr, fun e hm => he e (mem_seen hm), hk⟩⟩
/-- Ahead of the call. -/
theorem reg_ahead (hP : p.P = P) (R : Reg P ops sz ic la LL st vals sem fr) (ha : ∀ n l, l ∈ LL.getD n [] → ∀ i ∈ Region.ready .any ops l, i ≠ ic → i ≠ la → p.Asks Ok (sem i) (some (vals i)))
    (hK : ∀ n l fuel t, l ∈ LL.getD n [] → ic ∈ Region.ready .any ops l → fuel + (n + 1) = sz → K (Gx (fr, (st l (ic :: Region.linearise.go .any ops fuel t (l.setIfInBounds ic true) [])).1 :: (st l (ic :: Region.linearise.go .any ops fuel t (l.setIfInBounds ic true) [])).2))) :
    ∀ (fuel t n : Nat) (l : Array Bool), fuel + n = sz → l ∈ LL.getD n [] → l.getD ic false = false → p.Wlk main Ok K fuel (Gx (st l (Region.linearise.go .any ops fuel t l [])))
  | 0, t, n, l, hf, hl, hic => by rw [R.top n (by omega)] at hl; cases hl
  | fuel + 1, t, n, l, hf, hl, hic => by
    obtain ⟨i, t', hi, e⟩ := go_cons (R.non n l hl) fuel t
    rw [e]
    have h9 : i ≠ la := by rintro rfl; rw [(R.last n l hl hi).2] at hic; cases hic
    by_cases h7 : i = ic
    · subst h7
      obtain ⟨h1, h2, _⟩ := R.call n l hl hi (Region.linearise.go .any ops fuel t' (l.setIfInBounds i true) [])
      rw [Nat.add_comm]
      have h3 : p.Wlk main Ok K (1 + 0) (Gx (st l (i :: Region.linearise.go .any ops fuel t' (l.setIfInBounds i true) []))) := by
        subst hP
        exact wlk_idl (nx_eq h1) (by rw [h2]; exact hK n l fuel t' hl hi (by omega))
      exact wlk_mono h3
    · obtain ⟨h1, h2⟩ := R.one n l hl i hi h7 h9 (Region.linearise.go .any ops fuel t' (l.setIfInBounds i true) [])
      refine wlk_put1 h1 (some (vals i)) (ha n l hl i hi h7 h9) ?_
      rw [show valOf (some (vals i)) = vals i from rfl, h2]
      exact reg_ahead hP R ha hK fuel t' (n + 1) _ (by omega) (R.clo n l hl i hi h9) (by rw [R.keep n l hl i hi h7]; exact hic)
/-- THE DRAW. -/
theorem reg_draw {x : FrS} {id : Nat} {k : List Item} (hm : x.1.mode = .run) (hr : x.1.roundOf = none) (ht : x.1.todo = .code (.region id ops true) :: k) (hmix : P.follows .mixedOrders = true) (w : World) :
    ∃ t, stepG P main (Gx x) w = .go (Gx ({ x.1 with todo := .inRegion ops (Region.linearise.go .any ops ops.size t (Array.replicate ops.size false) []) :: k }, x.2)) (w.at (w.drawn + 1)) #[] := by
  refine ⟨w.tape w.drawn (.order x.1.fn id), ?_⟩
  obtain ⟨⟨fn, tmps, todo, defers, mode, kind, roundOf⟩, cs⟩ := x
  simp only at hm hr ht
  subst hm; subst hr; subst ht
  have e : Region.schedule (P.follows .mixedOrders) ops (w.tape w.drawn (.order fn id)) = Region.linearise.go .any ops ops.size (w.tape w.drawn (.order fn id)) (Array.replicate ops.size false) [] := by
    simp only [Region.schedule, hmix, Bool.true_or, if_true, Region.linearise]
  rw [← e]
  simp [Gx, G, stepG, stepG.exec, choose, Sem.run, Question.forced, Question.cut]
  rfl
end
end Go.Po
/- The pool, part 21: the region of a worker's, checked by the kernel. -/
namespace Go.Po
open Go Go.Conc Go.Tw Go.Proofs

def findReg (id : Nat) : Code → Option (Array Oper)
  | .region i ops _ => if i == id then some ops else none
  | .seq a b => (findReg id a).or (findReg id b)
  | .cond _ a b => (findReg id a).or (findReg id b)
  | .block _ b | .loop b | .scope b => findReg id b
  | _ => none
def arr (m : Nat) : Array Bool := ((List.range 10).map fun i => m.testBit i).toArray
def LL10 : List (List (Array Bool)) := [[0], [1, 2, 4, 8, 16], [3, 5, 9, 17, 6, 10, 18, 12, 20, 24], [7, 11, 19, 13, 21, 25, 14, 22, 26, 28, 56], [15, 23, 27, 29, 57, 30, 58, 60, 120], [31, 59, 61, 121, 62, 122, 124], [63, 123, 125, 126, 252], [127, 253, 254], [255], [511]].map (·.map arr)
def prs (ops : Array Oper) (LL : List (List (Array Bool))) : List (Array Bool × Nat) := LL.flatten.flatMap fun l => (Region.ready .any ops l).map fun i => (l, i)
/-- The first kind of check: of the sets alone. -/
def setsOk (ops : Array Oper) (LL : List (List (Array Bool))) (sz ic la : Nat) : Bool :=
  LL.length == sz && (List.range sz).all fun n => (LL.getD n []).all fun l =>
    !(Region.ready .any ops l).isEmpty && (Region.ready .any ops l).all fun i =>
      (i == la || (LL.getD (n + 1) []).contains (l.setIfInBounds i true)) &&
      (if i == la then (Region.ready .any ops (l.setIfInBounds la true)).isEmpty && l.getD ic false else true) &&
      (if i == ic then !(l.getD ic false) && (l.setIfInBounds ic true).getD ic false else (l.setIfInBounds i true).getD ic false == l.getD ic false)
theorem Reg.of {P : Program} {ops : Array Oper} {sz ic la : Nat} {LL : List (List (Array Bool))} {st : Array Bool → List Nat → FrS} {vals : Nat → Value} {sem : Nat → Sem Next} {fr : Frame} (hne : la ≠ ic) (h : setsOk ops LL sz ic la = true)
    (h1 : ∀ order, ((prs ops LL).filter fun x => x.2 != ic && x.2 != la).map (fun x => (asked (st x.1 (x.2 :: order)), put (st x.1 (x.2 :: order)) (vals x.2))) = ((prs ops LL).filter fun x => x.2 != ic && x.2 != la).map (fun x => (some (sem x.2), st (x.1.setIfInBounds x.2 true) order)))
    (h2 : ∀ order, ((prs ops LL).filter fun x => x.2 == ic).map (fun x => (okx P 1 (st x.1 (ic :: order)), nx P 1 (st x.1 (ic :: order)), ((st x.1 (ic :: order)).1.finish (vals ic), (st x.1 (ic :: order)).2))) = ((prs ops LL).filter fun x => x.2 == ic).map (fun x => (true, (fr, (st x.1 (ic :: order)).1 :: (st x.1 (ic :: order)).2), st (x.1.setIfInBounds ic true) order))) :
    Reg P ops sz ic la LL st vals sem fr := by
  unfold setsOk at h
  simp only [Bool.and_eq_true, List.all_eq_true, List.mem_range, beq_iff_eq] at h
  obtain ⟨hlen, h⟩ := h
  have inN : ∀ n l, l ∈ LL.getD n [] → n < sz := fun n l hl => by
    rcases Nat.lt_or_ge n sz with hlt | hge
    · exact hlt
    · rw [List.getD_eq_getElem?_getD, List.getElem?_eq_none (by omega)] at hl
      cases hl
  have mem : ∀ n l, l ∈ LL.getD n [] → ∀ i ∈ Region.ready .any ops l, (l, i) ∈ prs ops LL := fun n l hl i hi => by
    have hn := inN n l hl
    refine List.mem_flatMap.2 ⟨l, ?_, List.mem_map.2 ⟨i, hi, rfl⟩⟩
    refine List.mem_flatten.2 ⟨LL.getD n [], ?_, hl⟩
    rw [List.getD_eq_getElem?_getD, List.getElem?_eq_getElem (by omega)]
    exact List.getElem_mem _
  have all := fun n l (hl : l ∈ LL.getD n []) => h n (inN n l hl) l hl
  refine ⟨fun n hn => by rw [List.getD_eq_getElem?_getD, List.getElem?_eq_none (by omega)]; rfl, fun n l hl i hi hne' => ?_, fun n l hl e => ?_, fun n l hl i hi h7 h9 order => ?_, fun n l hl hi order => ?_, fun n l hl hi => ?_, fun n l hl hi => ?_, fun n l hl i hi h7 => ?_⟩
  · have := ((all n l hl).2 i hi).1.1
    simp only [Bool.or_eq_true, beq_iff_eq, List.contains_iff_mem] at this
    exact this.resolve_left hne'
  · have := (all n l hl).1
    rw [e] at this
    simp at this
  · have := List.map_inj_left.1 (h1 order) (l, i) (List.mem_filter.2 ⟨mem n l hl i hi, by simp [h7, h9]⟩)
    exact ⟨congrArg Prod.fst this, congrArg Prod.snd this⟩
  · have := List.map_inj_left.1 (h2 order) (l, ic) (List.mem_filter.2 ⟨mem n l hl ic hi, by simp⟩)
    simp only [Prod.mk.injEq] at this
    exact ⟨this.1, this.2.1, this.2.2⟩
  · have := ((all n l hl).2 la hi).1.2
    simp only [beq_self_eq_true, if_true, Bool.and_eq_true, List.isEmpty_iff] at this
    exact this
  · have := ((all n l hl).2 ic hi).2
    simp only [beq_self_eq_true, if_true, Bool.and_eq_true, Bool.not_eq_true'] at this
    exact this
  · have := ((all n l hl).2 i hi).2
    rw [if_neg (by simpa using h7)] at this
    simpa using this
/-! ### .. of each[Net, int64]'s worker -/
noncomputable def ops16 : Array Oper := (((Try.prog.funcs[16]?).bind (·.body)).bind (findReg 4)).getD #[]
/-- A worker's blocks: the group; the counter; the boxes of the list and of f; the variable that holds the row of results. And the values. -/
structure WB where
  wg : Nat
  nx : Nat
  bl : Nat
  bf : Nat
  vo : Nat
  a : Value
  o : Value
  fv : Value
abbrev WB.ptr (b : Nat) : Value := .pointer (some ⟨b, 0, none⟩)
def rvals (b : WB) (c : Nat) (pad : Addr) (el r : Value) (po : Value) : Nat → Value
  | 0 => b.o
  | 1 | 4 => .int .i64 c
  | 2 => b.fv
  | 3 => b.a
  | 5 => .pointer (some pad)
  | 6 => el
  | 7 => r
  | 8 => po
  | _ => undef
def rbase (b : WB) (c : Int) (f : Nat → Value) : Array Value := #[.pointer (some ⟨b.wg, 0, none⟩), .pointer (some ⟨b.nx, 0, none⟩), .pointer (some ⟨b.bl, 0, none⟩), .pointer (some ⟨b.bf, 0, none⟩), .pointer (some ⟨b.vo, 0, none⟩), .int .i64 c, f 6, f 7, f 8, f 9, f 10, f 11, f 12, f 13, f 14, f 15, f 16, f 17, f 18, f 19, f 20, f 21, f 22]
def rtm (vals : Nat → Value) (l : Array Bool) (base : Array Value) : Array Value := (List.range 9).foldl (fun a i => if l.getD i false then a.setIfInBounds (14 + i) (vals i) else a) base
def rst (fn : Nat) (ops : Array Oper) (vals : Nat → Value) (base : Array Value) (k : List Item) (df : List Deferred) (cs : List Frame) (l : Array Bool) (order : List Nat) : FrS :=
  ({ fn := fn, tmps := rtm vals l base, todo := .inRegion ops order :: k, defers := df, mode := .run, kind := .deferred }, cs)
def rsem (tl to_ tf te : Nat) (b : WB) (c : Nat) (pad : Addr) : Nat → Sem Next
  | 0 => ldS to_ ⟨b.vo, 0, none⟩
  | 1 | 4 => pure (.value (.int .i64 c))
  | 2 => ldS tf ⟨b.bf, 0, none⟩
  | 3 => ldS tl ⟨b.bl, 0, none⟩
  | 5 => ixS tl b.a (.int .i64 c)
  | 6 => ldS te pad
  | 8 => ixS to_ b.o (.int .i64 c)
  | _ => pure .skip
theorem sets16 : setsOk ops16 LL10 10 7 9 = true := by kernel_rfl
theorem reg16 (b : WB) (hfv : b.fv = .func (.func 10) #[] #[]) (c : Nat) (pad : Addr) (el r po : Value) (f : Nat → Value) (k : List Item) (df : List Deferred) (cs : List Frame) :
    Reg Try.prog ops16 10 7 9 LL10 (rst 16 ops16 (rvals b c pad el r po) (rbase b c f) k df cs) (rvals b c pad el r po) (rsem 22 25 43 37 b c pad) (Frame.enter Try.prog 10 #[el] .normal) := by
  obtain ⟨wg, nx, bl, bf, vo, a, o, fv⟩ := b
  simp only at hfv
  subst hfv
  refine Reg.of (by decide) sets16 (fun order => ?_) (fun order => ?_)
  · kernel_rfl
  · kernel_rfl
end Go.Po
/- The pool, part 22: a worker of each[Net, int64], walked. -/
namespace Go.Po
open Go Go.Conc Go.Tw Go.Proofs
open Go.ConcR (KK WgAt stA smA rd wr mk)
namespace W16
/-- The goroutine's bottom frame. -/
noncomputable abbrev B0 : Frame := { (default : Frame) with fn := Try.prog.funcs.size, defers := [], mode := .panicking [goexitEntry] }
def caps (b : WB) : Array Value := #[.pointer (some ⟨b.wg, 0, none⟩), .pointer (some ⟨b.nx, 0, none⟩), .pointer (some ⟨b.bl, 0, none⟩), .pointer (some ⟨b.bf, 0, none⟩), .pointer (some ⟨b.vo, 0, none⟩)]
def dfr (b : WB) : Deferred := { target := .fn (.func 16) (caps b), args := #[] }
noncomputable def ch (b : WB) : FrS := ({ (default : Frame) with fn := Try.prog.funcs.size, defers := [dfr b], mode := .panicking [goexitEntry] }, [])
noncomputable def p1 (b : WB) : FrS := nx Try.prog 18 (ch b)
theorem ch_ok (b : WB) : okx Try.prog 18 (ch b) = true := by kernel_rfl
theorem p1_ask (b : WB) : asked (p1 b) = some (callFunc 41 #[.pointer (some ⟨b.nx, 0, none⟩), .int .i64 1]) := by kernel_rfl
def dn (b : WB) : Deferred := { target := .fn (.func 17) #[], args := #[.pointer (some ⟨b.wg, 0, none⟩)] }
def mkF (tmps : Array Value) (todo : List Item) (b : WB) : Frame := { fn := 16, tmps := tmps, todo := todo, defers := [dn b], mode := .run, kind := .deferred }
/-- At the load of the list. -/
noncomputable def tq : List Item := (nx Try.prog 13 (put (p1 ⟨0, 0, 0, 0, 0, undef, undef, undef⟩) (.int .i64 1))).1.todo
noncomputable def q (b : WB) (ci : Int) (f : Nat → Value) : FrS := (mkF ((rbase b ci f).setIfInBounds 8 (.int .i64 ci)) tq b, [B0])
theorem p1_to (b : WB) (c : Nat) : okx Try.prog 13 (put (p1 b) (.int .i64 ((c : Int) + 1))) = true ∧ nx Try.prog 13 (put (p1 b) (.int .i64 ((c : Int) + 1))) = q b (IntKind.i64.wrap ((c : Int) + 1 - 1)) (fun i => (nx Try.prog 13 (put (p1 b) (.int .i64 ((c : Int) + 1)))).1.tmps.getD i undef) := ⟨by kernel_rfl, by kernel_rfl⟩
/-- At the loop's condition. -/
noncomputable def tr : List Item := (nx Try.prog 3 (put (q ⟨0, 0, 0, 0, 0, undef, undef, undef⟩ 0 fun _ => undef) (.slice none 0 0))).1.todo
noncomputable def r (b : WB) (ci : Int) (bb : Bool) (f : Nat → Value) : FrS := (mkF ((rbase b ci f).setIfInBounds 11 (.bool bb)) tr b, [B0])
theorem q_to (b : WB) (ci : Int) (f : Nat → Value) (oa : Option Addr) (ln cap : Nat) : okx Try.prog 3 (put (q b ci f) (.slice oa ln cap)) = true ∧ nx Try.prog 3 (put (q b ci f) (.slice oa ln cap)) = r b ci (decide (ci < (ln : Int))) (fun i => (nx Try.prog 3 (put (q b ci f) (.slice oa ln cap))).1.tmps.getD i undef) := ⟨by kernel_rfl, by kernel_rfl⟩
theorem q_ask (b : WB) (ci : Int) (f : Nat → Value) : asked (q b ci f) = some (ldS 22 ⟨b.bl, 0, none⟩) := by kernel_rfl
/-- At the draw. -/
noncomputable def tx : List Item := (nx Try.prog 4 (r ⟨0, 0, 0, 0, 0, undef, undef, undef⟩ 0 true fun _ => undef)).1.todo
noncomputable def x (b : WB) (ci : Int) (f : Nat → Value) : FrS := (mkF (rbase b ci f) tx b, [B0])
theorem tx_eq : tx = .code (.region 4 ops16 true) :: tx.tail := by kernel_rfl
theorem r_true (b : WB) (ci : Int) (f : Nat → Value) : okx Try.prog 4 (r b ci true f) = true ∧ nx Try.prog 4 (r b ci true f) = x b ci (fun i => (nx Try.prog 4 (r b ci true f)).1.tmps.getD i undef) := ⟨by kernel_rfl, by kernel_rfl⟩
theorem r_false (b : WB) (ci : Int) (f : Nat → Value) : okx Try.prog 4 (r b ci false f) = true ∧ nx Try.prog 4 (r b ci false f) = d0 b.wg ((nx Try.prog 4 (r b ci false f)).2.headD default) [B0] := ⟨by kernel_rfl, by kernel_rfl⟩
/-- A later turn of the loop, at the counter. -/
noncomputable def t3 : List Item := ((nx Try.prog 14 (put (rst 16 ops16 (fun _ => undef) (rbase ⟨0, 0, 0, 0, 0, undef, undef, undef⟩ 0 fun _ => undef) tx.tail [dn ⟨0, 0, 0, 0, 0, undef, undef, undef⟩] [B0] (arr 511) [9]) undef)).2.headD default).todo
noncomputable def p2 (b : WB) (ci : Int) (f : Nat → Value) : FrS := ((p1 b).1, [mkF (rbase b ci f) t3 b, B0])
theorem p2_ask (b : WB) (ci : Int) (f : Nat → Value) : asked (p2 b ci f) = some (callFunc 41 #[.pointer (some ⟨b.nx, 0, none⟩), .int .i64 1]) := by kernel_rfl
theorem p2_to (b : WB) (ci : Int) (f : Nat → Value) (c : Nat) : okx Try.prog 12 (put (p2 b ci f) (.int .i64 ((c : Int) + 1))) = true ∧ nx Try.prog 12 (put (p2 b ci f) (.int .i64 ((c : Int) + 1))) = q b (IntKind.i64.wrap ((c : Int) + 1 - 1)) (fun i => (nx Try.prog 12 (put (p2 b ci f) (.int .i64 ((c : Int) + 1)))).1.tmps.getD i undef) := ⟨by kernel_rfl, by kernel_rfl⟩
/-- At the store. -/
noncomputable def s9 (b : WB) (ci : Int) (vals : Nat → Value) (f : Nat → Value) : FrS := rst 16 ops16 vals (rbase b ci f) tx.tail [dn b] [B0] (arr 511) [9]
theorem s9_ask (b : WB) (ci : Int) (vals : Nat → Value) (f : Nat → Value) (ad : Addr) (h8 : vals 8 = .pointer (some ad)) : asked (s9 b ci vals f) = some (stS 2 ad (vals 7)) := by
  have : asked (s9 b ci vals f) = some (do Instr.storeAt 2 (vals 8) (vals 7); pure .skip) := by kernel_rfl
  rw [this, h8]
theorem s9_to (b : WB) (ci : Int) (vals : Nat → Value) (f : Nat → Value) : okx Try.prog 14 (put (s9 b ci vals f) undef) = true ∧ nx Try.prog 14 (put (s9 b ci vals f) undef) = p2 b ci (fun i => ((nx Try.prog 14 (put (s9 b ci vals f) undef)).2.headD default).tmps.getD i undef) := ⟨by kernel_rfl, by kernel_rfl⟩
theorem only9 : ((prs ops16 LL10).all fun x => x.2 != 9 || x.1 == arr 511) = true := by kernel_rfl
/-- The end. -/
theorem r_end (b : WB) (ci : Int) (f : Nat → Value) : okx Try.prog 1 (ret ((nx Try.prog 4 (r b ci false f)).2.headD default), [B0]) = true ∧ nx Try.prog 1 (ret ((nx Try.prog 4 (r b ci false f)).2.headD default), [B0]) = (B0, []) := ⟨by kernel_rfl, by kernel_rfl⟩
theorem b0_cat : B0.catches Try.prog = false := by kernel_rfl
end W16
end Go.Po
/- The pool, part 23: each[Net, int64]'s worker meets what the pool asks. -/
namespace Go.Po
open Go Go.Conc Go.Tw Go.Proofs
open Go.ConcR (KK WgAt stA smA rd wr mk)
variable [FnSet]
def plainD : TypeDesc → Bool
  | .struct _ | .array _ _ => false
  | _ => true
section
variable {p : Pool} {P : Program}
theorem ld_ok' {w : World} {ad : Addr} {v : Value} {t : TypeId} (h : (P.underlying t).map plainD = some true) (hc : w.cell? ad = some v) : (ldS t ad).run P w = .ok (nextOf (some v)) w ∧ (ldS t ad).events P w #[] = #[⟨.cell ad, false, false⟩] := by
  obtain ⟨d, hd, hp⟩ := Option.map_eq_some_iff.1 h
  refine ld_ok hd (fun hx => ?_) hc
  rcases hx with ⟨fs, rfl⟩ | ⟨n, e, rfl⟩ <;> cases hp
theorem RO.cell {w : World} {b off : Nat} {cs : Array Value} {ty : TypeId} {v : Value} (hw : p.S w) (hr : p.RO b) (hh : p.W1.heap[b]? = some (.cells cs ty)) (hv : cs[off]? = some v) : w.cell? ⟨b, off, none⟩ = some v := by
  have := (hw.still b hr.1).trans hh
  simp [World.cell?, this, hv]
theorem asks_ld (hP : p.P = P) {b : Nat} {v : Value} {ty t : TypeId} (hr : p.RO b) (hh : p.W1.heap[b]? = some (.cells #[v] ty)) (ht : (P.underlying t).map plainD = some true) : p.Asks p.EvR (ldS t ⟨b, 0, none⟩) (some v) := fun w hw => by
  obtain ⟨h1, h2⟩ := ld_ok' (w := w) (ad := ⟨b, 0, none⟩) ht (RO.cell hw hr hh (off := 0) rfl)
  rw [hP]
  exact ⟨w.drawn, h1, by rw [h2]; intro e he; simp at he; subst he; exact ⟨_, rfl, hr⟩⟩
theorem asks_pure (v : Value) : p.Asks p.EvR (pure (.value v)) (some v) := fun w hw => ⟨w.drawn, rfl, by intro e he; simp at he⟩
theorem asks_ix (hP : p.P = P) {t e b o len cap i n : Nat} (hu : P.underlying t = some (.slice e)) (hz : (P.info? e).map (·.size) = some n) (hi : i < len) : p.Asks p.EvR (ixS t (.slice (some ⟨b, o, none⟩) len cap) (.int .i64 i)) (some (.pointer (some ⟨b, o + i * n, none⟩))) := fun w hw => by
  obtain ⟨h1, h2⟩ := ix_ok (w := w) (b := b) (o := o) (cap := cap) hu hz hi
  rw [hP]
  exact ⟨w.drawn, h1, by rw [h2]; intro e he; simp at he⟩
end
/-- What a worker's blocks and values are, in the pool. -/
structure Work (p : Pool) (b : WB) (oa : Option Addr) (cap : Nat) (tl te : TypeId) (fr : Value → Frame) (pad : Nat → Addr) (el : Nat → Value) : Prop where
  prog : p.P = Try.prog
  n16 : p.n ≤ 16
  l60 : p.len ≤ 60
  wg : b.wg = p.wg
  nx : b.nx = p.nx
  a : b.a = .slice oa p.len cap
  o : b.o = .slice (some ⟨p.ou, 0, none⟩) p.len p.len
  bl : p.RO b.bl ∧ ∃ ty, p.W1.heap[b.bl]? = some (.cells #[b.a] ty)
  bf : p.RO b.bf ∧ ∃ ty, p.W1.heap[b.bf]? = some (.cells #[b.fv] ty)
  vo : p.RO b.vo ∧ ∃ ty, p.W1.heap[b.vo]? = some (.cells #[b.o] ty)
  el5 : ∀ i, i < p.len → p.Asks p.EvR (ixS tl b.a (.int .i64 i)) (some (.pointer (some (pad i))))
  el6 : ∀ i, i < p.len → p.Asks p.EvR (ldS te (pad i)) (some (el i))
  f : ∀ i, i < p.len → ∃ frL xw, FR p.P p.okB idr p.N0 frL (fr (el i)) ∧ LT p.P (fun v _ => v = p.R i) frL [] xw ∧ ∀ w, p.S w → WR p.N0 idr p.N0 xw w
theorem wrap_i64 {n : Int} (h : 0 ≤ n ∧ n < 1000000) : IntKind.i64.wrap n = n := by
  have e1 : (2 : Int) ^ IntKind.i64.bits = 18446744073709551616 := by decide
  have e2 : (2 : Int) ^ (IntKind.i64.bits - 1) = 9223372036854775808 := by decide
  have hm : n % 18446744073709551616 = n := by omega
  simp only [IntKind.wrap, e1, e2, hm]
  rw [if_neg]
  simp
  omega
/-- The counter's add. -/
theorem nx_add {p : Pool} (hP : p.P = Try.prog) {x : FrS} (h : asked x = some (callFunc 41 #[.pointer (some ⟨p.nx, 0, none⟩), .int .i64 1])) {c : Nat} (hc : c < 1000) {w : World} (hw : p.NxAt w c) : stepG p.P false (Gx x) w = .go (Gx (put x (.int .i64 ((c : Int) + 1)))) (w.setCell p.nxA (.int .i64 (c + 1))) #[rd p.nxA, wr p.nxA] := by
  unfold Pool.NxAt at hw
  have h1 : w.cell? ⟨p.nx, 0, none⟩ = some (.int .i64 c) := by simp [World.cell?, hw]
  have h2 : w.frozen? ⟨p.nx, 0, none⟩ = false := by simp [World.frozen?, hw]
  have := stop_step (main := false) hP h (ent_add (fn' := x.1.fn) e41 h1 h2)
  rw [wrap_i64 (by omega)] at this
  exact this
namespace W16
def rv (p : Pool) (b : WB) (pad : Nat → Addr) (el : Nat → Value) (i : Nat) : Nat → Value := rvals b i (pad i) (el i) (p.R i) (.pointer (some ⟨p.ou, i, none⟩))
noncomputable def fr (v : Value) : Frame := Frame.enter Try.prog 10 #[v] .normal
noncomputable def sta (p : Pool) (b : WB) (pad : Nat → Addr) (el : Nat → Value) (i : Nat) (f : Nat → Value) : Array Bool → List Nat → FrS := rst 16 ops16 (rv p b pad el i) (rbase b i f) tx.tail [dn b] [B0]
def PA (b : WB) (g : Goroutine) : Prop := g = Gx (p1 b) ∨ ∃ ci f, g = Gx (p2 b ci f)
def PC (p : Pool) (b : WB) (pad : Nat → Addr) (el : Nat → Value) (i : Nat) (g : Goroutine) : Prop := ∃ (n : Nat) (l : Array Bool) (fuel t : Nat) (f : Nat → Value), l ∈ LL10.getD n [] ∧ 7 ∈ Region.ready .any ops16 l ∧ fuel + (n + 1) = 10 ∧
  g = Gx (fr (el i), (sta p b pad el i f l (7 :: Region.linearise.go .any ops16 fuel t (l.setIfInBounds 7 true) [])).1 :: (sta p b pad el i f l (7 :: Region.linearise.go .any ops16 fuel t (l.setIfInBounds 7 true) [])).2)
def PS (p : Pool) (b : WB) (pad : Nat → Addr) (el : Nat → Value) (i : Nat) (g : Goroutine) : Prop := ∃ f, g = Gx (s9 b i (rv p b pad el i) f)
theorem tys : (Try.prog.underlying 22).map plainD = some true ∧ (Try.prog.underlying 25).map plainD = some true ∧ (Try.prog.underlying 43).map plainD = some true := ⟨by kernel_rfl, by kernel_rfl, by kernel_rfl⟩
theorem u25 : Try.prog.underlying 25 = some (.slice 2) := by kernel_rfl
theorem z2 : (Try.prog.info? 2).map (·.size) = some 1 := by kernel_rfl
theorem mixed : Try.prog.follows .mixedOrders = true := by kernel_rfl
theorem ops_size : ops16.size = 10 := by kernel_rfl
section
variable {p : Pool} {b : WB} {oa : Option Addr} {cap : Nat} {pad : Nat → Addr} {el : Nat → Value}
theorem asks (W : Work p b oa cap 22 37 fr pad el) {i : Nat} (hi : i < p.len) : ∀ n l, l ∈ LL10.getD n [] → ∀ j ∈ Region.ready .any ops16 l, j ≠ 7 → j ≠ 9 → p.Asks p.EvR (rsem 22 25 43 37 b i (pad i) j) (some (rv p b pad el i j)) := by
  intro n l hl j hj h7 h9
  have hlt : j < 10 := by
    have := List.mem_filter.1 hj
    simpa [ops_size] using this.1
  obtain ⟨tyl, hl'⟩ := W.bl.2
  obtain ⟨tyf, hf'⟩ := W.bf.2
  obtain ⟨tyo, ho'⟩ := W.vo.2
  rcases (by omega : j = 0 ∨ j = 1 ∨ j = 2 ∨ j = 3 ∨ j = 4 ∨ j = 5 ∨ j = 6 ∨ j = 8) with rfl | rfl | rfl | rfl | rfl | rfl | rfl | rfl
  · exact asks_ld W.prog W.vo.1 ho' tys.2.1
  · exact asks_pure _
  · exact asks_ld W.prog W.bf.1 hf' tys.2.2
  · exact asks_ld W.prog W.bl.1 hl' tys.1
  · exact asks_pure _
  · exact W.el5 i hi
  · exact W.el6 i hi
  · have := asks_ix (p := p) W.prog (t := 25) (b := p.ou) (o := 0) (cap := p.len) u25 z2 hi
    simp only [Nat.mul_one, Nat.zero_add] at this
    show p.Asks p.EvR (ixS 25 b.o (.int .i64 i)) (some (.pointer (some ⟨p.ou, i, none⟩)))
    rw [W.o]
    exact this
theorem reg (W : Work p b oa cap 22 37 fr pad el) (hfv : b.fv = .func (.func 10) #[] #[]) (i : Nat) (f : Nat → Value) : Reg Try.prog ops16 10 7 9 LL10 (sta p b pad el i f) (rv p b pad el i) (rsem 22 25 43 37 b i (pad i)) (fr (el i)) :=
  reg16 b hfv i (pad i) (el i) (p.R i) (.pointer (some ⟨p.ou, i, none⟩)) f tx.tail [dn b] [B0]
/-- From behind the counter's add. -/
theorem after (W : Work p b oa cap 22 37 fr pad el) (hfv : b.fv = .func (.func 10) #[] #[]) (hPC : p.PC = PC p b pad el) {c : Nat} (hc : c < 1000) (f : Nat → Value) : (c < p.len → ∃ m, p.WkR (p.PC c) m (Gx (q b c f))) ∧ (p.len ≤ c → ∃ m, p.WkR p.AtR0 m (Gx (q b c f))) := by
  obtain ⟨tyl, hl'⟩ := W.bl.2
  have hload : p.Asks p.EvR (ldS 22 ⟨b.bl, 0, none⟩) (some b.a) := asks_ld W.prog W.bl.1 hl' tys.1
  have hq := q_to b c f oa p.len cap
  have hgo : ∀ {K : Goroutine → Prop}, (∃ m, p.WkR K m (Gx (r b c (decide ((c : Int) < (p.len : Int))) (fun i => (nx Try.prog 3 (put (q b c f) (.slice oa p.len cap))).1.tmps.getD i undef)))) → ∃ m, p.WkR K m (Gx (q b c f)) := fun {K} hk => by
    refine wlk_put (q_ask b c f) (some b.a) hload ?_
    rw [show valOf (some b.a) = b.a from rfl, W.a]
    exact wlk_nxP W.prog hq.1 (by rw [hq.2]; exact hk)
  refine ⟨fun hlt => hgo ?_, fun hge => hgo ?_⟩
  · rw [show decide ((c : Int) < (p.len : Int)) = true by simp; omega]
    generalize (fun i => (nx Try.prog 3 (put (q b c f) (.slice oa p.len cap))).1.tmps.getD i undef) = f1
    refine wlk_nxP W.prog (r_true b c f1).1 ?_
    rw [(r_true b c f1).2]
    generalize (fun i => (nx Try.prog 4 (r b c true f1)).1.tmps.getD i undef) = f2
    have R := reg W hfv c f2
    have hK : ∀ t, p.WkR (p.PC c) 10 (Gx (sta p b pad el c f2 (Array.replicate 10 false) (Region.linearise.go .any ops16 10 t (Array.replicate 10 false) []))) := fun t =>
      reg_ahead W.prog R (asks W hlt) (fun n l fuel t hl hi hf => by rw [hPC]; exact ⟨n, l, fuel, t, f2, hl, hi, hf, rfl⟩) 10 t 0 _ rfl (by decide) (by decide)
    refine ⟨10 + 1, .inr ⟨rfl, fun w hw => ?_⟩⟩
    obtain ⟨t, ht⟩ := reg_draw (P := Try.prog) (main := false) (x := x b c f2) (ops := ops16) (id := 4) (k := tx.tail) rfl rfl tx_eq mixed w
    rw [W.prog]
    refine ⟨_, w.drawn + 1, #[], ht, by intro e he; simp at he, ?_⟩
    rw [ops_size]
    exact hK t
  · rw [show decide ((c : Int) < (p.len : Int)) = false by simp; omega]
    generalize (fun i => (nx Try.prog 3 (put (q b c f) (.slice oa p.len cap))).1.tmps.getD i undef) = f1
    refine wlk_nxP W.prog (r_false b c f1).1 ?_
    rw [(r_false b c f1).2, W.wg]
    refine wDone W.prog W.n16 (q := 2) ?_
    rw [W.prog]
    exact quits_nx (n := 1) (r_end b c f1).1 (by rw [(r_end b c f1).2]; exact quits_end rfl rfl rfl b0_cat)
theorem add_ (W : Work p b oa cap 22 37 fr pad el) (hfv : b.fv = .func (.func 10) #[] #[]) (hPA : p.PA = PA b) (hPC : p.PC = PC p b pad el) : ∀ g, p.PA g → g.status = .running ∧ ∀ (c : Nat) w, p.S w → c ≤ p.len + p.n → p.NxAt w c →
    ∃ g', stepG p.P false g w = .go g' (w.setCell p.nxA (.int .i64 (c + 1))) #[rd p.nxA, wr p.nxA] ∧ (c < p.len → ∃ m, p.WkR (p.PC c) m g') ∧ (p.len ≤ c → ∃ m, p.WkR p.AtR0 m g') := by
  intro g hg
  rw [hPA] at hg
  have hl := W.l60
  have hn := W.n16
  rcases hg with rfl | ⟨ci, f, rfl⟩
  · refine ⟨rfl, fun c w hw hc hnx => ⟨_, nx_add W.prog (by rw [← W.nx]; exact p1_ask b) (by omega) hnx, ?_⟩⟩
    obtain ⟨h1, h2⟩ := p1_to b c
    rw [show ((c : Int) + 1 - 1) = c by omega, wrap_i64 (by omega)] at h2
    obtain ⟨h3, h4⟩ := after W hfv hPC (c := c) (by omega) (fun i => (nx Try.prog 13 (put (p1 b) (.int .i64 ((c : Int) + 1)))).1.tmps.getD i undef)
    rw [← h2] at h3 h4
    exact ⟨fun h => wlk_nxP W.prog h1 (h3 h), fun h => wlk_nxP W.prog h1 (h4 h)⟩
  · refine ⟨rfl, fun c w hw hc hnx => ⟨_, nx_add W.prog (by rw [← W.nx]; exact p2_ask b ci f) (by omega) hnx, ?_⟩⟩
    obtain ⟨h1, h2⟩ := p2_to b ci f c
    rw [show ((c : Int) + 1 - 1) = c by omega, wrap_i64 (by omega)] at h2
    obtain ⟨h3, h4⟩ := after W hfv hPC (c := c) (by omega) (fun i => (nx Try.prog 12 (put (p2 b ci f) (.int .i64 ((c : Int) + 1)))).1.tmps.getD i undef)
    rw [← h2] at h3 h4
    exact ⟨fun h => wlk_nxP W.prog h1 (h3 h), fun h => wlk_nxP W.prog h1 (h4 h)⟩
theorem is511 {l : Array Bool} {n : Nat} (hl : l ∈ LL10.getD n []) (h9 : 9 ∈ Region.ready .any ops16 l) : l = arr 511 := by
  have hm : (l, 9) ∈ prs ops16 LL10 := by
    refine List.mem_flatMap.2 ⟨l, ?_, List.mem_map.2 ⟨9, h9, rfl⟩⟩
    have hn : n < LL10.length := by
      rcases Nat.lt_or_ge n LL10.length with h | h
      · exact h
      · rw [List.getD_eq_getElem?_getD, List.getElem?_eq_none h] at hl; cases hl
    refine List.mem_flatten.2 ⟨LL10.getD n [], ?_, hl⟩
    rw [List.getD_eq_getElem?_getD, List.getElem?_eq_getElem hn]
    exact List.getElem_mem _
  have := List.all_eq_true.1 only9 _ hm
  simpa using this
theorem call_ (W : Work p b oa cap 22 37 fr pad el) (hfv : b.fv = .func (.func 10) #[] #[]) (hPC : p.PC = PC p b pad el) (hPS : p.PS = PS p b pad el) : ∀ i g, i < p.len → p.PC i g →
    ∃ frL fr xw c rest, g = G fr (c :: rest) ∧ FR p.P p.okB idr p.N0 frL fr ∧ LT p.P (fun v _ => v = p.R i) frL [] xw ∧ (∀ w, p.S w → WR p.N0 idr p.N0 xw w) ∧ ∃ m, p.WkR (p.PS i) m (G (c.finish (p.R i)) rest) := by
  intro i g hi hg
  rw [hPC] at hg
  obtain ⟨n, l, fuel, t, f, hl, h7, hf, rfl⟩ := hg
  obtain ⟨frL, xw, h1, h2, h3⟩ := W.f i hi
  have R := reg W hfv i f
  refine ⟨frL, fr (el i), xw, _, _, rfl, h1, h2, h3, ?_⟩
  have h4 := (R.call n l hl h7 (Region.linearise.go .any ops16 fuel t (l.setIfInBounds 7 true) [])).2.2
  have h5 := reg_behind (main := false) (K := p.PS i) W.prog R (asks W hi) (fun n l hl h9 => by rw [hPS, is511 hl h9]; exact ⟨f, rfl⟩) fuel t (n + 1) _ (by omega) (R.clo n l hl 7 h7 (by decide)) (R.nic n l hl h7).2
  rw [← h4] at h5
  exact h5
theorem store_ (W : Work p b oa cap 22 37 fr pad el) (hint : ∀ i, ∃ k x, p.R i = .int k x) (hPA : p.PA = PA b) (hPS : p.PS = PS p b pad el) : ∀ i g, i < p.len → p.PS i g → g.status = .running ∧ ∀ w, p.S w →
    ∃ g', stepG p.P false g w = .go g' (w.setCell (p.outA i) (p.R i)) #[⟨.cell (p.outA i), true, false⟩] ∧ ∃ m, p.WkR p.PA m g' := by
  intro i g hi hg
  rw [hPS] at hg
  obtain ⟨f, rfl⟩ := hg
  refine ⟨rfl, fun w hw => ?_⟩
  obtain ⟨k, x, hR⟩ := hint i
  obtain ⟨os, hos, hsz⟩ := hw.ou
  have hc : w.cell? ⟨p.ou, i, none⟩ = some (os[i]'(by omega)) := by simp [World.cell?, hos]
  have hz : w.frozen? ⟨p.ou, i, none⟩ = false := by simp [World.frozen?, hos]
  obtain ⟨h1, h2⟩ := st_ok (P := Try.prog) (t := 2) (v := p.R i) z2 (by rw [hR]; rfl) (by rw [hR]; rfl) hc hz
  have hask : asked (s9 b i (rv p b pad el i) f) = some (stS 2 ⟨p.ou, i, none⟩ (p.R i)) := s9_ask b i (rv p b pad el i) f ⟨p.ou, i, none⟩ rfl
  refine ⟨Gx (put (s9 b i (rv p b pad el i) f) undef), ?_, ?_⟩
  · have hs : seen Try.prog (s9 b i (rv p b pad el i) f).1.fn #[⟨.cell ⟨p.ou, i, none⟩, true, false⟩] = #[⟨.cell ⟨p.ou, i, none⟩, true, false⟩] := by kernel_rfl
    exact stop_step (main := false) W.prog hask (v := none) ⟨h1, by rw [h2]; exact hs⟩
  · obtain ⟨h3, h4⟩ := s9_to b i (rv p b pad el i) f
    exact wlk_nxP W.prog h3 (by rw [h4]; exact wlk_stop (by rw [hPA]; exact .inr ⟨_, _, rfl⟩))
theorem child_ (W : Work p b oa cap 22 37 fr pad el) (hPA : p.PA = PA b) : ∃ m, p.WkR p.PA m (Gx (ch b)) := wlk_nxP W.prog (ch_ok b) (wlk_stop (by rw [hPA]; exact .inl rfl))
end
end W16
end Go.Po
/- The pool, part 24: boxes, variables, rows made: run and events; each[Net, int64] up to the first Add. -/
namespace Go.Po
open Go Go.Conc Go.Tw Go.Proofs
open Go.ConcR (KK WgAt stA smA rd wr mk)

section
variable [FnSet] {P : Program} {Ok : World → Event → Prop} {w : World} {t : TypeId} {v : Value}
abbrev ptr (b : Nat) : Value := .pointer (some ⟨b, 0, none⟩)
abbrev bxS (t : TypeId) (v : Value) : Sem Next := do pure (.value (← Instr.box t v))
abbrev alS (t : TypeId) : Sem Next := do pure (.value (← Instr.alloc t true (.tuple #[])))
abbrev mkS (t : TypeId) (l : Int) : Sem Next := do pure (.value (← Instr.makeSlice t (.int .i64 l) (.int .i64 l)))
theorem at_alloc (w : World) (d : Nat) (o : Obj) : (w.at d).alloc o = (w.alloc o).at d := rfl
theorem turns_of {s : Sem Next} {v : Option Value} {w' : World} (hsz : w.heap.size ≤ w'.heap.size) (h : ∀ d, s.run P (w.at d) = .ok (nextOf v) (w'.at d)) (he : ∀ d, ∀ e ∈ s.events P (w.at d) #[], Ok w' e) : Turns P Ok s v w w' := ⟨hsz, fun d => ⟨d, h d, he d⟩⟩
theorem size_alloc' (w : World) (o : Obj) : (w.alloc o).heap.size = w.heap.size + 1 := by
  show (w.heap.push o).size = _
  simp
theorem turns_pure {v v' : Value} (e : v' = v) : Turns P Ok (pure (.value v')) (some v) w w := by
  subst e
  exact turns_of (Nat.le_refl _) (fun d => rfl) (fun d e he => by simp at he)
theorem turns_box : Turns P Ok (bxS t v) (some (ptr w.heap.size)) w (w.alloc (.cells v.cells t)) :=
  turns_of (by rw [size_alloc']; omega) (fun d => by simp [bxS, Instr.box, newVar, newRow, Result.andThen, nextOf]; exact ⟨rfl, rfl⟩) (fun d e he => by simp [bxS, Instr.box, newVar, newRow, Result.evThen] at he)
theorem turns_alloc {z : Value} (hz : (P.info? t).bind (·.zero) = some z) : Turns P Ok (alS t) (some (ptr w.heap.size)) w (w.alloc (.cells z.cells t)) := by
  obtain ⟨i, hi, hz⟩ := Option.bind_eq_some_iff.1 hz
  have h1 : ∀ w, (zeroValue t).run P w = .ok z w := fun w => by simp [zeroValue, typeInfo, hi, hz]
  exact turns_of (by rw [size_alloc']; omega) (fun d => by simp [alS, Instr.alloc, newVar, newRow, h1, Result.andThen, nextOf]; exact ⟨rfl, rfl⟩) (fun d e he => by simp [alS, Instr.alloc, newVar, newRow, h1, Result.evThen] at he)
theorem turns_make {e : TypeId} {i : TypeInfo} {z : Value} (ht : P.underlying t = some (.slice e)) (hi : P.info? e = some i) (hz : i.zero = some z) (hb : i.bytes = 8) (hs : i.size = 1) {l : Nat} (hl : l ≤ 1000) :
    Turns P Ok (mkS t l) (some (.slice (some ⟨w.heap.size, 0, none⟩) l l)) w (w.alloc (.cells (madeCells z.cells l) e)) := by
  have hr : ∀ w : World, (Instr.makeSlice t (.int .i64 l) (.int .i64 l)).run P w = .ok (.slice (some ⟨w.heap.size, 0, none⟩) l l) (w.alloc (.cells (madeCells z.cells l) e)) := fun w => by
    have := run_makeSlice (P := P) w t e i z ht hi hz .i64 .i64 l l (by omega) (Int.le_refl _) (by rw [hs]; simp; omega) (by rw [hb]; omega) (by omega)
    rw [hs] at this
    simpa using this
  have wl : IntKind.i64.wrap (l : Int) = l := by rw [IntKind.wrap_i64]; omega
  have n1 : ¬ (l : Int) < 0 := by omega
  have n2 : ¬ (281474976710656 < (8 : Int) * (l : Int)) := by omega
  have n3 : ¬ (l * 8 > roomBytes) := by
    have : roomBytes = 140737488355328 := by decide
    omega
  have n4 : ¬ (roomBytes < l * 8) := n3
  refine turns_of (by rw [size_alloc']; omega) (fun d => by simp only [mkS, Sem.run_bind, hr]; rfl) (fun d ev he => ?_)
  exfalso
  have hev : (mkS t l).events P (w.at d) #[] = #[] := by
    simp only [mkS, Sem.events_bind, hr, Result.evThen_ok]
    by_cases hn : l = 0
    · have w0 : IntKind.i64.wrap 0 = 0 := by decide
      subst hn
      simp [Instr.makeSlice, run_underlying ht, asInt, asIntOf, typeInfo, hi, sizeOf, w0, hb, hs, newRow, askRoom, Result.evThen]
    · simp [Instr.makeSlice, run_underlying ht, asInt, asIntOf, typeInfo, hi, sizeOf, zeroValue, hz, wl, n1, n2, hn, hb, hs, newRow, askRoom, n4, Result.evThen]
  rw [hev] at he
  simp at he
theorem turns_ld {b off : Nat} (h : (P.underlying t).map plainD = some true) (hc : w.cell? ⟨b, off, none⟩ = some v) (hok : Ok w ⟨.cell ⟨b, off, none⟩, false, false⟩) : Turns P Ok (ldS t ⟨b, off, none⟩) (some v) w w :=
  turns_of (Nat.le_refl _) (fun d => (ld_ok' (w := w.at d) h hc).1) (fun d e he => by rw [(ld_ok' (w := w.at d) h hc).2] at he; simp at he; subst he; exact hok)
theorem turns_st {b off : Nat} {u : Value} (hz : (P.info? t).map (·.size) = some 1) (h1 : v.cells = #[v]) (hv : v.oneCell' = true) (hc : w.cell? ⟨b, off, none⟩ = some u) (hf : w.frozen? ⟨b, off, none⟩ = false) (hok : Ok (w.setCell ⟨b, off, none⟩ v) ⟨.cell ⟨b, off, none⟩, true, false⟩) :
    Turns P Ok (stS t ⟨b, off, none⟩ v) none w (w.setCell ⟨b, off, none⟩ v) :=
  turns_of (by rw [setCell_size]; exact Nat.le_refl _) (fun d => (st_ok (w := w.at d) hz h1 hv hc hf).1) (fun d e he => by rw [(st_ok (w := w.at d) hz h1 hv hc hf).2] at he; simp at he; subst he; exact hok)
end
end Go.Po
/- The pool, part 25: each[Net, int64], the starter, walked. -/
namespace Go.Po
open Go Go.Conc Go.Tw Go.Proofs
open Go.ConcR (KK WgAt stA smA rd wr mk)
namespace E9
def run1 (P : Program) (x : FrS) (nv : Nat × Value) : FrS := put (nx P nv.1 x) nv.2
def runL (P : Program) (l : List (Nat × Value)) (x : FrS) : FrS := l.foldl (run1 P) x
def script (b : WB) : List (Nat × Option Value) := [(2, some (ptr b.bl)), (0, some (ptr b.bf)), (8, some (.bool false)), (2, some (.bool false)), (6, some b.a), (1, some (.bool false)), (7, some b.a), (1, some b.o), (0, some (ptr b.vo)), (0, none), (3, some (ptr b.nx)), (3, some (ptr b.wg))]
noncomputable def x0 (b : WB) (n : Nat) (c : Frame) (rest : List Frame) : FrS := (Frame.enter Try.prog 9 #[b.a, .int .i64 n, b.fv] .normal, c :: rest)
noncomputable def pre (b : WB) (n : Nat) (c : Frame) (rest : List Frame) : FrS := runL Try.prog ((script b).map fun x => (x.1, valOf x.2)) (x0 b n c rest)
theorem scr9 (b : WB) (oa : Option Addr) (ln cap : Nat) (hb : b.a = .slice oa ln cap) (n : Nat) (c : Frame) (rest : List Frame) : scr Try.prog (script b) (x0 b n c rest).1 (x0 b n c rest).2 = some ([bxS 22 b.a, bxS 43 b.fv, pure (.value (.bool (decide ((n : Int) < 1)))), pure (.value (.bool (decide ((n : Int) > 16)))), ldS 22 ⟨b.bl, 0, none⟩,
    pure (.value (.bool (decide ((ln : Int) > 60)))), ldS 22 ⟨b.bl, 0, none⟩, mkS 25 ln, alS 25, stS 25 ⟨b.vo, 0, none⟩ b.o, alS 52, alS 59], (pre b n c rest).1, (pre b n c rest).2) := by
  obtain ⟨wg, nx, bl, bf, vo, a, o, fv⟩ := b
  simp only at hb
  subst hb
  kernel_rfl
def base (b : WB) (n : Nat) (k : Int) (f : Nat → Value) : Array Value := #[b.a, .int .i64 n, b.fv, ptr b.bl, f 4, ptr b.bf, f 6, f 7, ptr b.vo, ptr b.nx, ptr b.wg, f 11, f 12, f 13, f 14, f 15, f 16, f 17, f 18, f 19, f 20, f 21, f 22, f 23, f 24, .int .i64 n, .int .i64 k, f 27, f 28, f 29, f 30, f 31, f 32]
def mkF (tmps : Array Value) (todo : List Item) : Frame := { fn := 9, tmps := tmps, todo := todo, defers := [], mode := .run, kind := .normal }
abbrev b0 : WB := ⟨0, 0, 0, 0, 0, .slice none 0 0, undef, undef⟩
/-- At the loop's comparison. -/
noncomputable def tL : List Item := (nx Try.prog 11 (pre b0 1 default [])).1.todo
noncomputable def Ls (b : WB) (n : Nat) (k : Int) (f : Nat → Value) (cs : List Frame) : FrS := (mkF (base b n k f) tL, cs)
theorem pre_to (b : WB) (oa : Option Addr) (ln cap : Nat) (hb : b.a = .slice oa ln cap) (n : Nat) (c : Frame) (rest : List Frame) : okx Try.prog 11 (pre b n c rest) = true ∧ nx Try.prog 11 (pre b n c rest) = Ls b n 0 (fun i => (nx Try.prog 11 (pre b n c rest)).1.tmps.getD i undef) (c :: rest) := by
  obtain ⟨wg, nx, bl, bf, vo, a, o, fv⟩ := b
  simp only at hb
  subst hb
  exact ⟨by kernel_rfl, by kernel_rfl⟩
theorem L_ask (b : WB) (n : Nat) (k : Int) (f : Nat → Value) (cs : List Frame) : asked (Ls b n k f cs) = some (pure (.value (.bool (decide (k < (n : Int)))))) := by kernel_rfl
/-- Into Add. -/
noncomputable def tA : List Item := ((nx Try.prog 9 (put (Ls b0 1 0 (fun _ => undef) []) (.bool true))).2.headD default).todo
noncomputable def cA (b : WB) (n : Nat) (k : Int) (f : Nat → Value) : Frame := mkF (base b n k f) tA
theorem L_true (b : WB) (n : Nat) (k : Int) (f : Nat → Value) (cs : List Frame) : okx Try.prog 9 (put (Ls b n k f cs) (.bool true)) = true ∧ nx Try.prog 9 (put (Ls b n k f cs) (.bool true)) = a0 b.wg (cA b n k (fun i => ((nx Try.prog 9 (put (Ls b n k f cs) (.bool true))).2.headD default).tmps.getD i undef)) cs := ⟨by kernel_rfl, by kernel_rfl⟩
/-- Into Wait. -/
noncomputable def tW : List Item := ((nx Try.prog 7 (put (Ls b0 1 0 (fun _ => undef) []) (.bool false))).2.headD default).todo
noncomputable def cW (b : WB) (n : Nat) (k : Int) (f : Nat → Value) : Frame := mkF (base b n k f) tW
theorem L_false (b : WB) (n : Nat) (k : Int) (f : Nat → Value) (cs : List Frame) : okx Try.prog 7 (put (Ls b n k f cs) (.bool false)) = true ∧ nx Try.prog 7 (put (Ls b n k f cs) (.bool false)) = w0 b.wg (cW b n k (fun i => ((nx Try.prog 7 (put (Ls b n k f cs) (.bool false))).2.headD default).tmps.getD i undef)) cs := ⟨by kernel_rfl, by kernel_rfl⟩
/-- At the go statement. -/
noncomputable def gA (b : WB) (n : Nat) (k : Int) (f : Nat → Value) (cs : List Frame) : FrS := nx Try.prog 3 ((cA b n k f).finish tup0, cs)
theorem g_ok (b : WB) (n : Nat) (k : Int) (f : Nat → Value) (cs : List Frame) : okx Try.prog 3 ((cA b n k f).finish tup0, cs) = true := by kernel_rfl
theorem g_ask (b : WB) (n : Nat) (k : Int) (f : Nat → Value) (cs : List Frame) : asked (gA b n k f cs) = some (pure (.spawn (W16.dfr b))) := by kernel_rfl
theorem g_hd (b : WB) (n : Nat) (k : Int) (f : Nat → Value) (cs : List Frame) : (hd (gA b n k f cs).1).isSome = true := by kernel_rfl
theorem g_to (b : WB) (n : Nat) (k : Int) (f : Nat → Value) (cs : List Frame) : okx Try.prog 9 ((gA b n k f cs).1.finish undef, (gA b n k f cs).2) = true ∧ nx Try.prog 9 ((gA b n k f cs).1.finish undef, (gA b n k f cs).2) = Ls b n (IntKind.i64.wrap (k + 1)) (fun i => (nx Try.prog 9 ((gA b n k f cs).1.finish undef, (gA b n k f cs).2)).1.tmps.getD i undef) cs := ⟨by kernel_rfl, by kernel_rfl⟩
/-- Behind Wait. -/
noncomputable def e1 (b : WB) (n : Nat) (k : Int) (f : Nat → Value) (cs : List Frame) : FrS := nx Try.prog 3 ((cW b n k f).finish tup0, cs)
theorem e_ok (b : WB) (n : Nat) (k : Int) (f : Nat → Value) (cs : List Frame) : okx Try.prog 3 ((cW b n k f).finish tup0, cs) = true := by kernel_rfl
theorem e1_ask (b : WB) (n : Nat) (k : Int) (f : Nat → Value) (cs : List Frame) : asked (e1 b n k f cs) = some (ldS 25 ⟨b.vo, 0, none⟩) := by kernel_rfl
theorem e1_to (b : WB) (n : Nat) (k : Int) (f : Nat → Value) (c : Frame) (rest : List Frame) : okx Try.prog 5 (put (e1 b n k f (c :: rest)) b.o) = true ∧ nx Try.prog 5 (put (e1 b n k f (c :: rest)) b.o) = (c.finish (.tuple #[b.o, .int .i64 0]), rest) := ⟨by kernel_rfl, by kernel_rfl⟩
end E9
end Go.Po
/- The pool, part 26: each[Net, int64]: the starter meets what the pool asks. -/
namespace Go.Po
open Go Go.Conc Go.Tw Go.Proofs
open Go.ConcR (KK WgAt stA smA rd wr mk)
variable [FnSet]
section
variable {p : Pool} {main : Bool} {Ok : Event → Prop} {K : Goroutine → Prop}
theorem asks_pure' {v v' : Value} (e : v' = v) : p.Asks Ok (pure (.value v')) (some v) := by
  subst e
  exact fun w hw => ⟨w.drawn, rfl, by intro e he; simp at he⟩
theorem spawns_of {r : Nat} {x : FrS} {n : Nat} (hP : p.P = Try.prog) (h : okx Try.prog n x = true) (hk : p.Spawns r (Gx (nx Try.prog n x))) : p.Spawns r (Gx x) := by
  cases r with
  | zero => exact wlk_nxP (main := true) hP h hk
  | succ r => exact wlk_nxP (main := true) hP h hk
end
namespace E9
section
variable {p : Pool} {b : WB} {oa : Option Addr} {cap : Nat} {pad : Nat → Addr} {el : Nat → Value} {cs : List Frame}
/-- At Wait's load, whatever was left before. -/
def Anch (p : Pool) (b : WB) (cs : List Frame) (g : Goroutine) : Prop := ∃ f k f', g = Gx (w2 f p.wg (cW b p.n k f') cs)
def Exit (p : Pool) (b : WB) (cs : List Frame) (g : Goroutine) : Prop := ∃ y m k f', g = Gx y ∧ okx Try.prog m y = true ∧ nx Try.prog m y = ((cW b p.n k f').finish tup0, cs)
theorem anch_ (hP : p.P = Try.prog) (hn : p.n ≤ 16) (hA : p.Anch = Anch p b cs) (hE : p.Exit = Exit p b cs) : ∀ g, p.Anch g → g.status = .running ∧ ∃ m, p.M0 p.AtW1 m g := by
  intro g hg
  rw [hA] at hg
  obtain ⟨f, k, f', rfl⟩ := hg
  exact ⟨rfl, wlk_stop (main := true) (wAnch hP hn (fun y n h1 h2 => by rw [hE]; exact ⟨y, n, k, f', rfl, h1, h2⟩) (fun f => by rw [hA]; exact ⟨f, k, f', rfl⟩) f)⟩
theorem spawn_at (hP : p.P = Try.prog) (hch : ∃ m, p.WkR p.PA m (Gx (W16.ch b))) {Next : Goroutine → Prop} {n : Nat} {k : Int} {f : Nat → Value} (hN : Next (Gx ((gA b n k f cs).1.finish undef, (gA b n k f cs).2))) : p.AtGoS Next (Gx (gA b n k f cs)) := by
  refine ⟨rfl, _, Gx (W16.ch b), fun w _ => ?_, rfl, hch, hN⟩
  have hi := g_hd b n k f cs
  have ha := g_ask b n k f cs
  cases ho : hd (gA b n k f cs).1 with
  | none => rw [ho] at hi; cases hi
  | some o =>
    unfold asked ask at ha
    rw [ho] at ha
    simp only [Option.map_some, Option.some.injEq] at ha
    rw [hP]
    exact spawn_step ho (d := W16.dfr b) rfl (by rw [ha]; rfl) (by rw [ha]; simp [Tw.seen_nil])
theorem spawns (hP : p.P = Try.prog) (hn : p.n ≤ 16) (hwg : b.wg = p.wg) (hA : p.Anch = Anch p b cs) (hch : ∃ m, p.WkR p.PA m (Gx (W16.ch b))) : ∀ r, r ≤ p.n → ∀ f, p.Spawns r (Gx (Ls b p.n ((p.n - r : Nat) : Int) f cs))
  | 0, _, f => by
    refine wlk_put (main := true) (L_ask b p.n _ f cs) (some (.bool false)) (asks_pure' (by simp)) ?_
    obtain ⟨h1, h2⟩ := L_false b p.n ((p.n - 0 : Nat) : Int) f cs
    refine wlk_nxP (main := true) hP h1 ?_
    rw [show valOf (some (Value.bool false)) = .bool false from rfl, h2, hwg]
    exact wWait hP (fun f => by rw [hA]; exact ⟨f, _, _, rfl⟩)
  | r + 1, hr, f => by
    refine wlk_put (main := true) (L_ask b p.n _ f cs) (some (.bool true)) (asks_pure' (by simp; omega)) ?_
    obtain ⟨h1, h2⟩ := L_true b p.n ((p.n - (r + 1) : Nat) : Int) f cs
    refine wlk_nxP (main := true) hP h1 ?_
    rw [show valOf (some (Value.bool true)) = .bool true from rfl, h2, hwg]
    generalize (fun i => ((nx Try.prog 9 (put (Ls b p.n ((p.n - (r + 1) : Nat) : Int) f cs) (.bool true))).2.headD default).tmps.getD i undef) = f1
    refine wAdd hP hn (wlk_nxP (main := true) hP (g_ok b p.n _ f1 cs) (wlk_stop (main := true) (spawn_at hP hch ?_)))
    obtain ⟨h3, h4⟩ := g_to b p.n ((p.n - (r + 1) : Nat) : Int) f1 cs
    refine spawns_of hP h3 ?_
    rw [h4, wrap_i64 (by omega), show (((p.n - (r + 1) : Nat) : Int) + 1) = ((p.n - r : Nat) : Int) by omega]
    exact spawns hP hn hwg hA hch r (by omega) _
end
end E9
end Go.Po
