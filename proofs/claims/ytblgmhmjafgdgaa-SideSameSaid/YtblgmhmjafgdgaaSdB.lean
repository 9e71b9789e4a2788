/- Lone runs carried over to company, parts 14 to 30: each borne operation; a goroutine's step; a contract as a tree of steps. -/
import Derived.Test.YtblgmhmjafgdgaaSdA
import Derived.Conc.Own5
set_option linter.unusedVariables false
set_option linter.unusedSimpArgs false
set_option linter.unusedSectionVars false
/- Lone runs carried over to company, part 14: calls. -/
namespace Go.Tw
open Go
variable [FnSet]
section
variable {P : Program} {B : Nat} {ρ : Ren} {n : Nat}
/-- What an operation comes to. -/
inductive NR (ρ : Ren) (n : Nat) : Next → Next → Prop
  | value {v v' : Value} : VR ρ n v v' → NR ρ n (.value v) (.value v')
  | skip : NR ρ n .skip .skip
  | enter (f : Nat) {xs ys : Array Value} : FnSet.ok f → AR ρ n xs ys → NR ρ n (.enter f xs) (.enter f ys)
/-- The functions that may be called have bodies. -/
def FnOk (P : Program) : Prop := ∀ f, FnSet.ok f → ∃ fn, P.funcs[f]? = some fn ∧ fn.body.isNone = false ∧ (fn.name == "runtime.NumGoroutine") = false
theorem rel_callFunc (hF : FnOk P) {f : Nat} (hf : FnSet.ok f) {xs ys : Array Value} (h : AR ρ n xs ys) : Rel P B NR ρ n (callFunc f xs) (callFunc f ys) := by
  unfold callFunc
  refine rel_bind rel_program fun ρ1 n1 p p' e ⟨h1, h2⟩ => ?_
  subst h1; subst h2
  obtain ⟨fn, h1, h2, h3⟩ := hF f hf
  rw [h1]
  simp only [h2, h3, Bool.false_eq_true, if_false]
  exact rel_pure (.enter f hf (h.ex e))
/-- A call of a function value. -/
theorem rel_callValue (hF : FnOk P) {v v' : Value} (hv : VR ρ n v v') {xs ys : Array Value} (h : AR ρ n xs ys) :
    Rel P B NR ρ n (Deferred.ofValue v xs >>= fun d => invoke d.target d.args) (Deferred.ofValue v' ys >>= fun d => invoke d.target d.args) := by
  cases hv with
  | fn f a b a' b' h0 h1 h2 h3 h4 =>
    show Rel P B NR ρ n (callFunc f (a ++ xs ++ b)) (callFunc f (a' ++ ys ++ b'))
    exact rel_callFunc hF h0 ((AR.append ⟨h1, h3⟩ h).append ⟨h2, h4⟩)
  | fnil => exact No.rel (show No P (runtimePanic .nilDeref) from no_runtimePanic _)
  | _ => exact rel_halt
theorem rel_v {s s' : Sem Value} (h : Rel P B VR ρ n s s') : Rel P B NR ρ n (s >>= fun v => pure (.value v)) (s' >>= fun v => pure (.value v)) :=
  rel_bind h fun _ _ _ _ _ hv => rel_pure (.value hv)
theorem rel_u {s s' : Sem Unit} (h : Rel P B AU ρ n s s') : Rel P B NR ρ n (s >>= fun _ => pure .skip) (s' >>= fun _ => pure .skip) :=
  rel_bind h fun _ _ _ _ _ _ => rel_pure .skip
end
end Go.Tw
/- Lone runs carried over to company, part 15: floats, strings, the greater and the lesser of two; addresses in the place of integers; all operators. -/
namespace Go.Tw
open Go
variable [FnSet]
section
variable {P : Program} {B : Nat} {ρ : Ren} {n : Nat}

theorem rel_stringOp (op : BinOp) (a b : ByteArray) : Rel P B VR ρ n (Op.stringOp op a b) (Op.stringOp op a b) := by
  unfold Op.stringOp
  cases op <;> simp only <;> first | exact rel_pure (.bool _) | exact rel_halt | (split <;> first | exact rel_pure (.str _) | exact rel_halt)
theorem rel_floatCmp (op : BinOp) (k : FloatKind) (a b : Nat) : Rel P B VR ρ n (Op.floatCmp op k a b) (Op.floatCmp op k a b) := by
  unfold Op.floatCmp
  cases op <;> simp only <;> first | exact rel_pure (.bool _) | exact rel_halt
theorem rel_floatArith (op : BinOp) (k : FloatKind) (a b : Nat) : Rel P B VR ρ n (Op.floatArith op k a b) (Op.floatArith op k a b) := by
  have fin : ∀ (r : Option Nat) {ρ n}, Rel P B VR ρ n (match r with | some r => (pure (.float k r) : Sem Value) | none => do pure (.float k (← choose (.nanBits k a b)))) (match r with | some r => pure (.float k r) | none => do pure (.float k (← choose (.nanBits k a b)))) := by
    intro r ρ n
    cases r with
    | some r => exact rel_pure (.float _ _)
    | none => exact rel_bind (rel_choose _) fun _ _ x y _ h => by subst h; exact rel_pure (.float _ _)
  unfold Op.floatArith
  cases op <;> simp only <;> first | exact No.rel (no_halt _) | (refine rel_bind (rel_pure (A := AE _) rfl) fun _ _ x y _ h => ?_; subst h; exact fin _)

theorem rel_nan (q : Question) (k : FloatKind) : Rel P B VR ρ n (do pure (Value.float k (← choose q))) (do pure (Value.float k (← choose q))) :=
  rel_bind (rel_choose q) fun _ _ x y _ h => by subst h; exact rel_pure (.float _ _)
theorem rel_max2' {x x' y y' : Value} (hx : VR ρ n x x') (hy : VR ρ n y y') : Rel P B VR ρ n (Builtin.max2 x y) (Builtin.max2 x' y') := by
  cases hx <;> cases hy <;> first | exact rel_pure (.int _ _) | exact rel_halt | skip
  · rename_i k a k' b
    have : ∀ o : Option Ordering, Rel P B VR ρ n (match o with | none => do pure (Value.float k (← choose (.nanMinMax k true a b))) | some .lt => pure (Value.float k b) | some .gt => pure (Value.float k a) | some .eq => pure (Value.float k (if (k.decode a).neg then b else a)))
        (match o with | none => do pure (Value.float k (← choose (.nanMinMax k true a b))) | some .lt => pure (Value.float k b) | some .gt => pure (Value.float k a) | some .eq => pure (Value.float k (if (k.decode a).neg then b else a))) := by
      intro o
      rcases o with _ | _ | _ | _
      · exact rel_nan _ _
      all_goals exact rel_pure (VR.float _ _)
    exact this (k.format.order a b)
  · rename_i a b
    show Rel P B VR ρ n (do pure (.string (if ← asBool (← Op.stringOp .geq a b) then a else b))) (do pure (.string (if ← asBool (← Op.stringOp .geq a b) then a else b)))
    refine rel_bind (rel_stringOp _ _ _) fun _ _ u v _ h => ?_
    refine rel_bind (rel_asBool h) fun _ _ u v _ h => ?_
    subst h
    exact rel_pure (.str _)
theorem rel_min2' {x x' y y' : Value} (hx : VR ρ n x x') (hy : VR ρ n y y') : Rel P B VR ρ n (Builtin.min2 x y) (Builtin.min2 x' y') := by
  cases hx <;> cases hy <;> first | exact rel_pure (.int _ _) | exact rel_halt | skip
  · rename_i k a k' b
    have : ∀ o : Option Ordering, Rel P B VR ρ n (match o with | none => do pure (Value.float k (← choose (.nanMinMax k false a b))) | some .lt => pure (Value.float k a) | some .gt => pure (Value.float k b) | some .eq => pure (Value.float k (if (k.decode a).neg then a else b)))
        (match o with | none => do pure (Value.float k (← choose (.nanMinMax k false a b))) | some .lt => pure (Value.float k a) | some .gt => pure (Value.float k b) | some .eq => pure (Value.float k (if (k.decode a).neg then a else b))) := by
      intro o
      rcases o with _ | _ | _ | _
      · exact rel_nan _ _
      all_goals exact rel_pure (VR.float _ _)
    exact this (k.format.order a b)
  · rename_i a b
    show Rel P B VR ρ n (do pure (.string (if ← asBool (← Op.stringOp .leq a b) then a else b))) (do pure (.string (if ← asBool (← Op.stringOp .leq a b) then a else b)))
    refine rel_bind (rel_stringOp _ _ _) fun _ _ u v _ h => ?_
    refine rel_bind (rel_asBool h) fun _ _ u v _ h => ?_
    subst h
    exact rel_pure (.str _)
theorem rel_foldM (f : Value → Value → Sem Value) (hf : ∀ {ρ n x x' y y'}, VR ρ n x x' → VR ρ n y y' → Rel P B VR ρ n (f x y) (f x' y')) : ∀ {l l' : List Value} {ρ : Ren} {n : Nat} {x x' : Value}, LR ρ n l l' → VR ρ n x x' → Rel P B VR ρ n (l.foldlM f x) (l'.foldlM f x')
  | [], l', ρ, n, x, x', h, hx => by cases h; exact rel_pure hx
  | v :: l, l', ρ, n, x, x', h, hx => by
    cases h with
    | @cons _ v' _ l' hv hl =>
      simp only [List.foldlM_cons]
      exact rel_bind (hf hx hv) fun ρ' n' a b e h => rel_foldM f hf (hl.ex e) h
theorem rel_max (ts : Array TypeId) (t : TypeId) {xs ys : Array Value} (h : AR ρ n xs ys) : Rel P B VR ρ n (Builtin.max_ ts t xs) (Builtin.max_ ts t ys) := by
  have hl := h.list
  unfold Builtin.max_
  generalize xs.toList = l at hl
  generalize ys.toList = l' at hl
  cases hl with
  | nil => exact rel_halt
  | cons h1 h2 => exact rel_foldM _ (fun a b => rel_max2' a b) h2 h1
theorem rel_min (ts : Array TypeId) (t : TypeId) {xs ys : Array Value} (h : AR ρ n xs ys) : Rel P B VR ρ n (Builtin.min_ ts t xs) (Builtin.min_ ts t ys) := by
  have hl := h.list
  unfold Builtin.min_
  generalize xs.toList = l at hl
  generalize ys.toList = l' at hl
  cases hl with
  | nil => exact rel_halt
  | cons h1 h2 => exact rel_foldM _ (fun a b => rel_min2' a b) h2 h1

/-! ### Addresses in the place of integers -/
theorem rel_viewAt {r : Nat} (hi : In n r) : Rel P B (fun _ _ a b => a = none ∧ b = none) ρ n (viewAt r) (viewAt (ρ r)) := by
  unfold viewAt
  refine rel_bind (rel_shape hi) fun ρ1 n1 a b e1 h1 => ?_
  subst h1
  rw [← e1.eq r hi.lt]
  cases b with
  | some x => exact rel_pure ⟨rfl, rfl⟩
  | none =>
    refine rel_bind (rel_getObj (hi.up e1.le)) fun _ _ o o' _ ⟨a, l, h1, h2, _⟩ => ?_
    subst h1; subst h2
    exact rel_pure ⟨rfl, rfl⟩
theorem rel_noView {a : Addr} (hi : In n a.block) : Rel P B AU ρ n (noView a) (noView (ra ρ a)) := by
  unfold noView
  refine rel_bind (rel_viewAt hi) fun _ _ u v _ ⟨h1, h2⟩ => ?_
  subst h1; subst h2
  exact rel_pure trivial
/-- A pair of an address and a mark. -/
def AP : Ren → Nat → Addr × Bool → Addr × Bool → Prop := fun ρ n x y => y = (ra ρ x.1, x.2) ∧ In n x.1.block
theorem rel_behind {a : Addr} (hi : In n a.block) : Rel P B AP ρ n (behindNumber a) (behindNumber (ra ρ a)) := by
  unfold behindNumber
  have : Rel P B (fun ρ n x y => (x = none ∧ y = none) ∨ ∃ x' y', x = some x' ∧ y = some y' ∧ AP ρ n x' y') ρ n (numberAt a.block) (numberAt (ra ρ a).block) := by
    unfold numberAt
    refine rel_bind (rel_shape hi) fun ρ1 n1 u v e1 h1 => ?_
    subst h1
    have hb : (ra ρ a).block = ρ1 a.block := (e1.eq _ hi.lt).symm
    rw [hb]
    cases v with
    | some x => exact rel_pure (.inl ⟨rfl, rfl⟩)
    | none =>
      refine rel_bind (rel_getObj (hi.up e1.le)) fun _ _ o o' _ ⟨a, l, h1, h2, h3⟩ => ?_
      subst h1; subst h2
      exact rel_pure (.inr ⟨_, _, rfl, rfl, rfl, h3⟩)
  refine rel_bind this fun ρ2 n2 u v e h => ?_
  rcases h with ⟨h1, h2⟩ | ⟨x, y, h1, h2, h3⟩
  · subst h1; subst h2
    exact rel_pure ⟨by rw [← e.ra hi]; rfl, hi.up e.le⟩
  · subst h1; subst h2
    exact rel_pure h3
def APt : Ren → Nat → Value → Value → Prop := fun ρ n p p' => ∃ b, p = .pointer (some b) ∧ p' = .pointer (some (ra ρ b)) ∧ In n b.block
theorem rel_unsafeAdd (t : TypeId) {a : Addr} (hi : In n a.block) {y y' : Value} (hy : VR ρ n y y') : Rel P B APt ρ n (Builtin.unsafeAdd_ #[] t #[.pointer (some a), y]) (Builtin.unsafeAdd_ #[] t #[.pointer (some (ra ρ a)), y']) := by
  show Rel P B APt ρ n (do
      let n ← asInt y
      if n = 0 then
        if (← viewAt a.block).isSome then unsupported (.unsafePointer "Add: at a place where no cell lies")
        return .pointer (some a)
      if n < 0 then unsupported (.unsafePointer "Add: a move by a count below zero")
      let some (e, cells) ← shape a.block | unsupported (.unsafePointer "Add")
      let p ← program
      match cellAtBytes p p.depth e (cells / p.cellsOf e) a.off n with
      | some off => pure (.pointer (some { a with off }))
      | none => unsupported (.unsafePointer "Add")) (do
      let n ← asInt y'
      if n = 0 then
        if (← viewAt (ra ρ a).block).isSome then unsupported (.unsafePointer "Add: at a place where no cell lies")
        return .pointer (some (ra ρ a))
      if n < 0 then unsupported (.unsafePointer "Add: a move by a count below zero")
      let some (e, cells) ← shape (ra ρ a).block | unsupported (.unsafePointer "Add")
      let p ← program
      match cellAtBytes p p.depth e (cells / p.cellsOf e) (ra ρ a).off n with
      | some off => pure (.pointer (some { (ra ρ a) with off }))
      | none => unsupported (.unsafePointer "Add"))
  refine rel_bind (rel_asInt hy) fun ρ1 n1 i i' e1 h => ?_
  subst h
  rw [← e1.ra hi]
  replace hi := hi.up e1.le
  by_cases h0 : i' = 0
  · simp only [h0, if_true]
    refine rel_bind (rel_viewAt hi) fun ρ2 n2 u v e2 ⟨h1, h2⟩ => ?_
    subst h1; subst h2
    rw [← e2.ra hi]
    exact rel_pure ⟨a, rfl, rfl, hi.up e2.le⟩
  · simp only [h0, if_false]
    by_cases h1 : i' < 0
    · simp only [h1, if_true]; exact No.rel (no_first (no_halt _))
    · simp only [h1, if_false]
      refine rel_bind (rel_shape hi) fun ρ3 n3 u v e3 h1 => ?_
      subst h1
      rcases v with _ | ⟨el, cells⟩
      · exact rel_halt
      rw [← e3.ra hi]
      replace hi := hi.up e3.le
      refine rel_bind rel_program fun ρ4 n4 p p' e4 ⟨h1, h2⟩ => ?_
      subst h1; subst h2
      rw [← e4.ra hi]
      replace hi := hi.up e4.le
      have h : (ra ρ4 a).off = a.off := rfl
      rw [h]
      cases cellAtBytes p' p'.depth el (cells / p'.cellsOf el) a.off i' with
      | none => exact rel_halt
      | some off => exact rel_pure ⟨{ a with off }, rfl, rfl, hi⟩
end
end Go.Tw
/- Lone runs carried over to company, part 16: operators at integers' types, whatever stands in the operands. -/
namespace Go.Tw
open Go
variable [FnSet]
section
variable {P : Program} {B : Nat} {ρ : Ren} {n : Nat}

theorem no_underlying {t : TypeId} {d : TypeDesc} (h : P.underlying t = some d) {α : Type} {f : TypeDesc → Sem α} (hf : No P (f d)) : No P (underlying t >>= f) := by
  intro w a w' e
  rw [Sem.run_bind] at e
  have : (underlying t).run P w = .ok d w := by unfold underlying; simp [program, bind, Sem.bind, Sem.run, h, pure]
  rw [this] at e
  exact hf _ _ _ e
theorem no_typeInfo {t : TypeId} {α : Type} {f : TypeInfo → Sem α} (hf : ∀ i, P.info? t = some i → No P (f i)) : No P (typeInfo t >>= f) := by
  intro w a w' e
  rw [Sem.run_bind] at e
  unfold typeInfo at e
  simp only [program, bind, Sem.bind, Sem.run, pure] at e
  cases h : P.info? t with
  | none => rw [h] at e; simp [stuck, Sem.run] at e
  | some i => rw [h] at e; exact hf i h _ _ _ e
theorem rel_byteOf {a : Addr} (hi : In n a.block) : Rel P B (AE _) ρ n (byteOf a) (byteOf (ra ρ a)) := by
  unfold byteOf
  have hs : (ra ρ a).spot = a.spot := rfl
  rw [hs]
  cases a.spot with
  | some s => exact rel_pure rfl
  | none =>
    simp only
    refine rel_bind rel_program fun ρ1 n1 p p' e1 ⟨h1, h2⟩ => ?_
    subst h1; subst h2
    rw [← e1.ra hi]
    replace hi := hi.up e1.le
    refine rel_bind (rel_noView hi) fun ρ2 n2 _ _ e2 _ => ?_
    rw [← e2.ra hi]
    replace hi := hi.up e2.le
    refine rel_bind (rel_shape hi) fun ρ3 n3 u v e3 h1 => ?_
    subst h1
    rcases v with _ | ⟨el, cells⟩
    · exact rel_halt
    have ho : (ra ρ2 a).off = a.off := rfl
    simp only [ho]
    split
    · exact rel_pure rfl
    · cases byteOfCell p' p'.depth el (a.off % p'.cellsOf el) with
      | none => exact rel_halt
      | some b => exact rel_pure rfl
theorem rel_addrMod (k : IntKind) {a : Addr} (hi : In n a.block) (m : Int) : Rel P B VR ρ n (Op.addrMod k a m) (Op.addrMod k (ra ρ a) m) := by
  unfold Op.addrMod
  refine rel_bind (rel_shape hi) fun ρ1 n1 u v e1 h1 => ?_
  subst h1
  rcases v with _ | ⟨el, cells⟩
  · exact rel_halt
  rw [← e1.ra hi]
  replace hi := hi.up e1.le
  refine rel_bind (rel_typeInfo el) fun ρ2 n2 i i' e2 ⟨h1, _⟩ => ?_
  subst h1
  rw [← e2.ra hi]
  replace hi := hi.up e2.le
  simp only []
  split
  · exact No.rel (no_first (no_halt _))
  · refine rel_bind (rel_byteOf hi) fun ρ3 n3 x y e3 h => ?_
    subst h
    exact rel_pure (.int _ _)
theorem rel_movedNumber {t : TypeId} {k : IntKind} (ht : P.underlying t = some (.int k)) {x x' y y' : Value} (hx : VR ρ n x x') (hy : VR ρ n y y') (hp : ∃ o, x = .pointer o) : Rel P B VR ρ n (movedNumber t x y) (movedNumber t x' y') := by
  obtain ⟨o, rfl⟩ := hp
  unfold movedNumber
  refine rel_bind (rel_underlying t) fun ρ1 n1 u u' e1 ⟨h1, h2⟩ => ?_
  subst h1
  rw [ht] at h2; cases h2
  replace hx := hx.ex e1
  replace hy := hy.ex e1
  cases hx with
  | pnil =>
    refine No.rel ?_
    show No P (Builtin.unsafeAdd_ #[] t #[.pointer none, y])
    show No P (asInt y >>= _)
    refine no_bind fun i => ?_
    simp only []
    split
    · exact no_halt _
    · split
      · exact no_first (no_halt _)
      · exact no_halt _
  | ptr a ha =>
    show Rel P B VR ρ1 n1 (behindNumber a >>= fun x => _) (behindNumber (ra ρ1 a) >>= fun x => _)
    refine rel_bind (rel_behind ha) fun ρ2 n2 u v e2 ⟨h1, hi⟩ => ?_
    obtain ⟨a1, lost⟩ := u
    subst h1
    refine rel_bind (rel_unsafeAdd t hi (hy.ex e2)) fun ρ3 n3 p p' e3 ⟨b, h1, h2, hb⟩ => ?_
    subst h1; subst h2
    show Rel P B VR ρ3 n3 (asNumber b lost) (asNumber (ra ρ3 b) lost)
    unfold asNumber
    refine rel_bind (rel_new (.number b lost hb)) fun ρ4 n4 r r' e4 ⟨h1, h2, h3⟩ => ?_
    refine rel_pure ?_
    subst h3
    rw [← h2]
    exact .ptr ⟨r, 0, none⟩ h1

theorem equal_succ (t : TypeId) (x y : Value) : Op.equal t x y = Op.equalIn (9999 + 1) t x y := rfl
theorem rel_equal {t : TypeId} {k : IntKind} (ht : P.underlying t = some (.int k)) (hcc : ∀ i u, P.info? t = some i → i.desc ≠ .named "sync.copyChecker" u) (hG : ∀ b, FnSet.cb b → P.globals.size ≤ b)
    {x x' y y' : Value} (hx : VR ρ n x x') (hy : VR ρ n y y') : Rel P B (AE _) ρ n (Op.equal t x y) (Op.equal t x' y') := by
  cases hx <;> cases hy <;> first
    | exact No.rel (by rw [equal_succ]; unfold Op.equalIn; exact no_underlying ht (no_halt _))
    | skip
  · rename_i k a k' b
    rw [equal_succ]
    unfold Op.equalIn
    refine rel_bind (rel_underlying t) fun ρ1 n1 u u' e1 ⟨h1, h2⟩ => ?_
    subst h1
    rw [ht] at h2; cases h2
    show Rel P B (AE _) ρ1 n1 (if k = k' then pure (a == b) else stuck "==: kinds differ") (if k = k' then pure (a == b) else stuck "==: kinds differ")
    split
    · exact rel_pure rfl
    · exact rel_halt
  · rename_i k1 a b hb
    rw [equal_succ]
    unfold Op.equalIn
    refine rel_bind (rel_underlying t) fun ρ1 n1 u u' e1 ⟨h1, h2⟩ => ?_
    subst h1
    rw [ht] at h2; cases h2
    rcases a with (_ | a) | a
    · exact rel_pure rfl
    all_goals exact rel_halt
  · rename_i a ha k1 b
    rw [equal_succ]
    unfold Op.equalIn
    refine rel_bind (rel_underlying t) fun ρ1 n1 u u' e1 ⟨h1, h2⟩ => ?_
    subst h1
    rw [ht] at h2; cases h2
    rcases b with (_ | b) | b
    · exact rel_pure rfl
    all_goals exact rel_halt
  · rename_i a ha b hb
    rw [equal_succ]
    unfold Op.equalIn
    refine rel_bind (rel_underlying t) fun ρ1 n1 u u' e1 ⟨h1, h2⟩ => ?_
    subst h1
    rw [ht] at h2; cases h2
    rw [← e1.ra ha, ← e1.ra hb]
    refine rel_bind (rel_behind (ha.up e1.le)) fun ρ2 n2 x x' e2 ⟨hx, hxi⟩ => ?_
    subst hx
    rw [← e2.ra (hb.up e1.le)]
    refine rel_bind (rel_behind ((hb.up e1.le).up e2.le)) fun ρ3 n3 y y' e3 ⟨hy, hyi⟩ => ?_
    subst hy
    refine rel_bind rel_program fun ρ4 n4 p p' e4 ⟨h1, h2⟩ => ?_
    subst h1; subst h2
    have g1 : decide (x.1.block < p'.globals.size) = false := by have := hG _ hxi.cb; simp; omega
    refine No.rel ?_
    simp only [g1, Bool.and_false, Bool.false_eq_true, if_false]
    refine no_typeInfo fun i hi => ?_
    have := hcc i
    cases hd : i.desc with
    | named nm u =>
      by_cases hn : nm = "sync.copyChecker"
      · subst hn
        exact absurd hd (hcc i u hi)
      · split
        · rename_i heq
          cases heq
          exact absurd rfl hn
        · exact no_halt _
    | _ => exact no_halt _

/-- The operators that are borne. -/
def opIn : BinOp → Bool
  | .add | .sub | .mul | .and | .or | .xor | .andNot | .shl | .shr | .eql | .neq | .lss | .leq | .gtr | .geq => true
  | _ => false
theorem no_places {a b : Addr} (hG : P.globals.size ≤ a.block) : No P (Op.twoPlaces a b) := by
  intro w v w' e
  unfold Op.twoPlaces at e
  simp only [program, bind, Sem.bind, Sem.run, pure] at e
  have g1 : decide (a.block ≥ P.globals.size) = true := by simp; omega
  simp only [g1, Bool.or_true, if_true] at e
  simp [unsupported, Sem.bind, Sem.run] at e
theorem rel_two {a b : Addr} (ha : In n a.block) (hb : In n b.block) (hG : ∀ b, FnSet.cb b → P.globals.size ≤ b) (f g : Addr → Addr → Sem Value) (hf : ∀ x y, P.globals.size ≤ x.block → No P (f x y)) :
    Rel P B VR ρ n (do f (← behindNumber a).1 (← behindNumber b).1) (do g (← behindNumber (ra ρ a)).1 (← behindNumber (ra ρ b)).1) := by
  refine rel_bind (rel_behind ha) fun ρ2 n2 x x' e2 ⟨hx, hxi⟩ => ?_
  subst hx
  rw [← e2.ra hb]
  refine rel_bind (rel_behind (hb.up e2.le)) fun ρ3 n3 y y' e3 ⟨hy, hyi⟩ => ?_
  subst hy
  exact No.rel (hf _ _ (hG _ hxi.cb))
theorem no_addrSub {k : IntKind} {a b : Addr} (hG : P.globals.size ≤ a.block) : No P (Op.addrSub k a b) := by
  unfold Op.addrSub
  exact no_first (no_places hG)
theorem no_addrCmp {op : BinOp} {a b : Addr} (hG : P.globals.size ≤ a.block) : No P (Op.addrCmp op a b) := by
  unfold Op.addrCmp
  exact no_first (no_places hG)
/-- Poison comes to nothing. -/
theorem no_poisonL {op : BinOp} (hop : opIn op = true) {t : TypeId} {k : IntKind} (ht : P.underlying t = some (.int k)) {y y' : Value} (hy : VR ρ n y y') : No P (binOp op t poison y) := by
  cases hy <;> cases op <;> first
    | exact no_halt _
    | exact no_first (by rw [equal_succ]; unfold Op.equalIn; exact no_underlying ht (no_halt _))
    | (simp [opIn] at hop; done)
theorem no_poisonR {op : BinOp} (hop : opIn op = true) {t : TypeId} {k : IntKind} (ht : P.underlying t = some (.int k)) {y y' : Value} (hy : VR ρ n y y') : No P (binOp op t y poison) := by
  cases hy <;> cases op <;> first
    | exact no_halt _
    | exact no_first (by rw [equal_succ]; unfold Op.equalIn; exact no_underlying ht (no_halt _))
    | (simp [opIn] at hop; done)
/-- Neither an integer, a float, a string nor an address. -/
def dull : Value → Bool
  | .int _ _ | .float _ _ | .string _ | .pointer _ | .chan _ => false
  | _ => true
theorem dull_bin {op : BinOp} (hop : opIn op = true) (h1 : op ≠ .eql) (h2 : op ≠ .neq) (t : TypeId) {x x' : Value} (hx : VR ρ n x x') (hd : dull x = true) {y y' : Value} (hy : VR ρ n y y') (hp : y ≠ poison) : Rel P B VR ρ n (binOp op t x y) (binOp op t x' y') := by
  cases hx <;> first
    | (simp [dull] at hd; done)
    | (cases hy <;> first
        | exact absurd rfl hp
        | (cases op <;> first
            | exact rel_halt
            | exact absurd rfl h1
            | exact absurd rfl h2
            | (simp [opIn] at hop; done)))
theorem dull_bin2 {op : BinOp} (hop : opIn op = true) (h1 : op ≠ .eql) (h2 : op ≠ .neq) (t : TypeId) {x x' : Value} (hx : VR ρ n x x') (hp : x ≠ poison) {y y' : Value} (hy : VR ρ n y y') (hd : dull y = true) : Rel P B VR ρ n (binOp op t x y) (binOp op t x' y') := by
  cases hy <;> first
    | (simp [dull] at hd; done)
    | (cases hx <;> first
        | exact absurd rfl hp
        | (cases op <;> first
            | exact rel_halt
            | exact absurd rfl h1
            | exact absurd rfl h2
            | (simp [opIn] at hop; done)))
end
end Go.Tw
/- Lone runs carried over to company, part 17: operators at integers' types, on. -/
namespace Go.Tw
open Go
variable [FnSet]
section
variable {P : Program} {B : Nat} {ρ : Ren} {n : Nat}

theorem VR.poison_or {x x' : Value} (h : VR ρ n x x') : x = Tw.poison ∨ x ≠ Tw.poison := by
  cases h <;> first | exact .inl rfl | exact .inr (fun e => by cases e)
theorem rel_binFloat {op : BinOp} (hop : opIn op = true) (t : TypeId) (k k' : FloatKind) (a b : Nat) : Rel P B VR ρ n (binOp op t (.float k a) (.float k' b)) (binOp op t (.float k a) (.float k' b)) := by
  by_cases hk : k = k'
  · subst hk
    cases op <;> simp only [binOp, ne_eq, not_true_eq_false, if_false] <;> first
      | exact rel_floatArith _ _ _ _
      | exact rel_floatCmp _ _ _ _
  · cases op <;> simp only [binOp, ne_eq, hk, not_false_eq_true, if_true] <;> exact rel_halt
theorem rel_binStr (op : BinOp) (t : TypeId) (a b : ByteArray) : Rel P B VR ρ n (binOp op t (.string a) (.string b)) (binOp op t (.string a) (.string b)) := by
  have : binOp op t (.string a) (.string b) = Op.stringOp op a b := by cases op <;> rfl
  rw [this]
  exact rel_stringOp _ _ _
theorem rel_mod {a : Addr} (ha : In n a.block) (k : IntKind) (m : Int) : Rel P B VR ρ n (do Op.addrMod k (← behindNumber a).1 m) (do Op.addrMod k (← behindNumber (ra ρ a)).1 m) := by
  refine rel_bind (rel_behind ha) fun ρ2 n2 x x' e2 ⟨hx, hxi⟩ => ?_
  subst hx
  exact rel_addrMod k hxi m
theorem rel_addPI {t : TypeId} {k : IntKind} (ht : P.underlying t = some (.int k)) {x x' y y' : Value} (hx : VR ρ n x x') (hy : VR ρ n y y') (hp : ∃ o, x = .pointer o) (f g : Sem Value) :
    Rel P B VR ρ n (do if (← underlying t) matches .unsafePointer then f else movedNumber t x y) (do if (← underlying t) matches .unsafePointer then g else movedNumber t x' y') := by
  refine rel_bind (rel_underlying t) fun ρ1 n1 u u' e1 ⟨h1, h2⟩ => ?_
  subst h1
  rw [ht] at h2; cases h2
  exact rel_movedNumber ht (hx.ex e1) (hy.ex e1) hp
set_option maxHeartbeats 2000000 in
theorem rel_binPtr {op : BinOp} (hop : opIn op = true) (h1 : op ≠ .eql) (h2 : op ≠ .neq) {t : TypeId} {k : IntKind} (ht : P.underlying t = some (.int k)) (hG : ∀ b, FnSet.cb b → P.globals.size ≤ b)
    {x x' y y' : Value} (hx : VR ρ n x x') (hy : VR ρ n y y') (hp : ∃ o, x = .pointer o) (hy1 : dull y = false) (hy2 : y ≠ poison) : Rel P B VR ρ n (binOp op t x y) (binOp op t x' y') := by
  have hx0 := hx
  have hy0 := hy
  obtain ⟨o, rfl⟩ := hp
  cases hx with
  | pnil =>
    cases hy <;> first
      | (simp [dull] at hy1; done)
      | exact absurd rfl hy2
      | skip
    all_goals cases op <;> first
      | exact rel_halt
      | exact absurd rfl h1
      | exact absurd rfl h2
      | (simp [opIn] at hop; done)
      | exact rel_addPI ht hx0 hy0 ⟨_, rfl⟩ _ _
      | exact rel_movedNumber ht hx0 (VR.int _ _) ⟨_, rfl⟩
  | ptr a ha =>
    cases hy <;> first
      | (simp [dull] at hy1; done)
      | exact absurd rfl hy2
      | skip
    all_goals cases op <;> first
      | exact rel_halt
      | exact absurd rfl h1
      | exact absurd rfl h2
      | (simp [opIn] at hop; done)
      | exact rel_addPI ht hx0 hy0 ⟨_, rfl⟩ _ _
      | exact rel_movedNumber ht hx0 (VR.int _ _) ⟨_, rfl⟩
      | exact rel_mod ha _ _
      | exact rel_two ha ‹_› hG (fun a b => Op.addrSub .u64 a b) (fun a b => Op.addrSub .u64 a b) (fun x y h => no_addrSub h)
      | exact rel_two ha ‹_› hG (fun a b => Op.addrCmp _ a b) (fun a b => Op.addrCmp _ a b) (fun x y h => no_addrCmp h)
set_option maxHeartbeats 2000000 in
theorem rel_binOp {op : BinOp} (hop : opIn op = true) {t : TypeId} {k : IntKind} (ht : P.underlying t = some (.int k)) (hcc : ∀ i u, P.info? t = some i → i.desc ≠ .named "sync.copyChecker" u) (hG : ∀ b, FnSet.cb b → P.globals.size ≤ b)
    {x x' y y' : Value} (hx : VR ρ n x x') (hy : VR ρ n y y') : Rel P B VR ρ n (binOp op t x y) (binOp op t x' y') := by
  rcases hx.poison_or with rfl | hxp
  · exact No.rel (no_poisonL hop ht hy)
  rcases hy.poison_or with rfl | hyp
  · exact No.rel (no_poisonR hop ht hx)
  have hx0 := hx
  have hy0 := hy
  by_cases h1 : op = .eql
  · subst h1
    have eqs : Rel P B VR ρ n (do pure (.bool (← Op.equal t x y))) (do pure (.bool (← Op.equal t x' y'))) :=
      rel_bind (rel_equal ht hcc hG hx hy) fun _ _ a b _ h => by subst h; exact rel_pure (.bool _)
    cases hx <;> cases hy <;> first
      | exact eqs
      | exact absurd rfl hxp
      | exact absurd rfl hyp
      | exact rel_binInt _ _ _ _ _ _
      | exact rel_binFloat hop _ _ _ _ _
      | exact rel_binStr _ _ _ _
  by_cases h2 : op = .neq
  · subst h2
    have nes : Rel P B VR ρ n (do pure (.bool (!(← Op.equal t x y)))) (do pure (.bool (!(← Op.equal t x' y')))) :=
      rel_bind (rel_equal ht hcc hG hx hy) fun _ _ a b _ h => by subst h; exact rel_pure (.bool _)
    cases hx <;> cases hy <;> first
      | exact nes
      | exact absurd rfl hxp
      | exact absurd rfl hyp
      | exact rel_binInt _ _ _ _ _ _
      | exact rel_binFloat hop _ _ _ _ _
      | exact rel_binStr _ _ _ _
  cases hdx : dull x with
  | true => exact dull_bin hop h1 h2 t hx hdx hy hyp
  | false =>
  cases hdy : dull y with
  | true => exact dull_bin2 hop h1 h2 t hx hxp hy hdy
  | false =>
  by_cases hpx : ∃ o, x = .pointer o
  · exact rel_binPtr hop h1 h2 ht hG hx hy hpx hdy hyp
  cases hx <;> first
    | (simp [dull] at hdx; done)
    | exact absurd rfl hxp
    | exact absurd ⟨_, rfl⟩ hpx
    | skip
  all_goals (cases hy <;> first
    | (simp [dull] at hdy; done)
    | exact absurd rfl hyp
    | exact rel_binInt _ _ _ _ _ _
    | exact rel_binFloat hop _ _ _ _ _
    | exact rel_binStr _ _ _ _
    | (cases op <;> first
      | exact rel_halt
      | exact absurd rfl h1
      | exact absurd rfl h2
      | (simp [opIn] at hop; done)
      | exact rel_movedNumber ht hy0 hx0 ⟨_, rfl⟩
      | exact rel_mod ‹_› _ _))
end
end Go.Tw
/- Lone runs carried over to company, part 18: places of fields, literals of slices, the guard of '=='. -/
namespace Go.Tw
open Go
variable [FnSet]
section
variable {P : Program} {B : Nat} {ρ : Ren} {n : Nat}

theorem guard_pure (op : BinOp) (t : TypeId) (ox oy : Operand) (x y : Value) (h1 : x ≠ .nilIface ∨ y ≠ .nilIface) (h2 : (∀ a, x ≠ .agg a) ∨ (∀ a, y ≠ .agg a)) : eqGuard op t ox oy x y = pure () := by
  have key : (match x, y with
    | .nilIface, .nilIface => (if (ox matches .const _) || (oy matches .const _) then pure () else do
        if ← Op.eqGuardIn Op.maxDepth t x y then unsupported (.noEntry "binop/eql: two nil values of an interface type with methods, neither of them the literal nil") : Sem Unit)
    | .agg _, .agg _ => (do
        if !(← program).eqGuardType (← program).depth t then return
        if ← Op.eqGuardIn Op.maxDepth t x y then unsupported (.noEntry "binop/eql: two nil values of an interface type with methods, in a part of a struct or an array"))
    | _, _ => pure ()) = pure () := by
    split
    · rcases h1 with h | h <;> exact absurd rfl h
    · rcases h2 with h | h <;> exact absurd rfl (h _)
    · rfl
  cases op <;> first | rfl | exact key
theorem rel_guardBin {op : BinOp} (hop : opIn op = true) {t : TypeId} {k : IntKind} (ht : P.underlying t = some (.int k)) (hcc : ∀ i u, P.info? t = some i → i.desc ≠ .named "sync.copyChecker" u) (hG : ∀ b, FnSet.cb b → P.globals.size ≤ b)
    (ox oy : Operand) {x x' y y' : Value} (hx : VR ρ n x x') (hy : VR ρ n y y') : Rel P B VR ρ n (do eqGuard op t ox oy x y; binOp op t x y) (do eqGuard op t ox oy x' y'; binOp op t x' y') := by
  rcases hx.poison_or with rfl | hxp
  · exact No.rel (no_bind fun _ => no_poisonL hop ht hy)
  rcases hy.poison_or with rfl | hyp
  · exact No.rel (no_bind fun _ => no_poisonR hop ht hx)
  by_cases h1 : x = .nilIface ∧ y = .nilIface
  · obtain ⟨rfl, rfl⟩ := h1
    refine No.rel (no_bind fun _ => ?_)
    cases op <;> first
      | exact no_halt _
      | exact no_first (by rw [equal_succ]; unfold Op.equalIn; exact no_underlying ht (no_halt _))
      | (simp [opIn] at hop; done)
  by_cases h2 : (∃ a, x = .agg a) ∧ (∃ a, y = .agg a)
  · obtain ⟨⟨a, rfl⟩, ⟨b, rfl⟩⟩ := h2
    refine No.rel (no_bind fun _ => ?_)
    cases op <;> first
      | exact no_halt _
      | exact no_first (by rw [equal_succ]; unfold Op.equalIn; exact no_underlying ht (no_halt _))
      | (simp [opIn] at hop; done)
  have g1 : x ≠ .nilIface ∨ y ≠ .nilIface := by
    by_cases h : x = .nilIface
    · exact .inr fun e => h1 ⟨h, e⟩
    · exact .inl h
  have g2 : (∀ a, x ≠ .agg a) ∨ (∀ a, y ≠ .agg a) := by
    by_cases h : ∃ a, x = .agg a
    · exact .inr fun a e => h2 ⟨h, a, e⟩
    · exact .inl fun a e => h ⟨a, e⟩
  have e1 : x' = .nilIface → x = .nilIface := by
    intro e; subst e; cases hx <;> first | rfl | exact absurd rfl hxp
  have e2 : y' = .nilIface → y = .nilIface := by
    intro e; subst e; cases hy <;> first | rfl | exact absurd rfl hyp
  have e3 : ∀ a, x' = .agg a → ∃ a, x = .agg a := by
    intro a e; subst e; cases hx <;> first | exact ⟨_, rfl⟩ | exact absurd rfl hxp
  have e4 : ∀ a, y' = .agg a → ∃ a, y = .agg a := by
    intro a e; subst e; cases hy <;> first | exact ⟨_, rfl⟩ | exact absurd rfl hyp
  rw [guard_pure op t ox oy x y g1 g2, guard_pure op t ox oy x' y' (g1.imp (fun h e => h (e1 e)) (fun h e => h (e2 e))) (g2.imp (fun h a e => (e3 a e).elim h) (fun h a e => (e4 a e).elim h))]
  exact rel_binOp hop ht hcc hG hx hy
theorem rel_fieldAt (s : TypeId) {x x' : Value} (h : VR ρ n x x') (f : Nat) (hs : ∀ fs g, P.underlying s = some (.struct fs) → fs[f]? = some g → ∀ i, P.info? g.type = some i → i.size ≠ 0) : Rel P B VR ρ n (Instr.fieldAt s x f) (Instr.fieldAt s x' f) := by
  unfold Instr.fieldAt
  refine rel_bind (rel_underlying s) fun ρ1 n1 d d' e1 ⟨hd, hd2⟩ => ?_
  subst hd
  cases d' with
  | struct fields =>
    simp only
    cases hf : fields[f]? with
    | none => exact rel_halt
    | some g =>
      refine rel_bind (rel_sureAddr (h.ex e1)) fun ρ2 n2 a a' e2 ⟨h1, h2⟩ => ?_
      subst h2
      refine rel_bind (rel_fieldPlace h1 g (hs fields g hd2 hf)) fun ρ3 n3 b b' e3 ⟨h3, h4⟩ => ?_
      subst h4
      exact rel_pure (.ptr b h3)
  | _ => exact rel_halt
theorem rel_buildSlice (t : TypeId) (hz : ∀ e, P.underlying t = some (.slice e) → ZeroAt P e) (len : Nat) {ps ps' : Array (Nat × Value)} (h : PL ρ n ps.toList ps'.toList) : Rel P B VR ρ n (Instr.buildSlice t len ps) (Instr.buildSlice t len ps') := by
  unfold Instr.buildSlice
  refine rel_bind (rel_underlying t) fun ρ1 n1 d d' e1 ⟨hd, hd0⟩ => ?_
  subst hd
  cases d' with
  | slice elem =>
    refine rel_bind (rel_sizeOf elem) fun ρ2 n2 s s' e2 hs => ?_
    subst hs
    simp only []
    split
    · exact No.rel (no_first (no_halt _))
    have hp := (h.ex e1).ex e2
    have fin : ∀ {ρ n} {z z' : Array Value}, PL ρ n ps.toList ps'.toList → AR ρ n z z' → Rel P B VR ρ n
        (match Instr.fill (fun i => some (i * s', s')) ((Array.range (len * s')).map (z[· % z.size]!)) ps.toList with
          | some cells => (do pure (.slice (some (← newRow elem cells)) len len))
          | _ => stuck "buildSlice: a part of the wrong size")
        (match Instr.fill (fun i => some (i * s', s')) ((Array.range (len * s')).map (z'[· % z'.size]!)) ps'.toList with
          | some cells => (do pure (.slice (some (← newRow elem cells)) len len))
          | _ => stuck "buildSlice: a part of the wrong size") := by
      intro ρ n z z' hp hzz
      rcases fill_rel (fun i => some (i * s', s')) hp (hzz.zeros (len * s')) with ⟨h1, h2⟩ | ⟨c, c', h1, h2, h3⟩
      · rw [h1, h2]; exact rel_halt
      · rw [h1, h2]
        refine rel_bind (rel_newRow elem h3) fun ρ4 n4 a a' e4 ⟨h4, h5⟩ => ?_
        subst h5
        exact rel_pure (.sl a _ _ h4)
    split
    · exact fin hp .nil
    · refine rel_bind (rel_zeroValue (hz elem hd0)) fun ρ3 n3 z z' e3 h => ?_
      exact fin (hp.ex e3) (VR.cells h)
  | _ => exact rel_halt
theorem rel_pick {c c' a a' b b' : Value} (hc : VR ρ n c c') (ha : VR ρ n a a') (hb : VR ρ n b b') : Rel P B NR ρ n (do pure (.value (if ← asBool c then a else b))) (do pure (.value (if ← asBool c' then a' else b'))) := by
  refine rel_bind (rel_asBool hc) fun ρ1 n1 x y e1 h => ?_
  subst h
  refine rel_pure (.value ?_)
  split
  · exact ha.ex e1
  · exact hb.ex e1
end
end Go.Tw
/- Lone runs carried over to company, part 19: which operations are borne; each of them, carried out. -/
namespace Go.Tw
open Go

def nbB : Value → Bool
  | .bool _ | .int _ _ | .string _ | .pointer none | .slice none _ _ | .nilFunc | .nilIface => true
  | .tuple xs => xs.isEmpty
  | _ => false
def opd (okB : Nat → Bool) : Operand → Bool
  | .tmp _ => true
  | .const v => nbB v
  | .func f => okB f
  | .global _ => false
def intT (P : Program) (t : TypeId) : Bool :=
  (match P.underlying t with | some (.int _) => true | _ => false) && (match P.info? t with | some i => (match i.desc with | .named nm _ => nm != "sync.copyChecker" | _ => true) | none => true)
def notIntT (P : Program) (t : TypeId) : Bool := match P.underlying t with | some (.int _) => false | _ => true
def lenT (P : Program) (t : TypeId) : Bool := match P.underlying t with | some (.slice _) | some .string => true | _ => false
def fieldT (P : Program) (s : TypeId) (f : Nat) : Bool := match P.underlying s with
  | some (.struct fs) => (match fs[f]? with | some g => (match P.info? g.type with | some i => i.size != 0 | none => true) | none => true)
  | _ => true
def elemT (P : Program) (t : TypeId) : Bool := match P.underlying t with | some (.slice e) => decide (e < P.types.size) | _ => true
def opOk (P : Program) (okB : Nat → Bool) (o : Oper) : Bool := match o.op with
  | .move x | .assign x | .box _ x | .load _ x | .unOp _ _ x | .extract x _ => opd okB x
  | .pick c a b => opd okB c && opd okB a && opd okB b
  | .alloc t => decide (t < P.types.size)
  | .build t ps => decide (t < P.types.size) && ps.all fun p => opd okB p.2
  | .buildSlice t _ ps => elemT P t && ps.all fun p => opd okB p.2
  | .makeSlice t a x => elemT P t && opd okB a && opd okB x
  | .store _ a x | .indexAddr _ a x => opd okB a && opd okB x
  | .binOp op t x y _ => opIn op && intT P t && opd okB x && opd okB y
  | .convert s d x => intT P s && intT P d && opd okB x
  | .makeFunc (.func f) first captured => okB f && first.all (opd okB) && captured.all (opd okB)
  | .fieldAddr s x f => fieldT P s f && opd okB x
  | .call c => c.args.all (opd okB) && (match c.callee with
    | .value f => opd okB f
    | .builtin .len => (match c.argTypes[0]? with | some t => lenT P t | none => true)
    | .builtin .max | .builtin .min => true
    | .builtin .append => (match c.argTypes[0]? with | some t => elemT P t | none => true) && (match c.argTypes[1]? with | some t => notIntT P t | none => true)
    | _ => false)
  | _ => false

variable [FnSet]
section
variable {P : Program} {B : Nat} {ρ : Ren} {n : Nat} {okB : Nat → Bool}
theorem nbB_nb {v : Value} (h : nbB v = true) : NB v := by
  unfold nbB at h
  split at h
  · exact .bool _
  · exact .int _ _
  · exact .str _
  · exact .pnil
  · exact .snil _ _
  · exact .fnil
  · exact .inil
  · rename_i xs
    have : xs = #[] := by simpa using h
    exact .tup _ fun i hi => by subst this; simp at hi
  · cases h
structure Env (P : Program) (okB : Nat → Bool) : Prop where
  fns : ∀ f, okB f = true → FnSet.ok f
  bodies : FnOk P
  zero : ∀ t, t < P.types.size → ZeroAt P t
  glob : ∀ b, FnSet.cb b → P.globals.size ≤ b
theorem intT_iff {t : TypeId} (h : intT P t = true) : (∃ k, P.underlying t = some (.int k)) ∧ ∀ i u, P.info? t = some i → i.desc ≠ .named "sync.copyChecker" u := by
  unfold intT at h
  rw [Bool.and_eq_true] at h
  obtain ⟨h1, h2⟩ := h
  refine ⟨?_, fun i u hi hd => ?_⟩
  · split at h1
    · exact ⟨_, ‹_›⟩
    · cases h1
  · rw [hi] at h2
    simp [hd] at h2
theorem elemT_iff (E : Env P okB) {t : TypeId} (h : elemT P t = true) (e : TypeId) (he : P.underlying t = some (.slice e)) : ZeroAt P e := by
  simp only [elemT, he, decide_eq_true_eq] at h
  exact E.zero e h
theorem all_get {α : Type} {p : α → Bool} {xs : Array α} (h : xs.all p = true) (i : Nat) (hi : i < xs.size) : p xs[i] = true := Array.all_eq_true.1 h i hi
theorem AR.mapE {e e' : Operand → Value} (he : ∀ x, opd okB x = true → VR ρ n (e x) (e' x)) {xs : Array Operand} (h : xs.all (opd okB) = true) : AR ρ n (xs.map e) (xs.map e') :=
  ⟨by simp, fun i h1 h2 => by simp only [Array.getElem_map]; exact he _ (all_get h i (by simpa using h1))⟩
theorem PL.mapE {e e' : Operand → Value} (he : ∀ x, opd okB x = true → VR ρ n (e x) (e' x)) : ∀ {l : List (Nat × Operand)}, (∀ p ∈ l, opd okB p.2 = true) → PL ρ n (l.map fun p => (p.1, e p.2)) (l.map fun p => (p.1, e' p.2))
  | [], _ => .nil
  | p :: l, h => .cons (he _ (h p (by simp))) (PL.mapE he fun q hq => h q (by simp [hq]))
theorem PL.mapA {e e' : Operand → Value} (he : ∀ x, opd okB x = true → VR ρ n (e x) (e' x)) {ps : Array (Nat × Operand)} (h : (ps.all fun p => opd okB p.2) = true) :
    PL ρ n (ps.map fun (i, x) => (i, e x)).toList (ps.map fun (i, x) => (i, e' x)).toList := by
  simp only [Array.toList_map]
  refine PL.mapE he fun p hp => ?_
  rw [Array.all_eq_true_iff_forall_mem] at h
  exact h p (by simpa using hp)

theorem rel_exec (E : Env P okB) {o : Oper} (ho : opOk P okB o = true) {e e' : Operand → Value} (he : ∀ x, opd okB x = true → VR ρ n (e x) (e' x)) : Rel P B NR ρ n (execOp e o) (execOp e' o) := by
  obtain ⟨dst, op, ty, pos, after, guard⟩ := o
  cases op with
  | move x => exact rel_pure (.value (he x ho))
  | assign x => exact rel_pure (.value (he x ho))
  | box t x => exact rel_v (rel_box t (he x ho))
  | load t x => exact rel_v (rel_loadAt t (he x ho))
  | unOp u t x => exact rel_v (rel_unary u (he x ho))
  | extract x i => exact rel_v (rel_extract (he x ho) i)
  | pick c a b =>
    have ho : (opd okB c && opd okB a && opd okB b) = true := ho
    simp only [Bool.and_eq_true] at ho
    exact rel_pick (he c ho.1.1) (he a ho.1.2) (he b ho.2)
  | alloc t => exact rel_v (rel_alloc (E.zero t (of_decide_eq_true ho)))
  | build t ps =>
    have ho : (decide (t < P.types.size) && ps.all fun p => opd okB p.2) = true := ho
    simp only [Bool.and_eq_true, decide_eq_true_eq] at ho
    exact rel_v (rel_build t (E.zero t ho.1) (PL.mapA he ho.2))
  | buildSlice t l ps =>
    have ho : (elemT P t && ps.all fun p => opd okB p.2) = true := ho
    simp only [Bool.and_eq_true] at ho
    exact rel_v (rel_buildSlice t (elemT_iff E ho.1) l (PL.mapA he ho.2))
  | store t a x =>
    have ho : (opd okB a && opd okB x) = true := ho
    simp only [Bool.and_eq_true] at ho
    exact rel_u (rel_storeAt t (he a ho.1) (he x ho.2))
  | makeSlice t a x =>
    have ho : (elemT P t && opd okB a && opd okB x) = true := ho
    simp only [Bool.and_eq_true] at ho
    exact rel_v (rel_makeSlice t (elemT_iff E ho.1.1) (he a ho.1.2) (he x ho.2))
  | indexAddr t a x =>
    have ho : (opd okB a && opd okB x) = true := ho
    simp only [Bool.and_eq_true] at ho
    exact rel_v (rel_indexAt t (he a ho.1) (he x ho.2))
  | binOp op t x y yt =>
    have ho : (opIn op && intT P t && opd okB x && opd okB y) = true := ho
    simp only [Bool.and_eq_true] at ho
    obtain ⟨⟨k, hk⟩, hc⟩ := intT_iff ho.1.1.2
    exact rel_v (rel_guardBin ho.1.1.1 hk hc E.glob x y (he x ho.1.2) (he y ho.2))
  | convert s d x =>
    have ho : (intT P s && intT P d && opd okB x) = true := ho
    simp only [Bool.and_eq_true] at ho
    exact rel_v (rel_convInt s d (he x ho.2) (intT_iff ho.1.2).1 (intT_iff ho.1.1).1)
  | makeFunc fn first captured =>
    cases fn with
    | func f =>
      have ho : (okB f && first.all (opd okB) && captured.all (opd okB)) = true := ho
      simp only [Bool.and_eq_true] at ho
      exact rel_v (rel_makeFunc f (E.fns f ho.1.1) (AR.mapE he ho.1.2) (AR.mapE he ho.2))
    | _ => cases ho
  | fieldAddr s x f =>
    have ho : (fieldT P s f && opd okB x) = true := ho
    simp only [Bool.and_eq_true] at ho
    refine rel_v (rel_fieldAt s (he x ho.2) f fun fs g h1 h2 i h3 => ?_)
    have := ho.1
    simp only [fieldT, h1, h2, h3] at this
    simpa using this
  | call c =>
    obtain ⟨callee, args, ats⟩ := c
    cases callee with
    | value f =>
      have ho : (args.all (opd okB) && opd okB f) = true := ho
      simp only [Bool.and_eq_true] at ho
      exact rel_callValue E.bodies (he f ho.2) (AR.mapE he ho.1)
    | invoke r m =>
      have ho : (args.all (opd okB) && false) = true := ho
      simp at ho
    | builtin b =>
      cases b with
      | len =>
        have ho : (args.all (opd okB) && (match ats[0]? with | some t => lenT P t | none => true)) = true := ho
        simp only [Bool.and_eq_true] at ho
        refine rel_v (rel_len ats ty (fun xT hx => ?_) (AR.mapE he ho.1))
        have h2 := ho.2
        rw [hx] at h2
        simp only [lenT] at h2
        split at h2
        · exact .inl ⟨_, ‹_›⟩
        · exact .inr ‹_›
        · cases h2
      | max =>
        have ho : (args.all (opd okB) && true) = true := ho
        simp only [Bool.and_true] at ho
        exact rel_v (rel_max ats ty (AR.mapE he ho))
      | min =>
        have ho : (args.all (opd okB) && true) = true := ho
        simp only [Bool.and_true] at ho
        exact rel_v (rel_min ats ty (AR.mapE he ho))
      | append =>
        have ho : (args.all (opd okB) && ((match ats[0]? with | some t => elemT P t | none => true) && (match ats[1]? with | some t => notIntT P t | none => true))) = true := ho
        simp only [Bool.and_eq_true] at ho
        refine rel_v (rel_append ats ty (fun dT e hx he => ?_) (fun xT k hx hk => ?_) (AR.mapE he ho.1))
        · have h2 := ho.2.1
          rw [hx] at h2
          exact elemT_iff E h2 e he
        have h2 := ho.2.2
        rw [hx] at h2
        simp only [notIntT, hk] at h2
        cases h2
      | _ =>
        have ho : (args.all (opd okB) && false) = true := ho
        simp at ho
  | _ => cases ho
end
end Go.Tw
/- Lone runs carried over to company, part 20: a goroutine's own step as one program of the model's operations. -/
namespace Go.Tw
open Go Go.Conc

/-- A frame of the plain kind: it runs, or is on its way out; nothing is deferred. -/
structure Pl (f : Frame) : Prop where
  d : f.defers = []
  kind : f.kind = .normal
  round : f.roundOf = none
  mode : f.mode = .run ∨ f.mode = .returning

def gop (P : Program) (fr : Frame) (cs : List Frame) (o : Oper) : Sem (Frame × List Frame) := do
  match ← execOp fr.eval o with
  | .value v => pure (fr.finish v, cs)
  | .skip => pure (fr.finish undef, cs)
  | .enter f args => pure (Frame.enter P f args .normal, fr :: cs)
  | _ => stuck ""

/-- The goroutine's own step. -/
def gsem (P : Program) (fr : Frame) (cs : List Frame) : Sem (Frame × List Frame) :=
  match fr.mode with
  | .run => match fr.todo with
    | [] | .code .ret :: _ => pure ({ fr with mode := .returning }, cs)
    | .code .skip :: k | .inBlock _ :: k => pure ({ fr with todo := k }, cs)
    | .code (.seq a b) :: k => pure ({ fr with todo := .code a :: .code b :: k }, cs)
    | .code (.cond c thn els) :: k => match fr.eval c with
      | .bool b => pure ({ fr with todo := .code (if b then thn else els) :: k }, cs)
      | _ => stuck ""
    | .code (.block id body) :: k => pure ({ fr with todo := .code body :: .inBlock id :: k }, cs)
    | .code (.loop body) :: k | .inLoop body :: k => pure ({ fr with todo := .code body :: .inLoop body :: k }, cs)
    | .code (.exit id) :: k => match exitTo id k with
      | some k' => pure ({ fr with todo := k' }, cs)
      | none => stuck ""
    | .code (.region id ops draw) :: k =>
      if !draw then pure ({ fr with todo := .inRegion ops (List.range ops.size) :: k }, cs)
      else do
        let t ← choose (.order fr.fn id)
        pure ({ fr with todo := .inRegion ops (Region.schedule (P.follows .mixedOrders) ops t) :: k }, cs)
    | .inRegion _ [] :: k => pure ({ fr with todo := k }, cs)
    | .inRegion ops (i :: rest) :: _ =>
      if ((ops[i]?).map (Region.wanted · (yielded ops fr.tmps))).getD false then match ops[i]? with
        | some o => gop P fr cs o
        | none => stuck ""
      else pure (fr.finish undef, cs)
    | _ => stuck ""
  | .returning => match cs with
    | c :: rest => match P.funcs[fr.fn]? with
      | none => stuck ""
      | some fn => do
        let v ← results fn fr.tmps
        pure (c.finish v, rest)
    | [] => stuck ""
  | _ => stuck ""

theorem run_pure_ok {α : Type} {P : Program} {a b : α} {w w' : World} (h : (pure a : Sem α).run P w = .ok b w') : b = a ∧ w' = w := by
  have : Result.ok a w = Result.ok b w' := h
  cases this; exact ⟨rfl, rfl⟩
theorem run_stuck_no {α : Type} {P : Program} {s : String} {b : α} {w w' : World} (h : (stuck s : Sem α).run P w = .ok b w') : False := by
  simp [stuck, Sem.run] at h

section
variable {P : Program} {main : Bool} {fr fr' : Frame} {cs cs' : List Frame} {w w' : World}
theorem Pl.at_ (hp : Pl fr) (hm : fr.mode = .run) : fr = (base fr.fn).at ⟨fr.tmps, []⟩ fr.todo := by
  obtain ⟨fn, tmps, todo, defers, mode, kind, roundOf⟩ := fr
  obtain ⟨h1, h2, h3, h4⟩ := hp
  simp only at h1 h2 h3 h4 hm
  subst h1; subst h2; subst h3; subst hm
  rfl
theorem gop_inv {o : Oper} (h : (gop P fr cs o).run P w = .ok (fr', cs') w') : (∃ v, (execOp fr.eval o).run P w = .ok (.value v) w' ∧ fr' = fr.finish v ∧ cs' = cs) ∨ ((execOp fr.eval o).run P w = .ok .skip w' ∧ fr' = fr.finish undef ∧ cs' = cs) ∨
    ∃ f args, (execOp fr.eval o).run P w = .ok (.enter f args) w' ∧ fr' = Frame.enter P f args .normal ∧ cs' = fr :: cs := by
  unfold gop at h
  rw [Sem.run_bind] at h
  cases h1 : (execOp fr.eval o).run P w with
  | halt e w1 => rw [h1] at h; cases h
  | ok nx w1 =>
    rw [h1] at h
    simp only [Result.andThen_ok] at h
    cases nx <;> first
      | (exact (run_stuck_no h).elim)
      | skip
    · rename_i v
      obtain ⟨h2, h3⟩ := run_pure_ok h
      cases h2
      exact .inl ⟨v, by rw [h3], rfl, rfl⟩
    · obtain ⟨h2, h3⟩ := run_pure_ok h
      cases h2
      exact .inr (.inl ⟨by rw [h3], rfl, rfl⟩)
    · rename_i f args
      obtain ⟨h2, h3⟩ := run_pure_ok h
      cases h2
      exact .inr (.inr ⟨f, args, by rw [h3], rfl, rfl⟩)
theorem gop_events {o : Oper} (h : (gop P fr cs o).run P w = .ok (fr', cs') w') : (gop P fr cs o).events P w #[] = (execOp fr.eval o).events P w #[] := by
  have hi := gop_inv h
  unfold gop
  rw [Sem.events_bind]
  rcases hi with ⟨v, h1, _⟩ | ⟨h1, _⟩ | ⟨f, args, h1, _⟩ <;> (rw [h1, Result.evThen_ok, Sem.events_acc]; simp)
theorem gop_step (hp : Pl fr) {ops : Array Oper} {i : Nat} {rest : List Nat} {k : List Item} (ht : fr.todo = .inRegion ops (i :: rest) :: k) (hm : fr.mode = .run) {o : Oper} (ho : ops[i]? = some o) (hw : Region.wanted o (yielded ops fr.tmps) = true)
    (h : (gop P fr cs o).run P w = .ok (fr', cs') w') : stepG P main (G fr cs) w = .go (G fr' cs') w' (seen P fr.fn ((gop P fr cs o).events P w #[])) := by
  rw [gop_events h]
  have hi := gop_inv h
  have hf := hp.at_ hm
  rw [ht] at hf
  have he : fr.eval = (⟨fr.tmps, []⟩ : Act).eval := by rw [hf]; exact Frame.eval_at' _ _ _
  have hfin : ∀ v, fr.finish v = (base fr.fn).at ((⟨fr.tmps, []⟩ : Act).put o.dst v) (.inRegion ops rest :: k) := by
    intro v
    rw [hf, Frame.finish_at, ho]; rfl
  rw [he] at hi ⊢
  have hk : (base fr.fn).kind ≠ .early := by simp [base]
  rcases hi with ⟨v, h1, h2, h3⟩ | ⟨h1, h2, h3⟩ | ⟨f, args, h1, h2, h3⟩
  · subst h2; subst h3
    rw [hfin]
    have := stepG_value (P := P) (main := main) (b := base fr.fn) (a := ⟨fr.tmps, []⟩) (rest := rest) (k := k) (cs := cs') (w := w) ho hw hk h1
    rw [← hf] at this
    exact this
  · subst h2; subst h3
    rw [hfin]
    have := stepG_none (P := P) (main := main) (b := base fr.fn) (a := ⟨fr.tmps, []⟩) (rest := rest) (k := k) (cs := cs') (w := w) ho hw hk h1
    rw [← hf] at this
    exact this
  · subst h2; subst h3
    have := stepG_enter (P := P) (main := main) (b := base fr.fn) (a := ⟨fr.tmps, []⟩) (rest := rest) (k := k) (cs := cs) (w := w) ho hw hk h1
    rw [← hf] at this
    exact this
theorem seen_nil (P : Program) (f : FuncId) : seen P f #[] = #[] := by simp [seen]
theorem pure_events {α : Type} (P : Program) (a : α) (w : World) : (pure a : Sem α).events P w #[] = #[] := rfl
theorem gsem_step (hp : Pl fr) (h : (gsem P fr cs).run P w = .ok (fr', cs') w') : stepG P main (G fr cs) w = .go (G fr' cs') w' (seen P fr.fn ((gsem P fr cs).events P w #[])) := by
  rcases hp.mode with hm | hm
  · have hf := hp.at_ hm
    unfold gsem at h ⊢
    simp only [hm] at h ⊢
    have fin : ∀ {f : Frame} {s : Sem (Frame × List Frame)}, s = pure (f, cs) → s.run P w = .ok (fr', cs') w' → stepG P main (G fr cs) w = .go (G f cs) w → stepG P main (G fr cs) w = .go (G fr' cs') w' (seen P fr.fn (s.events P w #[])) := by
      intro f s hs h1 h2
      subst hs
      obtain ⟨e1, e2⟩ := run_pure_ok h1
      cases e1
      rw [pure_events, seen_nil, e2]
      exact h2
    split at h
    · rename_i ht
      exact fin rfl h (by rw [hf, ht]; exact stepG_end)
    · rename_i k ht
      exact fin rfl h (by rw [hf, ht]; simp [G, stepG, stepG.exec, Frame.at])
    · rename_i k ht
      exact fin rfl h (by rw [hf, ht]; exact stepG_skip)
    · rename_i id k ht
      exact fin rfl h (by rw [hf, ht]; exact stepG_inBlock)
    · rename_i a b k ht
      exact fin rfl h (by rw [hf, ht]; exact stepG_seq)
    · rename_i c thn els k ht
      have he : fr.eval c = (⟨fr.tmps, []⟩ : Act).eval c := by rw [hf]; exact Frame.eval_at _ _ _ _
      split at h
      · rename_i b hb
        exact fin rfl h (by rw [hf, ht]; exact stepG_cond (by rw [← he]; exact hb))
      · exact (run_stuck_no h).elim
    · rename_i id body k ht
      exact fin rfl h (by rw [hf, ht]; exact stepG_block)
    · rename_i body k ht
      exact fin rfl h (by rw [hf, ht]; exact stepG_loop)
    · rename_i body k ht
      exact fin rfl h (by rw [hf, ht]; exact stepG_inLoop)
    · rename_i id k ht
      split at h
      · rename_i k' hk
        exact fin rfl h (by rw [hf, ht]; exact stepG_exit hk)
      · exact (run_stuck_no h).elim
    · rename_i id ops draw k ht
      cases draw with
      | false => exact fin rfl h (by rw [hf, ht]; exact stepG_region)
      | true =>
        simp only [Bool.not_true, Bool.false_eq_true, if_false] at h ⊢
        rw [Sem.run_bind] at h
        have hc : (choose (.order fr.fn id)).run P w = .ok (w.tape w.drawn (.order fr.fn id)) { w with drawn := w.drawn + 1 } := by
          simp [choose, Sem.run, Question.forced, Question.cut]
        rw [hc] at h
        obtain ⟨e1, e2⟩ := run_pure_ok (P := P) h
        cases e1
        subst e2
        rw [Sem.events_bind, hc, Result.evThen_ok, Sem.events_acc, events_choose]
        simp only [pure_events, Array.append_empty, seen_nil]
        have hs : stepG P main (G ((base fr.fn).at ⟨fr.tmps, []⟩ (.code (.region id ops true) :: k)) cs) w = .go (G ((base fr.fn).at ⟨fr.tmps, []⟩ (.inRegion ops (Region.schedule (P.follows .mixedOrders) ops (w.tape w.drawn (.order fr.fn id))) :: k)) cs) { w with drawn := w.drawn + 1 } := by
          have hb : (base fr.fn).fn = fr.fn := rfl
          simp [G, stepG, stepG.exec, Frame.at, hb, hc]
        rw [← ht, ← hf] at hs
        rw [hs]
        congr 2
        rw [hf]; rfl
    · rename_i ops k ht
      exact fin rfl h (by rw [hf, ht]; exact stepG_region_end)
    · rename_i ops i rest k ht
      split at h
      · rename_i hw
        split at h
        · rename_i o ho
          rw [if_pos hw]
          simp only [ho, Option.map_some, Option.getD_some] at hw
          exact gop_step hp ht hm ho hw h
        · exact (run_stuck_no h).elim
      · rename_i hw
        rw [if_neg hw]
        refine fin rfl h ?_
        have hf' := hf
        rw [ht] at hf'
        have hs : stepG P main (G ((base fr.fn).at ⟨fr.tmps, []⟩ (.inRegion ops (i :: rest) :: k)) cs) w = .go (G (((base fr.fn).at ⟨fr.tmps, []⟩ (.inRegion ops (i :: rest) :: k)).finish undef) cs) w := by
          simp only [G, stepG, stepG.exec, Frame.at] at hw ⊢
          simp [hw]
        rw [← hf'] at hs
        exact hs
    · exact (run_stuck_no h).elim
  · unfold gsem at h ⊢
    simp only [hm] at h ⊢
    split at h
    · rename_i c rest
      split at h
      · exact (run_stuck_no h).elim
      · rename_i fn hfn
        rw [Sem.run_bind] at h
        cases h1 : (results fn fr.tmps).run P w with
        | halt e w1 => rw [h1] at h; cases h
        | ok v w1 =>
          rw [h1] at h
          obtain ⟨e1, e2⟩ := run_pure_ok (P := P) h
          cases e1
          subst e2
          rw [Sem.events_bind, h1, Result.evThen_ok, Sem.events_acc]
          simp only [pure_events, Array.append_empty]
          simp [stepG, unwind, G, hm, hp.d, hfn, h1, doReturn, hp.kind, GStep.after]
    · exact (run_stuck_no h).elim
end
end Go.Tw
/- Lone runs carried over to company, part 21: how an operation may fail to come to an end. -/
namespace Go.Tw
open Go Go.Conc

def calmHalt : Halt → Bool
  | .unsupported (.initOrder _) => false
  | .panic _ | .stuck _ | .unsupported _ => true
  | _ => false
/-- Blocks that an access may be referred on by. -/
def oddObj : Obj → Bool
  | .pending _ _ | .view _ _ => true
  | _ => false
/-- It halts by a panic, or by a word of the model's, nowhere else. -/
def Calm (P : Program) {α : Type} : Sem α → Prop
  | .pure _ => True
  | .load _ _ k => ∀ v, Calm P (k v)
  | .store _ _ _ k => Calm P k
  | .new o k => oddObj o = false ∧ ∀ r, Calm P (k r)
  | .shape _ k => ∀ s, Calm P (k s)
  | .freeze _ _ k => Calm P k
  | .frozen _ k => ∀ b, Calm P (k b)
  | .getObj _ k => ∀ o, Calm P (k o)
  | .setObj _ _ _ => False
  | .choose _ k => ∀ n, Calm P (k n)
  | .sys _ _ => False
  | .program k => Calm P (k P)
  | .mark _ k => Calm P k
  | .halt h => calmHalt h = true
section
variable {P : Program} {α β : Type}
theorem calm_bind {s : Sem α} {f : α → Sem β} (h : Calm P s) (k : ∀ a, Calm P (f a)) : Calm P (s >>= f) := by
  show Calm P (s.bind f)
  induction s with
  | pure a => exact k a
  | load m a k' ih => exact fun v => ih v (h v)
  | store m a v k' ih => exact ih h
  | new o k' ih => exact ⟨h.1, fun v => ih v (h.2 v)⟩
  | shape r k' ih => exact fun v => ih v (h v)
  | freeze a n k' ih => exact ih h
  | frozen a k' ih => exact fun v => ih v (h v)
  | getObj r k' ih => exact fun v => ih v (h v)
  | setObj r o k' ih => exact h.elim
  | choose q k' ih => exact fun v => ih v (h v)
  | sys c k' ih => exact h.elim
  | program k' ih => exact ih P h
  | mark m k' ih => exact ih h
  | halt e => exact h
theorem calm_pure (a : α) : Calm P (pure a : Sem α) := trivial
theorem calm_load (a : Addr) : Calm P (load a) := fun _ => trivial
theorem calm_store (a : Addr) (v : Value) : Calm P (store a v) := trivial
theorem calm_newObj {o : Obj} (ho : oddObj o = false) : Calm P (newObj o) := ⟨ho, fun _ => trivial⟩
theorem calm_shape (r : Nat) : Calm P (shape r) := fun _ => trivial
theorem calm_getObj (r : Nat) : Calm P (getObj r) := fun _ => trivial
theorem calm_frozen (a : Addr) : Calm P (frozen a) := fun _ => trivial
theorem calm_choose (q : Question) : Calm P (choose q) := fun _ => trivial
theorem calm_mark (m : Mark) : Calm P (mark m) := trivial
theorem calm_program : Calm P program := trivial
theorem calm_stuck (s : String) : Calm P (stuck s : Sem α) := rfl
theorem calm_goPanic (v : Value) : Calm P (goPanic v : Sem α) := rfl
theorem calm_typeInfo (t : TypeId) : Calm P (typeInfo t) := by
  show Calm P (match P.info? t with | some i => (pure i : Sem TypeInfo) | none => stuck "no such type")
  cases P.info? t <;> trivial
theorem calm_underlying (t : TypeId) : Calm P (underlying t) := by
  show Calm P (match P.underlying t with | some d => (pure d : Sem TypeDesc) | none => stuck "no such type")
  cases P.underlying t <;> trivial
/-- Where it is known what the type is underneath. -/
theorem calm_under {t : TypeId} {d : TypeDesc} (h : P.underlying t = some d) {f : TypeDesc → Sem β} (k : Calm P (f d)) : Calm P (underlying t >>= f) := by
  show Calm P ((match P.underlying t with | some d => (pure d : Sem TypeDesc) | none => stuck "no such type") >>= f)
  rw [h]
  exact k
theorem calm_sizeOf (t : TypeId) : Calm P (sizeOf t) := calm_bind (calm_typeInfo t) fun _ => trivial
theorem calm_isAgg (t : TypeId) : Calm P (isAgg t) := calm_bind (calm_underlying t) fun d => by cases d <;> trivial
theorem calm_zeroValue (t : TypeId) : Calm P (zeroValue t) := calm_bind (calm_typeInfo t) fun i => by split <;> first | trivial | rfl
theorem calm_loadCellsFrom (a : Addr) (k : Nat) : ∀ (i : Nat) (acc : Array Value), Calm P (loadCellsFrom a i k acc) := by
  induction k with
  | zero => intro i acc; trivial
  | succ k ih => intro i acc; exact calm_bind (calm_load _) fun v => ih _ _
theorem calm_loadCells (a : Addr) (k : Nat) : Calm P (loadCells a k) := calm_loadCellsFrom a k 0 #[]
theorem calm_storeCells (a : Addr) : ∀ (l : List Value) (i : Nat), Calm P (storeCells a l i)
  | [], _ => trivial
  | v :: l, i => calm_bind (calm_store _ _) fun _ => calm_storeCells a l (i + 1)
theorem calm_loadVar (t : TypeId) (a : Addr) : Calm P (loadVar t a) := calm_bind (calm_isAgg t) fun b => by
  split
  · exact calm_bind (calm_sizeOf t) fun _ => calm_bind (calm_loadCells _ _) fun _ => trivial
  · exact calm_load a
theorem calm_storeVar (t : TypeId) (a : Addr) (v : Value) : Calm P (storeVar t a v) := calm_bind (calm_sizeOf t) fun k => by
  simp only []
  split
  · exact calm_bind (calm_stuck _) fun _ => calm_storeCells _ _ _
  · exact calm_storeCells _ _ _
theorem calm_newRow (t : TypeId) (c : Array Value) : Calm P (newRow t c) := calm_bind (calm_newObj rfl) fun _ => trivial
theorem calm_newVar (t : TypeId) (v : Value) : Calm P (newVar t v) := calm_newRow _ _
theorem calm_elemOf (t : TypeId) : Calm P (elemOf t) := calm_bind (calm_underlying t) fun d => by cases d <;> trivial
theorem calm_runtimePanic (e : RuntimeError) : Calm P (runtimePanic e : Sem α) := by
  refine calm_bind calm_program fun p => ?_
  cases e <;> first | exact calm_goPanic _ | exact calm_bind (calm_elemOf _) fun _ => calm_bind (calm_newVar _ _) fun _ => calm_goPanic _
theorem calm_boundsPanic (k : IntKind) (x y : Int) (c : BoundsCode) : Calm P (boundsPanic k x y c : Sem α) := by
  unfold boundsPanic
  simp only []
  split
  · exact calm_bind (calm_bind (calm_choose _) fun _ => trivial) fun _ => calm_runtimePanic _
  · exact calm_bind (calm_pure _) fun _ => calm_runtimePanic _
theorem calm_askRoom (k : Nat) : Calm P (askRoom k) := by
  unfold askRoom
  split <;> trivial
theorem calm_asIntOf (v : Value) : Calm P (asIntOf v) := by
  unfold asIntOf; split <;> first | trivial | rfl
theorem calm_asInt (v : Value) : Calm P (asInt v) := calm_bind (calm_asIntOf v) fun _ => trivial
theorem calm_asBool (v : Value) : Calm P (asBool v) := by unfold asBool; split <;> trivial
theorem calm_asAgg (v : Value) : Calm P (asAgg v) := by unfold asAgg; split <;> trivial
theorem calm_sureAddr (v : Value) : Calm P (Instr.sureAddr v) := by unfold Instr.sureAddr; split <;> trivial
theorem calm_asAddr (v : Value) : Calm P (asAddr v) := by
  unfold asAddr; split
  · trivial
  · exact calm_runtimePanic _
  · trivial
theorem calm_viewAt (r : Nat) : Calm P (viewAt r) := calm_bind (calm_shape r) fun s => by
  split
  · trivial
  · exact calm_bind (calm_getObj r) fun o => by split <;> trivial
theorem calm_noView (a : Addr) : Calm P (noView a) := calm_bind (calm_viewAt _) fun o => by split <;> first | trivial | rfl
theorem calm_numberAt (r : Nat) : Calm P (numberAt r) := calm_bind (calm_shape r) fun s => by
  split
  · trivial
  · exact calm_bind (calm_getObj r) fun o => by split <;> trivial
theorem calm_behind (a : Addr) : Calm P (behindNumber a) := calm_bind (calm_numberAt _) fun _ => trivial
theorem calm_asNumber (a : Addr) (l : Bool) : Calm P (asNumber a l) := calm_bind (calm_newObj rfl) fun _ => trivial
theorem calm_byteOf (a : Addr) : Calm P (byteOf a) := by
  unfold byteOf
  split
  · trivial
  · simp only []
    refine calm_bind calm_program fun p => calm_bind (calm_noView a) fun _ => calm_bind (calm_shape _) fun s => ?_
    split
    · split
      · trivial
      · split <;> trivial
    · trivial
theorem calm_partAt (a : Addr) (x y : Nat) : Calm P (partAt a x y) := calm_bind (calm_byteOf a) fun _ => calm_bind (calm_byteOf _) fun _ => trivial
theorem calm_fieldPlace (a : Addr) (f : Field) : Calm P (fieldPlace a f) := calm_bind (calm_sizeOf _) fun k => by
  split
  · exact calm_partAt _ _ _
  · trivial
end
end Go.Tw
/- Lone runs carried over to company, part 22: the operations that are borne fail to come to an end by a panic, or by a word of the model's. -/
namespace Go.Tw
open Go Go.Conc
section
variable {P : Program}
theorem calm_intArith (op : BinOp) (k : IntKind) (x y : Int) : Calm P (Op.intArith op k x y) := by cases op <;> trivial
theorem calm_intCmp (op : BinOp) (x y : Int) : Calm P (Op.intCmp op x y) := by cases op <;> trivial
theorem calm_intBits (op : BinOp) (k : IntKind) (x y : Int) : Calm P (Op.intBits op k x y) := by cases op <;> trivial
theorem calm_shift (op : BinOp) (k yk : IntKind) (x y : Int) : Calm P (Op.shift op k x yk y) := by
  unfold Op.shift
  split
  · exact calm_runtimePanic _
  · cases op <;> trivial
theorem calm_intDiv (op : BinOp) (k : IntKind) (x y : Int) : Calm P (Op.intDiv op k x y) := by
  unfold Op.intDiv
  repeat' split
  all_goals first | trivial | exact calm_runtimePanic _
theorem calm_floatCmp (op : BinOp) (k : FloatKind) (x y : Nat) : Calm P (Op.floatCmp op k x y) := by cases op <;> trivial
theorem calm_floatArith (op : BinOp) (k : FloatKind) (x y : Nat) : Calm P (Op.floatArith op k x y) := by
  have fin : ∀ r : Option Nat, Calm P (match r with | some r => (pure (.float k r) : Sem Value) | none => do pure (.float k (← choose (.nanBits k x y)))) := by
    intro r
    cases r with
    | none => exact calm_bind (calm_choose _) fun _ => trivial
    | some r => trivial
  cases op <;> first | exact fin _ | exact calm_bind (calm_stuck _) fun r => fin r
theorem calm_stringOp (op : BinOp) (x y : ByteArray) : Calm P (Op.stringOp op x y) := by
  cases op <;> first | trivial | (unfold Op.stringOp; simp only []; split <;> trivial)
theorem calm_halt {α : Type} {h : Halt} (hc : calmHalt h = true) : Calm P (Sem.halt h : Sem α) := hc
theorem calm_unsafeAdd (ts : Array TypeId) (t : TypeId) (o : Option Addr) (y : Value) : Calm P (Builtin.unsafeAdd_ ts t #[.pointer o, y]) := by
  refine calm_bind (calm_asInt y) fun n => ?_
  have tail : ∀ a : Addr, Calm P (do
        let some (e, cells) ← shape a.block | unsupported (.unsafePointer "Add")
        let p ← program
        match cellAtBytes p p.depth e (cells / p.cellsOf e) a.off n with
        | some off => pure (.pointer (some { a with off }))
        | none => unsupported (.unsafePointer "Add") : Sem Value) := by
    intro a
    refine calm_bind (calm_shape _) fun s => ?_
    rcases s with _ | ⟨e, cells⟩
    · exact calm_halt rfl
    · refine calm_bind calm_program fun p => ?_
      split
      · exact trivial
      · exact calm_halt rfl
  cases o with
  | none =>
    dsimp only
    split
    · refine calm_bind (calm_halt rfl) fun _ => ?_
      split
      · exact calm_bind (calm_halt rfl) fun _ => calm_halt rfl
      · exact calm_halt rfl
    · split
      · exact calm_bind (calm_halt rfl) fun _ => calm_halt rfl
      · exact calm_halt rfl
  | some a =>
    dsimp only
    split
    · refine calm_bind (calm_viewAt _) fun o => ?_
      split
      · exact calm_bind (calm_halt rfl) fun _ => trivial
      · exact trivial
    · split
      · exact calm_bind (calm_halt rfl) fun _ => tail a
      · exact tail a
theorem calm_movedNumber {t : TypeId} {k : IntKind} (ht : P.underlying t = some (.int k)) (x y : Value) : Calm P (movedNumber t x y) := by
  unfold movedNumber
  refine calm_under ht ?_
  cases x with
  | pointer o =>
    cases o with
    | none =>
      show Calm P (Builtin.unsafeAdd_ #[] t #[.pointer none, y])
      exact calm_unsafeAdd _ _ _ _
    | some a =>
      show Calm P (behindNumber a >>= fun x => Builtin.unsafeAdd_ #[] t #[.pointer (some x.1), y] >>= fun v => match v with | .pointer (some b) => asNumber b x.2 | v => pure v)
      refine calm_bind (calm_behind a) fun b => calm_bind (calm_unsafeAdd _ _ _ _) fun v => ?_
      obtain ⟨b, l⟩ := b
      cases v with
      | pointer o =>
        cases o with
        | some c => exact calm_asNumber _ _
        | none => trivial
      | _ => trivial
  | _ => exact calm_halt rfl
theorem calm_twoPlaces (a b : Addr) : Calm P (Op.twoPlaces a b) := by
  unfold Op.twoPlaces
  refine calm_bind calm_program fun p => ?_
  split
  · trivial
  · exact calm_bind (calm_byteOf a) fun _ => calm_bind (calm_byteOf b) fun _ => trivial
theorem calm_addrSub (k : IntKind) (a b : Addr) : Calm P (Op.addrSub k a b) := calm_bind (calm_twoPlaces a b) fun _ => trivial
theorem calm_addrCmp (op : BinOp) (a b : Addr) : Calm P (Op.addrCmp op a b) := calm_bind (calm_twoPlaces a b) fun _ => by cases op <;> trivial
theorem calm_addrMod (k : IntKind) (a : Addr) (m : Int) : Calm P (Op.addrMod k a m) := by
  unfold Op.addrMod
  refine calm_bind (calm_shape _) fun s => ?_
  split
  · refine calm_bind (calm_typeInfo _) fun i => ?_
    simp only []
    split
    · trivial
    · exact calm_bind (calm_byteOf _) fun _ => trivial
  · trivial
theorem calm_equal {t : TypeId} {k : IntKind} (ht : P.underlying t = some (.int k)) (x y : Value) : Calm P (Op.equal t x y) := by
  show Calm P (Op.equalIn (9999 + 1) t x y)
  unfold Op.equalIn
  refine calm_under ht ?_
  split <;> first | (cases ‹TypeDesc.int k = _›; done) | trivial | skip
  · split <;> trivial
  · refine calm_bind (calm_behind _) fun a => calm_bind (calm_behind _) fun b => calm_bind calm_program fun p => ?_
    split
    · exact calm_bind (calm_byteOf _) fun _ => calm_bind (calm_byteOf _) fun _ => trivial
    · refine calm_bind (calm_typeInfo _) fun i => ?_
      split
      · split <;> trivial
      · trivial
theorem calm_binOp {op : BinOp} (hop : opIn op = true) {t : TypeId} {k : IntKind} (ht : P.underlying t = some (.int k)) (x y : Value) (hc : ∀ k a b, x ≠ .complex k a b) : Calm P (binOp op t x y) := by
  have cb : ∀ {s : Sem Bool}, Calm P s → Calm P (do pure (.bool (← s)) : Sem Value) := fun h => calm_bind h fun _ => trivial
  unfold binOp
  split
  all_goals first
    | exact calm_shift _ _ _ _ _
    | exact calm_stringOp _ _ _
    | exact calm_bind (calm_equal ht _ _) fun _ => trivial
    | exact calm_under ht (calm_movedNumber ht _ _)
    | exact calm_movedNumber ht _ _
    | exact calm_bind (calm_behind _) fun _ => calm_bind (calm_behind _) fun _ => calm_addrSub _ _ _
    | exact calm_bind (calm_behind _) fun _ => calm_bind (calm_behind _) fun _ => calm_addrCmp _ _ _
    | exact calm_bind (calm_behind _) fun _ => calm_addrMod _ _ _
    | exact calm_halt rfl
    | exact absurd rfl (hc _ _ _)
    | skip
  all_goals (split <;> first | exact calm_halt rfl | (cases op <;> first | exact calm_intArith _ _ _ _ | exact calm_intDiv _ _ _ _ | exact calm_intBits _ _ _ _ | exact calm_intCmp _ _ _ | exact calm_floatArith _ _ _ _ | exact calm_floatCmp _ _ _ _ | (simp [opIn] at hop; done)))
theorem calm_guard {op : BinOp} {t : TypeId} {k : IntKind} (ht : P.underlying t = some (.int k)) (ox oy : Operand) (x y : Value) : Calm P (eqGuard op t ox oy x y) := by
  have g : ∀ a b, Calm P (Op.eqGuardIn Op.maxDepth t a b) := by
    intro a b
    show Calm P (Op.eqGuardIn (9999 + 1) t a b)
    unfold Op.eqGuardIn
    refine calm_under ht ?_
    split <;> first | (cases ‹TypeDesc.int k = _›; done) | trivial
  have key : Calm P (match x, y with
    | .nilIface, .nilIface => (if (ox matches .const _) || (oy matches .const _) then pure () else do
        if ← Op.eqGuardIn Op.maxDepth t x y then unsupported (.noEntry "binop/eql: two nil values of an interface type with methods, neither of them the literal nil") : Sem Unit)
    | .agg _, .agg _ => (do
        if !(← program).eqGuardType (← program).depth t then return
        if ← Op.eqGuardIn Op.maxDepth t x y then unsupported (.noEntry "binop/eql: two nil values of an interface type with methods, in a part of a struct or an array"))
    | _, _ => pure ()) := by
    split
    · generalize ((ox matches .const _) || (oy matches .const _)) = bb
      cases bb with
      | true => trivial
      | false =>
        refine calm_bind (g _ _) fun b => ?_
        split
        · exact calm_halt rfl
        · trivial
    · refine calm_bind calm_program fun p => calm_bind calm_program fun p' => ?_
      split
      · trivial
      · refine calm_bind (g _ _) fun b => ?_
        split
        · exact calm_halt rfl
        · trivial
    · trivial
  cases op <;> first | exact trivial | exact key
theorem calm_unary (op : UnOp) (x : Value) : Calm P (Op.unary op x) := by
  unfold Op.unary
  split <;> first | exact calm_intArith _ _ _ _ | exact calm_intBits _ _ _ _ | trivial
theorem calm_convert {src dst : TypeId} {j k : IntKind} (hs : P.underlying src = some (.int j)) (hd : P.underlying dst = some (.int k)) (x : Value) : Calm P (convert src dst x) := by
  unfold convert
  refine calm_under hs (calm_under hd ?_)
  split <;> first
    | (cases ‹TypeDesc.int _ = TypeDesc.float _›; done)
    | (cases ‹TypeDesc.int _ = TypeDesc.complex _›; done)
    | (cases ‹TypeDesc.int _ = TypeDesc.string›; done)
    | (cases ‹TypeDesc.int _ = TypeDesc.slice _›; done)
    | (cases ‹TypeDesc.int _ = TypeDesc.unsafePointer›; done)
    | exact trivial
    | exact calm_halt rfl
    | skip
  unfold Conv.floatToInt
  simp only []
  split
  · split
    · trivial
    · exact calm_bind (calm_choose _) fun _ => trivial
  · exact calm_bind (calm_choose _) fun _ => trivial
theorem calm_indexAt (t : TypeId) (x i : Value) : Calm P (Instr.indexAt t x i) := by
  unfold Instr.indexAt
  refine calm_bind (calm_asIntOf i) fun ki => ?_
  obtain ⟨kk, j⟩ := ki
  have fin : ∀ (o : Option Addr) (len : Nat) (elem : TypeId), Calm P (underlying t >>= fun u => match o with
      | some a => if 0 ≤ j ∧ j < (len : Int) then (do pure (.pointer (some (a.add (j.toNat * (← sizeOf elem))))) : Sem Value) else if (decide (len ≤ 1) && (match u with | .array .. => true | _ => false)) = true then unsupported (.noEntry "op/indexAddr.an index out of range at an array of length 0 or 1 (ledger 616)") else boundsPanic kk j len .index
      | none => boundsPanic kk j 0 .index) := by
    intro o len elem
    refine calm_bind (calm_underlying t) fun u => ?_
    cases o with
    | none => exact calm_boundsPanic _ _ _ _
    | some a =>
      simp only []
      split
      · exact calm_bind (calm_sizeOf _) fun _ => trivial
      · generalize (decide (len ≤ 1) && _) = bb
        cases bb with
        | true => exact calm_halt rfl
        | false => exact calm_boundsPanic _ _ _ _
  refine calm_bind (calm_underlying t) fun d => ?_
  cases d with
  | array len elem => exact calm_bind (calm_sureAddr x) fun a => fin (some a) len elem
  | slice elem =>
    cases x with
    | slice b l c => exact fin b l elem
    | _ => exact calm_bind (calm_halt rfl) fun x => fin _ _ _
  | _ => exact calm_bind (calm_halt rfl) fun x => fin _ _ _
end
end Go.Tw
/- Lone runs carried over to company, part 23: the operations that are borne fail to come to an end by a panic, or by a word of the model's: on. -/
namespace Go.Tw
open Go Go.Conc
section
variable {P : Program}
theorem calm_mapM {α β : Type} (f : α → Sem β) (h : ∀ x, Calm P (f x)) : ∀ l : List α, Calm P (l.mapM f)
  | [] => trivial
  | x :: l => by
    rw [List.mapM_cons]
    exact calm_bind (h x) fun _ => calm_bind (calm_mapM f h l) fun _ => trivial
theorem calm_mapA {α β : Type} (f : α → Sem β) (h : ∀ x, Calm P (f x)) (l : Array α) : Calm P (l.mapM f) := by
  rw [Array.mapM_eq_mapM_toList]
  exact calm_bind (calm_mapM f h _) fun _ => trivial
theorem calm_build (t : TypeId) (ps : Array (Nat × Value)) : Calm P (Instr.build t ps) := by
  unfold Instr.build
  refine calm_bind (calm_zeroValue t) fun z => calm_bind (calm_underlying t) fun d => ?_
  cases d with
  | struct fs =>
    refine calm_bind (calm_mapA _ (fun f => calm_bind (calm_sizeOf _) fun _ => calm_pure _) _) fun pl => ?_
    split <;> trivial
  | array n e =>
    refine calm_bind (calm_sizeOf _) fun s => ?_
    split <;> trivial
  | _ => trivial
theorem calm_buildSlice (t : TypeId) (len : Nat) (ps : Array (Nat × Value)) : Calm P (Instr.buildSlice t len ps) := by
  unfold Instr.buildSlice
  refine calm_bind (calm_underlying t) fun d => ?_
  cases d with
  | slice e =>
    refine calm_bind (calm_sizeOf e) fun s => ?_
    have fin : ∀ z : Array Value, Calm P (match Instr.fill (fun i => some (i * s, s)) ((Array.range (len * s)).map (z[· % z.size]!)) ps.toList with
          | some cells => (do pure (.slice (some (← newRow e cells)) len len) : Sem Value)
          | _ => stuck "buildSlice: a part of the wrong size") := by
      intro z
      split
      · exact calm_bind (calm_newRow _ _) fun _ => trivial
      · trivial
    have fin2 : Calm P (if len * s = 0 then (match Instr.fill (fun i => some (i * s, s)) ((Array.range (len * s)).map ((#[] : Array Value)[· % (#[] : Array Value).size]!)) ps.toList with
          | some cells => (do pure (.slice (some (← newRow e cells)) len len) : Sem Value)
          | _ => stuck "buildSlice: a part of the wrong size") else zeroValue e >>= fun v => match Instr.fill (fun i => some (i * s, s)) ((Array.range (len * s)).map (v.cells[· % v.cells.size]!)) ps.toList with
          | some cells => (do pure (.slice (some (← newRow e cells)) len len) : Sem Value)
          | _ => stuck "buildSlice: a part of the wrong size") := by
      split
      · exact fin _
      · exact calm_bind (calm_zeroValue _) fun v => fin _
    simp only []
    split
    · exact calm_bind (calm_halt rfl) fun _ => fin2
    · exact fin2
  | _ => trivial
theorem calm_makeSlice (t : TypeId) (l c : Value) : Calm P (Instr.makeSlice t l c) := by
  unfold Instr.makeSlice
  refine calm_bind (calm_underlying t) fun d => ?_
  cases d with
  | slice e =>
    refine calm_bind (calm_asInt l) fun l' => calm_bind (calm_asInt c) fun c' => calm_bind (calm_typeInfo e) fun i => ?_
    simp only []
    have fin : Calm P (do
        askRoom ((IntKind.i64.wrap c').toNat * i.bytes)
        let n := (IntKind.i64.wrap c').toNat * (← sizeOf e)
        let zero ← if n = 0 then pure #[] else do pure (← zeroValue e).cells
        let a ← newRow e ((Array.range n).map (zero[· % zero.size]!))
        pure (.slice (some a) (IntKind.i64.wrap l').toNat (IntKind.i64.wrap c').toNat) : Sem Value) := by
      refine calm_bind (calm_askRoom _) fun _ => calm_bind (calm_sizeOf e) fun s => ?_
      simp only []
      split
      · exact calm_bind (calm_pure _) fun _ => calm_bind (calm_newRow _ _) fun _ => trivial
      · exact calm_bind (calm_zeroValue _) fun _ => calm_bind (calm_pure _) fun _ => calm_bind (calm_newRow _ _) fun _ => trivial
    repeat' split
    all_goals first
      | exact fin
      | exact calm_bind (calm_runtimePanic _) fun _ => fin
      | exact calm_bind (calm_choose _) fun _ => calm_bind (calm_runtimePanic _) fun _ => fin
  | _ => trivial
theorem calm_fieldAt (s : TypeId) (x : Value) (f : Nat) : Calm P (Instr.fieldAt s x f) := by
  unfold Instr.fieldAt
  refine calm_bind (calm_underlying s) fun d => ?_
  cases d with
  | struct fs =>
    simp only []
    split
    · exact calm_bind (calm_sureAddr _) fun _ => calm_bind (calm_fieldPlace _ _) fun _ => trivial
    · trivial
  | _ => trivial
theorem calm_extract (x : Value) (i : Nat) : Calm P (Instr.extract x i) := by
  unfold Instr.extract
  cases x <;> first | (simp only []; split <;> trivial) | trivial
theorem calm_len {ts : Array TypeId} (hs : ∀ xT, ts[0]? = some xT → (∃ e, P.underlying xT = some (.slice e)) ∨ P.underlying xT = some .string) (t : TypeId) (xs : Array Value) : Calm P (Builtin.len_ ts t xs) := by
  unfold Builtin.len_
  cases h0 : ts[0]? with
  | none => trivial
  | some dT =>
    cases h1 : xs[0]? with
    | none => trivial
    | some x =>
      rcases hs dT h0 with ⟨e, he⟩ | he
      · refine calm_under he ?_
        cases x <;> trivial
      · refine calm_under he ?_
        cases x <;> trivial
theorem calm_foldM (f : Value → Value → Sem Value) (h : ∀ x y, Calm P (f x y)) : ∀ (l : List Value) (x : Value), Calm P (l.foldlM f x)
  | [], _ => trivial
  | v :: l, x => by
    simp only [List.foldlM_cons]
    exact calm_bind (h _ _) fun _ => calm_foldM f h l _
theorem calm_max2 (x y : Value) : Calm P (Builtin.max2 x y) := by
  unfold Builtin.max2
  split
  · trivial
  · split
    · exact calm_bind (calm_choose _) fun _ => trivial
    all_goals trivial
  · exact calm_bind (calm_stringOp _ _ _) fun _ => calm_bind (calm_asBool _) fun _ => trivial
  all_goals trivial
theorem calm_min2 (x y : Value) : Calm P (Builtin.min2 x y) := by
  unfold Builtin.min2
  split
  · trivial
  · split
    · exact calm_bind (calm_choose _) fun _ => trivial
    all_goals trivial
  · exact calm_bind (calm_stringOp _ _ _) fun _ => calm_bind (calm_asBool _) fun _ => trivial
  all_goals trivial
theorem calm_max (ts : Array TypeId) (t : TypeId) (xs : Array Value) : Calm P (Builtin.max_ ts t xs) := by
  unfold Builtin.max_
  split
  · trivial
  · exact calm_foldM _ calm_max2 _ _
theorem calm_min (ts : Array TypeId) (t : TypeId) (xs : Array Value) : Calm P (Builtin.min_ ts t xs) := by
  unfold Builtin.min_
  split
  · trivial
  · exact calm_foldM _ calm_min2 _ _
theorem calm_lenOf (x : Value) : Calm P (Builtin.lenOf x) := by unfold Builtin.lenOf; split <;> trivial
theorem calm_firstCells (s n : Nat) (x : Value) : Calm P (Builtin.firstCells s n x) := by
  unfold Builtin.firstCells
  split <;> first | exact calm_loadCells _ _ | trivial
theorem calm_holdsCells (a : Addr) (k : Nat) : Calm P (Builtin.holdsCells a k) := calm_bind (calm_shape _) fun s => by split <;> trivial
theorem calm_mayShare (z l k : Nat) (b : Option Addr) (x : Value) : Calm P (Builtin.mayShare z l k b x) := by
  unfold Builtin.mayShare
  have fin : ∀ (t : Bool), Calm P (if (!t) = true then pure true else match x with | .slice (some c) _ _ => (do pure (!(← Builtin.holdsCells c (k * z)) || b.any (·.block == c.block)) : Sem Bool) | _ => pure false) := by
    intro t
    split
    · trivial
    · split
      · exact calm_bind (calm_holdsCells _ _) fun _ => trivial
      · trivial
  cases b with
  | none => exact calm_bind (calm_pure _) fin
  | some a => exact calm_bind (calm_holdsCells _ _) fun h => calm_bind (calm_frozen _) fun f => calm_bind (calm_pure _) fin
theorem calm_far (b : Option Addr) (z l k : Nat) (s : Value) : Calm P (far b z l k s) := calm_bind (calm_mayShare _ _ _ _ _) fun y => by
  split
  · exact calm_bind (calm_mark _) fun _ => calm_halt rfl
  · exact calm_halt rfl
theorem calm_more (e : TypeId) (z l c k : Nat) (b : Option Addr) (s : Value) : Calm P (more e z l c k b s) :=
  calm_bind (calm_choose _) fun _ => calm_bind (calm_typeInfo _) fun _ => calm_bind (calm_askRoom _) fun _ => calm_bind (calm_firstCells _ _ _) fun _ => calm_bind (calm_firstCells _ _ _) fun _ => calm_bind (calm_zeroValue _) fun _ => calm_bind (calm_newRow _ _) fun _ => trivial
theorem calm_wide (e : TypeId) (z l c k : Nat) (b : Option Addr) (s : Value) : Calm P (wide e z l c k b s) := calm_bind (calm_typeInfo _) fun i => by
  split
  · exact calm_bind (calm_far _ _ _ _ _) fun _ => calm_more _ _ _ _ _ _ _
  · exact calm_more _ _ _ _ _ _ _
theorem calm_over (e : TypeId) (z l c k : Nat) (b : Option Addr) (s : Value) : Calm P (over e z l c k b s) := calm_bind (calm_typeInfo _) fun i => by
  split
  · exact calm_bind (calm_runtimePanic _) fun _ => calm_wide _ _ _ _ _ _ _
  · exact calm_wide _ _ _ _ _ _ _
theorem calm_app (e : TypeId) (z l c : Nat) (b : Option Addr) (s : Value) : Calm P (app e z l c b s) := calm_bind (calm_lenOf _) fun k => by
  split
  · refine calm_bind (calm_firstCells _ _ _) fun new => ?_
    split
    · exact calm_bind (calm_storeCells _ _ _) fun _ => trivial
    · trivial
  · exact calm_over _ _ _ _ _ _ _
theorem calm_append {ts : Array TypeId} (hn : ∀ xT k, ts[1]? = some xT → P.underlying xT ≠ some (.int k)) (t : TypeId) (xs : Array Value) : Calm P (Builtin.append_ ts t xs) := by
  unfold Builtin.append_
  cases h0 : ts[0]? with
  | none => trivial
  | some dT =>
  cases h2 : xs[0]? with
  | none => trivial
  | some s0 =>
  cases h3 : xs[1]? with
  | none => trivial
  | some s =>
  refine calm_bind (calm_underlying dT) fun u => ?_
  cases u with
  | slice elem =>
    cases s0 with
    | slice b l c =>
      refine calm_bind (calm_sizeOf elem) fun z => ?_
      have fin : ∀ q : Sem Value, q = app elem z l c b s → Calm P q := fun q h => by rw [h]; exact calm_app _ _ _ _ _ _
      cases h5 : ts[1]? with
      | none =>
        simp only [sem_pure_bind, Bool.false_eq_true, if_false, Bool.not_false, if_true, false_or]
        refine fin _ ?_
        unfold app over wide more far
        cases b <;> rfl
      | some xT =>
        cases hu : P.underlying xT with
        | none =>
          show Calm P ((match P.underlying xT with | some d => (pure d : Sem TypeDesc) | none => stuck "no such type") >>= _)
          rw [hu]
          exact calm_halt (α := Value) (h := .stuck "no such type") rfl
        | some d =>
          refine calm_under hu ?_
          cases d with
          | int k => exact absurd hu (hn xT k h5)
          | _ =>
            simp only [sem_pure_bind, Bool.false_eq_true, if_false, Bool.not_false, if_true, false_or]
            refine fin _ ?_
            unfold app over wide more far
            cases b <;> rfl
    | _ => trivial
  | _ => trivial
end
variable [FnSet]
section
variable {P : Program} {B : Nat} {ρ : Ren} {n : Nat} {okB : Nat → Bool}
theorem VR.plain {v v' : Value} (h : VR ρ n v v') : ∀ k a b, v ≠ .complex k a b := by cases h <;> (intro k a b e; cases e)
theorem calm_prog {β : Type} {f : Program → Sem β} (h : Calm P (f P)) : Calm P (program >>= f) := h
theorem calm_callFunc (hF : FnOk P) {f : Nat} (hf : FnSet.ok f) (xs : Array Value) : Calm P (callFunc f xs) := by
  obtain ⟨fn, h1, h2, h3⟩ := hF f hf
  unfold callFunc
  refine calm_prog ?_
  rw [h1]
  simp only [h2, h3, Bool.false_eq_true, if_false]
  trivial
theorem calm_exec (E : Env P okB) {o : Oper} (ho : opOk P okB o = true) {e e' : Operand → Value} (he : ∀ x, opd okB x = true → VR ρ n (e x) (e' x)) : Calm P (execOp e o) := by
  have v : ∀ {s : Sem Value}, Calm P s → Calm P (do pure (.value (← s)) : Sem Next) := fun h => calm_bind h fun _ => trivial
  have u : ∀ {s : Sem Unit}, Calm P s → Calm P (do s; pure .skip : Sem Next) := fun h => calm_bind h fun _ => trivial
  obtain ⟨dst, op, ty, pos, after, guard⟩ := o
  cases op with
  | move x => trivial
  | assign x => trivial
  | box t x => exact v (calm_bind (calm_newVar _ _) fun _ => trivial)
  | load t x => exact v (calm_bind (calm_sureAddr _) fun _ => calm_loadVar _ _)
  | unOp u t x => exact v (calm_unary _ _)
  | extract x i => exact v (calm_extract _ _)
  | pick c a b => exact calm_bind (calm_asBool _) fun _ => trivial
  | alloc t => exact v (calm_bind (calm_zeroValue _) fun _ => calm_bind (calm_newVar _ _) fun _ => trivial)
  | build t ps => exact v (calm_build _ _)
  | buildSlice t l ps => exact v (calm_buildSlice _ _ _)
  | store t a x => exact u (calm_bind (calm_sureAddr _) fun _ => calm_storeVar _ _ _)
  | makeSlice t a x => exact v (calm_makeSlice _ _ _)
  | indexAddr t a x => exact v (calm_indexAt _ _ _)
  | binOp op t x y yt =>
    have ho : (opIn op && intT P t && opd okB x && opd okB y) = true := ho
    simp only [Bool.and_eq_true] at ho
    obtain ⟨⟨k, hk⟩, hc⟩ := intT_iff ho.1.1.2
    exact v (calm_bind (calm_guard hk _ _ _ _) fun _ => calm_binOp ho.1.1.1 hk _ _ (he x ho.1.2).plain)
  | convert s d x =>
    have ho : (intT P s && intT P d && opd okB x) = true := ho
    simp only [Bool.and_eq_true] at ho
    exact v (calm_convert (intT_iff ho.1.1).1.choose_spec (intT_iff ho.1.2).1.choose_spec _)
  | makeFunc fn first captured => exact v trivial
  | fieldAddr s x f => exact v (calm_fieldAt _ _ _)
  | call c =>
    obtain ⟨callee, args, ats⟩ := c
    cases callee with
    | value f =>
      have ho : (args.all (opd okB) && opd okB f) = true := ho
      simp only [Bool.and_eq_true] at ho
      have hv := he f ho.2
      show Calm P (Deferred.ofValue (e f) (args.map e) >>= fun d => invoke d.target d.args)
      generalize e f = w at hv
      generalize e' f = w' at hv
      cases hv with
      | fn f a b a' b' h0 h1 h2 h3 h4 => exact calm_callFunc E.bodies h0 _
      | fnil => exact (show Calm P (runtimePanic .nilDeref : Sem Next) from calm_runtimePanic _)
      | _ => exact calm_halt rfl
    | invoke r m =>
      have ho : (args.all (opd okB) && false) = true := ho
      simp at ho
    | builtin b =>
      cases b with
      | len =>
        have ho : (args.all (opd okB) && (match ats[0]? with | some t => lenT P t | none => true)) = true := ho
        simp only [Bool.and_eq_true] at ho
        refine v (calm_len (fun xT hx => ?_) ty _)
        have h2 := ho.2
        rw [hx] at h2
        simp only [lenT] at h2
        split at h2
        · exact .inl ⟨_, ‹_›⟩
        · exact .inr ‹_›
        · cases h2
      | max => exact v (calm_max _ _ _)
      | min => exact v (calm_min _ _ _)
      | append =>
        have ho : (args.all (opd okB) && ((match ats[0]? with | some t => elemT P t | none => true) && (match ats[1]? with | some t => notIntT P t | none => true))) = true := ho
        simp only [Bool.and_eq_true] at ho
        refine v (calm_append (fun xT k hx hk => ?_) ty _)
        have h2 := ho.2.2
        rw [hx] at h2
        simp only [notIntT, hk] at h2
        cases h2
      | _ =>
        have ho : (args.all (opd okB) && false) = true := ho
        simp at ho
  | _ => cases ho
end
end Go.Tw
/- Lone runs carried over to company, part 24: frames that answer to each other; a goroutine's own step. -/
namespace Go.Tw
open Go Go.Conc

def codeOk (P : Program) (okB : Nat → Bool) : Code → Bool
  | .skip | .ret | .exit _ => true
  | .region _ ops _ => ops.all (opOk P okB)
  | .seq a b => codeOk P okB a && codeOk P okB b
  | .cond c a b => opd okB c && codeOk P okB a && codeOk P okB b
  | .block _ b | .loop b => codeOk P okB b
  | _ => false
def itemOk (P : Program) (okB : Nat → Bool) : Item → Bool
  | .code c | .inLoop c => codeOk P okB c
  | .inBlock _ => true
  | .inRegion ops _ => ops.all (opOk P okB)
  | _ => false

variable [FnSet]
/-- What is asked of the program. -/
structure EnvC (P : Program) (okB : Nat → Bool) : Prop extends Env P okB where
  code : ∀ f, FnSet.ok f → ∀ fn, P.funcs[f]? = some fn → ∃ c, fn.body = some c ∧ codeOk P okB c = true

structure FR (P : Program) (okB : Nat → Bool) (ρ : Ren) (n : Nat) (f f' : Frame) : Prop where
  pl : Pl f
  pl' : Pl f'
  fn : f'.fn = f.fn
  fok : FnSet.ok f.fn
  tmps : AR ρ n f.tmps f'.tmps
  todo : f'.todo = f.todo
  items : ∀ x ∈ f.todo, itemOk P okB x = true
  mode : f'.mode = f.mode
/-- A frame that waits for what it called. -/
structure CF (P : Program) (okB : Nat → Bool) (ρ : Ren) (n : Nat) (f f' : Frame) : Prop extends FR P okB ρ n f f' where
  run : f.mode = .run
  at_ : ∃ ops i rest k, f.todo = .inRegion ops (i :: rest) :: k
inductive CR (P : Program) (okB : Nat → Bool) (ρ : Ren) (n : Nat) : List Frame → List Frame → Prop
  | nil : CR P okB ρ n [] []
  | cons {f f' : Frame} {l l' : List Frame} : CF P okB ρ n f f' → CR P okB ρ n l l' → CR P okB ρ n (f :: l) (f' :: l')
section
variable {P : Program} {B : Nat} {okB : Nat → Bool} {ρ ρ' : Ren} {n n' : Nat} {f f' : Frame} {cs cs' : List Frame}
theorem FR.ex (e : Ex ρ n ρ' n') (h : FR P okB ρ n f f') : FR P okB ρ' n' f f' := ⟨h.pl, h.pl', h.fn, h.fok, h.tmps.ex e, h.todo, h.items, h.mode⟩
theorem CF.ex (e : Ex ρ n ρ' n') (h : CF P okB ρ n f f') : CF P okB ρ' n' f f' := ⟨h.toFR.ex e, h.run, h.at_⟩
theorem CR.ex (e : Ex ρ n ρ' n') (h : CR P okB ρ n cs cs') : CR P okB ρ' n' cs cs' := by
  induction h with
  | nil => exact .nil
  | cons h _ ih => exact .cons (h.ex e) ih
theorem FR.eval (E : Env P okB) (h : FR P okB ρ n f f') (x : Operand) (hx : opd okB x = true) : VR ρ n (f.eval x) (f'.eval x) := by
  cases x with
  | tmp t => exact h.tmps.getD VR.undef t
  | const v => exact (nbB_nb hx).vr
  | global g => cases hx
  | func g => exact .fn g _ _ _ _ (E.fns g hx) rfl rfl (fun i h => absurd h (Nat.not_lt_zero i)) (fun i h => absurd h (Nat.not_lt_zero i))
theorem VR.boolL {v v' : Value} (h : VR ρ n v v') (b : Bool) (e : v = .bool b) : v' = .bool b := by
  subst e; cases h; rfl
theorem VR.boolR {v v' : Value} (h : VR ρ n v v') (b : Bool) (e : v' = .bool b) : v = .bool b := by
  subst e
  cases h with
  | bool b => rfl
  | poison v' hd => simp [Value.dark] at hd
theorem yielded_rel {ops : Array Oper} {ts ts' : Array Value} (h : AR ρ n ts ts') : yielded ops ts' = yielded ops ts := by
  funext j
  unfold yielded
  cases (ops[j]?).bind (·.dst) with
  | none => rfl
  | some d =>
    simp only [Option.bind_some]
    rcases h.get? d with ⟨h1, h2⟩ | ⟨x, y, h1, h2, hv⟩
    · rw [h1, h2]
    · rw [h1, h2]
      by_cases hb : ∃ b, x = .bool b
      · obtain ⟨b, rfl⟩ := hb
        rw [hv.boolL b rfl]
      · have hb' : ¬ ∃ b, y = .bool b := fun ⟨b, e⟩ => hb ⟨b, hv.boolR b e⟩
        split
        · rename_i b hh; cases hh; exact absurd ⟨_, rfl⟩ hb'
        · split
          · rename_i b hh; cases hh; exact absurd ⟨_, rfl⟩ hb
          · rfl
theorem FR.todo_ (h : FR P okB ρ n f f') {t : List Item} (ht : ∀ x ∈ t, itemOk P okB x = true) (hm : f.mode = .run) : FR P okB ρ n { f with todo := t } { f' with todo := t } :=
  ⟨⟨h.pl.d, h.pl.kind, h.pl.round, h.pl.mode⟩, ⟨h.pl'.d, h.pl'.kind, h.pl'.round, h.pl'.mode⟩, h.fn, h.fok, h.tmps, rfl, ht, h.mode⟩
theorem FR.finish (h : FR P okB ρ n f f') {ops : Array Oper} {i : Nat} {rest : List Nat} {k : List Item} (ht : f.todo = .inRegion ops (i :: rest) :: k) {v v' : Value} (hv : VR ρ n v v') : FR P okB ρ n (f.finish v) (f'.finish v') := by
  have ht' : f'.todo = .inRegion ops (i :: rest) :: k := h.todo.trans ht
  have hi := h.items
  rw [ht] at hi
  unfold Frame.finish
  rw [ht, ht']
  refine ⟨⟨h.pl.d, h.pl.kind, h.pl.round, h.pl.mode⟩, ⟨h.pl'.d, h.pl'.kind, h.pl'.round, h.pl'.mode⟩, h.fn, h.fok, ?_, rfl, fun x hx => ?_, h.mode⟩
  · simp only
    cases (ops[i]?).bind (·.dst) with
    | none => exact h.tmps
    | some d => exact h.tmps.set hv d
  · rcases List.mem_cons.1 hx with rfl | hx
    · have := hi _ (List.mem_cons_self ..)
      exact this
    · exact hi x (List.mem_cons_of_mem _ hx)
theorem fr_enter (E : EnvC P okB) {g : Nat} (hg : FnSet.ok g) {xs ys : Array Value} (h : AR ρ n xs ys) : FR P okB ρ n (Frame.enter P g xs .normal) (Frame.enter P g ys .normal) := by
  obtain ⟨fn, h1, _, _⟩ := E.bodies g hg
  obtain ⟨c, h2, h3⟩ := E.code g hg fn h1
  refine ⟨⟨rfl, rfl, rfl, .inl rfl⟩, ⟨rfl, rfl, rfl, .inl rfl⟩, rfl, hg, ?_, rfl, fun x hx => ?_, rfl⟩
  · simp only [Frame.enter, ← h.1]
    refine h.append ⟨rfl, fun i a b => ?_⟩
    simp only [Array.getElem_replicate]
    exact VR.undef
  · simp only [Frame.enter, h1, Option.bind_some, h2, Option.getD_some, List.mem_singleton] at hx
    subst hx
    exact h3
theorem exitTo_mem {id : Nat} : ∀ {k k' : List Item}, exitTo id k = some k' → ∀ x ∈ k', x ∈ k
  | [], _, h => by simp [exitTo] at h
  | y :: k, k', h => by
    have rec' : exitTo id k = some k' → ∀ x ∈ k', x ∈ y :: k := fun h x hx => List.mem_cons_of_mem _ (exitTo_mem h x hx)
    cases y <;> first
      | exact rec' h
      | (rename_i id'
         unfold exitTo at h
         split at h
         · cases h; exact fun x hx => List.mem_cons_of_mem _ hx
         · exact rec' h)
end
end Go.Tw
/- Lone runs carried over to company, part 25: the step, carried over. -/
namespace Go.Tw
open Go Go.Conc
variable [FnSet]
section
variable {P : Program} {B : Nat} {okB : Nat → Bool} {ρ ρ' : Ren} {n n' : Nat} {fr fr' : Frame} {cs cs' : List Frame}

theorem rel_resultsL : ∀ (l : List ResultVar) {ρ : Ren} {n : Nat} {ts ts' : Array Value}, AR ρ n ts ts' → Rel P B LR ρ n
    (l.mapM fun | .tmp t => (pure (ts.getD t undef) : Sem Value) | .cell a t => do loadVar t (← asAddr (ts.getD a undef)))
    (l.mapM fun | .tmp t => (pure (ts'.getD t undef) : Sem Value) | .cell a t => do loadVar t (← asAddr (ts'.getD a undef)))
  | [], ρ, n, ts, ts', h => rel_pure .nil
  | x :: l, ρ, n, ts, ts', h => by
    rw [List.mapM_cons, List.mapM_cons]
    have h1 : Rel P B VR ρ n (match x with | .tmp t => (pure (ts.getD t undef) : Sem Value) | .cell a t => do loadVar t (← asAddr (ts.getD a undef))) (match x with | .tmp t => (pure (ts'.getD t undef) : Sem Value) | .cell a t => do loadVar t (← asAddr (ts'.getD a undef))) := by
      cases x with
      | tmp t => exact rel_pure (h.getD VR.undef t)
      | cell a t =>
        refine rel_bind (rel_asAddr (h.getD VR.undef a)) fun ρ1 n1 b b' e1 ⟨h1, h2⟩ => ?_
        subst h2
        exact rel_loadVar t h1
    refine rel_bind h1 fun ρ1 n1 v v' e1 hv => ?_
    refine rel_bind (rel_resultsL l (h.ex e1)) fun ρ2 n2 l l' e2 hl => ?_
    exact rel_pure (.cons (hv.ex e2) hl)
theorem LR.array {l l' : List Value} (h : LR ρ n l l') : AR ρ n l.toArray l'.toArray := by
  have hl : l.length = l'.length := by
    induction h with
    | nil => rfl
    | cons _ _ ih => simp [ih]
  refine .of_get? (by simpa using hl) fun i a b ha hb => ?_
  simp only [List.getElem?_toArray] at ha hb
  induction h generalizing i with
  | nil => simp at ha
  | cons hv _ ih =>
    cases i with
    | zero =>
      simp at ha hb
      subst ha; subst hb
      exact hv
    | succ i => exact ih (by simpa using hl) i (by simpa using ha) (by simpa using hb)
theorem rel_results (fn : Func) {ts ts' : Array Value} (h : AR ρ n ts ts') : Rel P B VR ρ n (results fn ts) (results fn ts') := by
  unfold results
  rw [Array.mapM_eq_mapM_toList, Array.mapM_eq_mapM_toList]
  have := rel_resultsL (P := P) (B := B) fn.results.toList h
  refine rel_bind (rel_bind this fun ρ1 n1 l l' e1 hl => rel_pure (A := AR) hl.array) fun ρ1 n1 xs ys e1 hxy => ?_
  refine rel_pure ?_
  obtain ⟨h1, h2⟩ := hxy
  by_cases hx : xs.size = 1
  · have hy : ys.size = 1 := h1 ▸ hx
    rw [dif_pos hx, dif_pos hy]
    exact h2 0 (by omega) (by omega)
  · have hy : ¬ ys.size = 1 := h1 ▸ hx
    rw [dif_neg hx, dif_neg hy]
    exact AR.tuple ⟨h1, h2⟩

/-- What a step comes to. -/
def GA (P : Program) (okB : Nat → Bool) (bL bC : List Frame) : Ren → Nat → Frame × List Frame → Frame × List Frame → Prop := fun ρ n x y =>
  FR P okB ρ n x.1 y.1 ∧ ∃ xs ys, x.2 = xs ++ bL ∧ y.2 = ys ++ bC ∧ CR P okB ρ n xs ys
theorem rel_gop (E : EnvC P okB) (hf : FR P okB ρ n fr fr') (hm : fr.mode = .run) {ops : Array Oper} {i : Nat} {rest : List Nat} {k : List Item} (ht : fr.todo = .inRegion ops (i :: rest) :: k) {o : Oper} (ho : ops[i]? = some o)
    (hc : CR P okB ρ n cs cs') (bL bC : List Frame) : Rel P B (GA P okB bL bC) ρ n (gop P fr (cs ++ bL) o) (gop P fr' (cs' ++ bC) o) := by
  have hi := hf.items
  rw [ht] at hi
  have hops : ops.all (opOk P okB) = true := hi _ (List.mem_cons_self ..)
  have hop : opOk P okB o = true := by
    obtain ⟨hlt, rfl⟩ := Array.getElem?_eq_some_iff.1 ho
    exact all_get hops i hlt
  unfold gop
  refine rel_bind (rel_exec E.toEnv hop (hf.eval E.toEnv)) fun ρ1 n1 a b e1 hab => ?_
  cases hab with
  | value hv => exact rel_pure ⟨(hf.ex e1).finish ht hv, cs, cs', rfl, rfl, hc.ex e1⟩
  | skip => exact rel_pure ⟨(hf.ex e1).finish ht VR.undef, cs, cs', rfl, rfl, hc.ex e1⟩
  | enter f hf' hxy => exact rel_pure ⟨fr_enter E hf' hxy, fr :: cs, fr' :: cs', rfl, rfl, .cons ⟨hf.ex e1, hm, _, _, _, _, ht⟩ (hc.ex e1)⟩
theorem rel_gsem (E : EnvC P okB) (hf : FR P okB ρ n fr fr') (hc : CR P okB ρ n cs cs') (bL bC : List Frame) (hr : fr.mode = .returning → cs ≠ []) :
    Rel P B (GA P okB bL bC) ρ n (gsem P fr (cs ++ bL)) (gsem P fr' (cs' ++ bC)) := by
  have hm' := hf.mode
  rcases hf.pl.mode with hm | hm
  · rw [hm] at hm'
    have hi := hf.items
    have ht' := hf.todo
    unfold gsem
    simp only [hm, hm', ht']
    have to_ : ∀ {t : List Item}, (∀ x ∈ t, itemOk P okB x = true) → Rel P B (GA P okB bL bC) ρ n (pure ({ fr with todo := t, mode := .run }, cs ++ bL)) (pure ({ fr' with todo := t, mode := .run }, cs' ++ bC)) := by
      intro t h
      have h1 := hf.todo_ h hm
      have e1 : ({ fr with todo := t } : Frame) = { fr with todo := t, mode := .run } := by rw [← hm]
      have e2 : ({ fr' with todo := t } : Frame) = { fr' with todo := t, mode := .run } := by rw [← hm']
      rw [e1, e2] at h1
      exact rel_pure ⟨h1, cs, cs', rfl, rfl, hc⟩
    have ret_ : Rel P B (GA P okB bL bC) ρ n (pure ({ fr with mode := .returning }, cs ++ bL)) (pure ({ fr' with mode := .returning }, cs' ++ bC)) :=
      rel_pure ⟨⟨⟨hf.pl.d, hf.pl.kind, hf.pl.round, .inr rfl⟩, ⟨hf.pl'.d, hf.pl'.kind, hf.pl'.round, .inr rfl⟩, hf.fn, hf.fok, hf.tmps, hf.todo, hf.items, rfl⟩, cs, cs', rfl, rfl, hc⟩
    have all2 : ∀ {a b : Item} {t : List Item}, itemOk P okB a = true → itemOk P okB b = true → (∀ x ∈ t, itemOk P okB x = true) → ∀ x ∈ a :: b :: t, itemOk P okB x = true := by
      intro a b t h1 h2 h3 x hx
      rcases List.mem_cons.1 hx with rfl | hx
      · exact h1
      rcases List.mem_cons.1 hx with rfl | hx
      · exact h2
      · exact h3 x hx
    have all1 : ∀ {a : Item} {t : List Item}, itemOk P okB a = true → (∀ x ∈ t, itemOk P okB x = true) → ∀ x ∈ a :: t, itemOk P okB x = true := by
      intro a t h1 h3 x hx
      rcases List.mem_cons.1 hx with rfl | hx
      · exact h1
      · exact h3 x hx
    cases htd : fr.todo with
    | nil => rw [ht', htd] at ret_; exact ret_
    | cons it k =>
      rw [htd] at hi
      have hk : ∀ x ∈ k, itemOk P okB x = true := fun x hx => hi x (List.mem_cons_of_mem _ hx)
      have h0 := hi it (List.mem_cons_self ..)
      cases it with
      | inBlock id => exact to_ hk
      | inLoop body => exact to_ (all2 (show codeOk P okB body = true from h0) h0 hk)
      | inRegion ops todo =>
        cases todo with
        | nil => exact to_ hk
        | cons i rest =>
          simp only [yielded_rel hf.tmps]
          split
          · cases ho : ops[i]? with
            | none => exact rel_halt
            | some o => exact rel_gop E hf hm htd ho hc bL bC
          · exact rel_pure ⟨hf.finish htd VR.undef, cs, cs', rfl, rfl, hc⟩
      | code c =>
        have h0 : codeOk P okB c = true := h0
        cases c with
        | skip => exact to_ hk
        | ret => rw [ht', htd] at ret_; exact ret_
        | exit id =>
          simp only
          cases he : exitTo id k with
          | none => exact rel_halt
          | some k' => exact to_ fun x hx => hk x (exitTo_mem he x hx)
        | region id ops draw =>
          have h0 : ops.all (opOk P okB) = true := h0
          cases draw with
          | false => exact to_ (all1 h0 hk)
          | true =>
            simp only [hf.fn]
            refine rel_bind (rel_choose _) fun ρ1 n1 a b e1 hab => ?_
            subst hab
            have h1 := (hf.ex e1).todo_ (t := .inRegion ops (Region.schedule (P.follows .mixedOrders) ops b) :: k) (all1 h0 hk) hm
            have e2 : ({ fr with todo := .inRegion ops (Region.schedule (P.follows .mixedOrders) ops b) :: k } : Frame) = { fr with todo := .inRegion ops (Region.schedule (P.follows .mixedOrders) ops b) :: k, mode := .run } := by rw [← hm]
            have e3 : ({ fr' with todo := .inRegion ops (Region.schedule (P.follows .mixedOrders) ops b) :: k } : Frame) = { fr' with todo := .inRegion ops (Region.schedule (P.follows .mixedOrders) ops b) :: k, mode := .run } := by rw [← hm']
            rw [e2, e3] at h1
            have h2 : Rel P B (GA P okB bL bC) ρ1 n1 (pure ({ fr with todo := .inRegion ops (Region.schedule (P.follows .mixedOrders) ops b) :: k, mode := .run }, cs ++ bL)) (pure ({ fr' with todo := .inRegion ops (Region.schedule (P.follows .mixedOrders) ops b) :: k, mode := .run }, cs' ++ bC)) :=
              rel_pure ⟨h1, cs, cs', rfl, rfl, hc.ex e1⟩
            rw [hf.fn] at h2
            exact h2
        | seq a b =>
          have h0 : (codeOk P okB a && codeOk P okB b) = true := h0
          simp only [Bool.and_eq_true] at h0
          exact to_ (all2 (show codeOk P okB a = true from h0.1) (show codeOk P okB b = true from h0.2) hk)
        | cond c a b =>
          have h0 : (opd okB c && codeOk P okB a && codeOk P okB b) = true := h0
          simp only [Bool.and_eq_true] at h0
          have hv := hf.eval E.toEnv c h0.1.1
          simp only
          by_cases hb : ∃ t, fr.eval c = .bool t
          · obtain ⟨t, ht⟩ := hb
            rw [ht, hv.boolL t ht]
            refine to_ (all1 ?_ hk)
            show codeOk P okB (if t = true then a else b) = true
            split
            · exact h0.1.2
            · exact h0.2
          · refine rel_no fun w x w' hrun => ?_
            split at hrun
            · rename_i t ht; exact hb ⟨t, ht⟩
            · exact run_stuck_no hrun
        | block id b => exact to_ (all2 (show codeOk P okB b = true from h0) rfl hk)
        | loop b => exact to_ (all2 (show codeOk P okB b = true from h0) (show codeOk P okB b = true from h0) hk)
        | _ => cases h0
      | _ => cases h0
  · rw [hm] at hm'
    unfold gsem
    simp only [hm, hm', hf.fn]
    cases hc with
    | nil => exact absurd rfl (hr hm)
    | @cons c c' l l' h1 h2 =>
      simp only [List.cons_append]
      cases hfn : P.funcs[fr.fn]? with
      | none => exact rel_halt
      | some fn =>
        refine rel_bind (rel_results fn hf.tmps) fun ρ1 n1 v v' e1 hv => ?_
        obtain ⟨ops, i, rest, k, ht⟩ := h1.at_
        exact rel_pure ⟨(h1.toFR.ex e1).finish ht hv, l, l', rfl, rfl, h2.ex e1⟩
end
end Go.Tw
/- Lone runs carried over to company, part 26: calm programs: what they leave; tapes that answer alike; a lone state answers to itself. -/
namespace Go.Tw
open Go Go.Conc
section
variable {P : Program}
/-- No access is referred on. -/
def Even (w : World) : Prop := ∀ (b : Nat) (o : Obj), w.heap[b]? = some o → oddObj o = false
theorem Even.far {w : World} (h : Even w) (a : Addr) (at_ : Bool) : ∃ s, w.farLoad P a at_ = .error (.stuck s) := by
  unfold World.farLoad World.noCell
  cases hb : w.heap[a.block]? with
  | none => exact ⟨_, rfl⟩
  | some o =>
    have := h _ _ hb
    cases o <;> first | (simp [oddObj] at this; done) | exact ⟨_, rfl⟩
theorem Even.farS {w : World} (h : Even w) (a : Addr) (v : Value) (at_ : Bool) : ∃ s, w.farStore P a v at_ = .error (.stuck s) := by
  unfold World.farStore World.noCell
  cases hb : w.heap[a.block]? with
  | none => exact ⟨_, rfl⟩
  | some o =>
    have := h _ _ hb
    cases o <;> first | (simp [oddObj] at this; done) | exact ⟨_, rfl⟩
theorem Even.set {w : World} (h : Even w) (a : Addr) (v : Value) : Even (w.setCell a v) := by
  intro b o hb
  unfold World.setCell at hb
  simp only [Array.getElem?_modify] at hb
  split at hb
  · cases hx : w.heap[b]? with
    | none => rw [hx] at hb; cases hb
    | some x =>
      rw [hx] at hb
      have := h _ _ hx
      simp only [Option.map_some, Option.some.injEq] at hb
      subst hb
      cases x <;> first | exact this | rfl
  · exact h _ _ hb
theorem Even.push {w : World} (h : Even w) {o : Obj} (ho : oddObj o = false) : Even { w with heap := w.heap.push o } := by
  intro b x hb
  simp only [Array.getElem?_push] at hb
  split at hb
  · cases hb; exact ho
  · exact h _ _ hb
theorem Even.freeze {w : World} (h : Even w) (a : Addr) (k : Nat) : Even (w.freeze a k) := by
  unfold World.freeze
  split
  · exact h
  · intro b o hb
    simp only [Array.getElem?_modify] at hb
    split at hb
    · cases hx : w.heap[b]? with
      | none => rw [hx] at hb; cases hb
      | some x =>
        rw [hx] at hb
        have := h _ _ hx
        simp only [Option.map_some, Option.some.injEq] at hb
        subst hb
        cases x <;> first | exact this | rfl
    · exact h _ _ hb
theorem calm_run {α : Type} {s : Sem α} (hs : Calm P s) : ∀ {w : World}, Even w → (∀ a w', s.run P w = .ok a w' → Even w') ∧ ∀ h w', s.run P w = .halt h w' → calmHalt h = true := by
  induction s with
  | pure a => intro w hw; exact ⟨fun b w' h => by cases h; exact hw, fun h w' e => by cases e⟩
  | load m a k ih =>
    intro w hw
    simp only [Sem.run]
    cases w.cell? a with
    | some v => exact ih v (hs v) hw
    | none =>
      obtain ⟨t, ht⟩ := hw.far (P := P) a (m == .atomic)
      rw [ht]
      exact ⟨fun b w' h => by (cases h), fun h w' e => by cases e; rfl⟩
  | store m a v k ih =>
    intro w hw
    rw [run_store]
    split
    · exact ⟨fun b w' h => by (cases h), fun h w' e => by cases e; rfl⟩
    · cases w.cell? a with
      | some x =>
        simp only
        split
        · exact ⟨fun b w' h => by (cases h), fun h w' e => by cases e; rfl⟩
        · exact ih hs (hw.set _ _)
      | none =>
        obtain ⟨t, ht⟩ := hw.farS (P := P) a v (m == .atomic)
        simp only [ht]
        exact ⟨fun b w' h => by (cases h), fun h w' e => by cases e; rfl⟩
  | new o k ih => intro w hw; simp only [Sem.run]; exact ih _ (hs.2 _) (hw.push hs.1)
  | shape r k ih => intro w hw; simp only [Sem.run]; exact ih _ (hs _) hw
  | freeze a n k ih => intro w hw; simp only [Sem.run]; exact ih hs (hw.freeze _ _)
  | frozen a k ih => intro w hw; simp only [Sem.run]; exact ih _ (hs _) hw
  | getObj r k ih =>
    intro w hw
    simp only [Sem.run]
    split
    · exact ⟨fun b w' h => by (cases h), fun h w' e => by cases e; rfl⟩
    · exact ih _ (hs _) hw
    · exact ⟨fun b w' h => by (cases h), fun h w' e => by cases e; rfl⟩
  | setObj r o k ih => exact hs.elim
  | choose q k ih =>
    intro w hw
    simp only [Sem.run]
    split
    · exact ih _ (hs _) hw
    · exact ih _ (hs _) (w := { w with drawn := w.drawn + 1 }) hw
  | sys c k ih => exact hs.elim
  | program k ih => intro w hw; simp only [Sem.run]; exact ih _ hs hw
  | mark m k ih => intro w hw; simp only [Sem.run]; exact ih hs hw
  | halt e => intro w hw; exact ⟨fun b w' h => by (cases h), fun h w' e => by cases e; exact hs⟩

/-- The world with another tape, and another count of answers taken. -/
def wt (w : World) (T : Nat → Question → Nat) (d : Nat) : World := { w with tape := T, drawn := d }
/-- A run looks at the tape alone where it takes answers. -/
theorem calm_tape {α : Type} {s : Sem α} (hs : Calm P s) : ∀ {w : World}, Even w → ∀ {a : α} {w' : World}, s.run P w = .ok a w' → ∀ (T : Nat → Question → Nat) (d : Nat), (∀ i, w.drawn + i < w'.drawn → ∀ q, T (d + i) q = w.tape (w.drawn + i) q) →
    s.run P (wt w T d) = .ok a (wt w' T (d + (w'.drawn - w.drawn))) := by
  induction s with
  | pure a => intro w hw b w' h T d hT; cases h; simp [Sem.run]
  | load m a k ih =>
    intro w hw b w' h T d hT
    simp only [Sem.run] at h ⊢
    have hc : (wt w T d).cell? a = w.cell? a := rfl
    rw [hc]
    cases hv : w.cell? a with
    | some v => rw [hv] at h; exact ih v (hs v) hw h T d hT
    | none =>
      rw [hv] at h
      obtain ⟨t, ht⟩ := hw.far (P := P) a (m == .atomic)
      rw [ht] at h
      cases h
  | store m a v k ih =>
    intro w hw b w' h T d hT
    rw [run_store] at h ⊢
    split at h
    · cases h
    · rename_i hm
      rw [if_neg hm]
      have hc : (wt w T d).cell? a = w.cell? a := rfl
      have hf : (wt w T d).frozen? a = w.frozen? a := rfl
      rw [hc, hf]
      cases hv : w.cell? a with
      | some x =>
        rw [hv] at h
        simp only at h ⊢
        split at h
        · cases h
        · rename_i hfz
          rw [if_neg hfz]
          exact ih hs (hw.set _ _) h T d hT
      | none =>
        rw [hv] at h
        obtain ⟨t, ht⟩ := hw.farS (P := P) a v (m == .atomic)
        simp only [ht] at h
        cases h
  | new o k ih => intro w hw b w' h T d hT; simp only [Sem.run] at h ⊢; exact ih _ (hs.2 _) (hw.push hs.1) h T d hT
  | shape r k ih => intro w hw b w' h T d hT; simp only [Sem.run] at h ⊢; exact ih _ (hs _) hw h T d hT
  | freeze a n k ih =>
    intro w hw b w' h T d hT
    simp only [Sem.run] at h ⊢
    have := ih hs (hw.freeze a n) h T d (by
      intro i hi q
      have h1 := freeze_gr w a n
      have : (w.freeze a n).drawn = w.drawn := by unfold World.freeze; split <;> rfl
      rw [this] at hi ⊢
      rw [h1.1]
      exact hT i hi q)
    have e1 : (w.freeze a n).drawn = w.drawn := by unfold World.freeze; split <;> rfl
    have e2 : wt (w.freeze a n) T d = (wt w T d).freeze a n := by unfold World.freeze wt; split <;> rfl
    rw [e1, e2] at this
    exact this
  | frozen a k ih => intro w hw b w' h T d hT; simp only [Sem.run] at h ⊢; exact ih _ (hs _) hw h T d hT
  | getObj r k ih =>
    intro w hw b w' h T d hT
    simp only [Sem.run] at h ⊢
    have hh : (wt w T d).heap = w.heap := rfl
    rw [hh]
    split at h
    · cases h
    · rename_i o hne ho
      exact ih o (hs o) hw h T d hT
    · cases h
  | setObj r o k ih => exact hs.elim
  | choose q k ih =>
    intro w hw b w' h T d hT
    simp only [Sem.run] at h ⊢
    split at h
    · rename_i hq
      rw [if_pos hq]
      exact ih _ (hs _) hw h T d hT
    · rename_i hq
      rw [if_neg hq]
      have hg := run_gr P _ _ _ _ h
      have hd : w.drawn + 1 ≤ w'.drawn := hg.2
      have h0 := hT 0 (by omega) q
      simp only [Nat.add_zero] at h0
      have e0 : (wt w T d).tape (wt w T d).drawn q = w.tape w.drawn q := h0
      rw [e0]
      have := ih _ (hs _) (w := { w with drawn := w.drawn + 1 }) hw h T (d + 1) (by
        intro i hi q'
        have hi' : w.drawn + (i + 1) < w'.drawn := by
          have : w.drawn + 1 + i < w'.drawn := hi
          omega
        have := hT (i + 1) hi' q'
        have e1 : d + 1 + i = d + (i + 1) := by omega
        have e2 : w.drawn + 1 + i = w.drawn + (i + 1) := by omega
        show T (d + 1 + i) q' = w.tape (w.drawn + 1 + i) q'
        rw [e1, e2]
        exact this)
      have e3 : d + 1 + (w'.drawn - ({ w with drawn := w.drawn + 1 } : World).drawn) = d + (w'.drawn - w.drawn) := by
        show d + 1 + (w'.drawn - (w.drawn + 1)) = _
        omega
      rw [e3] at this
      exact this
  | sys c k ih => exact hs.elim
  | program k ih => intro w hw b w' h T d hT; simp only [Sem.run] at h ⊢; exact ih _ hs hw h T d hT
  | mark m k ih => intro w hw b w' h T d hT; simp only [Sem.run] at h ⊢; exact ih hs hw h T d hT
  | halt e => intro w hw b w' h; cases h
end
end Go.Tw
/- Lone runs carried over to company, part 27: a lone state answers to itself; what its step can be. -/
namespace Go.Tw
open Go Go.Conc
variable [FnSet]
abbrev idr : Ren := fun b => b
section
variable {P : Program} {B : Nat} {okB : Nat → Bool} {ρ : Ren} {n : Nat}
theorem VR.self {v v' : Value} (h : VR ρ n v v') : VR idr n v v := by
  induction h with
  | bool b => exact .bool b
  | int k x => exact .int k x
  | float k x => exact .float k x
  | str s => exact .str s
  | pnil => exact .pnil
  | ptr a ha => exact .ptr a ha
  | snil l c => exact .snil l c
  | sz p => exact .snil 0 0
  | sl a l c ha => exact .sl a l c ha
  | fn f xs ys xs' ys' h0 h1 h2 _ _ ih1 ih2 => exact .fn f _ _ _ _ h0 rfl rfl (fun i h _ => ih1 i h (h1 ▸ h)) (fun i h _ => ih2 i h (h2 ▸ h))
  | fnil => exact .fnil
  | inil => exact .inil
  | poison v' h => exact .poison _ rfl
  | agg xs ys h _ ih => exact .agg _ _ rfl fun i hi _ => ih i hi (h ▸ hi)
  | tup xs ys h _ ih => exact .tup _ _ rfl fun i hi _ => ih i hi (h ▸ hi)
theorem AR.self {xs ys : Array Value} (h : AR ρ n xs ys) : AR idr n xs xs := ⟨rfl, fun i hi _ => (h.2 i hi (h.1 ▸ hi)).self⟩
theorem FR.self {f f' : Frame} (h : FR P okB ρ n f f') : FR P okB idr n f f := ⟨h.pl, h.pl, rfl, h.fok, h.tmps.self, rfl, h.items, rfl⟩
theorem CR.self {l l' : List Frame} (h : CR P okB ρ n l l') : CR P okB idr n l l := by
  induction h with
  | nil => exact .nil
  | cons h _ ih => exact .cons ⟨h.toFR.self, h.run, h.at_⟩ ih
theorem WR.self {w w' : World} (h : WR B ρ n w w') : WR B idr n w w := by
  refine ⟨h.size, h.base, fun _ _ => rfl, fun _ _ _ _ e => e, fun b o hcb hb => ?_, h.cbn, fun b hb => by rw [h.size]; exact hb, h.frz⟩
  obtain ⟨o', _, ho⟩ := h.obj b o hcb hb
  refine ⟨o, hb, ?_⟩
  cases ho with
  | cells c c' e f f' h1 h2 => exact .cells _ _ _ _ _ h1.self fun i a b => ⟨a, b⟩
  | number a l ha => exact .number a l ha

/-- The lone goroutine's state. -/
structure LI (P : Program) (okB : Nat → Bool) (B n : Nat) (fr : Frame) (cs : List Frame) (w : World) : Prop where
  hf : FR P okB idr n fr fr
  hc : CR P okB idr n cs cs
  hw : WR B idr n w w
  even : Even w
  at_ : fr.mode = .returning → cs ≠ []

theorem calm_results (fn : Func) (ts : Array Value) : Calm P (results fn ts) := by
  unfold results
  refine calm_bind (calm_mapA _ (fun x => ?_) _) fun _ => trivial
  cases x with
  | tmp t => exact calm_pure _
  | cell a t => exact calm_bind (calm_asAddr _) fun _ => calm_loadVar _ _
theorem calm_gop (E : EnvC P okB) {fr : Frame} (hf : FR P okB idr n fr fr) {o : Oper} (ho : opOk P okB o = true) (cs : List Frame) : Calm P (gop P fr cs o) := by
  unfold gop
  refine calm_bind (calm_exec E.toEnv ho (hf.eval E.toEnv)) fun nx => ?_
  cases nx <;> first | exact calm_pure _ | exact calm_stuck _
theorem calm_gsem (E : EnvC P okB) {fr : Frame} (hf : FR P okB idr n fr fr) (cs : List Frame) : Calm P (gsem P fr cs) := by
  unfold gsem
  split
  · split <;> first
      | exact calm_pure _
      | exact calm_stuck _
      | skip
    · split <;> first | exact calm_pure _ | exact calm_stuck _
    · split <;> first | exact calm_pure _ | exact calm_stuck _
    · split
      · exact calm_pure _
      · exact calm_bind (calm_choose _) fun _ => calm_pure _
    · rename_i ops i rest k ht
      split
      · split
        · rename_i o ho
          have hi := hf.items
          rw [ht] at hi
          have hops : ops.all (opOk P okB) = true := hi _ (List.mem_cons_self ..)
          obtain ⟨hlt, rfl⟩ := Array.getElem?_eq_some_iff.1 ho
          exact calm_gop E hf (all_get hops i hlt) cs
        · exact calm_stuck _
      · exact calm_pure _
  · split
    · split
      · exact calm_stuck _
      · exact calm_bind (calm_results _ _) fun _ => calm_pure _
    · exact calm_stuck _
  · exact calm_stuck _
theorem LI.step (E : EnvC P okB) {fr : Frame} {cs bL : List Frame} {w w' : World} {y : Frame × List Frame} (h : LI P okB B n fr cs w) (hr : (gsem P fr (cs ++ bL)).run P w = .ok y w') :
    ∃ n' zs, n ≤ n' ∧ y.2 = zs ++ bL ∧ FR P okB idr n' y.1 y.1 ∧ CR P okB idr n' zs zs ∧ WR B idr n' w' w' ∧ Even w' := by
  obtain ⟨ρ', n', b, wC', e, r1, ⟨a1, xs, ys, h1, h2, h3⟩, w1, g1, d1, _⟩ := rel_gsem (B := B) E h.hf h.hc bL bL h.at_ w w h.hw y w' hr (fun i _ q => rfl)
  rw [hr] at r1
  cases r1
  exact ⟨n', xs, e.le, h1, a1.self, h3.self, w1.self, (calm_run (calm_gsem E h.hf _) h.even).1 _ _ hr⟩
end
end Go.Tw
/- Lone runs carried over to company, part 28: the machine of one, step by step; what a function's contract says of its steps. -/
namespace Go.Tw
open Go Go.Conc

/-- The frame at the bottom of the lone goroutine's row: whatever comes back to it, it gets stuck. -/
def bot : Frame := { fn := 0, tmps := #[], todo := [], defers := [{ target := .builtin .make #[] 0 #[], args := #[] }], mode := .returning, kind := .normal }
theorem lone_inj {fr fr' : Frame} {cs cs' : List Frame} {w w' : World} (h : lone fr cs w = lone fr' cs' w') : fr = fr' ∧ cs = cs' ∧ w = w' := by
  simp [lone] at h
  exact ⟨h.2.1, h.2.2, h.1⟩
section
variable {P : Program}
theorem step_gsem {fr fr' : Frame} {cs cs' : List Frame} {w w' : World} (hp : Pl fr) (h : (gsem P fr cs).run P w = .ok (fr', cs') w') : step P (lone fr cs w) = .next (lone fr' cs' w') := by
  refine step_lone_go ?_
  have := gsem_step (main := true) hp h
  unfold G at this
  rw [this]
  rfl
theorem step_panic {fr : Frame} {cs : List Frame} {w : World} {chain : List PanicEntry} (hm : fr.mode = .panicking chain) (hd : fr.defers = []) (c : Frame) :
    (∃ o w', step P (lone fr (c :: cs) w) = .ended o w') ∨ step P (lone fr (c :: cs) w) = .next (lone (c.raise chain) cs w) := by
  by_cases hc : fr.catches P = true
  · refine .inl ⟨_, _, step_lone_ended (w' := w) (o := .unsupported (.noEntry "a panic or Goexit out of a method that fmt calls behind a cut's door") (fr.pos P)) ?_⟩
    simp [stepG, unwind, hm, hd, hc]
  · refine .inr (step_lone_go ?_)
    simp [stepG, unwind, hm, hd, hc]
theorem bot_raised {w : World} {chain : List PanicEntry} : ∃ o w', step P (lone (bot.raise chain) [] w) = .ended o w' := by
  refine ⟨_, _, step_lone_ended (w' := w) (o := .stuck "make, new: Elab turns them into operations of their own" (({ bot with mode := .panicking chain, defers := [] } : Frame).pos P)) ?_⟩
  simp [stepG, unwind, bot, Frame.raise, callDeferred, invoke, builtin, stuck, Sem.run]
theorem bot_finished {w : World} {v : Value} : ∃ o w', step P (lone (bot.finish v) [] w) = .ended o w' := by
  refine ⟨_, _, step_lone_ended (w' := w) (o := .stuck "make, new: Elab turns them into operations of their own" (({ bot with defers := [] } : Frame).pos P)) ?_⟩
  simp [stepG, unwind, bot, Frame.finish, callDeferred, invoke, builtin, stuck, Sem.run]
/-- A panic never comes to a return. -/
theorem panic_never : ∀ (cs : List Frame) (N : Nat) {fr : Frame} {w : World} {chain : List PanicEntry}, fr.mode = .panicking chain → fr.defers = [] → (∀ f ∈ cs, f.defers = [] ∧ f.mode = .run) →
    ∀ {frE : Frame} {wE : World}, frE.mode = .returning → runN P N (lone fr (cs ++ [bot]) w) = .next (lone frE [bot] wE) → False := by
  intro cs
  induction cs with
  | nil =>
    intro N fr w chain hm hd _ frE wE hE h
    cases N with
    | zero =>
      simp only [runN, Stepped.next.injEq] at h
      rw [(lone_inj h).1, hE] at hm
      cases hm
    | succ N =>
      rcases step_panic (P := P) (cs := []) (w := w) hm hd bot with ⟨o, w', hs⟩ | hs
      · simp [runN, hs] at h
      · simp only [runN, List.nil_append, hs] at h
        cases N with
        | zero =>
          simp only [runN, Stepped.next.injEq] at h
          exact absurd (lone_inj h).2.1 (by simp)
        | succ N =>
          obtain ⟨o, w', hs'⟩ := bot_raised (P := P) (w := w) (chain := chain)
          simp [runN, hs'] at h
  | cons c cs ih =>
    intro N fr w chain hm hd hc frE wE hE h
    cases N with
    | zero =>
      simp only [runN, Stepped.next.injEq] at h
      rw [(lone_inj h).1, hE] at hm
      cases hm
    | succ N =>
      rcases step_panic (P := P) (cs := cs ++ [bot]) (w := w) hm hd c with ⟨o, w', hs⟩ | hs
      · simp [runN, hs] at h
      · simp only [runN, List.cons_append, hs] at h
        have h1 := hc c (List.mem_cons_self ..)
        have hr : c.raise chain = { c with mode := .panicking chain } := by unfold Frame.raise; rw [h1.2]
        rw [hr] at h
        exact ih N (fr := { c with mode := .panicking chain }) (chain := chain) rfl h1.1 (fun f hf => hc f (List.mem_cons_of_mem _ hf)) hE h

/-- A row of steps that end at the return into the bottom frame. -/
inductive Ch (P : Program) : Frame → List Frame → World → Frame → World → Prop
  | done (fr : Frame) (w : World) : Ch P fr [] w fr w
  | step {fr fr1 frE : Frame} {cs cs1 : List Frame} {w w1 wE : World} : (gsem P fr (cs ++ [bot])).run P w = .ok (fr1, cs1 ++ [bot]) w1 → (fr.mode = .returning → cs ≠ []) → Ch P fr1 cs1 w1 frE wE → Ch P fr cs w frE wE
end
variable [FnSet]
section
variable {P : Program} {B : Nat} {okB : Nat → Bool}
theorem LI.bad (E : EnvC P okB) {n : Nat} {fr : Frame} {cs bL : List Frame} {w w' : World} {e : Halt} (h : LI P okB B n fr cs w) (hr : (gsem P fr (cs ++ bL)).run P w = .halt e w') :
    (∃ o w', Go.step P (lone fr (cs ++ bL) w) = .ended o w') ∨ ∃ w1 chain, Go.step P (lone fr (cs ++ bL) w) = .next (lone { fr with mode := .panicking chain } (cs ++ bL) w1) := by
  have hp := h.hf.pl
  rcases hp.mode with hm | hm
  · have hf := hp.at_ hm
    have hi := h.hf.items
    unfold gsem at hr
    simp only [hm] at hr
    have nop : ∀ {x : Frame × List Frame} {w0 : World}, (pure x : Sem (Frame × List Frame)).run P w0 = .halt e w' → False := fun h => by cases h
    have ended : ∀ {o : Outcome} {w1 : World} {es : Array Event}, stepG P true (G fr (cs ++ bL)) w = .ended o w1 es → ∃ o w', Go.step P (lone fr (cs ++ bL) w) = .ended o w' := by
      intro o w1 es hs
      refine ⟨o, w1, step_lone_ended ?_⟩
      unfold G at hs
      rw [hs]
      rfl
    split at hr <;> first
      | exact (nop hr).elim
      | skip
    · rename_i c thn els k ht
      split at hr
      · exact (nop hr).elim
      · rename_i hb
        refine .inl (ended (o := .stuck "cond: bool expected" (fr.pos P)) (w1 := w) (es := #[]) ?_)
        have : ∀ b, fr.eval c ≠ .bool b := fun b hh => hb b hh
        simp only [stepG, G, hm, stepG.exec, ht]
    · rename_i id k ht
      split at hr
      · exact (nop hr).elim
      · rename_i he
        refine .inl (ended (o := .stuck "exit, goto: no such block or label" (fr.pos P)) (w1 := w) (es := #[]) ?_)
        simp [stepG, G, hm, stepG.exec, ht, he, hp.round]
    · rename_i id ops draw k ht
      split at hr
      · exact (nop hr).elim
      · rw [Sem.run_bind] at hr
        have hc : (choose (.order fr.fn id)).run P w = .ok (w.tape w.drawn (.order fr.fn id)) { w with drawn := w.drawn + 1 } := by
          simp [choose, Sem.run, Question.forced, Question.cut]
        rw [hc] at hr
        exact (nop (w0 := { w with drawn := w.drawn + 1 }) hr).elim
    · rename_i ops i rest k ht
      split at hr
      · rename_i hw
        split at hr
        · rename_i o ho
          have hops : ops.all (opOk P okB) = true := by
            rw [ht] at hi
            exact hi _ (List.mem_cons_self ..)
          have hop : opOk P okB o = true := by
            obtain ⟨hlt, rfl⟩ := Array.getElem?_eq_some_iff.1 ho
            exact all_get hops i hlt
          have hcalm := calm_run (calm_exec E.toEnv hop (h.hf.eval E.toEnv)) h.even
          have hwf := rel_exec (B := B) E.toEnv hop (h.hf.eval E.toEnv) w w h.hw
          simp only [ho, Option.map_some, Option.getD_some] at hw
          unfold gop at hr
          rw [Sem.run_bind] at hr
          rw [ht] at hf
          have hs := stepG_oper (P := P) (main := true) (b := base fr.fn) (a := ⟨fr.tmps, []⟩) (rest := rest) (k := k) (cs := cs ++ bL) (w := w) ho hw
          have he : fr.eval = (⟨fr.tmps, []⟩ : Act).eval := by rw [hf]; exact Frame.eval_at' _ _ _
          rw [← hf, ← he] at hs
          cases hx : (execOp fr.eval o).run P w with
          | ok nx w1 =>
            rw [hx] at hr
            obtain ⟨_, _, b, _, _, _, hab, _⟩ := hwf nx w1 hx (fun i _ q => rfl)
            cases hab <;> exact (nop (w0 := w1) hr).elim
          | halt q w1 =>
            have hq := hcalm.2 _ _ hx
            have hap : ∀ g, stepG.apply P true fr (cs ++ bL) none (execOp fr.eval o) w = g → stepG P true (G fr (cs ++ bL)) w = g := fun g hg => hs.trans hg
            cases q with
            | panic v =>
              refine .inr ⟨w1, [{ v, recovered := false }], step_lone_go ?_⟩
              have := hap _ rfl
              unfold G at this
              rw [this]
              simp [stepG.apply, hx, GStep.after, Frame.raise, hm]
            | stuck s =>
              have hg := hap _ rfl
              simp [stepG.apply, hx, GStep.after] at hg
              exact .inl (ended hg)
            | unsupported u =>
              cases u with
              | initOrder g => simp [calmHalt] at hq
              | _ =>
                have hg := hap _ rfl
                simp [stepG.apply, hx, GStep.after] at hg
                exact .inl (ended hg)
            | _ => simp [calmHalt] at hq
        · rename_i ho
          rw [ho] at hw
          simp at hw
      · exact (nop hr).elim
    · exfalso
      clear hf hr ended nop hp
      cases ht : fr.todo with
      | nil => simp_all
      | cons it k =>
        have h0 := hi it (by rw [ht]; exact List.mem_cons_self ..)
        cases it with
        | code c =>
          cases c with
          | region id ops draw => exact ‹∀ (id : Nat) (ops : Array Oper) (draw : Bool) (k : List Item), fr.todo = .code (.region id ops draw) :: k → False› _ _ _ _ ht
          | cond c a b => exact ‹∀ (c : Operand) (thn els : Code) (k : List Item), fr.todo = .code (.cond c thn els) :: k → False› _ _ _ _ ht
          | _ => first | (simp [itemOk, codeOk] at h0; done) | simp_all
        | inRegion ops t =>
          cases t with
          | nil => simp_all
          | cons i rest => exact ‹∀ (ops : Array Oper) (i : Nat) (rest : List Nat) (tail : List Item), fr.todo = .inRegion ops (i :: rest) :: tail → False› _ _ _ _ ht
        | _ => first | (simp [itemOk] at h0; done) | simp_all
  · unfold gsem at hr
    simp only [hm] at hr
    cases hcs : cs with
    | nil => exact absurd hcs (h.at_ hm)
    | cons c rest =>
      rw [hcs] at hr
      simp only [List.cons_append] at hr ⊢
      split at hr
      · rename_i hfn
        obtain ⟨fn, h1, _⟩ := E.bodies _ h.hf.fok
        rw [h1] at hfn; cases hfn
      · rename_i fn hfn
        rw [Sem.run_bind] at hr
        cases hx : (results fn fr.tmps).run P w with
        | ok v w1 => rw [hx] at hr; cases hr
        | halt q w1 =>
          cases q with
          | stuck s =>
            refine .inl ⟨.stuck s (fr.pos P), w1, step_lone_ended ?_⟩
            simp [stepG, unwind, hm, hp.d, hfn, hx, GStep.after]
          | _ =>
            refine .inl ⟨.stuck "return: the result variables cannot be read" (fr.pos P), w1, step_lone_ended ?_⟩
            simp [stepG, unwind, hm, hp.d, hfn, hx, GStep.after]
end
end Go.Tw
/- Lone runs carried over to company, part 29: a function's contract, as a tree of steps: whatever answers are given at each of them. -/
namespace Go.Tw
open Go Go.Conc
theorem step_ret {P : Program} {fr c : Frame} {rest : List Frame} {w : World} (hp : Pl fr) (hm : fr.mode = .returning) {fn : Func} (hf : P.funcs[fr.fn]? = some fn) :
    (∃ o w', Go.step P (lone fr (c :: rest) w) = .ended o w') ∨ ∃ v w', (results fn fr.tmps).run P w = .ok v w' ∧ Go.step P (lone fr (c :: rest) w) = .next (lone (c.finish v) rest w') := by
  cases hx : (results fn fr.tmps).run P w with
  | ok v w1 =>
    refine .inr ⟨v, w1, rfl, step_lone_go ?_⟩
    simp [stepG, unwind, hm, hp.d, hf, hx, doReturn, hp.kind, GStep.after]
  | halt q w1 =>
    cases q with
    | stuck s =>
      refine .inl ⟨.stuck s (fr.pos P), w1, step_lone_ended ?_⟩
      simp [stepG, unwind, hm, hp.d, hf, hx, GStep.after]
    | _ =>
      refine .inl ⟨.stuck "return: the result variables cannot be read" (fr.pos P), w1, step_lone_ended ?_⟩
      simp [stepG, unwind, hm, hp.d, hf, hx, GStep.after]
variable [FnSet]
section
variable {P : Program} {B : Nat} {okB : Nat → Bool}
theorem CR.plain {ρ : Ren} {n : Nat} {l l' : List Frame} (h : CR P okB ρ n l l') : ∀ f ∈ l, f.defers = [] ∧ f.mode = .run := by
  induction h with
  | nil => intro f hf; cases hf
  | cons h _ ih =>
    intro f hf
    rcases List.mem_cons.1 hf with rfl | hf
    · exact ⟨h.pl.d, h.run⟩
    · exact ih f hf
theorem chain_of_run (E : EnvC P okB) : ∀ (N : Nat) {n : Nat} {fr : Frame} {cs : List Frame} {w : World}, LI P okB B n fr cs w → ∀ {frE : Frame} {wE : World}, frE.mode = .returning →
    runN P N (lone fr (cs ++ [bot]) w) = .next (lone frE [bot] wE) → Ch P fr cs w frE wE := by
  intro N
  induction N with
  | zero =>
    intro n fr cs w hl frE wE hE h
    simp only [runN, Stepped.next.injEq] at h
    obtain ⟨h1, h2, h3⟩ := lone_inj h
    have : cs = [] := by
      have := congrArg List.length h2
      simp at this
      exact this
    subst this; subst h1; subst h3
    exact .done _ _
  | succ N ih =>
    intro n fr cs w hl frE wE hE h
    cases hr : (gsem P fr (cs ++ [bot])).run P w with
    | ok y w1 =>
      obtain ⟨y1, y2⟩ := y
      obtain ⟨n', zs, hn, hz, hf, hc, hw, he⟩ := hl.step E hr
      simp only at hz hf
      subst hz
      have hs := step_gsem hl.hf.pl hr
      simp only [runN, hs] at h
      by_cases hq : y1.mode = .returning ∧ zs = []
      · obtain ⟨hq1, rfl⟩ := hq
        cases N with
        | zero =>
          simp only [runN, Stepped.next.injEq] at h
          obtain ⟨h1, _, h3⟩ := lone_inj h
          subst h1; subst h3
          exact .step hr hl.at_ (.done _ _)
        | succ N =>
          obtain ⟨fn, hfn, _⟩ := E.bodies _ hf.fok
          rcases step_ret (w := w1) (c := bot) (rest := []) hf.pl hq1 hfn with ⟨o, w', hs'⟩ | ⟨v, w', _, hs'⟩
          · simp [runN, hs'] at h
          · simp only [runN, List.nil_append, hs'] at h
            cases N with
            | zero =>
              simp only [runN, Stepped.next.injEq] at h
              exact absurd (lone_inj h).2.1 (by simp)
            | succ N =>
              obtain ⟨o, w'', hs''⟩ := bot_finished (P := P) (w := w') (v := v)
              simp [runN, hs''] at h
      · exact .step hr hl.at_ (ih ⟨hf, hc, hw, he, fun a b => hq ⟨a, b⟩⟩ hE h)
    | halt e w1 =>
      rcases hl.bad E hr with ⟨o, w', hs⟩ | ⟨w2, chain, hs⟩
      · simp [runN, hs] at h
      · simp only [runN, hs] at h
        exact (panic_never cs N (fr := { fr with mode := .panicking chain }) (chain := chain) rfl hl.hf.pl.d hl.hc.plain hE h).elim
/-- What the contract says, on one tape. -/
theorem chain_of_fnp (E : EnvC P okB) {n f : Nat} (hf : FnSet.ok f) {args : Array Value} {w : World} (ha : AR idr n args args) (hw : WR B idr n w w) (he : Even w) {K : Value → World → Prop} (h : Calls P f args w fun e w' => ∃ v, e = .returned v ∧ K v w') :
    ∃ frE wE v fn, Ch P (Frame.enter P f args .normal) [] w frE wE ∧ frE.mode = .returning ∧ P.funcs[frE.fn]? = some fn ∧ (results fn frE.tmps).run P wE = .ok v wE ∧ K v wE := by
  obtain ⟨e, w', fr, ⟨v, rfl, hK⟩, ⟨N, hN⟩, _, hm, hd, hk, fn, hfn, hres⟩ := h [bot]
  refine ⟨fr, w', v, fn, ?_, hm, hfn, hres, hK⟩
  exact chain_of_run E N (cs := []) ⟨fr_enter E hf ha, .nil, hw, he, fun h => by simp [Frame.enter] at h⟩ hm hN

/-- A tree of steps: whatever answers are given. -/
inductive LT (P : Program) (Q : Value → World → Prop) : Frame → List Frame → World → Prop
  | leave (fr : Frame) (w : World) (fn : Func) (v : Value) : fr.mode = .returning → P.funcs[fr.fn]? = some fn → (∀ T d, (results fn fr.tmps).run P (wt w T d) = .ok v (wt w T d)) → Q v w → LT P Q fr [] w
  | step (fr : Frame) (cs : List Frame) (w : World) (nx : (Nat → Question → Nat) → Nat → Frame × List Frame × World) : (fr.mode = .returning → cs ≠ []) →
      (∀ T d, (gsem P fr (cs ++ [bot])).run P (wt w T d) = .ok ((nx T d).1, (nx T d).2.1 ++ [bot]) (nx T d).2.2) → (∀ T d, LT P Q (nx T d).1 (nx T d).2.1 (nx T d).2.2) → LT P Q fr cs w
end
end Go.Tw
/- Lone runs carried over to company, part 30: a function's contract is a tree of steps: whatever answers are given at each of them, it comes to an end. -/
namespace Go.Tw
open Go Go.Conc
structure St where
  fr : Frame
  cs : List Frame
  w : World
abbrev TapeF := Nat → Question → Nat
def St.at_ (x : St) (T : TapeF) (d : Nat) : St := { x with w := wt x.w T d }
/-- One step. -/
def St1 (P : Program) (x y : St) : Prop := (gsem P x.fr (x.cs ++ [bot])).run P x.w = .ok (y.fr, y.cs ++ [bot]) y.w ∧ (x.fr.mode = .returning → x.cs ≠ [])
def PaN (P : Program) : Nat → St → St → Prop
  | 0, x, y => x = y
  | k + 1, x, y => ∃ z, St1 P x z ∧ PaN P k z y
section
variable {P : Program}
theorem PaN.snoc : ∀ {k : Nat} {x y z : St}, PaN P k x y → St1 P y z → PaN P (k + 1) x z
  | 0, x, y, z, h, h' => by cases h; exact ⟨z, h', rfl⟩
  | k + 1, x, y, z, ⟨u, h1, h2⟩, h' => ⟨u, h1, PaN.snoc h2 h'⟩
theorem St1.det {x y z : St} (h : St1 P x y) (h' : St1 P x z) : y = z := by
  have := h.1.symm.trans h'.1
  obtain ⟨yf, yc, yw⟩ := y
  obtain ⟨zf, zc, zw⟩ := z
  simp only [Result.ok.injEq, Prod.mk.injEq, List.append_cancel_right_eq] at this
  obtain ⟨⟨rfl, rfl⟩, rfl⟩ := this
  rfl
theorem Ch.bound {fr frE : Frame} {cs : List Frame} {w wE : World} (h : Ch P fr cs w frE wE) (hE : frE.mode = .returning) : ∃ L, ∀ k y, PaN P k ⟨fr, cs, w⟩ y → k ≤ L := by
  induction h with
  | done fr w =>
    refine ⟨0, fun k y hk => ?_⟩
    cases k with
    | zero => exact Nat.le_refl _
    | succ k =>
      obtain ⟨z, h1, _⟩ := hk
      exact absurd rfl (h1.2 hE)
  | step h1 h2 _ ih =>
    obtain ⟨L, hL⟩ := ih hE
    refine ⟨L + 1, fun k y hk => ?_⟩
    cases k with
    | zero => omega
    | succ k =>
      obtain ⟨z, hz, hk⟩ := hk
      have := hz.det (z := ⟨_, _, _⟩) ⟨h1, h2⟩
      subst this
      exact Nat.succ_le_succ (hL k y hk)
theorem Ch.pass {fr frE : Frame} {cs : List Frame} {w wE : World} (h : Ch P fr cs w frE wE) (hE : frE.mode = .returning) : ∀ {k : Nat} {y : St}, PaN P k ⟨fr, cs, w⟩ y → Ch P y.fr y.cs y.w frE wE := by
  induction h with
  | done fr w =>
    intro k y hk
    cases k with
    | zero => cases hk; exact .done _ _
    | succ k =>
      obtain ⟨z, h1, _⟩ := hk
      exact absurd rfl (h1.2 hE)
  | step h1 h2 h3 ih =>
    intro k y hk
    cases k with
    | zero => cases hk; exact .step h1 h2 h3
    | succ k =>
      obtain ⟨z, hz, hk⟩ := hk
      have := hz.det (z := ⟨_, _, _⟩) ⟨h1, h2⟩
      subst this
      exact ih hE hk
end
variable [FnSet]
section
variable {P : Program} {B : Nat} {okB : Nat → Bool}
structure LJ (P : Program) (okB : Nat → Bool) (B n : Nat) (x : St) : Prop where
  hf : FR P okB idr n x.fr x.fr
  hc : CR P okB idr n x.cs x.cs
  hw : WR B idr n x.w x.w
  even : Even x.w
theorem WR.wt {n : Nat} {w : World} (h : WR B idr n w w) (T : TapeF) (d : Nat) : WR B idr n (Tw.wt w T d) (Tw.wt w T d) := ⟨h.size, h.base, h.old, h.inj, h.obj, h.cbn, h.in_, h.frz⟩
theorem LJ.at_ {n : Nat} {x : St} (h : LJ P okB B n x) (T : TapeF) (d : Nat) : LJ P okB B n (x.at_ T d) := ⟨h.hf, h.hc, h.hw.wt T d, h.even⟩
theorem wt_wt (w : World) (T T' : TapeF) (d d' : Nat) : wt (wt w T d) T' d' = wt w T' d' := rfl
/-- A step does not hang on more of the tape than it takes. -/
theorem St1.tape (E : EnvC P okB) {n : Nat} {x y : St} (hx : LJ P okB B n x) {T T' : TapeF} {d d' : Nat} (h : St1 P (x.at_ T d) y) (hT : ∀ i, d + i < y.w.drawn → ∀ q, T' (d' + i) q = T (d + i) q) : St1 P (x.at_ T' d') (y.at_ T' (d' + (y.w.drawn - d))) :=
  ⟨calm_tape (calm_gsem E hx.hf _) (hx.at_ T d).even h.1 T' d' hT, h.2⟩
theorem St1.drawn {x y : St} {T : TapeF} {d : Nat} (h : St1 P (x.at_ T d) y) : d ≤ y.w.drawn ∧ y.w.tape = T := by
  have := run_gr P _ _ _ _ h.1
  exact ⟨this.2, this.1⟩
theorem St1.lj (E : EnvC P okB) {n : Nat} {x y : St} (hx : LJ P okB B n x) (h : St1 P x y) : ∃ n', n ≤ n' ∧ LJ P okB B n' y := by
  obtain ⟨n', zs, hn, hz, hf, hc, hw, he⟩ := LI.step E (fr := x.fr) (cs := x.cs) ⟨hx.hf, hx.hc, hx.hw, hx.even, h.2⟩ h.1
  have hz : y.cs ++ [bot] = zs ++ [bot] := hz
  have : y.cs = zs := by simpa using hz
  subst this
  exact ⟨n', hn, hf, hc, hw, he⟩
abbrev LTs (P : Program) (Q : Value → World → Prop) (x : St) : Prop := LT P Q x.fr x.cs x.w

/-- Reached from x₀ by whoever gives the answers Tp ahead of D. -/
def Rch (P : Program) (x0 x : St) (k D : Nat) (Tp : TapeF) : Prop := ∀ T : TapeF, (∀ i, i < D → ∀ q, T i q = Tp i q) → PaN P k (x0.at_ T 0) (x.at_ T D)
def mrg (Tp T : TapeF) (D d : Nat) : TapeF := fun i q => if i < D then Tp i q else T (d + (i - D)) q
theorem mrg_at (Tp T : TapeF) (D d i : Nat) (q : Question) : mrg Tp T D d (D + i) q = T (d + i) q := by
  unfold mrg
  rw [if_neg (by omega), show d + (D + i - D) = d + i by omega]
theorem lt_adv (E : EnvC P okB) {K Q : Value → World → Prop} (hQ : ∀ v w T d, K v (wt w T d) → Q v w) {x0 x : St}
    (H : ∀ T d, ∃ frE wE v fn, Ch P x0.fr x0.cs (wt x0.w T d) frE wE ∧ frE.mode = .returning ∧ P.funcs[frE.fn]? = some fn ∧ (results fn frE.tmps).run P wE = .ok v wE ∧ K v wE)
    {n k D : Nat} {Tp : TapeF} (hx : LJ P okB B n x) (hr : Rch P x0 x k D Tp) (hn : ¬ LTs P Q x) :
    ∃ (y : St) (n' D' : Nat) (Tp' : TapeF), LJ P okB B n' y ∧ Rch P x0 y (k + 1) D' Tp' ∧ ¬ LTs P Q y ∧ D ≤ D' ∧ ∀ i, i < D → ∀ q, Tp' i q = Tp i q := by
  have go : ∀ T d, ∃ y, St1 P (x.at_ T d) y := by
    intro T d
    have hp := hr (mrg Tp T D d) (fun i hi q => by simp [mrg, hi])
    obtain ⟨frE, wE, v, fn, hch, hE, hfn, hres, hK⟩ := H (mrg Tp T D d) 0
    have hch' := hch.pass (y := x.at_ (mrg Tp T D d) D) hE hp
    generalize hz : x.at_ (mrg Tp T D d) D = z at hch'
    obtain ⟨zf, zc, zw⟩ := z
    simp only at hch'
    cases hch' with
    | done fr w =>
      have e1 : x.fr = frE := congrArg St.fr hz
      have e2 : x.cs = [] := congrArg St.cs hz
      have e3 : wt x.w (mrg Tp T D d) D = wE := congrArg St.w hz
      refine absurd ?_ hn
      show LT P Q x.fr x.cs x.w
      rw [e2]
      subst e3
      rw [← e1] at hE hfn hres
      refine .leave x.fr x.w fn v hE hfn (fun T' d' => ?_) (hQ _ _ _ _ hK)
      have := calm_tape (calm_results fn x.fr.tmps) (P := P) (w := wt x.w (mrg Tp T D d) D) hx.even hres T' d' (fun i hi q => absurd hi (by omega))
      simpa [wt] using this
    | @step _ fr1 _ _ cs1 _ w1 _ h1 h2 h3 =>
      have hs : St1 P (x.at_ (mrg Tp T D d) D) ⟨fr1, cs1, w1⟩ := by rw [hz]; exact ⟨h1, h2⟩
      refine ⟨_, hs.tape E hx (T' := T) (d' := d) fun i hi q => (mrg_at Tp T D d i q).symm⟩
  have at_ : x.fr.mode = .returning → x.cs ≠ [] := fun h => (go (fun _ _ => 0) 0).choose_spec.2 h
  have hex : ∃ T d y, St1 P (x.at_ T d) y ∧ ¬ LTs P Q y := by
    refine Classical.byContradiction fun hc => hn ?_
    refine .step x.fr x.cs x.w (fun T d => ⟨(go T d).choose.fr, (go T d).choose.cs, (go T d).choose.w⟩) at_ (fun T d => (go T d).choose_spec.1) fun T d => ?_
    exact Classical.byContradiction fun hc' => hc ⟨T, d, _, (go T d).choose_spec, hc'⟩
  obtain ⟨T, d, y, hy, hyn⟩ := hex
  obtain ⟨n', _, hj⟩ := hy.lj E (hx.at_ T d)
  obtain ⟨hd, ht⟩ := hy.drawn
  refine ⟨y, n', D + (y.w.drawn - d), mrg Tp T D d, hj, fun T' hT' => ?_, hyn, by omega, fun i hi q => by simp [mrg, hi]⟩
  have h1 := hr T' (fun i hi q => by rw [hT' i (by omega) q]; simp [mrg, hi])
  refine h1.snoc (hy.tape E hx fun i hi q => ?_)
  rw [hT' (D + i) (by omega) q]
  exact mrg_at Tp T D d i q
theorem lt_all (E : EnvC P okB) {K Q : Value → World → Prop} (hQ : ∀ v w T d, K v (wt w T d) → Q v w) {x0 : St}
    (H : ∀ T d, ∃ frE wE v fn, Ch P x0.fr x0.cs (wt x0.w T d) frE wE ∧ frE.mode = .returning ∧ P.funcs[frE.fn]? = some fn ∧ (results fn frE.tmps).run P wE = .ok v wE ∧ K v wE)
    {n : Nat} (hx : LJ P okB B n x0) : LTs P Q x0 := by
  classical
  refine Classical.byContradiction fun hn => ?_
  let Sq : Nat → Type := fun k => { s : St × Nat × TapeF // (∃ n, LJ P okB B n s.1) ∧ Rch P x0 s.1 k s.2.1 s.2.2 ∧ ¬ LTs P Q s.1 }
  have adv : ∀ k (s : Sq k), ∃ t : Sq (k + 1), s.1.2.1 ≤ t.1.2.1 ∧ ∀ i, i < s.1.2.1 → ∀ q, t.1.2.2 i q = s.1.2.2 i q := by
    intro k s
    obtain ⟨⟨n', hj⟩, hr, hl⟩ := s.2
    obtain ⟨y, n'', D', Tp', h1, h2, h3, h4, h5⟩ := lt_adv E hQ H hj hr hl
    exact ⟨⟨(y, D', Tp'), ⟨n'', h1⟩, h2, h3⟩, h4, h5⟩
  let seq : (k : Nat) → Sq k := fun k => Nat.rec (motive := Sq) ⟨(x0, 0, fun _ _ => 0), ⟨n, hx⟩, fun T _ => rfl, hn⟩ (fun k s => (adv k s).choose) k
  have hs : ∀ k, (seq k).1.2.1 ≤ (seq (k + 1)).1.2.1 ∧ ∀ i, i < (seq k).1.2.1 → ∀ q, (seq (k + 1)).1.2.2 i q = (seq k).1.2.2 i q := fun k => (adv k (seq k)).choose_spec
  have hm : ∀ k j, (seq k).1.2.1 ≤ (seq (k + j)).1.2.1 ∧ ∀ i, i < (seq k).1.2.1 → ∀ q, (seq (k + j)).1.2.2 i q = (seq k).1.2.2 i q := by
    intro k j
    induction j with
    | zero => exact ⟨Nat.le_refl _, fun _ _ _ => rfl⟩
    | succ j ih =>
      refine ⟨Nat.le_trans ih.1 (hs (k + j)).1, fun i hi q => ?_⟩
      exact ((hs (k + j)).2 i (Nat.lt_of_lt_of_le hi ih.1) q).trans (ih.2 i hi q)
  let T : TapeF := fun i q => if h : ∃ k, i < (seq k).1.2.1 then (seq h.choose).1.2.2 i q else 0
  have hT : ∀ k i, i < (seq k).1.2.1 → ∀ q, T i q = (seq k).1.2.2 i q := by
    intro k i hi q
    have hex : ∃ k, i < (seq k).1.2.1 := ⟨k, hi⟩
    show (if h : ∃ k, i < (seq k).1.2.1 then (seq h.choose).1.2.2 i q else 0) = _
    rw [dif_pos hex]
    have h1 := hex.choose_spec
    rcases Nat.le_total hex.choose k with hle | hle
    · obtain ⟨j, hj⟩ := Nat.exists_eq_add_of_le hle
      have := (hm hex.choose j).2 i h1 q
      rw [← hj] at this
      exact this.symm
    · obtain ⟨j, hj⟩ := Nat.exists_eq_add_of_le hle
      have := (hm k j).2 i hi q
      rw [← hj] at this
      exact this
  obtain ⟨frE, wE, v, fn, hch, hE, _⟩ := H T 0
  obtain ⟨L, hL⟩ := hch.bound hE
  have := hL (L + 1) _ ((seq (L + 1)).2.2.1 T (hT (L + 1)))
  omega
/-- ████ A FUNCTION's CONTRACT IS A TREE OF STEPS. ████ -/
theorem lt_of_calls (E : EnvC P okB) {n f : Nat} (hf : FnSet.ok f) {args : Array Value} {w : World} (ha : AR idr n args args) (hw : WR B idr n w w) (he : Even w) {K : Value → World → Prop}
    (h : ∀ T d, Calls P f args (wt w T d) fun e w' => ∃ v, e = .returned v ∧ K v w') : LT P (fun v w => ∃ T d, K v (wt w T d)) (Frame.enter P f args .normal) [] w := by
  have hx : LJ P okB B n ⟨Frame.enter P f args .normal, [], w⟩ := ⟨fr_enter E hf ha, .nil, hw, he⟩
  exact lt_all E (x0 := ⟨Frame.enter P f args .normal, [], w⟩) (fun v w T d hk => ⟨T, d, hk⟩) (fun T d => chain_of_fnp E hf ha (hw.wt T d) he (h T d)) hx
end
end Go.Tw
