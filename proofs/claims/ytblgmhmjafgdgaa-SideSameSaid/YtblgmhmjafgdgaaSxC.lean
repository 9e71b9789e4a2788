/- Arguments opened: the leaves of a value of a type. -/
import Derived.Test.YtblgmhmjafgdgaaSxB
set_option linter.unusedVariables false
set_option linter.unusedSimpArgs false
namespace Go.Sx
open Go.RowKit
variable {P : Program}

/-- The types of a value's cells; none: the fields do not lie side by side. -/
def leavesF (P : Program) (rec : TypeId → Option (List TypeId)) : Nat → List Field → Option (List TypeId)
  | _, [] => some []
  | off, f :: r =>
    match rec f.type, leavesF P rec (off + P.cellsOf f.type) r with
    | some l, some l' => bif Nat.beq f.offset off && Nat.beq l.length (P.cellsOf f.type) then some (l ++ l') else none
    | _, _ => none

def leavesA (l : List TypeId) : Nat → List TypeId
  | 0 => []
  | n + 1 => l ++ leavesA l n

def leaves (P : Program) : Nat → TypeId → Option (List TypeId)
  | 0, _ => none
  | d + 1, t =>
    match P.underlying t with
    | some (.struct fs) =>
      match leavesF P (leaves P d) 0 fs.toList with
      | some l => bif Nat.beq l.length (P.cellsOf t) then some l else none
      | none => none
    | some (.array m e) =>
      match leaves P d e with
      | some l => bif Nat.beq l.length (P.cellsOf e) && Nat.beq (leavesA l m).length (P.cellsOf t) then some (leavesA l m) else none
      | none => none
    | some _ => some [t]
    | none => none

/-- A single cell of a type that is no aggregate. -/
def Leaf (P : Program) (w : World) (t : TypeId) (v : Value) : Prop := ∃ n, Good P w n t [v]

inductive Leaves (P : Program) (w : World) : List TypeId → List Value → Prop
  | nil : Leaves P w [] []
  | cons {t ts v vs} : Leaf P w t v → Leaves P w ts vs → Leaves P w (t :: ts) (v :: vs)

theorem Leaves.append {w : World} {ts us : List TypeId} {vs ws : List Value} (h : Leaves P w ts vs) (k : Leaves P w us ws) : Leaves P w (ts ++ us) (vs ++ ws) := by
  induction h with
  | nil => exact k
  | cons h1 _ ih => exact .cons h1 ih

theorem Leaves.length {w : World} {ts : List TypeId} {vs : List Value} (h : Leaves P w ts vs) : vs.length = ts.length := by
  induction h with
  | nil => rfl
  | cons _ _ ih => simp [ih]

theorem leavesF_ok {w : World} {rec : TypeId → Option (List TypeId)} {n : Nat} (ih : ∀ t l cs, rec t = some l → Good P w n t cs → Leaves P w l cs) : ∀ (fs : List Field) (off : Nat) (l : List TypeId) (cs : List Value), leavesF P rec off fs = some l →
    (∀ f ∈ fs, Good P w n f.type ((cs.drop f.offset).take (P.cellsOf f.type))) → ∃ l', Leaves P w l l' ∧ l' = (cs.drop off).take l.length
  | [], off, l, cs, h, _ => by simp [leavesF] at h; subst h; exact ⟨[], .nil, by simp⟩
  | f :: r, off, l, cs, h, hg => by
    unfold leavesF at h
    split at h
    · rename_i l1 l2 h1 h2
      simp only [cond_eq_ite] at h
      split at h
      · rename_i hc
        simp only [Bool.and_eq_true, Nat.beq_eq] at hc
        obtain ⟨ho, hl⟩ := hc
        obtain rfl := Option.some.inj h
        have g1 := ih _ _ _ h1 (hg f (List.mem_cons_self ..))
        obtain ⟨l2', g2, e2⟩ := leavesF_ok ih r _ l2 cs h2 (fun x hx => hg x (List.mem_cons_of_mem _ hx))
        refine ⟨_, g1.append g2, ?_⟩
        rw [e2, ho, ← hl, List.length_append, ← List.drop_drop, List.take_add]
      · cases h
    · cases h

theorem leavesA_ok {w : World} {l : List TypeId} {cs : List Value} {c : Nat} (hc : l.length = c) : ∀ (m off : Nat), (∀ i, i < m → Leaves P w l ((cs.drop (off + i * c)).take c)) → ∃ l', Leaves P w (leavesA l m) l' ∧ l' = (cs.drop off).take (leavesA l m).length
  | 0, off, _ => ⟨[], .nil, by simp [leavesA]⟩
  | m + 1, off, h => by
    have h0 := h 0 (by omega)
    obtain ⟨l', g, e⟩ := leavesA_ok hc m (off + c) (fun i hi => by
      have := h (i + 1) (by omega)
      rw [show off + (i + 1) * c = off + c + i * c by rw [Nat.add_mul]; omega] at this
      exact this)
    refine ⟨_, h0.append g, ?_⟩
    simp only [leavesA, List.length_append, Nat.zero_mul, Nat.add_zero]
    rw [e, hc, ← List.drop_drop, List.take_add]

theorem leaves_ok {w : World} : ∀ (d : Nat) (t : TypeId) (l : List TypeId) (n : Nat) (cs : List Value), leaves P d t = some l → Good P w n t cs → Leaves P w l cs
  | 0, t, l, n, cs, h, _ => by cases h
  | d + 1, t, l, 0, cs, h, hg => hg.elim
  | d + 1, t, l, n + 1, cs, h, hg => by
    unfold leaves at h
    have hg0 := hg
    unfold Good at hg
    cases hu : P.underlying t with
    | none => rw [hu] at h; cases h
    | some u =>
      rw [hu] at h hg
      have hleaf : cs.length = 1 → Leaves P w [t] cs := by
        intro h1
        match cs, h1 with
        | [v], _ => exact .cons ⟨n + 1, hg0⟩ .nil
      cases u with
      | struct fs =>
        simp only at h hg
        split at h
        · rename_i l0 hl0
          simp only [cond_eq_ite] at h
          split at h
          · rename_i hc
            have hc : l0.length = P.cellsOf t := by simpa using hc
            obtain rfl := Option.some.inj h
            obtain ⟨l', g, e⟩ := leavesF_ok (fun t' l1 cs' h1 hg1 => leaves_ok d t' l1 n cs' h1 hg1) fs.toList 0 l0 cs hl0 hg.2
            rw [hc, ← hg.1] at e
            simp at e
            rw [← e]; exact g
          · cases h
        · cases h
      | array m e =>
        simp only at h hg
        split at h
        · rename_i l0 hl0
          simp only [cond_eq_ite] at h
          split at h
          · rename_i hc
            simp only [Bool.and_eq_true, Nat.beq_eq] at hc
            obtain rfl := Option.some.inj h
            obtain ⟨l', g, e⟩ := leavesA_ok (P := P) (w := w) (cs := cs) hc.1 m 0 (fun i hi => by
              have := leaves_ok d e l0 n _ hl0 (hg.2 i hi)
              simpa using this)
            rw [hc.2, ← hg.1] at e
            simp at e
            rw [← e]; exact g
          · cases h
        · cases h
      | bool => obtain rfl := Option.some.inj h; obtain ⟨_, rfl⟩ := hg; exact hleaf rfl
      | string => obtain rfl := Option.some.inj h; obtain ⟨_, rfl, _⟩ := hg; exact hleaf rfl
      | int k => obtain rfl := Option.some.inj h; obtain ⟨_, rfl, _⟩ := hg; exact hleaf rfl
      | pointer e => obtain rfl := Option.some.inj h; rcases hg with rfl | ⟨_, _, rfl, _⟩ <;> exact hleaf rfl
      | slice e => obtain rfl := Option.some.inj h; rcases hg with rfl | ⟨_, _, _, rfl, _⟩ <;> exact hleaf rfl
      | _ => obtain rfl := Option.some.inj h; obtain ⟨_, rfl⟩ := hg; exact hleaf rfl

theorem leaf_int {w : World} {t : TypeId} {v : Value} {k : IntKind} (hu : P.underlying t = some (.int k)) (h : Leaf P w t v) : ∃ x, v = .int k x ∧ InR k x := by
  obtain ⟨n, h⟩ := h
  cases n with
  | zero => exact h.elim
  | succ n => unfold Good at h; rw [hu] at h; simpa using h

theorem leaf_bool {w : World} {t : TypeId} {v : Value} (hu : P.underlying t = some .bool) (h : Leaf P w t v) : ∃ b, v = .bool b := by
  obtain ⟨n, h⟩ := h
  cases n with
  | zero => exact h.elim
  | succ n => unfold Good at h; rw [hu] at h; simpa using h

theorem leaf_str {w : World} {t : TypeId} {v : Value} (hu : P.underlying t = some .string) (h : Leaf P w t v) : ∃ s : ByteArray, v = .string s ∧ s.size ≤ 9223372036854775807 := by
  obtain ⟨n, h⟩ := h
  cases n with
  | zero => exact h.elim
  | succ n => unfold Good at h; rw [hu] at h; simpa using h

/-- A slice: its length and room; every element's cells, when the elements are read. -/
theorem leaf_slice {w : World} {t e : TypeId} {v : Value} (hu : P.underlying t = some (.slice e)) (h : Leaf P w t v) : ∃ (p : Option Addr) (len cap : Nat), v = .slice p len cap ∧ len ≤ cap ∧ cap ≤ 9223372036854775807 ∧ (p = none → cap = 0) ∧
    ∀ a, p = some a → ∀ i, i < cap → ∃ n es, w.cells? 0 (a.add (i * P.cellsOf e)) (P.cellsOf e) = some es ∧ Good P w n e es := by
  obtain ⟨n, h⟩ := h
  cases n with
  | zero => exact h.elim
  | succ n =>
    unfold Good at h
    rw [hu] at h
    rcases h with h | ⟨a, len, cap, h, h1, h2, h3⟩
    · simp only [List.cons.injEq, and_true] at h
      exact ⟨none, 0, 0, h, Nat.le_refl _, by omega, fun _ => rfl, fun a ha => by cases ha⟩
    · simp only [List.cons.injEq, and_true] at h
      refine ⟨some a, len, cap, h, h1, h2, fun ha => (by cases ha), fun b hb i hi => ?_⟩
      obtain rfl := Option.some.inj hb
      obtain ⟨es, h4, h5⟩ := h3 i hi
      exact ⟨n, es, h4, h5⟩

theorem goodV_leaves {w : World} {t : TypeId} {v : Value} {d : Nat} {l : List TypeId} (hl : leaves P d t = some l) (h : GoodV P w t v) : ∃ cs, Leaves P w l cs ∧ v = bif isAggT P t then .agg cs.toArray else cs.headD undef := by
  obtain ⟨n, cs, hg, hv⟩ := h
  exact ⟨cs, leaves_ok d t l n cs hl hg, hv⟩

theorem lvs_cons {w : World} {t : TypeId} {ts : List TypeId} {cs : List Value} (h : Leaves P w (t :: ts) cs) : ∃ v vs, cs = v :: vs ∧ Leaf P w t v ∧ Leaves P w ts vs := by
  cases h with
  | cons h1 h2 => exact ⟨_, _, rfl, h1, h2⟩

theorem lvs_nil {w : World} {cs : List Value} (h : Leaves P w [] cs) : cs = [] := by cases h; rfl

theorem goodAll_cons {w : World} {t : TypeId} {ts : List TypeId} {cs : List Value} (h : GoodAll P w (t :: ts) cs) : ∃ v vs, cs = v :: vs ∧ GoodV P w t v ∧ GoodAll P w ts vs := by
  cases h with
  | cons h1 h2 => exact ⟨_, _, rfl, h1, h2⟩

theorem goodAll_nil {w : World} {cs : List Value} (h : GoodAll P w [] cs) : cs = [] := by cases h; rfl
end Go.Sx

namespace Go.Sx
open Go.RowKit
variable {P : Program}

/-- What is known of a slice that came in. -/
structure SlcArg (P : Program) (w : World) (e : TypeId) (p : Option Addr) (l c : Nat) : Prop where
  le : l ≤ c
  max : c ≤ 9223372036854775807
  nil : p = none → c = 0
  el : ∀ a, p = some a → ∀ i, i < c → ∃ n es, w.cells? 0 (a.add (i * P.cellsOf e)) (P.cellsOf e) = some es ∧ Good P w n e es

def LeafAll (P : Program) (w : World) (t : TypeId) (R : Value → Prop) : Prop :=
  match P.underlying t with
  | some (.int k) => ∀ x : Int, InR k x → R (.int k x)
  | some .bool => ∀ b : Bool, R (.bool b)
  | some .string => ∀ s : ByteArray, s.size ≤ 9223372036854775807 → R (.string s)
  | some (.slice e) => ∀ (p : Option Addr) (l c : Nat), SlcArg P w e p l c → R (.slice p l c)
  | _ => ∀ v, Leaf P w t v → R v

def LeavesAll (P : Program) (w : World) : List TypeId → (List Value → Prop) → Prop
  | [], R => R []
  | t :: ts, R => LeafAll P w t fun v => LeavesAll P w ts fun vs => R (v :: vs)

def ArgsAll (P : Program) (w : World) : List TypeId → (List Value → Prop) → Prop
  | [], R => R []
  | t :: ts, R =>
    match leaves P 6 t with
    | some l => LeavesAll P w l fun cs => ArgsAll P w ts fun vs => R ((bif isAggT P t then .agg cs.toArray else cs.headD undef) :: vs)
    | none => ∀ v, GoodV P w t v → ArgsAll P w ts fun vs => R (v :: vs)

theorem leafAll_ok {w : World} {t : TypeId} {R : Value → Prop} (h : LeafAll P w t R) {v : Value} (hl : Leaf P w t v) : R v := by
  unfold LeafAll at h
  split at h
  · rename_i k hu
    obtain ⟨x, rfl, hx⟩ := leaf_int hu hl
    exact h x hx
  · rename_i hu
    obtain ⟨b, rfl⟩ := leaf_bool hu hl
    exact h b
  · rename_i hu
    obtain ⟨s, rfl, hs⟩ := leaf_str hu hl
    exact h s hs
  · rename_i e hu
    obtain ⟨p, l, c, rfl, h1, h2, h3, h4⟩ := leaf_slice hu hl
    exact h p l c ⟨h1, h2, h3, h4⟩
  · exact h v hl

theorem leavesAll_ok {w : World} : ∀ {l : List TypeId} {R : List Value → Prop}, LeavesAll P w l R → ∀ {cs : List Value}, Leaves P w l cs → R cs
  | [], R, h, cs, hl => by obtain rfl := lvs_nil hl; exact h
  | t :: ts, R, h, cs, hl => by
    obtain ⟨v, vs, rfl, h1, h2⟩ := lvs_cons hl
    exact leavesAll_ok (leafAll_ok h h1) h2

theorem argsAll_ok {w : World} : ∀ {ts : List TypeId} {R : List Value → Prop}, ArgsAll P w ts R → ∀ {vs : List Value}, GoodAll P w ts vs → R vs
  | [], R, h, vs, hg => by obtain rfl := goodAll_nil hg; exact h
  | t :: ts, R, h, vs, hg => by
    obtain ⟨v, vs, rfl, h1, h2⟩ := goodAll_cons hg
    unfold ArgsAll at h
    split at h
    · rename_i l hl
      obtain ⟨cs, h3, rfl⟩ := goodV_leaves hl h1
      exact argsAll_ok (R := fun vs => R ((bif isAggT P t then .agg cs.toArray else cs.headD undef) :: vs)) (leavesAll_ok h h3) h2
    · exact argsAll_ok (R := fun vs => R (v :: vs)) (h v h1) h2

theorem args_open {w : World} {ts : List TypeId} {R : Array Value → Prop} (h : ArgsAll P w ts fun l => R l.toArray) (args : Array Value) (hg : GoodAll P w ts args.toList) : R args := by
  have := argsAll_ok h hg
  simpa using this
end Go.Sx
