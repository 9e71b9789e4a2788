/- Lone runs carried over to company, parts 1 to 13: values, worlds and programs that answer to each other under renamed blocks. -/
import Derived.Conc.Own4
import Derived.Conc.Events
set_option linter.unusedVariables false
set_option linter.unusedSimpArgs false
set_option linter.unusedSectionVars false
/- Lone runs carried over to company, part 1: blocks renamed: values, rows of values, objects and worlds that answer to each other. -/
namespace Go.Tw
open Go

/-- The functions that function values may name. -/
class FnSet where
  ok : Nat → Prop
  /-- The blocks that values may point into. -/
  cb : Nat → Prop
variable [FnSet]

abbrev Ren := Nat → Nat
def ra (ρ : Ren) (a : Addr) : Addr := { a with block := ρ a.block }

/-- A block that may be pointed into. -/
structure In (n b : Nat) : Prop where
  lt : b < n
  cb : FnSet.cb b
theorem In.up {n n' b : Nat} (h : In n b) (le : n ≤ n') : In n' b := ⟨Nat.lt_of_lt_of_le h.lt le, h.cb⟩

/-- A value that no operation looks into: it stands for whatever the second side has in one cell. -/
abbrev poison : Value := .chan none
def Value.many : Value → Bool
  | .agg _ | .tuple _ => true
  | _ => false
/-- What poison may stand for. -/
def Value.dark : Value → Bool
  | .agg _ | .tuple _ | .bool _ => false
  | _ => true
theorem Value.dark_many {v : Value} (h : Value.dark v = true) : Value.many v = false := by
  cases v <;> first | rfl | (simp [Value.dark] at h)

/-- Values that answer to each other: the second's blocks are the first's, renamed; the first's lie below n. -/
inductive VR (ρ : Ren) (n : Nat) : Value → Value → Prop
  | bool (b : Bool) : VR ρ n (.bool b) (.bool b)
  | int (k : IntKind) (x : Int) : VR ρ n (.int k x) (.int k x)
  | float (k : FloatKind) (x : Nat) : VR ρ n (.float k x) (.float k x)
  | str (s : ByteArray) : VR ρ n (.string s) (.string s)
  | pnil : VR ρ n (.pointer none) (.pointer none)
  | ptr (a : Addr) : In n a.block → VR ρ n (.pointer (some a)) (.pointer (some (ra ρ a)))
  | snil (l c : Nat) : VR ρ n (.slice none l c) (.slice none l c)
  | sz (p : Option Addr) : VR ρ n (.slice none 0 0) (.slice p 0 0)
  | sl (a : Addr) (l c : Nat) : In n a.block → VR ρ n (.slice (some a) l c) (.slice (some (ra ρ a)) l c)
  | fn (f : Nat) (xs ys xs' ys' : Array Value) : FnSet.ok f → xs.size = xs'.size → ys.size = ys'.size → (∀ (i : Nat) (h : i < xs.size) (h' : i < xs'.size), VR ρ n xs[i] xs'[i]) →
      (∀ (i : Nat) (h : i < ys.size) (h' : i < ys'.size), VR ρ n ys[i] ys'[i]) → VR ρ n (.func (.func f) xs ys) (.func (.func f) xs' ys')
  | fnil : VR ρ n .nilFunc .nilFunc
  | inil : VR ρ n .nilIface .nilIface
  | poison (v' : Value) : Tw.Value.dark v' = true → VR ρ n poison v'
  | agg (xs ys : Array Value) : xs.size = ys.size → (∀ (i : Nat) (h : i < xs.size) (h' : i < ys.size), VR ρ n xs[i] ys[i]) → VR ρ n (.agg xs) (.agg ys)
  | tup (xs ys : Array Value) : xs.size = ys.size → (∀ (i : Nat) (h : i < xs.size) (h' : i < ys.size), VR ρ n xs[i] ys[i]) → VR ρ n (.tuple xs) (.tuple ys)

/-- The renaming goes on. -/
structure Ex (ρ : Ren) (n : Nat) (ρ' : Ren) (n' : Nat) : Prop where
  le : n ≤ n'
  eq : ∀ b, b < n → ρ' b = ρ b
theorem Ex.refl (ρ : Ren) (n : Nat) : Ex ρ n ρ n := ⟨Nat.le_refl _, fun _ _ => rfl⟩
theorem Ex.trans {ρ ρ' ρ'' : Ren} {n n' n'' : Nat} (h : Ex ρ n ρ' n') (h' : Ex ρ' n' ρ'' n'') : Ex ρ n ρ'' n'' :=
  ⟨Nat.le_trans h.le h'.le, fun b hb => (h'.eq b (Nat.lt_of_lt_of_le hb h.le)).trans (h.eq b hb)⟩
theorem Ex.ra {ρ ρ' : Ren} {n n' : Nat} (h : Ex ρ n ρ' n') {a : Addr} (ha : In n a.block) : ra ρ' a = ra ρ a := by
  unfold Tw.ra; rw [h.eq _ ha.lt]

theorem VR.ex {ρ ρ' : Ren} {n n' : Nat} (e : Ex ρ n ρ' n') {v v' : Value} (h : VR ρ n v v') : VR ρ' n' v v' := by
  induction h with
  | bool b => exact .bool b
  | int k x => exact .int k x
  | float k x => exact .float k x
  | str s => exact .str s
  | pnil => exact .pnil
  | ptr a ha => rw [← e.ra ha]; exact .ptr a (ha.up e.le)
  | snil l c => exact .snil l c
  | sz p => exact .sz p
  | sl a l c ha => rw [← e.ra ha]; exact .sl a l c (ha.up e.le)
  | fn f xs ys xs' ys' h0 h1 h2 _ _ ih1 ih2 => exact .fn f xs ys xs' ys' h0 h1 h2 ih1 ih2
  | fnil => exact .fnil
  | inil => exact .inil
  | poison v' h => exact .poison v' h
  | agg xs ys h _ ih => exact .agg xs ys h ih
  | tup xs ys h _ ih => exact .tup xs ys h ih

/-- Rows of values. -/
def AR (ρ : Ren) (n : Nat) (xs ys : Array Value) : Prop := xs.size = ys.size ∧ ∀ (i : Nat) (h : i < xs.size) (h' : i < ys.size), VR ρ n xs[i] ys[i]
section
variable {ρ ρ' : Ren} {n n' : Nat} {xs ys zs us : Array Value} {v v' d d' : Value}
theorem AR.ex (e : Ex ρ n ρ' n') (h : AR ρ n xs ys) : AR ρ' n' xs ys := ⟨h.1, fun i h1 h2 => (h.2 i h1 h2).ex e⟩
theorem AR.nil : AR ρ n #[] #[] := ⟨rfl, fun i h => absurd h (Nat.not_lt_zero i)⟩
theorem AR.get? (h : AR ρ n xs ys) (i : Nat) : (xs[i]? = none ∧ ys[i]? = none) ∨ ∃ a b, xs[i]? = some a ∧ ys[i]? = some b ∧ VR ρ n a b := by
  by_cases hi : i < xs.size
  · have hi' : i < ys.size := h.1 ▸ hi
    exact .inr ⟨xs[i], ys[i], by simp [hi], by simp [hi'], h.2 i hi hi'⟩
  · have hi' : ¬ i < ys.size := h.1 ▸ hi
    exact .inl ⟨by simp; omega, by simp; omega⟩
theorem AR.of_get? (hs : xs.size = ys.size) (h : ∀ (i : Nat) (a b : Value), xs[i]? = Option.some a → ys[i]? = Option.some b → VR ρ n a b) : AR ρ n xs ys :=
  ⟨hs, fun i h1 h2 => h i _ _ (by simp [h1]) (by simp [h2])⟩
theorem AR.some (h : AR ρ n xs ys) {i : Nat} {a : Value} (ha : xs[i]? = some a) : ∃ b, ys[i]? = Option.some b ∧ VR ρ n a b := by
  rcases h.get? i with ⟨h1, _⟩ | ⟨x, y, h1, h2, h3⟩
  · rw [h1] at ha; cases ha
  · rw [h1] at ha; cases ha; exact ⟨y, h2, h3⟩
theorem AR.getD (h : AR ρ n xs ys) (hd : VR ρ n d d') (i : Nat) : VR ρ n (xs.getD i d) (ys.getD i d') := by
  simp only [Array.getD_eq_getD_getElem?]
  rcases h.get? i with ⟨h1, h2⟩ | ⟨x, y, h1, h2, h3⟩
  · rw [h1, h2]; exact hd
  · rw [h1, h2]; exact h3
theorem AR.push (h : AR ρ n xs ys) (hv : VR ρ n v v') : AR ρ n (xs.push v) (ys.push v') := by
  refine ⟨by simp [h.1], fun i h1 h2 => ?_⟩
  by_cases hi : i < xs.size
  · rw [Array.getElem_push_lt hi, Array.getElem_push_lt (h.1 ▸ hi)]; exact h.2 i hi _
  · have e : i = xs.size := by simp at h1; omega
    have e1 : (xs.push v)[i] = v := by simp [e]
    have e2 : (ys.push v')[i] = v' := by simp [e, h.1]
    rw [e1, e2]; exact hv
theorem AR.append (h : AR ρ n xs ys) (h' : AR ρ n zs us) : AR ρ n (xs ++ zs) (ys ++ us) := by
  refine .of_get? (by simp [h.1, h'.1]) fun i a b ha hb => ?_
  by_cases hi : i < xs.size
  · rw [Array.getElem?_append_left hi] at ha
    rw [Array.getElem?_append_left (h.1 ▸ hi)] at hb
    obtain ⟨y, hy, hv⟩ := h.some ha
    rw [hy] at hb; cases hb; exact hv
  · rw [Array.getElem?_append_right (by omega)] at ha
    rw [Array.getElem?_append_right (by rw [← h.1]; omega), ← h.1] at hb
    obtain ⟨y, hy, hv⟩ := h'.some ha
    rw [hy] at hb; cases hb; exact hv
theorem AR.set (h : AR ρ n xs ys) (hv : VR ρ n v v') (i : Nat) : AR ρ n (xs.setIfInBounds i v) (ys.setIfInBounds i v') := by
  refine .of_get? (by simp [h.1]) fun j a b ha hb => ?_
  by_cases hj : i = j
  · subst hj
    by_cases hi : i < xs.size
    · rw [Array.getElem?_setIfInBounds_self_of_lt hi] at ha
      rw [Array.getElem?_setIfInBounds_self_of_lt (h.1 ▸ hi)] at hb
      cases ha; cases hb; exact hv
    · have := (Array.getElem?_eq_some_iff.1 ha).1; simp at this; omega
  · rw [Array.getElem?_setIfInBounds_ne hj] at ha hb
    obtain ⟨y, hy, hv⟩ := h.some ha
    rw [hy] at hb; cases hb; exact hv
theorem AR.extract (h : AR ρ n xs ys) (i j : Nat) : AR ρ n (xs.extract i j) (ys.extract i j) := by
  refine .of_get? (by simp [h.1]) fun k a b ha hb => ?_
  rw [Array.getElem?_extract] at ha hb
  split at ha
  · split at hb
    · obtain ⟨y, hy, hv⟩ := h.some ha
      rw [hy] at hb; cases hb; exact hv
    · cases hb
  · cases ha
theorem AR.one (hv : VR ρ n v v') : AR ρ n #[v] #[v'] := by simpa using AR.nil.push (ρ := ρ) (n := n) hv
theorem AR.two {w w' : Value} (hv : VR ρ n v v') (hw : VR ρ n w w') : AR ρ n #[v, w] #[v', w'] := by simpa using (AR.one hv).push hw
theorem AR.map {α : Type} (l : Array α) {f g : α → Value} (h : ∀ x ∈ l, VR ρ n (f x) (g x)) : AR ρ n (l.map f) (l.map g) := by
  refine ⟨by simp, fun i h1 h2 => ?_⟩
  simp only [Array.getElem_map]
  exact h _ (Array.getElem_mem _)
theorem VR.cells (h : VR ρ n v v') : AR ρ n v.cells v'.cells := by
  cases h with
  | agg xs ys h1 h2 => exact ⟨h1, h2⟩
  | bool b => exact .one (.bool b)
  | int k x => exact .one (.int k x)
  | float k x => exact .one (.float k x)
  | str s => exact .one (.str s)
  | pnil => exact .one .pnil
  | ptr a ha => exact .one (.ptr a ha)
  | snil l c => exact .one (.snil l c)
  | sz p => exact .one (.sz p)
  | sl a l c ha => exact .one (.sl a l c ha)
  | fn f xs ys xs' ys' h0 h1 h2 h3 h4 => exact .one (.fn f xs ys xs' ys' h0 h1 h2 h3 h4)
  | fnil => exact .one .fnil
  | inil => exact .one .inil
  | poison v' h =>
    cases v' <;> first | exact .one (.poison _ h) | (simp [Tw.Value.dark] at h)
  | tup xs ys h1 h2 => exact .one (.tup xs ys h1 h2)
theorem AR.agg (h : AR ρ n xs ys) : VR ρ n (.agg xs) (.agg ys) := .agg _ _ h.1 h.2
theorem AR.tuple (h : AR ρ n xs ys) : VR ρ n (.tuple xs) (.tuple ys) := .tup _ _ h.1 h.2
theorem VR.undef : VR ρ n undef undef := AR.nil.tuple

/-- A value without blocks answers to itself. -/
inductive NB : Value → Prop
  | bool (b : Bool) : NB (.bool b)
  | int (k : IntKind) (x : Int) : NB (.int k x)
  | float (k : FloatKind) (x : Nat) : NB (.float k x)
  | str (s : ByteArray) : NB (.string s)
  | pnil : NB (.pointer none)
  | snil (l c : Nat) : NB (.slice none l c)
  | fn (f : Nat) : FnSet.ok f → NB (.func (.func f) #[] #[])
  | fnil : NB .nilFunc
  | inil : NB .nilIface
  | agg (xs : Array Value) : (∀ (i : Nat) (h : i < xs.size), NB xs[i]) → NB (.agg xs)
  | tup (xs : Array Value) : (∀ (i : Nat) (h : i < xs.size), NB xs[i]) → NB (.tuple xs)
theorem NB.vr (h : NB v) : VR ρ n v v := by
  induction h with
  | bool b => exact .bool b
  | int k x => exact .int k x
  | float k x => exact .float k x
  | str s => exact .str s
  | pnil => exact .pnil
  | snil l c => exact .snil l c
  | fn f h0 => exact .fn f _ _ _ _ h0 rfl rfl (fun i h => absurd h (Nat.not_lt_zero i)) (fun i h => absurd h (Nat.not_lt_zero i))
  | fnil => exact .fnil
  | inil => exact .inil
  | agg xs _ ih => exact .agg _ _ rfl fun i h _ => ih i h
  | tup xs _ ih => exact .tup _ _ rfl fun i h _ => ih i h
end

/-- Objects: rows of cells (what is frozen on the second side is so on the first); numbers that were made of addresses. -/
inductive OR (ρ : Ren) (n : Nat) : Obj → Obj → Prop
  | cells (c c' : Array Value) (e : TypeId) (f f' : Nat × Nat) : AR ρ n c c' → (∀ i, f'.1 ≤ i → i < f'.2 → f.1 ≤ i ∧ i < f.2) → OR ρ n (.cells c e f) (.cells c' e f')
  | number (a : Addr) (l : Bool) : In n a.block → OR ρ n (.number a l) (.number (ra ρ a) l)
theorem OR.ex {ρ ρ' : Ren} {n n' : Nat} (e : Ex ρ n ρ' n') {o o' : Obj} (h : OR ρ n o o') : OR ρ' n' o o' := by
  cases h with
  | cells c c' el f f' h1 h2 => exact .cells c c' el f f' (h1.ex e) h2
  | number a l h => rw [← e.ra h]; exact .number a l (h.up e.le)

/-- Worlds: B: below it lie the old blocks, which keep their numbers and which the first side holds frozen. -/
structure WR (B : Nat) (ρ : Ren) (n : Nat) (wL wC : World) : Prop where
  size : wL.heap.size = n
  base : B ≤ n
  old : ∀ b, b < B → ρ b = b
  inj : ∀ a b, a < n → b < n → ρ a = ρ b → a = b
  obj : ∀ (b : Nat) (o : Obj), FnSet.cb b → wL.heap[b]? = some o → ∃ o', wC.heap[ρ b]? = some o' ∧ OR ρ n o o'
  cbn : ∀ b, B ≤ b → FnSet.cb b
  in_ : ∀ b, b < n → ρ b < wC.heap.size
  frz : ∀ (b : Nat) (c : Array Value) (e : TypeId) (f : Nat × Nat), b < B → wL.heap[b]? = some (.cells c e f) → f.1 = 0 ∧ c.size ≤ f.2

end Go.Tw
/- Lone runs carried over to company, part 2: what a run leaves of the tape; two programs of the model's operations that answer to each other, and how that goes through their steps. -/
namespace Go.Tw
open Go

/-! ### A run leaves the tape, and the count of answers taken from it does not fall -/
def Gr (w w' : World) : Prop := w'.tape = w.tape ∧ w.drawn ≤ w'.drawn
theorem Gr.refl (w : World) : Gr w w := ⟨rfl, Nat.le_refl _⟩
theorem Gr.trans {a b c : World} (h : Gr a b) (k : Gr b c) : Gr a c := ⟨k.1.trans h.1, Nat.le_trans h.2 k.2⟩
theorem Gr.mk1 {w w' : World} (h1 : w'.tape = w.tape) (h2 : w'.drawn = w.drawn) : Gr w w' := ⟨h1, by rw [h2]; exact Nat.le_refl _⟩

theorem ask_gr {α : Type} (k : Ask α) : ∀ w : World, Gr w (w.ask k).2 := by
  induction k with
  | done a => intro w; exact .refl w
  | ask what range k ih =>
    intro w
    unfold World.ask
    simp only
    split
    · exact ih _ w
    · have := ih ((Question.extern what range).cut (w.tape w.drawn (Question.extern what range))) { w with drawn := w.drawn + 1 }
      exact ⟨this.1, Nat.le_trans (Nat.le_succ _) this.2⟩
theorem sys_gr (w : World) (c : Sys) : Gr w (w.sys c).2 := by
  unfold World.sys
  have := ask_gr (Kernel.perform c w.os) w
  split
  · exact .refl w
  · rename_i r os w' h
    rw [h] at this
    exact ⟨this.1, this.2⟩
theorem viewStore_gr {p : Program} {w w' : World} {at_ : Addr} {u : TypeId} {k : Addr} {v : Value} {b : Bool} {l : List Addr} (h : w.viewStore p at_ u k v b = .ok (w', l)) : Gr w w' := by
  unfold World.viewStore at h
  simp only [bind, Except.bind, pure, Except.pure, throw, throwThe, MonadExceptOf.throw] at h
  repeat' split at h
  all_goals first | (cases h; done) | (cases h; exact ⟨rfl, Nat.le_refl _⟩)
theorem farStore_gr {p : Program} {w w' : World} {a : Addr} {v : Value} {b : Bool} {l : List Addr} (h : w.farStore p a v b = .ok (w', l)) : Gr w w' := by
  unfold World.farStore at h
  split at h
  · split at h
    · rename_i r hr
      cases h
      exact viewStore_gr hr
    · cases h
  · cases h
theorem setCell_gr (w : World) (a : Addr) (v : Value) : Gr w (w.setCell a v) := ⟨rfl, Nat.le_refl _⟩
theorem freeze_gr (w : World) (a : Addr) (n : Nat) : Gr w (w.freeze a n) := by
  unfold World.freeze
  split
  · exact .refl w
  · exact ⟨rfl, Nat.le_refl _⟩

theorem run_store {α : Type} (P : Program) (m : Mode) (a : Addr) (v : Value) (k : Sem α) (w : World) : (Sem.store m a v k).run P w =
    if Tw.Value.many v = true then .halt (.stuck "store: not the value of one cell") w else match w.cell? a with
    | some _ => if w.frozen? a then .halt (.unsupported (.unsafePointer "a write to bytes that a string shares")) w else k.run P (w.setCell a v)
    | none => match w.farStore P a v (m == .atomic) with
      | .ok (w, _) => k.run P w
      | .error h => .halt h w := by
  cases v <;> (simp only [Sem.run, Tw.Value.many, if_true, Bool.false_eq_true, if_false]; try (cases w.cell? a <;> first | rfl | (simp only; cases w.farStore P a _ (m == .atomic) <;> rfl)))

theorem run_gr {α : Type} (P : Program) (s : Sem α) : ∀ (w : World) (a : α) (w' : World), s.run P w = .ok a w' → Gr w w' := by
  induction s with
  | pure a => intro w b w' h; simp only [Sem.run] at h; cases h; exact .refl w
  | load m a k ih =>
    intro w b w' h
    simp only [Sem.run] at h
    split at h
    · exact ih _ _ _ _ h
    · split at h
      · exact ih _ _ _ _ h
      · cases h
  | store m a v k ih =>
    intro w b w' h
    rw [run_store] at h
    split at h
    · cases h
    · split at h
      · split at h
        · cases h
        · exact (setCell_gr _ _ _).trans (ih _ _ _ h)
      · split at h
        · rename_i hf
          exact (farStore_gr hf).trans (ih _ _ _ h)
        · cases h
  | new o k ih => intro w b w' h; simp only [Sem.run] at h; have := ih _ _ _ _ h; exact ⟨this.1, this.2⟩
  | shape r k ih => intro w b w' h; simp only [Sem.run] at h; exact ih _ _ _ _ h
  | freeze a n k ih => intro w b w' h; simp only [Sem.run] at h; exact (freeze_gr _ _ _).trans (ih _ _ _ h)
  | frozen a k ih => intro w b w' h; simp only [Sem.run] at h; exact ih _ _ _ _ h
  | getObj r k ih =>
    intro w b w' h
    simp only [Sem.run] at h
    split at h
    · cases h
    · exact ih _ _ _ _ h
    · cases h
  | setObj r o k ih =>
    intro w b w' h
    simp only [Sem.run] at h
    split at h
    · cases h
    · have := ih _ _ _ h; exact ⟨this.1, this.2⟩
    · cases h
  | choose q k ih =>
    intro w b w' h
    simp only [Sem.run] at h
    split at h
    · exact ih _ _ _ _ h
    · have := ih _ _ _ _ h; exact ⟨this.1, Nat.le_trans (Nat.le_succ _) this.2⟩
  | sys c k ih => intro w b w' h; simp only [Sem.run] at h; exact (sys_gr w c).trans (ih _ _ _ _ h)
  | program k ih => intro w b w' h; simp only [Sem.run] at h; exact ih _ _ _ _ h
  | mark m k ih => intro w b w' h; simp only [Sem.run] at h; exact ih _ _ _ h
  | halt h => intro w b w' h; simp only [Sem.run] at h; cases h

end Go.Tw
/- Lone runs carried over to company, part 3: programs of the model's operations that answer to each other: a load, a store, a new block, a question; and one behind the other. -/
namespace Go.Tw
open Go
variable [FnSet]

/-- What a step may list: a plain read of a block that is reached, a plain write of one that is its own, the mark on large makes. -/
inductive Ev (B : Nat) (ρ : Ren) (n : Nat) : Event → Prop
  | rd (a : Addr) (x : Nat) : In n x → a.block = ρ x → Ev B ρ n ⟨.cell a, false, false⟩
  | wr (a : Addr) (x : Nat) : B ≤ x → x < n → a.block = ρ x → Ev B ρ n ⟨.cell a, true, false⟩
  | room : Ev B ρ n ⟨.mark .noRoom, false, true⟩
  | obj (r x : Nat) : In n x → r = ρ x → Ev B ρ n ⟨.obj r, false, false⟩
theorem Ev.ex {B : Nat} {ρ ρ' : Ren} {n n' : Nat} (e : Ex ρ n ρ' n') {x : Event} (h : Ev B ρ n x) : Ev B ρ' n' x := by
  cases h with
  | rd a x hx ha => exact .rd a x (hx.up e.le) (by rw [e.eq x hx.lt]; exact ha)
  | wr a x hB hx ha => exact .wr a x hB (Nat.lt_of_lt_of_le hx e.le) (by rw [e.eq x hx]; exact ha)
  | room => exact .room
  | obj r x hx ha => exact .obj r x (hx.up e.le) (by rw [e.eq x hx.lt]; exact ha)

/-- What a step does to the world in company. -/
structure Gu (B : Nat) (ρ : Ren) (n : Nat) (w : World) (ρ' : Ren) (n' : Nat) (w' : World) : Prop where
  size : w.heap.size ≤ w'.heap.size
  same : ∀ b, b < w.heap.size → (∀ x, B ≤ x → x < n → ρ x ≠ b) → w'.heap[b]? = w.heap[b]?
  fresh : ∀ x, n ≤ x → x < n' → w.heap.size ≤ ρ' x
  all : ∀ b, w.heap.size ≤ b → b < w'.heap.size → ∃ x, n ≤ x ∧ x < n' ∧ ρ' x = b
  tape : w'.tape = w.tape
  os : w'.os = w.os
  out : w'.output = w.output
theorem Gu.refl (B : Nat) (ρ : Ren) (n : Nat) (w : World) : Gu B ρ n w ρ n w :=
  ⟨Nat.le_refl _, fun _ _ _ => rfl, fun x h1 h2 => by omega, fun b h1 h2 => by omega, rfl, rfl, rfl⟩
theorem Gu.trans {B : Nat} {ρ ρ' ρ'' : Ren} {n n' n'' : Nat} {w w' w'' : World} (e : Ex ρ n ρ' n') (e' : Ex ρ' n' ρ'' n'') (h : Gu B ρ n w ρ' n' w') (k : Gu B ρ' n' w' ρ'' n'' w'') : Gu B ρ n w ρ'' n'' w'' := by
  refine ⟨Nat.le_trans h.size k.size, fun b hb hx => ?_, fun x h1 h2 => ?_, fun b h1 h2 => ?_, k.tape.trans h.tape, k.os.trans h.os, k.out.trans h.out⟩
  · rw [k.same b (Nat.lt_of_lt_of_le hb h.size) fun x hB hx' he => ?_, h.same b hb hx]
    by_cases hn : x < n
    · rw [e.eq x hn] at he; exact hx x hB hn he
    · have := h.fresh x (by omega) hx'; omega
  · by_cases hn : x < n'
    · rw [e'.eq x hn]; exact h.fresh x h1 hn
    · exact Nat.le_trans h.size (k.fresh x (by omega) h2)
  · by_cases hb : b < w'.heap.size
    · obtain ⟨x, hx1, hx2, hx3⟩ := h.all b h1 hb
      exact ⟨x, hx1, Nat.lt_of_lt_of_le hx2 e'.le, by rw [e'.eq x hx2]; exact hx3⟩
    · obtain ⟨x, hx1, hx2, hx3⟩ := k.all b (by omega) h2
      exact ⟨x, Nat.le_trans e.le hx1, hx2, hx3⟩

/-- The tapes answer alike from here on, as far as the first side goes. -/
def Al (wL wL' wC : World) : Prop := ∀ i, wL.drawn + i < wL'.drawn → ∀ q, wL.tape (wL.drawn + i) q = wC.tape (wC.drawn + i) q

/-- Whatever the first program yields the second one yields, renamed. -/
def Rel {α β : Type} (P : Program) (B : Nat) (A : Ren → Nat → α → β → Prop) (ρ : Ren) (n : Nat) (s : Sem α) (s' : Sem β) : Prop :=
  ∀ wL wC, WR B ρ n wL wC → ∀ a wL', s.run P wL = .ok a wL' → Al wL wL' wC →
    ∃ ρ' n' b wC', Ex ρ n ρ' n' ∧ s'.run P wC = .ok b wC' ∧ A ρ' n' a b ∧ WR B ρ' n' wL' wC' ∧ Gu B ρ n wC ρ' n' wC' ∧ wC'.drawn + wL.drawn = wC.drawn + wL'.drawn ∧ ∀ e ∈ s'.events P wC #[], Ev B ρ' n' e

section
variable {P : Program} {B : Nat} {α β γ δ : Type} {A : Ren → Nat → α → β → Prop} {A' : Ren → Nat → γ → δ → Prop} {ρ : Ren} {n : Nat}

theorem rel_pure {a : α} {b : β} (h : A ρ n a b) : Rel P B A ρ n (Pure.pure a) (Pure.pure b) := by
  intro wL wC hw x wL' hr _
  cases hr
  exact ⟨ρ, n, b, wC, .refl _ _, rfl, h, hw, .refl _ _ _ _, rfl, fun e he => by simp at he⟩
theorem rel_no {s : Sem α} {s' : Sem β} (h : ∀ w a w', s.run P w ≠ .ok a w') : Rel P B A ρ n s s' := fun wL wC _ a wL' hr _ => absurd hr (h _ _ _)
theorem rel_halt {h : Halt} {s' : Sem β} : Rel P B A ρ n (Sem.halt h) s' := rel_no fun w a w' e => by simp [Sem.run] at e

theorem rel_bind {s : Sem α} {s' : Sem β} {f : α → Sem γ} {f' : β → Sem δ} (h : Rel P B A ρ n s s') (k : ∀ ρ' n' a b, Ex ρ n ρ' n' → A ρ' n' a b → Rel P B A' ρ' n' (f a) (f' b)) :
    Rel P B A' ρ n (s >>= f) (s' >>= f') := by
  intro wL wC hw x wL' hr hal
  rw [Sem.run_bind] at hr
  cases h1 : s.run P wL with
  | halt h w => rw [h1] at hr; cases hr
  | ok a w1 =>
    rw [h1] at hr
    simp only [Result.andThen_ok] at hr
    have g1 := run_gr P s _ _ _ h1
    have g2 := run_gr P (f a) _ _ _ hr
    obtain ⟨ρ1, n1, b, wC1, e1, r1, a1, w1', gu1, d1, ev1⟩ := h wL wC hw a w1 h1 fun i hi q => hal i (Nat.lt_of_lt_of_le hi g2.2) q
    obtain ⟨ρ2, n2, y, wC2, e2, r2, a2, w2', gu2, d2, ev2⟩ := k ρ1 n1 a b e1 a1 w1 wC1 w1' x wL' hr fun i hi q => by
      have hd : w1.drawn + i = wL.drawn + (w1.drawn - wL.drawn + i) := by have := g1.2; omega
      have hd' : wC1.drawn + i = wC.drawn + (w1.drawn - wL.drawn + i) := by have := g1.2; omega
      rw [g1.1, gu1.tape, hd, hd']
      exact hal _ (by omega) q
    refine ⟨ρ2, n2, y, wC2, e1.trans e2, by rw [Sem.run_bind, r1]; exact r2, a2, w2', gu1.trans e1 e2 gu2, by omega, fun e he => ?_⟩
    rw [Sem.events_bind, r1, Result.evThen_ok, Sem.events_acc] at he
    rcases Array.mem_append.1 he with h' | h'
    · exact (ev1 e h').ex e2
    · exact ev2 e h'

theorem rel_mono {A'' : Ren → Nat → α → β → Prop} {s : Sem α} {s' : Sem β} (h : Rel P B A ρ n s s') (k : ∀ ρ' n' a b, Ex ρ n ρ' n' → A ρ' n' a b → A'' ρ' n' a b) : Rel P B A'' ρ n s s' := by
  intro wL wC hw x wL' hr hal
  obtain ⟨ρ1, n1, b, wC1, e1, r1, a1, r⟩ := h wL wC hw x wL' hr hal
  exact ⟨ρ1, n1, b, wC1, e1, r1, k _ _ _ _ e1 a1, r⟩

theorem WR.cell {wL wC : World} (hw : WR B ρ n wL wC) {a : Addr} {v : Value} (hi : In n a.block) (h : wL.cell? a = some v) :
    ∃ c c' e f f', wL.heap[a.block]? = some (.cells c e f) ∧ wC.heap[ρ a.block]? = some (.cells c' e f') ∧ AR ρ n c c' ∧ a.spot = none ∧ c[a.off]? = some v ∧ (∀ i, f'.1 ≤ i → i < f'.2 → f.1 ≤ i ∧ i < f.2) ∧ a.block < n := by
  unfold World.cell? at h
  split at h
  · rename_i c e f hb
    have hs : a.spot = none := by
      cases hsp : a.spot with
      | none => rfl
      | some x => rw [hsp] at h; simp at h
    rw [hs] at h
    obtain ⟨o', ho', hor⟩ := hw.obj _ _ hi.cb hb
    have hlt : a.block < n := by rw [← hw.size]; exact (Array.getElem?_eq_some_iff.1 hb).1
    cases hor with
    | cells _ c' _ _ f' h1 h2 => exact ⟨c, c', e, f, f', hb, ho', h1, hs, by simpa using h, h2, hlt⟩
  · cases h

theorem rel_load (a : Addr) (hi : In n a.block) : Rel P B VR ρ n (load a) (load (ra ρ a)) := by
  intro wL wC hw v wL' hr _
  have hr' : (match wL.cell? a with | some v => Result.ok v wL | none => match wL.farLoad P a false with | .ok (v, _) => .ok v wL | .error h => .halt h wL) = .ok v wL' := by
    have := hr
    simp only [load, Sem.run] at this
    exact this
  cases hc : wL.cell? a with
  | none =>
    rw [hc] at hr'
    simp only at hr'
    unfold World.farLoad at hr'
    split at hr'
    · rename_i r hf
      split at hf
      · rename_i hb
        obtain ⟨o', _, hor⟩ := hw.obj _ _ hi.cb hb
        cases hor
      · cases hf
    · cases hr'
  | some x =>
    rw [hc] at hr'
    simp only at hr'
    cases hr'
    obtain ⟨c, c', e, f, f', h1, h2, h3, h4, h5, h6, h7⟩ := hw.cell hi hc
    obtain ⟨v', hv', hvr⟩ := h3.some h5
    have hc' : wC.cell? (ra ρ a) = some v' := by
      unfold World.cell? ra
      simp only [h2, h4]
      simpa using hv'
    refine ⟨ρ, n, v', wC, .refl _ _, by simp only [load, Sem.run, hc'], hvr, hw, .refl _ _ _ _, rfl, fun ev hev => ?_⟩
    rw [events_load, hc'] at hev
    simp at hev
    subst hev
    exact .rd _ a.block hi rfl
end

end Go.Tw
/- Lone runs carried over to company, part 4: a store, a new block, the shape of a block, a question, the program, the mark on large makes. -/
namespace Go.Tw
open Go
variable [FnSet]
section
variable {P : Program} {B : Nat} {ρ : Ren} {n : Nat}

abbrev AU : Ren → Nat → Unit → Unit → Prop := fun _ _ _ _ => True
abbrev AE (α : Type) : Ren → Nat → α → α → Prop := fun _ _ a b => b = a

theorem VR.many {v v' : Value} (h : VR ρ n v v') : Tw.Value.many v' = Tw.Value.many v := by cases h <;> first | rfl | exact Value.dark_many ‹_›

theorem rel_store (a : Addr) (hi : In n a.block) {v v' : Value} (hv : VR ρ n v v') : Rel P B AU ρ n (store a v) (store (ra ρ a) v') := by
  intro wL wC hw u wL' hr _
  unfold store at hr
  rw [run_store] at hr
  split at hr
  · cases hr
  rename_i hm
  cases hc : wL.cell? a with
  | none =>
    rw [hc] at hr
    simp only at hr
    unfold World.farStore at hr
    split at hr
    · rename_i r l hf
      split at hf
      · rename_i hb
        obtain ⟨o', _, hor⟩ := hw.obj _ _ hi.cb hb
        cases hor
      · cases hf
    · cases hr
  | some x =>
    rw [hc] at hr
    simp only at hr
    split at hr
    · cases hr
    rename_i hfz
    simp only [Sem.run] at hr
    cases hr
    obtain ⟨c, c', e, f, f', h1, h2, h3, h4, h5, h6, h7⟩ := hw.cell hi hc
    have hoff : a.off < c.size := (Array.getElem?_eq_some_iff.1 h5).1
    have hB : B ≤ a.block := by
      rcases Nat.lt_or_ge a.block B with hlt | hge
      · obtain ⟨k1, k2⟩ := hw.frz _ _ _ _ hlt h1
        have k3 : a.off < f.2 := Nat.lt_of_lt_of_le hoff k2
        simp [World.frozen?, h1, k1, k3] at hfz
      · exact hge
    obtain ⟨y, hy, _⟩ := h3.some h5
    have hc' : wC.cell? (ra ρ a) = some y := by
      unfold World.cell? ra
      simp only [h2, h4]
      simpa using hy
    have hfz' : wC.frozen? (ra ρ a) = false := by
      cases hh : wC.frozen? (ra ρ a) with
      | false => rfl
      | true =>
        simp only [World.frozen?, ra, h2, Bool.and_eq_true, decide_eq_true_eq] at hh
        have := h6 a.off (of_decide_eq_true hh.1) (of_decide_eq_true hh.2)
        simp [World.frozen?, h1, this.1, this.2] at hfz
    have hsetL : wL.setCell a v = { wL with heap := wL.heap.modify a.block fun | .cells c e f => .cells (if a.spot.isSome then c else c.setIfInBounds a.off v) e f | o => o } := rfl
    have getL : ∀ b, (wL.setCell a v).heap[b]? = if b = a.block then some (.cells (c.setIfInBounds a.off v) e f) else wL.heap[b]? := by
      intro b
      unfold World.setCell
      simp only [Array.getElem?_modify]
      by_cases hb : a.block = b
      · subst hb; simp [h1, h4]
      · simp [hb, Ne.symm hb]
    have getC : ∀ b, (wC.setCell (ra ρ a) v').heap[b]? = if b = ρ a.block then some (.cells (c'.setIfInBounds a.off v') e f') else wC.heap[b]? := by
      intro b
      unfold World.setCell ra
      simp only [Array.getElem?_modify]
      by_cases hb : ρ a.block = b
      · subst hb; simp [h2, h4]
      · simp [hb, Ne.symm hb]
    refine ⟨ρ, n, (), wC.setCell (ra ρ a) v', .refl _ _, ?_, trivial, ⟨?_, hw.base, hw.old, hw.inj, fun b o hcb hb => ?_, hw.cbn, fun b hb => by rw [show (wC.setCell (ra ρ a) v').heap.size = wC.heap.size by simp [World.setCell]]; exact hw.in_ b hb, fun b c₁ e₁ f₁ hb hh => ?_⟩, ⟨?_, fun b hb hx => ?_, fun x h1 h2 => by omega, fun b h1 h2 => ?_, rfl, rfl, rfl⟩, rfl, fun ev hev => ?_⟩
    · unfold store
      rw [run_store, hv.many, if_neg hm, hc']
      simp only [hfz', Sem.run]
      rfl
    · have : (wL.setCell a v).heap.size = wL.heap.size := by simp [World.setCell]
      rw [this]; exact hw.size
    · rw [getL] at hb
      split at hb
      · rename_i heq
        cases hb
        refine ⟨.cells (c'.setIfInBounds a.off v') e f', by rw [getC, heq, if_pos rfl], .cells _ _ _ _ _ (h3.set hv _) h6⟩
      · rename_i hne
        obtain ⟨o', ho', hor⟩ := hw.obj _ _ hcb hb
        have hbn : b < n := by rw [← hw.size]; exact (Array.getElem?_eq_some_iff.1 hb).1
        refine ⟨o', ?_, hor⟩
        rw [getC, if_neg fun he => hne (hw.inj _ _ hbn h7 he)]
        exact ho'
    · rw [getL] at hh
      split at hh
      · omega
      · exact hw.frz _ _ _ _ hb hh
    · have : (wC.setCell (ra ρ a) v').heap.size = wC.heap.size := by simp [World.setCell]
      rw [this]; exact Nat.le_refl _
    · rw [getC, if_neg fun he => hx a.block hB h7 he.symm]
    · have : (wC.setCell (ra ρ a) v').heap.size = wC.heap.size := by simp [World.setCell]
      omega
    · have hone : v'.oneCell' = true := by
        have : Tw.Value.many v' = false := by rw [hv.many]; simpa using hm
        cases v' <;> first | rfl | (simp [Tw.Value.many] at this)
      rw [events_store P wC #[] _ _ _ hone, hc'] at hev
      simp [hfz'] at hev
      subst hev
      exact .wr _ a.block hB h7 rfl

theorem rel_new {o o' : Obj} (ho : OR ρ n o o') : Rel P B (fun ρ' n' r r' => In n' r ∧ r = n ∧ r' = ρ' n) ρ n (newObj o) (newObj o') := by
  intro wL wC hw r wL' hr _
  simp only [newObj, Sem.run] at hr
  cases hr
  let ρ' : Ren := fun b => if b = n then wC.heap.size else ρ b
  have ex : Ex ρ n ρ' (n + 1) := ⟨Nat.le_succ _, fun b hb => by simp [ρ', Nat.ne_of_lt hb]⟩
  have en : ρ' n = wC.heap.size := by simp [ρ']
  have hlt : ∀ b, b < n → ρ b < wC.heap.size := hw.in_
  refine ⟨ρ', n + 1, wC.heap.size, { wC with heap := wC.heap.push o' }, ex, rfl, ⟨⟨by rw [hw.size]; exact Nat.lt_succ_self _, by rw [hw.size]; exact hw.cbn n hw.base⟩, hw.size, en.symm⟩, ⟨by simp [hw.size], Nat.le_succ_of_le hw.base, fun b hb => ?_, fun a b ha hb he => ?_, fun b o1 hcb hb => ?_, hw.cbn, fun b hb => ?_, fun b c e f hb hh => ?_⟩, ⟨by simp, fun b hb hx => ?_, fun x h1 h2 => ?_, fun b h1 h2 => ?_, rfl, rfl, rfl⟩, rfl, fun ev hev => ?_⟩
  · rw [ex.eq b (Nat.lt_of_lt_of_le hb hw.base)]; exact hw.old b hb
  · by_cases h1 : a = n
    · by_cases h2 : b = n
      · omega
      · subst h1
        rw [en, ex.eq b (by omega)] at he
        have := hlt b (by omega); omega
    · by_cases h2 : b = n
      · subst h2
        rw [en, ex.eq a (by omega)] at he
        have := hlt a (by omega); omega
      · rw [ex.eq a (by omega), ex.eq b (by omega)] at he
        exact hw.inj a b (by omega) (by omega) he
  · rw [Array.getElem?_push] at hb
    split at hb
    · rename_i h1
      cases hb
      refine ⟨o', ?_, ho.ex ex⟩
      rw [h1, hw.size, en]; simp
    · rename_i h1
      obtain ⟨o2, h2, h3⟩ := hw.obj _ _ hcb hb
      have hbn : b < n := by rw [← hw.size]; exact (Array.getElem?_eq_some_iff.1 hb).1
      refine ⟨o2, ?_, h3.ex ex⟩
      rw [ex.eq b hbn, Array.getElem?_push_lt (hlt b hbn), ← Array.getElem?_eq_getElem]; exact h2
  · rw [Array.size_push]
    by_cases h1 : b = n
    · rw [h1, en]; exact Nat.lt_succ_self _
    · rw [ex.eq b (by omega)]; have := hlt b (by omega); omega
  · rw [Array.getElem?_push] at hh
    split at hh
    · rename_i h1; have := hw.base; have := hw.size; omega
    · exact hw.frz _ _ _ _ hb hh
  · show (wC.heap.push o')[b]? = _
    rw [Array.getElem?_push_lt hb, ← Array.getElem?_eq_getElem]
  · have : x = n := by omega
    subst this; rw [en]; exact Nat.le_refl _
  · have : b = wC.heap.size := by simp at h2; omega
    exact ⟨n, Nat.le_refl _, Nat.lt_succ_self _, by rw [en, this]⟩
  · simp [newObj, Sem.events, Sem.runT] at hev

theorem rel_shape {r : Nat} (hi : In n r) : Rel P B (AE _) ρ n (shape r) (shape (ρ r)) := by
  have hr := hi.lt
  intro wL wC hw x wL' h _
  simp only [shape, Sem.run] at h
  cases h
  refine ⟨ρ, n, wL.shape? r, wC, .refl _ _, ?_, rfl, hw, .refl _ _ _ _, rfl, fun ev hev => by simp [shape, Sem.events, Sem.runT] at hev⟩
  obtain ⟨o', h1, h2⟩ := hw.obj r _ hi.cb (Array.getElem?_eq_getElem (by rw [hw.size]; exact hr))
  have e : wC.shape? (ρ r) = wL.shape? r := by
    unfold World.shape?
    rw [h1, Array.getElem?_eq_getElem (by rw [hw.size]; exact hr)]
    generalize wL.heap[r]'(by rw [hw.size]; exact hr) = o at h2 ⊢
    cases h2 with
    | cells c c' el f f' h3 h4 => simp [h3.1]
    | number a l h3 => rfl
  simp only [shape, Sem.run, e]

theorem rel_getObj {r : Nat} (hi : In n r) : Rel P B (fun ρ n o o' => ∃ a l, o = .number a l ∧ o' = .number (ra ρ a) l ∧ In n a.block) ρ n (getObj r) (getObj (ρ r)) := by
  intro wL wC hw x wL' h _
  simp only [getObj, Sem.run] at h
  split at h
  · cases h
  · rename_i o hne ho
    cases h
    obtain ⟨o', h1, h2⟩ := hw.obj r _ hi.cb ho
    cases h2 with
    | cells c c' e f f' h3 h4 => exact absurd rfl (hne c e f)
    | number a l h3 =>
      refine ⟨ρ, n, .number (ra ρ a) l, wC, .refl _ _, by simp only [getObj, Sem.run, h1], ⟨a, l, rfl, rfl, h3⟩, hw, .refl _ _ _ _, rfl, fun ev hev => ?_⟩
      have he : (getObj (ρ r)).events P wC #[] = #[⟨.obj (ρ r), false, false⟩] := by
        simp only [getObj, Sem.events, Sem.runT, h1]
        rfl
      rw [he] at hev
      have hev := Array.mem_singleton.1 hev
      subst hev
      exact Ev.obj _ r hi rfl
  · cases h

theorem rel_choose (q : Question) : Rel P B (AE _) ρ n (choose q) (choose q) := by
  intro wL wC hw x wL' h hal
  have h' : (if q.forced then Result.ok 0 wL else Result.ok (q.cut (wL.tape wL.drawn q)) { wL with drawn := wL.drawn + 1 }) = .ok x wL' := by
    simpa only [choose, Sem.run] using h
  have evs : (choose q).events P wC #[] = #[] := events_choose ..
  split at h'
  · rename_i hf
    cases h'
    exact ⟨ρ, n, 0, wC, .refl _ _, by simp only [choose, Sem.run, hf, if_true], rfl, hw, .refl _ _ _ _, rfl, fun ev hev => by rw [evs] at hev; simp at hev⟩
  · rename_i hf
    cases h'
    have ht := hal 0 (by simp) q
    simp only [Nat.add_zero] at ht
    refine ⟨ρ, n, q.cut (wL.tape wL.drawn q), { wC with drawn := wC.drawn + 1 }, .refl _ _, by simp only [choose, Sem.run, hf, ht]; rfl, rfl, ⟨hw.size, hw.base, hw.old, hw.inj, hw.obj, hw.cbn, hw.in_, hw.frz⟩, ⟨Nat.le_refl _, fun _ _ _ => rfl, fun x h1 h2 => by omega, fun b h1 h2 => ?_, rfl, rfl, rfl⟩, by simp only; omega, fun ev hev => by rw [evs] at hev; simp at hev⟩
    have : b < wC.heap.size := h2
    omega

theorem rel_program : Rel P B (fun _ _ p p' => p = P ∧ p' = P) ρ n program program := by
  intro wL wC hw x wL' h _
  simp only [program, Sem.run] at h
  cases h
  exact ⟨ρ, n, P, wC, .refl _ _, rfl, ⟨rfl, rfl⟩, hw, .refl _ _ _ _, rfl, fun ev hev => by simp [program, Sem.events, Sem.runT] at hev⟩

theorem rel_room : Rel P B AU ρ n (mark .noRoom) (mark .noRoom) := by
  intro wL wC hw x wL' h _
  simp only [mark, Sem.run] at h
  cases h
  refine ⟨ρ, n, (), wC, .refl _ _, rfl, trivial, hw, .refl _ _ _ _, rfl, fun ev hev => ?_⟩
  rw [events_mark] at hev
  simp at hev
  subst hev
  exact .room
end
end Go.Tw
/- Lone runs carried over to company, part 5: types, variables of several cells, rows. -/
namespace Go.Tw
open Go
variable [FnSet]

/-- The type's zero value names no block. -/
def ZeroAt (P : Program) (t : TypeId) : Prop := ∀ i v, P.info? t = some i → i.zero = some v → NB v

section
variable {P : Program} {B : Nat} {ρ : Ren} {n : Nat}

def AA : Ren → Nat → Addr → Addr → Prop := fun ρ n a a' => In n a.block ∧ a' = ra ρ a

theorem ra_add (ρ : Ren) (a : Addr) (i : Nat) : ra ρ (a.add i) = (ra ρ a).add i := by
  unfold ra Addr.add; split <;> rfl
theorem add_block (a : Addr) (i : Nat) : (a.add i).block = a.block := by unfold Addr.add; split <;> rfl

theorem rel_typeInfo (t : TypeId) : Rel P B (fun _ _ a b => b = a ∧ P.info? t = some a) ρ n (typeInfo t) (typeInfo t) := by
  unfold typeInfo
  refine rel_bind rel_program fun ρ' n' p p' e ⟨h1, h2⟩ => ?_
  subst h1; subst h2
  cases h : p'.info? t with
  | none => exact rel_halt
  | some i => exact rel_pure ⟨rfl, rfl⟩
theorem rel_underlying (t : TypeId) : Rel P B (fun _ _ a b => b = a ∧ P.underlying t = some a) ρ n (underlying t) (underlying t) := by
  unfold underlying
  refine rel_bind rel_program fun ρ' n' p p' e ⟨h1, h2⟩ => ?_
  subst h1; subst h2
  cases h : p'.underlying t with
  | none => exact rel_halt
  | some i => exact rel_pure ⟨rfl, rfl⟩
theorem rel_sizeOf (t : TypeId) : Rel P B (AE _) ρ n (sizeOf t) (sizeOf t) := by
  unfold sizeOf
  refine rel_bind (rel_typeInfo t) fun ρ' n' a b e ⟨h1, _⟩ => ?_
  subst h1
  exact rel_pure rfl
theorem rel_isAgg (t : TypeId) : Rel P B (AE _) ρ n (isAgg t) (isAgg t) := by
  unfold isAgg
  refine rel_bind (rel_underlying t) fun ρ' n' a b e ⟨h1, _⟩ => ?_
  subst h1
  cases b <;> exact rel_pure rfl
theorem rel_zeroValue {t : TypeId} (hz : ZeroAt P t) : Rel P B (fun ρ n a b => VR ρ n a b) ρ n (zeroValue t) (zeroValue t) := by
  unfold zeroValue
  refine rel_bind (rel_typeInfo t) fun ρ' n' a b e ⟨h1, h2⟩ => ?_
  subst h1
  cases h : b.zero with
  | none => exact rel_halt
  | some v => exact rel_pure (hz b v h2 h).vr

theorem rel_loadCellsFrom (k : Nat) : ∀ {ρ : Ren} {n : Nat} (a : Addr) (i : Nat) {acc acc' : Array Value}, In n a.block → AR ρ n acc acc' → Rel P B AR ρ n (loadCellsFrom a i k acc) (loadCellsFrom (ra ρ a) i k acc') := by
  induction k with
  | zero => intro ρ n a i acc acc' _ h; exact rel_pure h
  | succ k ih =>
    intro ρ n a i acc acc' hlt h
    unfold loadCellsFrom
    rw [← ra_add]
    refine rel_bind (rel_load _ (by rw [add_block]; exact hlt)) fun ρ' n' v v' e hv => ?_
    rw [← e.ra hlt]
    exact ih a (i + 1) (hlt.up e.le) ((h.ex e).push hv)
theorem rel_loadCells {a : Addr} (ha : In n a.block) (k : Nat) : Rel P B AR ρ n (loadCells a k) (loadCells (ra ρ a) k) := rel_loadCellsFrom k a 0 ha .nil

inductive LR (ρ : Ren) (n : Nat) : List Value → List Value → Prop
  | nil : LR ρ n [] []
  | cons {v v' : Value} {l l' : List Value} : VR ρ n v v' → LR ρ n l l' → LR ρ n (v :: l) (v' :: l')
theorem LR.ex {ρ' : Ren} {n' : Nat} (e : Ex ρ n ρ' n') {l l' : List Value} (h : LR ρ n l l') : LR ρ' n' l l' := by
  induction h with
  | nil => exact .nil
  | cons h _ ih => exact .cons (h.ex e) ih
theorem LR.of : ∀ {l l' : List Value}, l.length = l'.length → (∀ (i : Nat) (a b : Value), l[i]? = some a → l'[i]? = some b → VR ρ n a b) → LR ρ n l l'
  | [], [], _, _ => .nil
  | x :: l, y :: l', hl, h => .cons (h 0 x y rfl rfl) (LR.of (by simpa using hl) fun i a b ha hb => h (i + 1) a b (by simpa using ha) (by simpa using hb))
theorem AR.list {xs ys : Array Value} (h : AR ρ n xs ys) : LR ρ n xs.toList ys.toList :=
  .of (by simpa using h.1) fun i a b ha hb => by
    obtain ⟨y, hy, hv⟩ := AR.some h (a := a) (i := i) (by simpa using ha)
    have : ys[i]? = Option.some b := by simpa using hb
    rw [this] at hy; cases hy; exact hv

theorem rel_storeCells : ∀ {vs vs' : List Value} {ρ : Ren} {n : Nat} (a : Addr), LR ρ n vs vs' → In n a.block → ∀ (i : Nat), Rel P B AU ρ n (storeCells a vs i) (storeCells (ra ρ a) vs' i)
  | [], vs', ρ, n, a, h, ha, i => by cases h; exact rel_pure trivial
  | v :: l, vs', ρ, n, a, h, ha, i => by
    cases h with
    | @cons _ v' _ l' hv hl =>
      show Rel P B AU ρ n (store (a.add i) v >>= fun _ => storeCells a l (i + 1)) (store ((ra ρ a).add i) v' >>= fun _ => storeCells (ra ρ a) l' (i + 1))
      rw [← ra_add]
      refine rel_bind (rel_store _ (by rw [add_block]; exact ha) hv) fun ρ' n' _ _ e _ => ?_
      rw [← e.ra ha]
      exact rel_storeCells a (hl.ex e) (ha.up e.le) (i + 1)

theorem rel_loadVar (t : TypeId) {a : Addr} (ha : In n a.block) : Rel P B VR ρ n (loadVar t a) (loadVar t (ra ρ a)) := by
  unfold loadVar
  refine rel_bind (rel_isAgg t) fun ρ1 n1 b b' e1 hb => ?_
  subst hb
  rw [← e1.ra ha]
  have ha1 := ha.up e1.le
  cases b' with
  | true =>
    simp only [if_true]
    refine rel_bind (rel_sizeOf t) fun ρ2 n2 k k' e2 hk => ?_
    subst hk
    rw [← e2.ra ha1]
    exact rel_bind (rel_loadCells (ha1.up e2.le) _) fun ρ3 n3 xs ys e3 h => rel_pure h.agg
  | false => simp only [Bool.false_eq_true, if_false]; exact rel_load a ha1

theorem rel_storeVar (t : TypeId) {a : Addr} (ha : In n a.block) {v v' : Value} (hv : VR ρ n v v') : Rel P B AU ρ n (storeVar t a v) (storeVar t (ra ρ a) v') := by
  unfold storeVar
  refine rel_bind (rel_sizeOf t) fun ρ1 n1 k k' e hk => ?_
  subst hk
  have hc := (hv.ex e).cells
  rw [← hc.1, ← e.ra ha]
  split
  · exact rel_halt
  · exact rel_storeCells a hc.list (ha.up e.le) 0

theorem rel_newRow (t : TypeId) {xs ys : Array Value} (h : AR ρ n xs ys) : Rel P B AA ρ n (newRow t xs) (newRow t ys) := by
  unfold newRow
  refine rel_bind (rel_new (.cells _ _ _ _ _ h fun i h1 h2 => ⟨h1, h2⟩)) fun ρ' n' r r' e ⟨h1, h2, h3⟩ => ?_
  exact rel_pure ⟨h1, by simp [ra, h2, h3]⟩
theorem rel_newVar (t : TypeId) {v v' : Value} (h : VR ρ n v v') : Rel P B AA ρ n (newVar t v) (newVar t v') := rel_newRow t h.cells
theorem rel_part (t : TypeId) {xs ys : Array Value} (h : AR ρ n xs ys) (off : Nat) : Rel P B VR ρ n (part t xs off) (part t ys off) := by
  unfold part
  refine rel_bind (rel_isAgg t) fun ρ1 n1 b b' e1 hb => ?_
  subst hb
  cases b' with
  | true =>
    simp only [if_true]
    refine rel_bind (rel_sizeOf t) fun ρ2 n2 k k' e2 hk => ?_
    subst hk
    exact rel_pure ((((h.ex e1).ex e2).extract _ _).agg)
  | false =>
    simp only [Bool.false_eq_true, if_false]
    rcases (h.ex e1).get? off with ⟨h1, h2⟩ | ⟨x, y, h1, h2, h3⟩
    · rw [h1, h2]; exact rel_halt
    · rw [h1, h2]; exact rel_pure h3
theorem rel_askRoom (k : Nat) : Rel P B AU ρ n (askRoom k) (askRoom k) := by
  unfold askRoom
  split
  · exact rel_room
  · exact rel_pure trivial
end
end Go.Tw
/- Lone runs carried over to company, part 6: the operations: addresses, loads and stores, slices, fields, makes. -/
namespace Go.Tw
open Go
variable [FnSet]
section
variable {P : Program} {B : Nat} {ρ : Ren} {n : Nat}

def No {α : Type} (P : Program) (s : Sem α) : Prop := ∀ w a w', s.run P w ≠ .ok a w'
theorem no_halt {α : Type} (h : Halt) : No P (Sem.halt h : Sem α) := fun w a w' e => by simp [Sem.run] at e
theorem no_bind {α β : Type} {s : Sem α} {f : α → Sem β} (h : ∀ a, No P (f a)) : No P (s >>= f) := by
  intro w a w' e
  rw [Sem.run_bind] at e
  cases h1 : s.run P w with
  | halt x y => rw [h1] at e; cases e
  | ok x y => rw [h1] at e; exact h x _ _ _ e
theorem no_runtimePanic {α : Type} (e : RuntimeError) : No P (runtimePanic e : Sem α) := by
  unfold runtimePanic
  refine no_bind fun p => ?_
  cases e <;> first | exact no_halt _ | exact no_bind fun _ => no_bind fun _ => no_halt _
theorem no_boundsPanic {α : Type} (k : IntKind) (x y : Int) (c : BoundsCode) : No P (boundsPanic k x y c : Sem α) := by
  unfold boundsPanic
  simp only []
  split
  · exact no_bind fun _ => no_runtimePanic _
  · exact no_bind fun _ => no_runtimePanic _
theorem No.rel {α β : Type} {A : Ren → Nat → α → β → Prop} {s : Sem α} {s' : Sem β} (h : No P s) : Rel P B A ρ n s s' := rel_no h

theorem rel_asIntOf {v v' : Value} (h : VR ρ n v v') : Rel P B (AE _) ρ n (asIntOf v) (asIntOf v') := by
  cases h with
  | int k x => exact rel_pure rfl
  | _ => exact rel_halt
theorem rel_asInt {v v' : Value} (h : VR ρ n v v') : Rel P B (AE _) ρ n (asInt v) (asInt v') := by
  unfold asInt
  refine rel_bind (rel_asIntOf h) fun _ _ a b _ hb => ?_
  subst hb; exact rel_pure rfl
theorem rel_asBool {v v' : Value} (h : VR ρ n v v') : Rel P B (AE _) ρ n (asBool v) (asBool v') := by
  cases h with
  | bool b => exact rel_pure rfl
  | _ => exact rel_halt
theorem rel_asAgg {v v' : Value} (h : VR ρ n v v') : Rel P B AR ρ n (asAgg v) (asAgg v') := by
  cases h with
  | agg xs ys h1 h2 => exact rel_pure ⟨h1, h2⟩
  | _ => exact rel_halt
theorem rel_sureAddr {v v' : Value} (h : VR ρ n v v') : Rel P B AA ρ n (Instr.sureAddr v) (Instr.sureAddr v') := by
  cases h with
  | ptr a ha => exact rel_pure ⟨ha, rfl⟩
  | _ => exact rel_halt
theorem rel_asAddr {v v' : Value} (h : VR ρ n v v') : Rel P B AA ρ n (asAddr v) (asAddr v') := by
  cases h with
  | ptr a ha => exact rel_pure ⟨ha, rfl⟩
  | pnil => exact No.rel (show No P (asAddr (.pointer none)) from no_runtimePanic .nilDeref)
  | _ => exact rel_halt

theorem rel_loadAt (t : TypeId) {v v' : Value} (h : VR ρ n v v') : Rel P B VR ρ n (Instr.loadAt t v) (Instr.loadAt t v') := by
  unfold Instr.loadAt
  refine rel_bind (rel_sureAddr h) fun _ _ a a' e ⟨h1, h2⟩ => ?_
  subst h2; exact rel_loadVar t h1
theorem rel_storeAt (t : TypeId) {v v' x x' : Value} (h : VR ρ n v v') (hx : VR ρ n x x') : Rel P B AU ρ n (Instr.storeAt t v x) (Instr.storeAt t v' x') := by
  unfold Instr.storeAt
  refine rel_bind (rel_sureAddr h) fun _ _ a a' e ⟨h1, h2⟩ => ?_
  subst h2; exact rel_storeVar t h1 (hx.ex e)
theorem rel_box (t : TypeId) {v v' : Value} (h : VR ρ n v v') : Rel P B VR ρ n (Instr.box t v) (Instr.box t v') := by
  unfold Instr.box
  refine rel_bind (rel_newVar t h) fun _ _ a a' e ⟨h1, h2⟩ => ?_
  subst h2; exact rel_pure (.ptr a h1)
theorem rel_alloc {t : TypeId} (hz : ZeroAt P t) : Rel P B VR ρ n (Instr.alloc t true (.tuple #[])) (Instr.alloc t true (.tuple #[])) := by
  unfold Instr.alloc
  refine rel_bind (rel_zeroValue hz) fun _ _ z z' e hzz => ?_
  refine rel_bind (rel_newVar t hzz) fun _ _ a a' e ⟨h1, h2⟩ => ?_
  subst h2; exact rel_pure (.ptr a h1)
theorem rel_field (t : TypeId) {v v' : Value} (h : VR ρ n v v') (f : Nat) : Rel P B VR ρ n (Instr.field t v f) (Instr.field t v' f) := by
  unfold Instr.field
  refine rel_bind (rel_underlying t) fun _ _ d d' e ⟨hd, _⟩ => ?_
  subst hd
  cases d' with
  | struct fields =>
    simp only
    cases hf : fields[f]? with
    | none => exact rel_halt
    | some x => exact rel_bind (rel_asAgg (h.ex e)) fun _ _ xs ys e hxy => rel_part _ hxy _
  | _ => exact rel_halt
theorem rel_extract {v v' : Value} (h : VR ρ n v v') (i : Nat) : Rel P B VR ρ n (Instr.extract v i) (Instr.extract v' i) := by
  unfold Instr.extract
  cases h with
  | tup xs ys h1 h2 =>
    simp only
    rcases AR.get? ⟨h1, h2⟩ i with ⟨e1, e2⟩ | ⟨x, y, e1, e2, hv⟩
    · rw [e1, e2]; exact rel_halt
    · rw [e1, e2]; exact rel_pure hv
  | _ => exact rel_halt
theorem rel_makeFunc (f : Nat) (hf : FnSet.ok f) {xs xs' ys ys' : Array Value} (h : AR ρ n xs xs') (k : AR ρ n ys ys') : Rel P B VR ρ n (Instr.makeFunc (.func f) xs ys) (Instr.makeFunc (.func f) xs' ys') := by
  unfold Instr.makeFunc
  exact rel_pure (.fn f _ _ _ _ hf h.1 k.1 h.2 k.2)
/-- Fields that have cells: their places are plain. -/
theorem rel_fieldPlace {a : Addr} (ha : In n a.block) (f : Field) (hs : ∀ i, P.info? f.type = some i → i.size ≠ 0) : Rel P B AA ρ n (fieldPlace a f) (fieldPlace (ra ρ a) f) := by
  unfold fieldPlace sizeOf
  have : Rel P B (fun _ _ a b => b = a ∧ a ≠ 0) ρ n (do pure (← typeInfo f.type).size) (do pure (← typeInfo f.type).size) := by
    refine rel_bind (rel_typeInfo f.type) fun _ _ i i' e ⟨h1, h2⟩ => ?_
    subst h1
    exact rel_pure ⟨rfl, hs _ h2⟩
  refine rel_bind this fun _ _ k k' e ⟨hk, h0⟩ => ?_
  subst hk
  rw [if_neg h0, if_neg h0]
  exact rel_pure ⟨by rw [add_block]; exact ha.up e.le, by rw [ra_add, e.ra ha]⟩
end
end Go.Tw
/- Lone runs carried over to company, part 7: places in slices and arrays, slices of slices, new slices. -/
namespace Go.Tw
open Go
variable [FnSet]
section
variable {P : Program} {B : Nat} {ρ : Ren} {n : Nat}

theorem rel_indexAt (t : TypeId) {x x' i i' : Value} (hx : VR ρ n x x') (hi : VR ρ n i i') : Rel P B VR ρ n (Instr.indexAt t x i) (Instr.indexAt t x' i') := by
  unfold Instr.indexAt
  refine rel_bind (rel_asIntOf hi) fun ρ1 n1 k k' e1 hk => ?_
  subst hk
  obtain ⟨kk, j⟩ := k'
  simp only
  refine rel_bind (rel_underlying t) fun ρ2 n2 d d' e2 ⟨hd, _⟩ => ?_
  subst hd
  have hx2 := (hx.ex e1).ex e2
  have fin : ∀ {ρ n} (a : Addr) (len : Nat) (elem : TypeId), In n a.block → Rel P B VR ρ n
      (underlying t >>= fun u => if 0 ≤ j ∧ j < (len : Int) then sizeOf elem >>= fun s => pure (.pointer (some (a.add (j.toNat * s)))) else if (decide (len ≤ 1) && (match u with | .array .. => true | _ => false)) = true then unsupported (.noEntry "op/indexAddr.an index out of range at an array of length 0 or 1 (ledger 616)") else boundsPanic kk j len .index)
      (underlying t >>= fun u => if 0 ≤ j ∧ j < (len : Int) then sizeOf elem >>= fun s => pure (.pointer (some ((ra ρ a).add (j.toNat * s)))) else if (decide (len ≤ 1) && (match u with | .array .. => true | _ => false)) = true then unsupported (.noEntry "op/indexAddr.an index out of range at an array of length 0 or 1 (ledger 616)") else boundsPanic kk j len .index) := by
    intro ρ n a len elem ha
    refine rel_bind (rel_underlying t) fun ρ3 n3 d d' e3 ⟨hd, _⟩ => ?_
    subst hd
    split
    · refine rel_bind (rel_sizeOf elem) fun ρ4 n4 s s' e4 hs => ?_
      subst hs
      refine rel_pure ?_
      rw [← (e3.trans e4).ra ha, ← ra_add]
      exact .ptr _ (by rw [add_block]; exact ha.up (e3.trans e4).le)
    · generalize (decide (len ≤ 1) && _) = bb
      cases bb with
      | true => exact rel_halt
      | false => exact No.rel (no_boundsPanic kk j len .index)
  cases d' with
  | array len elem =>
    refine rel_bind (rel_sureAddr hx2) fun ρ3 n3 a a' e3 ⟨h1, h2⟩ => ?_
    subst h2
    exact fin a len elem h1
  | slice elem =>
    cases hx2 with
    | snil l c =>
      show Rel P B VR ρ2 n2 (underlying t >>= fun _ => boundsPanic kk j 0 .index) (underlying t >>= fun _ => boundsPanic kk j 0 .index)
      exact No.rel (no_bind fun _ => no_boundsPanic kk j 0 .index)
    | sz p =>
      show Rel P B VR ρ2 n2 (underlying t >>= fun _ => boundsPanic kk j 0 .index) _
      exact No.rel (no_bind fun _ => no_boundsPanic kk j 0 .index)
    | sl a l c ha => exact fin a l elem ha
    | _ => exact rel_halt
  | _ => exact rel_halt
def AL (y : Nat) : Ren → Nat → Nat → Nat → Prop := fun _ _ a b => a = b ∧ a ≤ y
theorem rel_sliceBound {x x' : Value} (hx : VR ρ n x x') (y : Nat) (c : BoundsCode) : Rel P B (AL y) ρ n (Instr.sliceBound x y c) (Instr.sliceBound x' y c) := by
  unfold Instr.sliceBound
  refine rel_bind (rel_asIntOf hx) fun ρ1 n1 k k' e1 hk => ?_
  subst hk
  obtain ⟨kk, i⟩ := k'
  simp only
  split
  · rename_i h
    exact rel_pure ⟨rfl, by omega⟩
  · exact No.rel (no_boundsPanic kk i y c)
inductive OV (ρ : Ren) (n : Nat) : Option Value → Option Value → Prop
  | none : OV ρ n none none
  | some {v v' : Value} : VR ρ n v v' → OV ρ n (some v) (some v')
theorem OV.ex {ρ' : Ren} {n' : Nat} (e : Ex ρ n ρ' n') {x y : Option Value} (h : OV ρ n x y) : OV ρ' n' x y := by
  cases h with
  | none => exact .none
  | some h => exact .some (h.ex e)
def ob (o : Option Value) (k : Nat) (c : BoundsCode) (d : Nat) : Sem Nat := match o with
  | some v => Instr.sliceBound v k c
  | none => pure d
theorem rel_ob {o o' : Option Value} (h : OV ρ n o o') (k : Nat) (c : BoundsCode) (d : Nat) (hd : d ≤ k) : Rel P B (AL k) ρ n (ob o k c d) (ob o' k c d) := by
  cases h with
  | none => exact rel_pure ⟨rfl, hd⟩
  | some h => exact rel_sliceBound h k c
def oh (hi mx : Option Value) (b : Bool) (m len : Nat) : Sem Nat := match hi, mx with
  | none, some _ => stuck "Slice: max without high"
  | some v, some _ => Instr.sliceBound v m .slice3B
  | some v, none => Instr.sliceBound v m (if b then .sliceAcap else .sliceAlen)
  | none, none => pure len
theorem sliceBounds_eq (b : Bool) (len cap : Nat) (lo hi mx : Option Value) : Instr.sliceBounds b len cap lo hi mx =
    ob mx cap (if b then .slice3Acap else .slice3Alen) cap >>= fun m => oh hi mx b m len >>= fun h => ob lo h (if mx.isSome then .slice3C else .sliceB) 0 >>= fun l => pure (l, h, m) := by
  cases lo <;> cases hi <;> cases mx <;> rfl
theorem rel_sliceBounds (b : Bool) (len cap : Nat) {lo lo' hi hi' mx mx' : Option Value} (hlo : OV ρ n lo lo') (hhi : OV ρ n hi hi') (hmx : OV ρ n mx mx') :
    Rel P B (fun _ _ r r' => r = r' ∧ r.2.2 ≤ cap ∧ r.2.1 ≤ max cap len) ρ n (Instr.sliceBounds b len cap lo hi mx) (Instr.sliceBounds b len cap lo' hi' mx') := by
  rw [sliceBounds_eq, sliceBounds_eq]
  have hsome : mx'.isSome = mx.isSome := by cases hmx <;> rfl
  rw [hsome]
  refine rel_bind (rel_ob hmx _ _ _ (Nat.le_refl _)) fun ρ1 n1 m m' e1 ⟨hm, hmc⟩ => ?_
  subst hm
  have h2 : Rel P B (AL (max m len)) ρ1 n1 (oh hi mx b m len) (oh hi' mx' b m len) := by
    have a := hhi.ex e1
    have c := hmx.ex e1
    cases a with
    | none =>
      cases c with
      | none => exact rel_pure ⟨rfl, by omega⟩
      | some h => exact rel_halt
    | some h =>
      cases c with
      | none => exact rel_mono (rel_sliceBound h _ _) fun _ _ _ _ _ x => ⟨x.1, Nat.le_trans x.2 (Nat.le_max_left _ _)⟩
      | some h' => exact rel_mono (rel_sliceBound h _ _) fun _ _ _ _ _ x => ⟨x.1, Nat.le_trans x.2 (Nat.le_max_left _ _)⟩
  refine rel_bind h2 fun ρ2 n2 h h' e2 ⟨hh, hle⟩ => ?_
  subst hh
  refine rel_bind (rel_ob ((hlo.ex e1).ex e2) _ _ _ (Nat.zero_le _)) fun ρ3 n3 l l' e3 ⟨hl, _⟩ => ?_
  subst hl
  exact rel_pure ⟨rfl, hmc, Nat.le_trans hle (by show max m len ≤ max cap len; omega)⟩
theorem rel_slice (t : TypeId) {x x' : Value} (hx : VR ρ n x x') {lo lo' hi hi' mx mx' : Option Value} (hlo : OV ρ n lo lo') (hhi : OV ρ n hi hi') (hmx : OV ρ n mx mx')
    (ht : ∃ e, P.underlying t = some (.slice e)) : Rel P B VR ρ n (Instr.slice t x lo hi mx) (Instr.slice t x' lo' hi' mx') := by
  unfold Instr.slice
  refine rel_bind (rel_underlying t) fun ρ1 n1 d d' e1 ⟨hd, hd2⟩ => ?_
  subst hd
  obtain ⟨el, hel⟩ := ht
  rw [hel] at hd2
  cases hd2
  have fin : ∀ (a a' : Option Addr) (len cap : Nat), VR ρ1 n1 (.slice a len cap) (.slice a' len cap) → Rel P B VR ρ1 n1
      (Instr.sliceBounds true len cap lo hi mx >>= fun x => match x with | (l, h, m) => sizeOf el >>= fun s => pure (.slice (if m = l then a else a.map (·.add (l * s))) (h - l) (m - l)))
      (Instr.sliceBounds true len cap lo' hi' mx' >>= fun x => match x with | (l, h, m) => sizeOf el >>= fun s => pure (.slice (if m = l then a' else a'.map (·.add (l * s))) (h - l) (m - l))) := by
    intro a a' len cap hv
    refine rel_bind (rel_sliceBounds true len cap (hlo.ex e1) (hhi.ex e1) (hmx.ex e1)) fun ρ2 n2 r r' e2 ⟨hr, hr1, hr2⟩ => ?_
    subst hr
    obtain ⟨l, h, m⟩ := r
    simp only at hr1 hr2
    refine rel_bind (rel_sizeOf el) fun ρ3 n3 s s' e3 hs => ?_
    subst hs
    refine rel_pure ?_
    have := (hv.ex e2).ex e3
    cases this with
    | snil => simp only [Option.map_none, ite_self]; exact .snil _ _
    | sz p =>
      rw [show h - l = 0 by omega, show m - l = 0 by omega]
      simp only [Option.map_none, ite_self]
      exact .sz _
    | sl b _ _ hb =>
      split
      · exact .sl b _ _ hb
      · simp only [Option.map_some]
        rw [← ra_add]
        exact .sl _ _ _ (by rw [add_block]; exact hb)
  have hx1 := hx.ex e1
  cases hx1 with
  | snil l c => exact fin none none l c (.snil l c)
  | sz p => exact fin none p 0 0 (.sz p)
  | sl a l c ha => exact fin (some a) (some (ra ρ1 a)) l c (.sl a l c ha)
  | _ => exact rel_halt
end
end Go.Tw
/- Lone runs carried over to company, part 8: new slices; arithmetic; conversions between integers; the built-in functions. -/
namespace Go.Tw
open Go
variable [FnSet]
section
variable {P : Program} {B : Nat} {ρ : Ren} {n : Nat}

theorem VR.dflt : VR ρ n (default : Value) default := .bool _
theorem AR.bang {xs ys : Array Value} (h : AR ρ n xs ys) (i : Nat) : VR ρ n xs[i]! ys[i]! := by
  rw [getElem!_def, getElem!_def]
  rcases h.get? i with ⟨h1, h2⟩ | ⟨a, b, h1, h2, h3⟩
  · rw [h1, h2]; exact .dflt
  · rw [h1, h2]; exact h3
theorem AR.zeros {xs ys : Array Value} (h : AR ρ n xs ys) (k : Nat) : AR ρ n ((Array.range k).map (xs[· % xs.size]!)) ((Array.range k).map (ys[· % ys.size]!)) :=
  AR.map _ fun i _ => by rw [h.1]; exact h.bang _

theorem no_first {α β : Type} {s : Sem α} {f : α → Sem β} (h : No P s) : No P (s >>= f) := by
  intro w a w' e
  rw [Sem.run_bind] at e
  cases h1 : s.run P w with
  | halt x y => rw [h1] at e; cases e
  | ok x y => exact h _ _ _ h1

theorem rel_makeSlice (t : TypeId) (hz : ∀ e, P.underlying t = some (.slice e) → ZeroAt P e) {l l' c c' : Value} (hl : VR ρ n l l') (hc : VR ρ n c c') : Rel P B VR ρ n (Instr.makeSlice t l c) (Instr.makeSlice t l' c') := by
  unfold Instr.makeSlice
  refine rel_bind (rel_underlying t) fun ρ1 n1 d d' e1 ⟨hd, hd0⟩ => ?_
  subst hd
  cases d' with
  | slice elem =>
    simp only
    refine rel_bind (rel_asInt (hl.ex e1)) fun ρ2 n2 x x' e2 hx => ?_
    subst hx
    refine rel_bind (rel_asInt ((hc.ex e1).ex e2)) fun ρ3 n3 y y' e3 hy => ?_
    subst hy
    refine rel_bind (rel_typeInfo elem) fun ρ4 n4 i i' e4 ⟨hi, _⟩ => ?_
    subst hi
    split
    · apply No.rel
      repeat' split
      all_goals first | exact no_first (no_runtimePanic _) | exact no_bind fun _ => no_first (no_runtimePanic _)
    · refine rel_bind (rel_askRoom _) fun ρ5 n5 _ _ e5 _ => ?_
      refine rel_bind (rel_sizeOf elem) fun ρ6 n6 s s' e6 hs => ?_
      subst hs
      have fin : ∀ {ρ n} (z z' : Array Value), AR ρ n z z' → Rel P B VR ρ n
          (newRow elem ((Array.range ((IntKind.i64.wrap y').toNat * s')).map (z[· % z.size]!)) >>= fun a => pure (.slice (some a) (IntKind.i64.wrap x').toNat (IntKind.i64.wrap y').toNat))
          (newRow elem ((Array.range ((IntKind.i64.wrap y').toNat * s')).map (z'[· % z'.size]!)) >>= fun a => pure (.slice (some a) (IntKind.i64.wrap x').toNat (IntKind.i64.wrap y').toNat)) := by
        intro ρ n z z' h
        refine rel_bind (rel_newRow elem (h.zeros _)) fun ρ7 n7 a a' e7 ⟨h1, h2⟩ => ?_
        subst h2
        exact rel_pure (.sl a _ _ h1)
      split
      · exact fin #[] #[] .nil
      · exact rel_bind (rel_zeroValue (hz elem hd0)) fun ρ7 n7 z z' e7 h => fin _ _ h.cells
  | _ => exact rel_halt

/-- Programs that touch no memory and come to one value, whatever the world. -/
theorem rel_same {α : Type} {s : Sem α} (a : α) (h : s = Pure.pure a ∨ No P s) : Rel P B (AE α) ρ n s s := by
  rcases h with rfl | h
  · exact rel_pure rfl
  · exact h.rel
theorem rel_intArith (op : BinOp) (k : IntKind) (x y : Int) : Rel P B VR ρ n (Op.intArith op k x y) (Op.intArith op k x y) := by
  unfold Op.intArith
  cases op <;> first | exact rel_pure (.int _ _) | exact rel_halt
theorem rel_intCmp (op : BinOp) (x y : Int) : Rel P B VR ρ n (Op.intCmp op x y) (Op.intCmp op x y) := by
  unfold Op.intCmp
  cases op <;> first | exact rel_pure (.bool _) | exact rel_halt
theorem rel_intBits (op : BinOp) (k : IntKind) (x y : Int) : Rel P B VR ρ n (Op.intBits op k x y) (Op.intBits op k x y) := by
  unfold Op.intBits
  cases op <;> first | exact rel_pure (.int _ _) | exact rel_halt
theorem rel_shift (op : BinOp) (k yk : IntKind) (x y : Int) : Rel P B VR ρ n (Op.shift op k x yk y) (Op.shift op k x yk y) := by
  unfold Op.shift
  split
  · exact No.rel (no_runtimePanic _)
  · cases op <;> first | exact rel_pure (.int _ _) | exact rel_halt
theorem rel_intDiv (op : BinOp) (k : IntKind) (x y : Int) : Rel P B VR ρ n (Op.intDiv op k x y) (Op.intDiv op k x y) := by
  unfold Op.intDiv
  repeat' split
  all_goals first | exact rel_pure (.int _ _) | exact rel_halt | exact No.rel (no_runtimePanic _)
/-- Two integers. -/
theorem rel_binInt (op : BinOp) (t : TypeId) (k k' : IntKind) (x y : Int) : Rel P B VR ρ n (binOp op t (.int k x) (.int k' y)) (binOp op t (.int k x) (.int k' y)) := by
  have gen : ∀ s : Sem Value, (∃ o k a b, s = Op.intArith o k a b) ∨ (∃ o k a b, s = Op.intDiv o k a b) ∨ (∃ o k a b, s = Op.intBits o k a b) ∨ (∃ o a b, s = Op.intCmp o a b) ∨ (∃ o k a k' b, s = Op.shift o k a k' b) ∨ (∃ h, s = Sem.halt h) → Rel P B VR ρ n s s := by
    rintro s (⟨o, k, a, b, rfl⟩ | ⟨o, k, a, b, rfl⟩ | ⟨o, k, a, b, rfl⟩ | ⟨o, a, b, rfl⟩ | ⟨o, k, a, k', b, rfl⟩ | ⟨h, rfl⟩)
    · exact rel_intArith o k a b
    · exact rel_intDiv o k a b
    · exact rel_intBits o k a b
    · exact rel_intCmp o a b
    · exact rel_shift o k k' a b
    · exact rel_halt
  apply gen
  by_cases hk : k = k'
  · subst hk
    cases op <;> simp only [binOp, ne_eq, not_true_eq_false, if_false] <;>
      first | exact .inl ⟨_, _, _, _, rfl⟩ | exact .inr (.inl ⟨_, _, _, _, rfl⟩) | exact .inr (.inr (.inl ⟨_, _, _, _, rfl⟩)) | exact .inr (.inr (.inr (.inl ⟨_, _, _, rfl⟩))) | exact .inr (.inr (.inr (.inr (.inl ⟨_, _, _, _, _, rfl⟩))))
  · cases op <;> simp only [binOp, ne_eq, hk, not_false_eq_true, if_true] <;> first | exact .inr (.inr (.inr (.inr (.inr ⟨_, rfl⟩)))) | exact .inr (.inr (.inr (.inr (.inl ⟨_, _, _, _, _, rfl⟩))))
theorem rel_unary (op : UnOp) {x x' : Value} (h : VR ρ n x x') : Rel P B VR ρ n (Op.unary op x) (Op.unary op x') := by
  cases h with
  | int k x =>
    cases op with
    | neg => exact rel_intArith .sub k 0 x
    | xor => exact rel_intBits .xor k (if k.signed then -1 else k.max) x
    | _ => exact rel_halt
  | _ => cases op <;> first | exact rel_pure (.float _ _) | exact rel_pure (.bool _) | exact rel_halt
end
end Go.Tw
/- Lone runs carried over to company, part 9: copy and append. -/
namespace Go.Tw
open Go
variable [FnSet]
section
variable {P : Program} {B : Nat} {ρ : Ren} {n : Nat}

theorem rel_lenOf {x x' : Value} (h : VR ρ n x x') : Rel P B (fun _ _ k k' => k = k' ∧ (x = .slice none 0 0 → k = 0)) ρ n (Builtin.lenOf x) (Builtin.lenOf x') := by
  cases h with
  | snil l c => exact rel_pure ⟨rfl, fun h => by cases h; rfl⟩
  | sz p => exact rel_pure ⟨rfl, fun _ => rfl⟩
  | sl a l c ha => exact rel_pure ⟨rfl, fun h => by cases h⟩
  | str s => exact rel_pure ⟨rfl, fun h => by cases h⟩
  | _ => exact rel_halt
theorem AR.bytes (s : ByteArray) (k : Nat) : AR ρ n ((s.extract 0 k).data.map fun b => Value.int .u8 b.toNat) ((s.extract 0 k).data.map fun b => Value.int .u8 b.toNat) :=
  AR.map _ fun _ _ => .int _ _
/-- Of nothing nothing is read. -/
theorem firstCells_none (size : Nat) (p : Option Addr) (l c : Nat) : Builtin.firstCells size 0 (.slice p l c) = pure #[] := by
  cases p with
  | none => rfl
  | some a => simp only [Builtin.firstCells, Nat.zero_mul]; rfl
theorem rel_firstCells (size k : Nat) {x x' : Value} (h : VR ρ n x x') (h0 : x = .slice none 0 0 → k = 0) : Rel P B AR ρ n (Builtin.firstCells size k x) (Builtin.firstCells size k x') := by
  cases h with
  | snil l c => exact rel_pure .nil
  | sz p =>
    obtain rfl := h0 rfl
    rw [firstCells_none, firstCells_none]
    exact rel_pure .nil
  | sl a l c ha => exact rel_loadCells ha _
  | str s => exact rel_pure (AR.bytes s k)
  | _ => exact rel_halt

end
end Go.Tw
/- Lone runs carried over to company, part 10: append. -/
namespace Go.Tw
open Go
variable [FnSet]
section
variable {P : Program} {B : Nat} {ρ : Ren} {n : Nat}
theorem sem_pure_bind {α β : Type} (a : α) (f : α → Sem β) : ((Pure.pure a : Sem α) >>= f) = f a := rfl
theorem AR.zc {xs ys : Array Value} (h : AR ρ n xs ys) (k : Nat) : AR ρ n (Builtin.zeroCells xs k) (Builtin.zeroCells ys k) := by
  unfold Builtin.zeroCells
  rw [← h.1]
  exact AR.map _ fun i _ => by rw [show (xs.size : Nat) = ys.size from h.1]; exact h.bang _
/-- What is done with what comes behind, once it is known how much. -/
theorem rel_grow (elem : TypeId) (hz : ZeroAt P elem) (z l c k : Nat) {b b' : Option Addr} {s s' : Value} (hb : VR ρ n (.slice b l c) (.slice b' l c)) (hs : VR ρ n s s') (hk : s = .slice none 0 0 → k = 0) :
    Rel P B VR ρ n
      (choose (.appendCap (l + k) c elem) >>= fun cap => typeInfo elem >>= fun i => askRoom (cap * i.bytes) >>= fun _ => Builtin.firstCells z l (.slice b l c) >>= fun old => Builtin.firstCells z k s >>= fun new =>
        zeroValue elem >>= fun zv => newRow elem (old ++ new ++ Builtin.zeroCells zv.cells (cap - (l + k))) >>= fun a => pure (.slice (some a) (l + k) cap))
      (choose (.appendCap (l + k) c elem) >>= fun cap => typeInfo elem >>= fun i => askRoom (cap * i.bytes) >>= fun _ => Builtin.firstCells z l (.slice b' l c) >>= fun old => Builtin.firstCells z k s' >>= fun new =>
        zeroValue elem >>= fun zv => newRow elem (old ++ new ++ Builtin.zeroCells zv.cells (cap - (l + k))) >>= fun a => pure (.slice (some a) (l + k) cap)) := by
  refine rel_bind (rel_choose _) fun ρ1 n1 cap cap' e1 hc => ?_
  subst hc
  refine rel_bind (rel_typeInfo elem) fun ρ2 n2 i i' e2 ⟨hi, _⟩ => ?_
  subst hi
  refine rel_bind (rel_askRoom _) fun ρ3 n3 _ _ e3 _ => ?_
  have e := (e1.trans e2).trans e3
  refine rel_bind (rel_firstCells z l (hb.ex e) fun h => by cases h; rfl) fun ρ4 n4 old old' e4 ho => ?_
  refine rel_bind (rel_firstCells z k ((hs.ex e).ex e4) hk) fun ρ5 n5 new new' e5 hn => ?_
  refine rel_bind (rel_zeroValue hz) fun ρ6 n6 zv zv' e6 hzv => ?_
  refine rel_bind (rel_newRow elem (((((ho.ex e5).append hn).ex e6)).append (hzv.cells.zc _))) fun ρ7 n7 a a' e7 ⟨h1, h2⟩ => ?_
  subst h2
  exact rel_pure (.sl a _ _ h1)
def far (b : Option Addr) (z l k : Nat) (s : Value) : Sem PUnit := Builtin.mayShare z l k b s >>= fun y => if (!y) = true then mark .noRoom >>= fun _ => unsupported (.resourceLimit "append: a slice or a string whose bytes no memory bears") else unsupported (.resourceLimit "append: a slice or a string whose bytes no memory bears")
theorem no_far (b : Option Addr) (z l k : Nat) (s : Value) : No P (far b z l k s) := no_bind fun y => by
  cases y with
  | false => exact no_bind fun _ => no_halt _
  | true => exact no_halt _
/-- What is done once the two lengths are known and there is no room. -/
def more (elem : TypeId) (z l c k : Nat) (b : Option Addr) (s : Value) : Sem Value :=
  choose (.appendCap (l + k) c elem) >>= fun cap => typeInfo elem >>= fun i => askRoom (cap * i.bytes) >>= fun _ => Builtin.firstCells z l (.slice b l c) >>= fun old => Builtin.firstCells z k s >>= fun new =>
    zeroValue elem >>= fun zv => newRow elem (old ++ new ++ Builtin.zeroCells zv.cells (cap - (l + k))) >>= fun a => pure (.slice (some a) (l + k) cap)
def wide (elem : TypeId) (z l c k : Nat) (b : Option Addr) (s : Value) : Sem Value :=
  typeInfo elem >>= fun i => if Builtin.nextslicecap (l + k) c * i.bytes > 2 ^ 48 then far b z l k s >>= fun _ => more elem z l c k b s else more elem z l c k b s
def over (elem : TypeId) (z l c k : Nat) (b : Option Addr) (s : Value) : Sem Value :=
  typeInfo elem >>= fun i => if ((l + k : Nat) : Int) > IntKind.i64.max ∧ i.bytes = 0 then (runtimePanic (.error "growslice: len out of range") : Sem PUnit) >>= fun _ => wide elem z l c k b s else wide elem z l c k b s
theorem rel_over (elem : TypeId) (hz : ZeroAt P elem) (z l c k : Nat) {b b' : Option Addr} {s s' : Value} (hb : VR ρ n (.slice b l c) (.slice b' l c)) (hs : VR ρ n s s') (hk : s = .slice none 0 0 → k = 0) :
    Rel P B VR ρ n (over elem z l c k b s) (over elem z l c k b' s') := by
  have hw : ∀ {ρ n}, VR ρ n (.slice b l c) (.slice b' l c) → VR ρ n s s' → Rel P B VR ρ n (wide elem z l c k b s) (wide elem z l c k b' s') := by
    intro ρ n hb hs
    refine rel_bind (rel_typeInfo elem) fun ρ4 n4 i i' e4 ⟨hi, _⟩ => ?_
    subst hi
    split
    · exact No.rel (no_first (no_far _ _ _ _ _))
    · exact rel_grow elem hz z l c k (hb.ex e4) (hs.ex e4) hk
  refine rel_bind (rel_typeInfo elem) fun ρ3 n3 i i' e3 ⟨hi, _⟩ => ?_
  subst hi
  split
  · exact No.rel (no_first (no_runtimePanic _))
  · exact hw (hb.ex e3) (hs.ex e3)
def app (elem : TypeId) (z l c : Nat) (b : Option Addr) (s : Value) : Sem Value :=
  Builtin.lenOf s >>= fun k => if l + k ≤ c then (Builtin.firstCells z k s >>= fun new => match b with
    | some a => storeCells (a.add (l * z)) new.toList >>= fun _ => pure (.slice b (l + k) c)
    | none => pure (.slice b (l + k) c)) else over elem z l c k b s
theorem rel_app (elem : TypeId) (hz : ZeroAt P elem) (z l c : Nat) {b b' : Option Addr} {s s' : Value} (hb : VR ρ n (.slice b l c) (.slice b' l c)) (hs : VR ρ n s s') :
    Rel P B VR ρ n (app elem z l c b s) (app elem z l c b' s') := by
  refine rel_bind (rel_lenOf hs) fun ρ2 n2 k k' e2 ⟨hk, hk0⟩ => ?_
  subst hk
  split
  · rename_i hle
    by_cases hsz : ∃ p, b = none ∧ b' = p ∧ l = 0 ∧ c = 0
    · obtain ⟨_, rfl, rfl, rfl, rfl⟩ := hsz
      obtain rfl : k = 0 := by omega
      have hs2 := hs.ex e2
      cases hs2 with
      | snil l c => rw [firstCells_none]; cases b' with | none => exact rel_pure (.snil _ _) | some a => exact rel_pure (.sz _)
      | sz q => rw [firstCells_none, firstCells_none]; cases b' with | none => exact rel_pure (.snil _ _) | some a => exact rel_pure (.sz _)
      | sl a l c ha => rw [firstCells_none, firstCells_none]; cases b' with | none => exact rel_pure (.snil _ _) | some a => exact rel_pure (.sz _)
      | str x => rw [show Builtin.firstCells z 0 (.string x) = pure #[] by simp [Builtin.firstCells]]; cases b' with | none => exact rel_pure (.snil _ _) | some a => exact rel_pure (.sz _)
      | _ => exact rel_halt
    refine rel_bind (rel_firstCells z k (hs.ex e2) hk0) fun ρ3 n3 new new' e3 hnew => ?_
    have hb3 := (hb.ex e2).ex e3
    cases hb3 with
    | snil => exact rel_pure (.snil _ _)
    | sz p => exact absurd ⟨_, rfl, rfl, rfl, rfl⟩ hsz
    | sl a _ _ ha =>
      simp only
      rw [← ra_add]
      refine rel_bind (rel_storeCells (a.add (l * z)) hnew.list (by rw [add_block]; exact ha) 0) fun ρ4 n4 _ _ e4 _ => ?_
      rw [← e4.ra ha]
      exact rel_pure (.sl a _ _ (ha.up e4.le))
  · exact rel_over elem hz z l c k (hb.ex e2) (hs.ex e2) hk0
theorem append_eq (dT : TypeId) (elem : TypeId) (ts : Array TypeId) (t : TypeId) (b : Option Addr) (l c : Nat) (s : Value) (xs : Array Value) (h0 : ts[0]? = some dT) (h1 : ts[1]? = none) (h2 : xs[0]? = some (.slice b l c)) (h3 : xs[1]? = some s) :
    Builtin.append_ ts t xs = (underlying dT >>= fun u => match u with
      | .slice elem => sizeOf elem >>= fun z => app elem z l c b s
      | _ => stuck "append: slice type expected") := by
  unfold Builtin.append_
  rw [h0, h1, h2, h3]
  dsimp only
  refine congrArg (underlying dT >>= ·) ?_
  funext u
  cases u with
  | slice elem =>
    simp only [sem_pure_bind, Bool.false_eq_true, if_false, Bool.not_false, if_true, false_or]
    congr 1
    funext z
    unfold app over wide more far
    cases b <;> rfl
  | _ => rfl
end
end Go.Tw
/- Lone runs carried over to company, part 11: append as a whole. -/
namespace Go.Tw
open Go
variable [FnSet]
section
variable {P : Program} {B : Nat} {ρ : Ren} {n : Nat}
theorem rel_append (ts : Array TypeId) (t : TypeId) (hz : ∀ dT e, ts[0]? = some dT → P.underlying dT = some (.slice e) → ZeroAt P e) (hn : ∀ xT k, ts[1]? = some xT → P.underlying xT ≠ some (.int k)) {xs ys : Array Value} (h : AR ρ n xs ys) : Rel P B VR ρ n (Builtin.append_ ts t xs) (Builtin.append_ ts t ys) := by
  unfold Builtin.append_
  cases h0 : ts[0]? with
  | none => exact rel_halt
  | some dT =>
  rcases h.get? 0 with ⟨h1, h2⟩ | ⟨d, d', h1, h2, hd⟩
  · rw [h1, h2]; exact rel_halt
  rcases h.get? 1 with ⟨h3, h4⟩ | ⟨s, s', h3, h4, hs⟩
  · rw [h1, h2, h3, h4]; exact rel_halt
  rw [h1, h2, h3, h4]
  refine rel_bind (rel_underlying dT) fun ρ1 n1 u u' e1 ⟨hu, hu0⟩ => ?_
  subst hu
  cases u' with
  | slice elem =>
    replace hz := hz dT elem h0 hu0
    have hd1 := hd.ex e1
    have hs1 := hs.ex e1
    cases hd1 with
    | snil l c =>
      refine rel_bind (rel_sizeOf elem) fun ρ2 n2 z z' e2 hz2 => ?_
      subst hz2
      cases h5 : ts[1]? with
      | none =>
        simp only [sem_pure_bind, Bool.false_eq_true, if_false, Bool.not_false, if_true, false_or]
        exact rel_app elem hz z' l c (.snil l c) (hs1.ex e2)
      | some xT =>
        refine rel_bind (rel_underlying xT) fun ρ3 n3 d d' e3 ⟨hd, hd2⟩ => ?_
        subst hd
        cases d' with
        | int k => exact absurd hd2 (hn xT k h5)
        | _ =>
          simp only [sem_pure_bind, Bool.false_eq_true, if_false, Bool.not_false, if_true, false_or]
          exact rel_app elem hz z' l c (.snil l c) ((hs1.ex e2).ex e3)
    | sz p =>
      refine rel_bind (rel_sizeOf elem) fun ρ2 n2 z z' e2 hz2 => ?_
      subst hz2
      cases h5 : ts[1]? with
      | none =>
        have := rel_app (B := B) (ρ := ρ2) (n := n2) elem hz z' 0 0 (.sz p) (hs1.ex e2)
        cases p <;> (simp only [sem_pure_bind, Bool.false_eq_true, if_false, Bool.not_false, if_true, false_or]; exact this)
      | some xT =>
        refine rel_bind (rel_underlying xT) fun ρ3 n3 d d' e3 ⟨hd, hd2⟩ => ?_
        subst hd
        have := rel_app (B := B) (ρ := ρ3) (n := n3) elem hz z' 0 0 (.sz p) ((hs1.ex e2).ex e3)
        cases d' with
        | int k => exact absurd hd2 (hn xT k h5)
        | _ => cases p <;> (simp only [sem_pure_bind, Bool.false_eq_true, if_false, Bool.not_false, if_true, false_or]; exact this)
    | sl a l c ha =>
      refine rel_bind (rel_sizeOf elem) fun ρ2 n2 z z' e2 hz2 => ?_
      subst hz2
      rw [← e2.ra ha]
      have ha2 := ha.up e2.le
      cases h5 : ts[1]? with
      | none =>
        simp only [sem_pure_bind, Bool.false_eq_true, if_false, Bool.not_false, if_true, false_or]
        exact rel_app elem hz z' l c (.sl a l c ha2) (hs1.ex e2)
      | some xT =>
        refine rel_bind (rel_underlying xT) fun ρ3 n3 d d' e3 ⟨hd, hd2⟩ => ?_
        subst hd
        rw [← e3.ra ha2]
        have ha3 := ha2.up e3.le
        cases d' with
        | int k => exact absurd hd2 (hn xT k h5)
        | _ =>
          simp only [sem_pure_bind, Bool.false_eq_true, if_false, Bool.not_false, if_true, false_or]
          exact rel_app elem hz z' l c (.sl a l c ha3) ((hs1.ex e2).ex e3)
    | _ => exact rel_halt
  | _ => exact rel_halt
end
end Go.Tw
/- Lone runs carried over to company, part 12: len of slices and strings, max and min, conversions between integers, truth values. -/
namespace Go.Tw
open Go
variable [FnSet]
section
variable {P : Program} {B : Nat} {ρ : Ren} {n : Nat}
theorem rel_len (ts : Array TypeId) (t : TypeId) (hs : ∀ xT, ts[0]? = some xT → (∃ e, P.underlying xT = some (.slice e)) ∨ P.underlying xT = some .string) {xs ys : Array Value} (h : AR ρ n xs ys) : Rel P B VR ρ n (Builtin.len_ ts t xs) (Builtin.len_ ts t ys) := by
  unfold Builtin.len_
  cases h0 : ts[0]? with
  | none => exact rel_halt
  | some dT =>
  rcases h.get? 0 with ⟨h1, h2⟩ | ⟨d, d', h1, h2, hd⟩
  · rw [h1, h2]; exact rel_halt
  rw [h1, h2]
  refine rel_bind (rel_underlying dT) fun ρ1 n1 u u' e1 ⟨hu, hu2⟩ => ?_
  subst hu
  rcases hs dT h0 with ⟨e, he⟩ | he
  · rw [he] at hu2; cases hu2
    cases hd <;> first | exact rel_pure (.int _ _) | exact rel_halt
  · rw [he] at hu2; cases hu2
    cases hd <;> first | exact rel_pure (.int _ _) | exact rel_halt
theorem rel_max2 {k k' : IntKind} {x y : Int} : Rel P B VR ρ n (Builtin.max2 (.int k x) (.int k' y)) (Builtin.max2 (.int k x) (.int k' y)) := rel_pure (.int _ _)
theorem rel_min2 {k k' : IntKind} {x y : Int} : Rel P B VR ρ n (Builtin.min2 (.int k x) (.int k' y)) (Builtin.min2 (.int k x) (.int k' y)) := rel_pure (.int _ _)
theorem rel_convInt (src dst : TypeId) {x x' : Value} (h : VR ρ n x x') (hd : ∃ k, P.underlying dst = some (.int k)) (hs : ∃ k, P.underlying src = some (.int k)) : Rel P B VR ρ n (convert src dst x) (convert src dst x') := by
  unfold convert
  refine rel_bind (rel_underlying src) fun ρ1 n1 u u' e1 ⟨hu, hu2⟩ => ?_
  subst hu
  refine rel_bind (rel_underlying dst) fun ρ2 n2 v v' e2 ⟨hv, hv2⟩ => ?_
  subst hv
  obtain ⟨k, hk⟩ := hd
  obtain ⟨j, hj⟩ := hs
  rw [hk] at hv2; cases hv2
  rw [hj] at hu2; cases hu2
  cases h <;> first | exact rel_pure (.int _ _) | exact rel_halt | skip
  · rename_i s b
    show Rel P B VR ρ2 n2 (Conv.floatToInt s b k) (Conv.floatToInt s b k)
    unfold Conv.floatToInt
    repeat' split
    all_goals first | exact rel_pure (.int _ _) | exact rel_halt | (refine rel_bind (rel_choose _) fun _ _ _ _ _ h => ?_; subst h; exact rel_pure (.int _ _))
end
end Go.Tw
/- Lone runs carried over to company, part 13: structs and arrays put together of parts. -/
namespace Go.Tw
open Go
variable [FnSet]
section
variable {P : Program} {B : Nat} {ρ : Ren} {n : Nat}
inductive PL (ρ : Ren) (n : Nat) : List (Nat × Value) → List (Nat × Value) → Prop
  | nil : PL ρ n [] []
  | cons {i : Nat} {v v' : Value} {l l' : List (Nat × Value)} : VR ρ n v v' → PL ρ n l l' → PL ρ n ((i, v) :: l) ((i, v') :: l')
theorem PL.ex {ρ' : Ren} {n' : Nat} (e : Ex ρ n ρ' n') {l l' : List (Nat × Value)} (h : PL ρ n l l') : PL ρ' n' l l' := by
  induction h with
  | nil => exact .nil
  | cons h _ ih => exact .cons (h.ex e) ih
theorem fold_rel (off : Nat) {l l' : List Value} (h : LR ρ n l l') : ∀ (k : Nat) {c c' : Array Value}, AR ρ n c c' →
    AR ρ n ((l.zipIdx k).foldl (fun cs x => cs.setIfInBounds (off + x.2) x.1) c) ((l'.zipIdx k).foldl (fun cs x => cs.setIfInBounds (off + x.2) x.1) c') := by
  induction h with
  | nil => intro k c c' hc; exact hc
  | cons hv _ ih => intro k c c' hc; simp only [List.zipIdx_cons, List.foldl_cons]; exact ih (k + 1) (hc.set hv _)
theorem fill_rel (place : Nat → Option (Nat × Nat)) {l l' : List (Nat × Value)} (h : PL ρ n l l') : ∀ {c c' : Array Value}, AR ρ n c c' →
    (Instr.fill place c l = none ∧ Instr.fill place c' l' = none) ∨ ∃ d d', Instr.fill place c l = some d ∧ Instr.fill place c' l' = some d' ∧ AR ρ n d d' := by
  induction h with
  | nil => intro c c' hc; exact .inr ⟨c, c', rfl, rfl, hc⟩
  | @cons i v v' l l' hv _ ih =>
    intro c c' hc
    unfold Instr.fill
    cases place i with
    | none => exact .inl ⟨rfl, rfl⟩
    | some p =>
      obtain ⟨off, size⟩ := p
      simp only
      have hvc := hv.cells
      rw [← hvc.1, ← hc.1]
      split
      · exact .inl ⟨rfl, rfl⟩
      · have hf := fold_rel off hvc.list 0 hc
        refine ih ?_
        rw [← Array.foldl_toList, ← Array.foldl_toList, Array.toList_zipIdx, Array.toList_zipIdx]
        exact hf
theorem rel_mapM {α β : Type} (f : α → Sem β) (hf : ∀ {ρ n} (x : α), Rel P B (AE β) ρ n (f x) (f x)) : ∀ (l : List α) {ρ : Ren} {n : Nat}, Rel P B (AE (List β)) ρ n (l.mapM f) (l.mapM f)
  | [], ρ, n => rel_pure rfl
  | x :: l, ρ, n => by
    rw [List.mapM_cons]
    refine rel_bind (hf x) fun _ _ b b' _ hb => ?_
    subst hb
    refine rel_bind (rel_mapM f hf l) fun _ _ c c' _ hc => ?_
    subst hc
    exact rel_pure rfl
theorem rel_mapM_places (fs : Array Field) : Rel P B (AE _) ρ n (fs.mapM fun f => do pure (f.offset, ← sizeOf f.type)) (fs.mapM fun f => do pure (f.offset, ← sizeOf f.type)) := by
  rw [Array.mapM_eq_mapM_toList]
  simp only [map_eq_pure_bind]
  refine rel_bind (rel_mapM _ (fun x => ?_) _) fun _ _ a b _ h => ?_
  · refine rel_bind (rel_sizeOf x.type) fun _ _ a b _ h => ?_
    subst h
    exact rel_pure rfl
  · subst h
    exact rel_pure rfl
theorem rel_build (t : TypeId) (hz : ZeroAt P t) {ps ps' : Array (Nat × Value)} (h : PL ρ n ps.toList ps'.toList) : Rel P B VR ρ n (Instr.build t ps) (Instr.build t ps') := by
  unfold Instr.build
  refine rel_bind (rel_zeroValue hz) fun ρ1 n1 z z' e1 hzz => ?_
  refine rel_bind (rel_underlying t) fun ρ2 n2 d d' e2 ⟨hd, _⟩ => ?_
  subst hd
  have hp := (h.ex e1).ex e2
  have hc := (hzz.ex e2).cells
  cases d' with
  | struct fields =>
    refine rel_bind (rel_mapM_places fields) fun ρ3 n3 pl pl' e3 hpl => ?_
    subst hpl
    rcases fill_rel (fun i => pl'[i]?) (hp.ex e3) (hc.ex e3) with ⟨h1, h2⟩ | ⟨c, c', h1, h2, h3⟩
    · rw [h1, h2]; exact rel_halt
    · rw [h1, h2]; exact rel_pure h3.agg
  | array len elem =>
    refine rel_bind (rel_sizeOf elem) fun ρ3 n3 s s' e3 hs => ?_
    subst hs
    rcases fill_rel (fun i => some (i * s', s')) (hp.ex e3) (hc.ex e3) with ⟨h1, h2⟩ | ⟨c, c', h1, h2, h3⟩
    · rw [h1, h2]; exact rel_halt
    · rw [h1, h2]; exact rel_pure h3.agg
  | _ => exact rel_halt
end
end Go.Tw
