/- Slices: what is read of them; slices of the call's own, made, added to, written. -/
import Derived.Test.YtblgmhmjafgdgaaSxC
import Derived.Laws.AppendOwn
import Derived.Laws.OwnMore
import Derived.Great.BuildSlice
set_option linter.unusedVariables false
set_option linter.unusedSimpArgs false
namespace Go.Sx
open Go.RowKit
variable {P : Program}

/-! ### Cells that are read -/

theorem add_zero (a : Addr) : a.add 0 = a := by simp [Addr.add]
theorem add_add (a : Addr) (m n : Nat) : (a.add m).add n = a.add (m + n) := by
  unfold Addr.add
  by_cases hm : m = 0
  · subst hm; simp
  · by_cases hn : n = 0
    · subst hn; simp [hm]
    · rw [if_neg hm, if_neg hn, if_neg (by omega)]; simp [Nat.add_assoc]

theorem cell_pIdx (w : World) (p : Option Addr) (i : Int) (n j : Nat) : cell w (pIdx p i n) j = cell w p (i.toNat * n + j) := by
  cases p with
  | none => rfl
  | some a => simp [cell, pIdx, add_add]
theorem cell_pAdd (w : World) (p : Option Addr) (m j : Nat) : cell w (pAdd p m) j = cell w p (m + j) := by
  cases p with
  | none => rfl
  | some a => simp [cell, pAdd, add_add]
theorem cell_pCut (w : World) (p : Option Addr) (c : Nat) (l : Int) (n j : Nat) (h : c ≠ l.toNat) : cell w (pCut p c l n) j = cell w p (l.toNat * n + j) := by
  unfold pCut
  rw [if_neg h]
  cases p with
  | none => rfl
  | some a => simp [cell, add_add]
theorem pCut_zero (p : Option Addr) (c n : Nat) : pCut p c 0 n = p := by
  unfold pCut
  split
  · rfl
  · cases p <;> simp [add_zero]
theorem pIdx_none {p : Option Addr} {i : Int} {n : Nat} : pIdx p i n = none ↔ p = none := by cases p <;> simp [pIdx]
theorem pAdd_none {p : Option Addr} {n : Nat} : pAdd p n = none ↔ p = none := by cases p <;> simp [pAdd]

theorem cell_some {w : World} {p : Option Addr} {i : Nat} {v : Value} (h : cell w p i = some v) : ∃ a, p = some a ∧ a.block < w.heap.size ∧ w.cell? (a.add i) = some v := by
  cases p with
  | none => cases h
  | some a =>
    refine ⟨a, rfl, ?_, h⟩
    have := World.block_lt_of_cell? w (a.add i) h
    rwa [add_block] at this

theorem cell_ne {w : World} {p : Option Addr} {i : Nat} {v : Value} (h : cell w p i = some v) : p ≠ none := by
  intro hp; subst hp; cases h

theorem ext_cell {w w' : World} (he : Ext w w') {p : Option Addr} {i : Nat} {v : Value} (h : cell w p i = some v) : cell w' p i = some v := by
  obtain ⟨a, rfl, hb, h⟩ := cell_some h
  have := Below.cell he (p := a.add i) (by rw [add_block]; exact hb)
  simp only [cell, Option.bind_some] at this ⊢
  rw [this]; exact h

theorem below_cell {B : Nat} {w w' : World} (he : Below B w w') {p : Option Addr} (hp : ∀ a, p = some a → a.block < B) {i : Nat} {v : Value} (h : cell w p i = some v) : cell w' p i = some v := by
  obtain ⟨a, rfl, hb, h⟩ := cell_some h
  have := Below.cell he (p := a.add i) (by rw [add_block]; exact hp a rfl)
  simp only [cell, Option.bind_some] at this ⊢
  rw [this]; exact h

/-- These cells lie behind p. -/
def Cells (w : World) (p : Option Addr) (vs : List Value) : Prop := ∀ i v, vs[i]? = some v → cell w p i = some v

theorem Cells.ext {w w' : World} {p : Option Addr} {vs : List Value} (h : Cells w p vs) (he : Ext w w') : Cells w' p vs := fun i v hv => ext_cell he (h i v hv)
theorem Cells.nil {w : World} {p : Option Addr} : Cells w p [] := fun i v hv => by simp at hv
theorem Cells.at {w : World} {p : Option Addr} {vs : List Value} (h : Cells w p vs) (i : Nat) (hi : i < vs.length) : cell w p i = some vs[i] := h i _ (List.getElem?_eq_getElem hi)
theorem Cells.lt {w : World} {p : Option Addr} {vs : List Value} (h : Cells w p vs) (hv : vs ≠ []) : ∀ a, p = some a → a.block < w.heap.size := by
  intro a ha
  subst ha
  have := h.at 0 (by cases vs <;> simp_all)
  obtain ⟨b, hb, hl, _⟩ := cell_some this
  obtain rfl := Option.some.inj hb
  exact hl
theorem Cells.ne {w : World} {p : Option Addr} {vs : List Value} (h : Cells w p vs) (hv : vs ≠ []) : p ≠ none := by
  have := h.at 0 (by cases vs <;> simp_all)
  exact cell_ne this
theorem Cells.below {B : Nat} {w w' : World} {p : Option Addr} {vs : List Value} (h : Cells w p vs) (he : Below B w w') (hp : ∀ a, p = some a → a.block < B) : Cells w' p vs := fun i v hv => below_cell he hp (h i v hv)

/-- Integers behind p. -/
abbrev Ints (k : IntKind) (w : World) (p : Option Addr) (xs : List Int) : Prop := Cells w p (xs.map (.int k))
abbrev Bools (w : World) (p : Option Addr) (xs : List Bool) : Prop := Cells w p (xs.map .bool)

theorem Ints.idx {k : IntKind} {w : World} {p : Option Addr} {xs : List Int} (h : Ints k w p xs) {i : Int} (h0 : 0 ≤ i) (hi : i < xs.length) : cell w (pIdx p i 1) 0 = some (.int k (xs.getD i.toNat 0)) := by
  rw [cell_pIdx]
  refine h _ _ ?_
  have : i.toNat < xs.length := by omega
  simp [this, List.getD_eq_getElem?_getD]
theorem Bools.idx {w : World} {p : Option Addr} {xs : List Bool} (h : Bools w p xs) {i : Int} (h0 : 0 ≤ i) (hi : i < xs.length) : cell w (pIdx p i 1) 0 = some (.bool (xs.getD i.toNat false)) := by
  rw [cell_pIdx]
  refine h _ _ ?_
  have : i.toNat < xs.length := by omega
  simp [this, List.getD_eq_getElem?_getD]

/-! ### What came in -/

theorem mapM_range_some {f : Nat → Option Value} : ∀ {n : Nat} {es : List Value}, (List.range n).mapM f = some es → es.length = n ∧ ∀ i u, es[i]? = some u → f i = some u := by
  intro n es h
  have hg : ∀ (l : List Nat) (es : List Value), l.mapM f = some es → es.length = l.length ∧ ∀ (i : Nat) (u : Value), es[i]? = some u → ∃ j : Nat, l[i]? = some j ∧ f j = some u := by
    intro l
    induction l with
    | nil => intro es h; simp at h; subst h; exact ⟨rfl, fun i u h => by simp at h⟩
    | cons a r ih =>
      intro es h
      simp only [List.mapM_cons, Option.bind_eq_bind, Option.bind_eq_some_iff, Option.pure_def, Option.some.injEq] at h
      obtain ⟨y, hy, ys, hys, rfl⟩ := h
      obtain ⟨h1, h2⟩ := ih ys hys
      refine ⟨by simp [h1], fun i u hu => ?_⟩
      cases i with
      | zero => simp at hu; subst hu; exact ⟨a, rfl, hy⟩
      | succ i => simp at hu; simpa using h2 i u hu
  obtain ⟨h1, h2⟩ := hg _ _ h
  refine ⟨by simpa using h1, fun i u hu => ?_⟩
  obtain ⟨j, hj, hf⟩ := h2 i u hu
  obtain ⟨_, rfl⟩ := List.getElem?_eq_some_iff.1 hj
  simpa using hf

theorem cells?_some {w : World} {a : Addr} {n : Nat} {es : List Value} (h : w.cells? 0 a n = some es) : es.length = n ∧ Cells w (some a) es := by
  unfold World.cells? at h
  rw [if_pos (Nat.zero_le _)] at h
  obtain ⟨h1, h2⟩ := mapM_range_some h
  exact ⟨h1, fun i v hv => h2 i v hv⟩

/-- A slice whose elements are read by 'r' (a chosen reading of an element's cells). -/
theorem SlcArg.list {w : World} {e : TypeId} {p : Option Addr} {l c : Nat} {α : Type} (h : SlcArg P w e p l c) (enc : α → List Value) (ok : α → Prop)
    (hr : ∀ n es, Good P w n e es → es.length = P.cellsOf e → ∃ x, es = enc x ∧ ok x) :
    ∃ xs : List α, xs.length = l ∧ (∀ x ∈ xs, ok x) ∧ ∀ (i : Nat) (x : α), xs[i]? = some x → ∀ j u, (enc x)[j]? = some u → cell w p (i * P.cellsOf e + j) = some u := by
  have key : ∀ m, m ≤ l → ∃ xs : List α, xs.length = m ∧ (∀ x ∈ xs, ok x) ∧ ∀ (i : Nat) (x : α), xs[i]? = some x → ∀ j u, (enc x)[j]? = some u → cell w p (i * P.cellsOf e + j) = some u := by
    intro m
    induction m with
    | zero => exact fun _ => ⟨[], rfl, (fun x hx => by cases hx), (fun i x hx => by simp at hx)⟩
    | succ m ih =>
      intro hm
      obtain ⟨xs, h1, h2, h3⟩ := ih (by omega)
      have hc := h.le
      cases p with
      | none => have := h.nil rfl; omega
      | some a =>
        obtain ⟨n, es, h4, h5⟩ := h.el a rfl m (by omega)
        obtain ⟨h6, h7⟩ := cells?_some h4
        obtain ⟨x, rfl, hx⟩ := hr n es h5 h6
        refine ⟨xs ++ [x], by simp [h1], fun y hy => ?_, fun i y hy j u hu => ?_⟩
        · rcases List.mem_append.1 hy with hy | hy
          · exact h2 y hy
          · simp at hy; subst hy; exact hx
        · by_cases hi : i < xs.length
          · rw [List.getElem?_append_left hi] at hy
            exact h3 i y hy j u hu
          · rw [List.getElem?_append_right (by omega)] at hy
            obtain ⟨hlt, he⟩ := List.getElem?_eq_some_iff.1 hy
            simp at hlt he
            obtain rfl : i = m := by omega
            subst he
            have := h7 j u hu
            simpa [cell, add_add] using this
  exact key l (Nat.le_refl _)

theorem SlcArg.ints {w : World} {e : TypeId} {p : Option Addr} {l c : Nat} {k : IntKind} (h : SlcArg P w e p l c) (hu : P.underlying e = some (.int k)) (hc : P.cellsOf e = 1) :
    ∃ xs : List Int, xs.length = l ∧ (∀ x ∈ xs, InR k x) ∧ Ints k w p xs := by
  obtain ⟨xs, h1, h2, h3⟩ := h.list (fun x => [Value.int k x]) (InR k) (fun n es hg _ => by
    cases n with
    | zero => exact hg.elim
    | succ n => unfold Good at hg; rw [hu] at hg; exact hg)
  refine ⟨xs, h1, h2, fun i v hv => ?_⟩
  simp only [List.getElem?_map, Option.map_eq_some_iff] at hv
  obtain ⟨x, hx, rfl⟩ := hv
  have := h3 i x hx 0 _ rfl
  simpa [hc] using this

/-! ### Slices of the call's own -/

abbrev Own (B : Nat) (w : World) (e : TypeId) (s : Nat) (p : Option Addr) (n c : Nat) (xs : List Value) : Prop := w.ownsRow B e s (.slice p n c) n xs

def blk (p : Option Addr) : Option Nat := p.map (·.block)

/-- From w to w' nothing that was there is turned but p's block; p has become q. -/
structure Grew (w w' : World) (p q : Option Addr) : Prop where
  by_ : w.grownBy w' (blk p)
  new : blk q = blk p ∨ ∀ a, q = some a → w.heap.size ≤ a.block

def Apart (p q : Option Addr) : Prop := ∀ a b, p = some a → q = some b → a.block ≠ b.block

theorem Apart.symm {p q : Option Addr} (h : Apart p q) : Apart q p := fun a b ha hb he => h b a hb ha he.symm
theorem Apart.nil {p : Option Addr} : Apart p none := fun a b _ hb => by cases hb

theorem Own.nil {B : Nat} {w : World} {e : TypeId} {s : Nat} : Own B w e s none 0 0 [] := World.ownsRow_nil w B e s

theorem Own.lt {B : Nat} {w : World} {e : TypeId} {s : Nat} {p : Option Addr} {n c : Nat} {xs : List Value} (h : Own B w e s p n c xs) : ∀ a, p = some a → B ≤ a.block ∧ a.block < w.heap.size := by
  intro a ha
  subst ha
  exact World.ownsRow.lt h a.block rfl

theorem Own.len {B : Nat} {w : World} {e : TypeId} {s : Nat} {p : Option Addr} {n c : Nat} {xs : List Value} (h : Own B w e s p n c xs) : xs.length = n * s := h.1

theorem Own.le {B : Nat} {w : World} {e : TypeId} {s : Nat} {p : Option Addr} {n c : Nat} {xs : List Value} (h : Own B w e s p n c xs) : n ≤ c ∧ c ≤ 9223372036854775807 := by
  rcases h.2 with ⟨h1, h2⟩ | ⟨g, cap, cur, h1, _, _, h2, h3, _⟩
  · simp at h1; omega
  · simp at h1; simp [maxLen] at h3; omega

theorem Own.cells {B : Nat} {w : World} {e : TypeId} {s : Nat} {p : Option Addr} {n c : Nat} {xs : List Value} (h : Own B w e s p n c xs) : Cells w p xs := by
  intro i v hv
  rcases h.2 with ⟨h1, h2⟩ | ⟨g, cap, cur, h1, _⟩
  · have := h.1; subst h2; simp at this; subst this; simp at hv
  · simp at h1
    obtain ⟨rfl, rfl⟩ := h1
    have := World.ownsRow.cells h (g := g) rfl i v hv
    exact this

theorem Own.grew {B B' : Nat} {w w' : World} {e : TypeId} {s : Nat} {p q q' : Option Addr} {n c : Nat} {xs : List Value} (h : Own B w e s p n c xs) (ha : Apart p q) (hg : Grew w w' q q') : Own B w' e s p n c xs := by
  refine World.ownsRow.kept h hg.by_ ?_
  cases p with
  | none => exact .inl rfl
  | some a =>
    refine .inr ?_
    cases q with
    | none => simp [blk, Value.ownBlock]
    | some b => simp [blk, Value.ownBlock]; exact ha a b rfl rfl

theorem Apart.grew {B : Nat} {w w' : World} {e : TypeId} {s : Nat} {p q q' : Option Addr} {n c : Nat} {xs : List Value} (ha : Apart p q) (h : Own B w e s p n c xs) (hg : Grew w w' q q') : Apart p q' := by
  intro a b h1 h2 he
  rcases hg.new with hn | hn
  · subst h2; subst h1
    cases q with
    | none => simp [blk] at hn
    | some x => simp [blk] at hn; exact ha a x rfl rfl (by omega)
  · have := hn b h2
    have := (h.lt a h1).2
    omega

theorem Cells.grew {w w' : World} {p q q' : Option Addr} {vs : List Value} (h : Cells w p vs) (ha : Apart p q) (hg : Grew w w' q q') : Cells w' p vs := by
  intro i v hv
  obtain ⟨a, rfl, hb, hc⟩ := cell_some (h i v hv)
  refine World.grownBy.cell hg.by_ hc ?_
  rw [add_block]
  cases q with
  | none => simp [blk]
  | some b => simp [blk]; exact ha a b rfl rfl

theorem Apart.grewC {w w' : World} {p q q' : Option Addr} (ha : Apart p q) (h : ∀ a, p = some a → a.block < w.heap.size) (hg : Grew w w' q q') : Apart p q' := by
  intro a b h1 h2 he
  rcases hg.new with hn | hn
  · subst h2; subst h1
    cases q with
    | none => simp [blk] at hn
    | some x => simp [blk] at hn; exact ha a x rfl rfl (by omega)
  · have := hn b h2
    have := h a h1
    omega

theorem Grew.below {B : Nat} {w0 w w' : World} {p q : Option Addr} (hg : Grew w w' p q) (h : Below B w0 w) (hB : B ≤ w.heap.size) (hp : ∀ a, p = some a → B ≤ a.block) : Below B w0 w' :=
  Below.grown h hg.by_ hB (fun k hk => by
    cases p with
    | none => cases hk
    | some a => simp [blk] at hk; subst hk; exact hp a rfl)

theorem Grew.ext {w0 w w' : World} {e : TypeId} {s : Nat} {p q : Option Addr} {n c : Nat} {xs : List Value} (hg : Grew w w' p q) (h : Ext w0 w) (ho : Own w0.heap.size w e s p n c xs) : Ext w0 w' :=
  Grew.below hg h h.size (fun a ha => (Own.lt ho a ha).1)

theorem Grew.size {w w' : World} {p q : Option Addr} (hg : Grew w w' p q) : w.heap.size ≤ w'.heap.size := hg.by_.size

theorem grew_ext {w w' : World} (h : Ext w w') : Grew w w' none none := ⟨⟨h.os, h.tape, h.output, h.size, fun k hk _ => h.block k hk⟩, .inl rfl⟩

theorem Grew.of_ext {w w' w'' : World} {p q : Option Addr} (h : Ext w w') (hg : Grew w' w'' p q) : Grew w w'' p q :=
  ⟨⟨hg.by_.os.trans h.os, hg.by_.tape.trans h.tape, hg.by_.output.trans h.output, Nat.le_trans h.size hg.by_.size,
    fun k hk hne => (hg.by_.block k (Nat.lt_of_lt_of_le hk h.size) hne).trans (h.block k hk)⟩, hg.new.imp id (fun f a ha => Nat.le_trans h.size (f a ha))⟩

theorem Own.ext {B : Nat} {w w' : World} {e : TypeId} {s : Nat} {p : Option Addr} {n c : Nat} {xs : List Value} (h : Own B w e s p n c xs) (he : Ext w w') : Own B w' e s p n c xs :=
  Own.grew (B' := B) h Apart.nil (grew_ext he)

theorem Own.weak {B B' : Nat} {w : World} {e : TypeId} {s : Nat} {p : Option Addr} {n c : Nat} {xs : List Value} (h : Own B w e s p n c xs) (hb : B' ≤ B) : Own B' w e s p n c xs := by
  refine ⟨h.1, h.2.imp id ?_⟩
  rintro ⟨g, cap, cur, h1, h2, h3⟩
  exact ⟨g, cap, cur, h1, by omega, h3⟩

/-- An element type: its number, how many cells and bytes, its zero value. -/
def slEl (P : Program) (t : TypeId) : Option (TypeId × Nat × Nat × Value) :=
  match P.underlying t with
  | some (.slice e) =>
    match P.info? e with
    | some i => match i.zero with
      | some z => bif Nat.beq z.cells.size i.size then some (e, i.size, i.bytes, z) else none
      | none => none
    | none => none
  | _ => none

theorem slEl_some {t e : TypeId} {s b : Nat} {z : Value} (h : slEl P t = some (e, s, b, z)) : ∃ i, P.underlying t = some (.slice e) ∧ P.info? e = some i ∧ i.zero = some z ∧ i.size = s ∧ i.bytes = b ∧ z.cells.size = s := by
  unfold slEl at h
  split at h
  · rename_i e' hu
    split at h
    · rename_i i hi
      split at h
      · rename_i z' hz
        simp only [cond_eq_ite] at h
        split at h
        · rename_i hc
          simp only [Option.some.injEq, Prod.mk.injEq] at h
          obtain ⟨rfl, rfl, rfl, rfl⟩ := h
          exact ⟨i, hu, hi, hz, rfl, rfl, Nat.eq_of_beq_eq_true hc⟩
        · cases h
      · cases h
    · cases h
  · cases h

/-! ### Literals -/

theorem foldl_set (off : Nat) : ∀ (l : List Value) (k : Nat) (cs : Array Value), off + k + l.length ≤ cs.size →
    ((l.zipIdx k).foldl (fun (cs : Array Value) (x : Value × Nat) => cs.setIfInBounds (off + x.2) x.1) cs).toList = cs.toList.take (off + k) ++ l ++ cs.toList.drop (off + k + l.length)
  | [], k, cs, h => by simp
  | v :: r, k, cs, h => by
    simp only [List.zipIdx_cons, List.foldl_cons]
    simp only [List.length_cons] at h
    rw [foldl_set off r (k + 1) _ (by simp; omega)]
    have hlt : off + k < cs.size := by omega
    simp only [Array.toList_setIfInBounds]
    have e1 : (cs.toList.set (off + k) v).take (off + (k + 1)) = cs.toList.take (off + k) ++ [v] := by
      rw [← Nat.add_assoc, List.take_set]
      rw [List.take_succ_eq_append_getElem (by simpa using hlt)]
      rw [List.set_append_right _ _ (by simp; omega)]
      simp [Nat.min_eq_left (Nat.le_of_lt hlt)]
    have e2 : (cs.toList.set (off + k) v).drop (off + (k + 1) + r.length) = cs.toList.drop (off + k + (r.length + 1)) := by
      rw [List.drop_set_of_lt (by omega)]
      congr 1; omega
    rw [e1, e2]
    simp

/-- The parts of a literal, side by side. -/
def partsOf : Nat → List Value → List (Nat × Value)
  | _, [] => []
  | i, v :: r => (i, v) :: partsOf (i + 1) r

theorem fill_parts (s : Nat) : ∀ (vs : List Value) (i : Nat) (cs : Array Value), (∀ v ∈ vs, v.cells.size = s) → i * s + vs.length * s ≤ cs.size →
    ∃ out, Instr.fill (fun i => some (i * s, s)) cs (partsOf i vs) = some out ∧ out.toList = cs.toList.take (i * s) ++ vs.flatMap (fun v => v.cells.toList) ++ cs.toList.drop (i * s + vs.length * s)
  | [], i, cs, _, h => ⟨cs, rfl, by simp⟩
  | v :: r, i, cs, hs, h => by
    have hv := hs v (List.mem_cons_self ..)
    simp only [List.length_cons, Nat.add_mul, Nat.one_mul] at h
    have h1 : i * s + s ≤ cs.size := by omega
    let cs' := v.cells.zipIdx.foldl (fun (cs : Array Value) (x : Value × Nat) => cs.setIfInBounds (i * s + x.2) x.1) cs
    have e1 : cs'.toList = cs.toList.take (i * s) ++ v.cells.toList ++ cs.toList.drop (i * s + s) := by
      have := foldl_set (i * s) v.cells.toList 0 cs (by simp; omega)
      simp only [Nat.add_zero, Array.length_toList, hv] at this
      rw [← this]
      have e0 : cs' = v.cells.zipIdx.toList.foldl (fun (cs : Array Value) (x : Value × Nat) => cs.setIfInBounds (i * s + x.2) x.1) cs := by rw [Array.foldl_toList]
      rw [e0, Array.toList_zipIdx]
    have hsz : cs'.size = cs.size := by
      have := congrArg List.length e1
      simp [hv] at this; omega
    obtain ⟨out, h2, h3⟩ := fill_parts s r (i + 1) cs' (fun u hu => hs u (List.mem_cons_of_mem _ hu)) (by rw [hsz, Nat.add_mul]; omega)
    refine ⟨out, ?_, ?_⟩
    · simp only [partsOf, Instr.fill]
      rw [if_neg (by simp [hv]; omega)]
      exact h2
    · rw [h3, e1]
      have hl : (cs.toList.take (i * s)).length = i * s := by simp; omega
      have hl2 : (cs.toList.take (i * s) ++ v.cells.toList).length = (i + 1) * s := by simp [hv, Nat.add_mul]; omega
      rw [List.take_append_of_le_length (by omega), List.take_of_length_le (by omega)]
      rw [List.drop_append, List.drop_of_length_le (by omega), hl2, List.drop_drop]
      simp only [List.nil_append, List.flatMap_cons, List.length_cons, List.append_assoc]
      congr 4
      simp only [Nat.add_mul, Nat.one_mul]; omega

theorem run_lit {t e : TypeId} {s b : Nat} {z : Value} (he : slEl P t = some (e, s, b, z)) (vs : List Value) {n : Nat} {parts : List (Nat × Value)} {w : World} {K : Value → World → Prop} (hp : parts = partsOf 0 vs) (hn : n = vs.length)
    (hs : ∀ v ∈ vs, v.cells.size = s) (h0 : 0 < n * s) (h24 : n * s ≤ 16777216)
    (hk : ∀ w', (∀ B, B ≤ w.heap.size → Own B w' e s (some ⟨w.heap.size, 0, none⟩) n n (vs.flatMap fun v => v.cells.toList)) → Ext w w' → K (.slice (some ⟨w.heap.size, 0, none⟩) n n) w') : Run P (.buildSlice t n parts) w K := by
  obtain ⟨i, h1, h2, h3, rfl, rfl, h6⟩ := slEl_some he
  subst hp; subst hn
  obtain ⟨out, h7, h8⟩ := fill_parts i.size vs 0 ((Array.range (vs.length * i.size)).map (z.cells[· % z.cells.size]!)) hs (by simp)
  have h9 : out.toList = vs.flatMap fun v => v.cells.toList := by rw [h8]; simp
  have hlen : (vs.flatMap fun v => v.cells.toList).length = vs.length * i.size := by
    clear h7 h8 h9 hk h24 h0
    induction vs with
    | nil => simp
    | cons v r ih =>
      simp only [List.flatMap_cons, List.length_append, Array.length_toList, List.length_cons, Nat.add_mul, Nat.one_mul]
      rw [ih (fun u hu => hs u (List.mem_cons_of_mem _ hu)), hs v (List.mem_cons_self ..)]; omega
  refine ⟨_, w.alloc (.cells out e), ?_, hk _ (fun B hB => ⟨hlen, .inr ⟨w.heap.size, vs.length, out, rfl, hB, heap_alloc_new w _, Nat.le_refl _, ?_, ?_, ?_⟩⟩) ?_⟩
  · show (Instr.buildSlice t vs.length _).run P w = _
    exact run_buildSlice w t e vs.length _ out i z h1 h2 h3 (by omega) (by omega) (by simpa using h7)
  · simp only [maxLen]
    have : vs.length ≤ vs.length * i.size := Nat.le_mul_of_pos_right _ (by rcases Nat.eq_zero_or_pos i.size with h | h; (· rw [h] at h0; simp at h0); exact h)
    omega
  · rw [← Array.length_toList, h9, hlen]
  · rw [h9, ← hlen, List.take_length]
  · exact Below.alloc (Below.refl _ _) (Nat.le_refl _) _

/-! ### make -/

theorem run_mk {t e : TypeId} {s b : Nat} {z : Value} (he : slEl P t = some (e, s, b, z)) {kl kc : IntKind} {n : Int} {w : World} {K : Value → World → Prop}
    (h0 : 0 ≤ n) (hb : b * n.toNat ≤ 281474976710656) (h63 : n ≤ 9223372036854775807)
    (hk : ∀ w', (∀ B, B ≤ w.heap.size → Own B w' e s (some ⟨w.heap.size, 0, none⟩) n.toNat n.toNat (madeCells z.cells (n.toNat * s)).toList) → Ext w w' → K (.slice (some ⟨w.heap.size, 0, none⟩) n.toNat n.toNat) w') : Run P (.makeSlice t (.int kl n) (.int kc n)) w K := by
  obtain ⟨i, h1, h2, h3, rfl, rfl, h6⟩ := slEl_some he
  have hr := run_make (P := P) w t e i z h1 h2 h3 kl kc n n h0 (Int.le_refl _) (by
    have h : ((i.bytes * n.toNat : Nat) : Int) ≤ 281474976710656 := by omega
    rw [Int.natCast_mul] at h
    rwa [Int.toNat_of_nonneg h0] at h) h63
  refine ⟨_, _, hr, hk _ (fun B hB => World.ownsRow_lit w _ n.toNat hB (by simp [maxLen]; omega) (size_madeCells _ _)) (Below.alloc (Below.refl _ _) (Nat.le_refl _) _)⟩

theorem made_one {z : Value} {n : Nat} (h : z.cells = #[z]) : (madeCells z.cells (n * 1)).toList = List.replicate n z := by
  unfold madeCells
  rw [h]
  apply List.ext_getElem
  · simp
  · intro i h1 h2
    simp [Nat.mod_one]

/-! ### append -/

theorem app_cases {t ty e : TypeId} {i : TypeInfo} {z : Value} (g1 : P.underlying t = some (.slice e)) (g2 : P.info? e = some i) (g3 : i.zero = some z) (g6 : z.cells.size = i.size) (hs : 0 < i.size)
    {B : Nat} {w : World} {p : Option Addr} {a : Addr} {n c m d : Nat} {xs news : List Value}
    (ho : Own B w e i.size p n c xs) (hB : B ≤ w.heap.size) (hl : news.length = m * i.size) (hn : Cells w (some a) news) (h1 : ∀ u ∈ news, u.oneCell' = true) (hb : (n + m) * i.bytes ≤ 140737488355328) (hm : n + m ≤ 9223372036854775807) :
    ∃ p' c' w', (Builtin.append_ #[t, t] ty #[.slice p n c, .slice (some a) m d]).run P w = .ok (.slice p' (n + m) c') w' ∧ Own B w' e i.size p' (n + m) c' (xs ++ news) ∧ Grew w w' p p' ∧ (p' = none ↔ p = none ∧ m = 0) := by
  have hlen : (xs ++ news).length = (n + m) * i.size := by rw [List.length_append, ho.1, hl, Nat.add_mul]
  have hmax : n + m ≤ maxLen := by simp only [maxLen]; omega
  have fresh : ∀ (old : Nat), old < n + m → ∀ cur : Array Value, cur = xs.toArray ++ news.toArray ++ Builtin.zeroCells z.cells (grownCap w (n + m) old e - (n + m)) →
      Own B (w.drew.alloc (.cells cur e)) e i.size (some ⟨w.heap.size, 0, none⟩) (n + m) (grownCap w (n + m) old e) (xs ++ news) ∧ Grew w (w.drew.alloc (.cells cur e)) p (some ⟨w.heap.size, 0, none⟩) := by
    intro old hold cur hcur
    have hge := grownCap_ge w (n + m) old e
    refine ⟨⟨hlen, .inr ⟨w.heap.size, _, _, rfl, hB, heap_alloc_new w.drew _, hge, grownCap_le_maxLen w (n + m) old e hmax, ?_, ?_⟩⟩, ⟨⟨rfl, rfl, rfl, by simp, fun k hk _ => World.grownBy_alloc w.drew _ none |>.block k hk (by simp)⟩, .inr fun x hx => ?_⟩⟩
    · subst hcur
      simp only [Array.size_append, List.size_toArray, size_zeroCells, g6, ho.1, hl, ← Nat.add_mul]
      congr 1; omega
    · subst hcur
      simp only [Array.toList_append]
      rw [← hlen]; exact List.take_left
    · obtain rfl := Option.some.inj hx; exact Nat.le_refl _
  rcases ho.2 with ⟨hv, hn0⟩ | ⟨g, cap, cur, hv, hbg, hg, hnc, hcm, hcs, htake⟩
  · obtain ⟨rfl, _, rfl⟩ : p = none ∧ n = 0 ∧ c = 0 := by simpa using hv
    subst hn0
    have hx : xs = [] := List.eq_nil_of_length_eq_zero (by simpa using ho.1)
    subst hx
    by_cases hm0 : m = 0
    · subst hm0
      have hnn : news = [] := List.eq_nil_of_length_eq_zero (by simpa using hl)
      subst hnn
      refine ⟨none, 0, w, ?_, Own.nil, grew_ext (Below.refl _ _), by simp⟩
      simp [Builtin.append_, run_underlying g1, sizeOf, typeInfo, g2, Builtin.lenOf, Builtin.firstCells, loadCells, loadCellsFrom]
    · have hr := run_append_nil (P := P) w t ty e i z g1 g2 g3 a m d news hl hn (by omega) (by omega) (by have h := hb; simp only [Nat.zero_add] at h; omega)
      have hf := fresh 0 (by omega) _ rfl
      simp only [Nat.zero_add, List.nil_append, Array.empty_append] at hf ⊢
      exact ⟨_, _, _, hr, hf.1, hf.2, by simp [hm0]⟩
  · obtain ⟨rfl, _, rfl⟩ : p = some ⟨g, 0, none⟩ ∧ n = n ∧ c = cap := by simpa using hv
    by_cases hroom : n + m ≤ c
    · have hfit : n * i.size + news.length ≤ cur.size := by rw [hl, hcs, ← Nat.add_mul]; exact Nat.mul_le_mul_right _ hroom
      have hr := run_append_room (P := P) w t ty e i g1 g2 g n c cur hg a m d news hl hn h1 hroom hfit
      refine ⟨_, _, _, hr, ⟨hlen, .inr ⟨g, c, _, rfl, hbg, setRow_heap w g cur _ e _ hg, hroom, hcm, ?_, ?_⟩⟩, ⟨⟨rfl, rfl, rfl, by simp, fun k _ hk => setRow_other w g k _ (fun e => hk (by simp [blk, e]))⟩, .inl rfl⟩, by simp⟩
      · simp only [List.size_toArray, List.length_append, List.length_take, List.length_drop, Array.length_toList]
        omega
      · rw [htake, ← hlen]
        exact List.take_left
    · have hr := run_append_grow (P := P) w t ty e i z g1 g2 g3 ⟨g, 0, none⟩ n c xs ho.1 (World.ownsRow.cells ho (g := g) rfl) a m d news hl hn (by omega) (by omega) (growslice_fits (by omega) hb)
      have hf := fresh c (by omega) _ rfl
      exact ⟨_, _, _, hr, hf.1, hf.2, by simp⟩

theorem run_app {t ty e : TypeId} {s b : Nat} {z : Value} (he : slEl P t = some (e, s, b, z)) (hs : 0 < s) {B : Nat} {w : World} {p q : Option Addr} {n c m d : Nat} {xs news : List Value} {K : Value → World → Prop}
    (ho : Own B w e s p n c xs) (hB : B ≤ w.heap.size) (hq : q ≠ none) (hl : news.length = m * s) (hn : Cells w q news) (h1 : ∀ u ∈ news, u.oneCell' = true) (hb : (n + m) * b ≤ 140737488355328) (hm : n + m ≤ 9223372036854775807)
    (hk : ∀ p' c' w', Own B w' e s p' (n + m) c' (xs ++ news) → Grew w w' p p' → (p' = none ↔ p = none ∧ m = 0) → K (.slice p' (n + m) c') w') : Run P (.append #[t, t] ty [.slice p n c, .slice q m d]) w K := by
  obtain ⟨i, g1, g2, g3, rfl, rfl, g6⟩ := slEl_some he
  cases q with
  | none => exact absurd rfl hq
  | some a =>
    obtain ⟨p', c', w', hr, h2, h3, h4⟩ := app_cases (ty := ty) (d := d) g1 g2 g3 g6 hs ho hB hl hn h1 hb hm
    exact ⟨_, w', hr, hk p' c' w' h2 h3 h4⟩

/-- 'append(s, x)': the text of one more element. -/
theorem push {t ty e : TypeId} {s b : Nat} {z : Value} (he : slEl P t = some (e, s, b, z)) (hs : 0 < s) {B : Nat} {w : World} {p : Option Addr} {n c : Nat} {xs : List Value} {v : Value}
    {K : Option Addr → Nat → Nat → World → Prop} (ho : Own B w e s p n c xs) (hB : B ≤ w.heap.size) (hv : v.cells.size = s) (h1 : ∀ u ∈ v.cells.toList, u.oneCell' = true) (hb : (n + 1) * b ≤ 140737488355328) (hs24 : s ≤ 16777216) (hm : n + 1 ≤ 9223372036854775807)
    (hk : ∀ p' c' w', Own B w' e s p' (n + 1) c' (xs ++ v.cells.toList) → Grew w w' p p' → p' ≠ none → K p' (n + 1) c' w') :
    ∀ w1, Ext w w1 → Run P (.buildSlice t 1 [(0, v)]) w1 fun v2 w2 => Ext w1 w2 ∧ ∃ q : Option Addr, ∃ m : Nat, ∃ d : Nat, v2 = .slice q m d ∧ ∀ w3, Ext w2 w3 →
      Run P (.append #[t, t] ty [.slice p n c, .slice q m d]) w3 fun v4 w4 => ∃ q' : Option Addr, ∃ m' : Nat, ∃ d' : Nat, v4 = .slice q' m' d' ∧ K q' m' d' w4 := by
  intro w1 e1
  refine run_lit he [v] rfl rfl (fun u hu => by simp at hu; subst hu; exact hv) (by omega) (by omega) fun w2 o2 e2 => ⟨e2, _, _, _, rfl, fun w3 e3 => ?_⟩
  have o2 := (o2 w1.heap.size (Nat.le_refl _)).ext e3
  have ho' := ((ho.ext e1).ext e2).ext e3
  have hsz : B ≤ w3.heap.size := Nat.le_trans hB (Nat.le_trans e1.size (Nat.le_trans e2.size e3.size))
  refine run_app he hs ho' hsz (by simp) (news := v.cells.toList) (by simp [hv]) (by simpa using o2.cells) h1 hb hm fun p' c' w4 h2 h3 h4 => ⟨_, _, _, rfl, hk p' c' w4 h2 ?_ ?_⟩
  · exact Grew.of_ext e1 (Grew.of_ext e2 (Grew.of_ext e3 h3))
  · intro hn; have := h4.1 hn; omega

/-! ### Stores -/

/-- Cells of a list, written from a place on. -/
def setAt : List Value → Nat → List Value → List Value
  | xs, _, [] => xs
  | xs, i, v :: r => setAt (xs.set i v) (i + 1) r

theorem setAt_length : ∀ (vs xs : List Value) (i : Nat), (setAt xs i vs).length = xs.length
  | [], xs, i => rfl
  | v :: r, xs, i => by simp [setAt, setAt_length r]

theorem own_set {B : Nat} {w : World} {e : TypeId} {s : Nat} {a : Addr} {n c : Nat} {xs : List Value} (ho : Own B w e s (some a) n c xs) {i : Nat} (hi : i < xs.length) (v : Value) :
    Own B (w.setCell (a.add i) v) e s (some a) n c (xs.set i v) ∧ Grew w (w.setCell (a.add i) v) (some a) (some a) := by
  rcases ho.2 with ⟨hv, _⟩ | ⟨g, cap, cur, hv, hbg, hg, hnc, hcm, hcs, htake⟩
  · simp at hv
  · obtain ⟨rfl, rfl⟩ : a = ⟨g, 0, none⟩ ∧ c = cap := by simpa using hv
    have hadd : (⟨g, 0, none⟩ : Addr).add i = ⟨g, i, none⟩ := by unfold Addr.add; split <;> simp_all
    have hlt : g < w.heap.size := (Array.getElem?_eq_some_iff.1 hg).1
    have hgv : w.heap[g] = .cells cur e (0, 0) := (Array.getElem?_eq_some_iff.1 hg).2
    have hnew : (w.setCell ⟨g, i, none⟩ v).heap[g]? = some (.cells (cur.setIfInBounds i v) e (0, 0)) := by
      unfold World.setCell
      rw [Array.getElem?_eq_getElem (by simpa using hlt), Array.getElem_modify]
      simp [hgv]
    have hle : xs.length ≤ cur.size := by rw [ho.1, hcs]; exact Nat.mul_le_mul_right _ hnc
    refine ⟨⟨by simp [ho.1], .inr ⟨g, c, _, rfl, hbg, by rw [hadd]; exact hnew, hnc, hcm, by simpa using hcs, ?_⟩⟩, ⟨⟨rfl, rfl, rfl, by simp [World.setCell], fun k hk hne => ?_⟩, .inl rfl⟩⟩
    · rw [Array.toList_setIfInBounds, List.take_set, htake]
    · refine Below.heap_setCell w _ v k ?_
      rw [hadd]; intro he; exact hne (by simp [blk, he])

theorem setCells_own {B : Nat} {e : TypeId} {s : Nat} {a : Addr} {n c : Nat} : ∀ (vs : List Value) (k : Nat) (w : World) (xs : List Value) (off : Nat), Own B w e s (some a) n c xs → off + k + vs.length ≤ xs.length →
    Own B (setCells w (a.add off) vs k) e s (some a) n c (setAt xs (off + k) vs) ∧ Grew w (setCells w (a.add off) vs k) (some a) (some a)
  | [], k, w, xs, off, ho, _ => ⟨ho, ⟨⟨rfl, rfl, rfl, Nat.le_refl _, fun _ _ _ => rfl⟩, .inl rfl⟩⟩
  | v :: r, k, w, xs, off, ho, h => by
    simp only [List.length_cons] at h
    obtain ⟨h1, h2⟩ := own_set ho (i := off + k) (by omega) v
    obtain ⟨h3, h4⟩ := setCells_own r (k + 1) _ _ off h1 (by simp; omega)
    simp only [setCells, setAt, add_add]
    refine ⟨by rw [Nat.add_assoc]; exact h3, ⟨⟨h4.by_.os.trans h2.by_.os, h4.by_.tape.trans h2.by_.tape, h4.by_.output.trans h2.by_.output, Nat.le_trans h2.by_.size h4.by_.size, fun j hj hne => ?_⟩, .inl rfl⟩⟩
    exact (h4.by_.block j (Nat.lt_of_lt_of_le hj h2.by_.size) hne).trans (h2.by_.block j hj hne)

/-- A store into a slice of the call's own; 'a' is where it goes: q's cell 'off'. -/
theorem store_own {B : Nat} {w : World} {e : TypeId} {s : Nat} {q a : Option Addr} {n c off : Nat} {xs vs : List Value} {ns : List Nat} {K : World → Prop}
    (ho : Own B w e s q n c xs) (ha : a = q.map (·.add off)) (hlen : off + vs.length ≤ xs.length) (hpos : vs ≠ []) (h1 : ∀ v ∈ vs, v.oneCell' = true) (hns : ∀ b ∈ ns, ∀ x, q = some x → x.block ≠ b)
    (hk : ∀ w', Own B w' e s q n c (setAt xs off vs) → Grew w w' q q → K w') : Store w a vs ns K := by
  cases q with
  | none =>
    rcases ho.2 with ⟨_, h2⟩ | ⟨g, cap, cur, hv, _⟩
    · have := ho.1; rw [h2] at this; simp at this; subst this
      cases vs with
      | nil => exact absurd rfl hpos
      | cons v r => simp at hlen
    · simp at hv
  | some x =>
    simp only [Option.map_some] at ha
    subst ha
    have hcells := ho.cells
    refine ⟨⟨by simp, fun i hi => ?_, fun i hi y hy => ?_, ?_, h1⟩, fun w' hw' => ?_⟩
    · have := hcells (off + i) _ (List.getElem?_eq_getElem (by omega))
      simp only [cell, Option.bind_some] at this ⊢
      rw [add_add, this]; rfl
    · obtain rfl := Option.some.inj hy
      rcases ho.2 with ⟨hv, _⟩ | ⟨g, cap, cur, hv, hbg, hg, _⟩
      · simp at hv
      · obtain ⟨rfl, rfl⟩ : x = ⟨g, 0, none⟩ ∧ c = cap := by simpa using hv
        unfold World.frozen?
        rw [add_block, add_block, hg]
        simp
    · intro b hb y hy
      obtain rfl := Option.some.inj hy
      rw [add_block]; exact hns b hb x rfl
    · obtain ⟨h2, h3⟩ := setCells_own vs 0 w xs off ho (by simpa using hlen)
      rw [hw']
      exact hk _ h2 h3

theorem pIdx_map {q : Option Addr} {i : Int} {n : Nat} : pIdx q i n = q.map (·.add (i.toNat * n)) := rfl
theorem pAdd_map {q : Option Addr} {i : Int} {n m : Nat} : pAdd (pIdx q i n) m = q.map (·.add (i.toNat * n + m)) := by
  cases q <;> simp [pAdd, pIdx, add_add]

/-- One integer of a slice of the call's own. -/
theorem store_int {B : Nat} {w : World} {e : TypeId} {k : IntKind} {q : Option Addr} {n c : Nat} {xs : List Int} {i x : Int} {ns : List Nat} {K : World → Prop}
    (ho : Own B w e 1 q n c (xs.map (.int k))) (h0 : 0 ≤ i) (hi : i < xs.length) (hns : ∀ b ∈ ns, ∀ x, q = some x → x.block ≠ b)
    (hk : ∀ w', Own B w' e 1 q n c ((xs.set i.toNat x).map (.int k)) → Grew w w' q q → K w') : Store w (pIdx q i 1) [.int k x] ns K := by
  refine store_own ho (by rw [pIdx_map]) (by simp; omega) (by simp) (by simp [Value.oneCell']) hns fun w' h1 h2 => hk w' ?_ h2
  simpa [setAt, List.map_set] using h1
theorem store_bool {B : Nat} {w : World} {e : TypeId} {q : Option Addr} {n c : Nat} {xs : List Bool} {i : Int} {x : Bool} {ns : List Nat} {K : World → Prop}
    (ho : Own B w e 1 q n c (xs.map .bool)) (h0 : 0 ≤ i) (hi : i < xs.length) (hns : ∀ b ∈ ns, ∀ x, q = some x → x.block ≠ b)
    (hk : ∀ w', Own B w' e 1 q n c ((xs.set i.toNat x).map .bool) → Grew w w' q q → K w') : Store w (pIdx q i 1) [.bool x] ns K := by
  refine store_own ho (by rw [pIdx_map]) (by simp; omega) (by simp) (by simp [Value.oneCell']) hns fun w' h1 h2 => hk w' ?_ h2
  simpa [setAt, List.map_set] using h1
end Go.Sx

namespace Go.Sx
open Go.RowKit
variable {P : Program}

/-- Elements of s cells each. -/
def Recs {α : Type} (s : Nat) (enc : α → List Value) (w : World) (p : Option Addr) (xs : List α) : Prop := ∀ (i : Nat) (x : α), xs[i]? = some x → ∀ (j : Nat) (u : Value), (enc x)[j]? = some u → cell w p (i * s + j) = some u

theorem Recs.ext {α : Type} {s : Nat} {enc : α → List Value} {w w' : World} {p : Option Addr} {xs : List α} (h : Recs s enc w p xs) (he : Ext w w') : Recs s enc w' p xs := fun i x hx j u hu => ext_cell he (h i x hx j u hu)

theorem Recs.at {α : Type} {s : Nat} {enc : α → List Value} {w : World} {p : Option Addr} {xs : List α} (h : Recs s enc w p xs) {k : Int} (h0 : 0 ≤ k) {x : α} (hx : xs[k.toNat]? = some x) {j : Nat} {u : Value} (hu : (enc x)[j]? = some u) : cell w (pIdx p k s) j = some u := by
  rw [cell_pIdx]; exact h _ x hx j u hu

theorem getElem?_getD {α : Type} (xs : List α) (d : α) {i : Nat} (h : i < xs.length) : xs[i]? = some (xs.getD i d) := by
  simp [h, List.getD_eq_getElem?_getD]

theorem Recs.idx {α : Type} {s : Nat} {enc : α → List Value} {w : World} {p : Option Addr} {xs : List α} (h : Recs s enc w p xs) (d : α) {k : Int} (h0 : 0 ≤ k) (hk : k < xs.length) {j : Nat} {u : Value} (hu : (enc (xs.getD k.toNat d))[j]? = some u) : cell w (pIdx p k s) j = some u :=
  h.at h0 (getElem?_getD xs d (by omega)) hu

theorem cell_p {w : World} {p : Option Addr} {j : Nat} {u : Value} (h : cell w p j = some u) : p ≠ none := by
  intro hp; subst hp; cases h

theorem Recs.ne {α : Type} {s : Nat} {enc : α → List Value} {w : World} {p : Option Addr} {xs : List α} (h : Recs s enc w p xs) {x : α} (hx : x ∈ xs) (he : enc x ≠ []) : p ≠ none := by
  obtain ⟨i, hi⟩ := List.mem_iff_getElem?.1 hx
  cases hx2 : enc x with
  | nil => exact absurd hx2 he
  | cons a r => exact cell_p (h i x hi 0 a (by rw [hx2]; rfl))

theorem Recs.below {α : Type} {B s : Nat} {enc : α → List Value} {w w' : World} {p : Option Addr} {xs : List α} (h : Recs s enc w p xs) (he : Below B w w') (hp : ∀ a, p = some a → a.block < B) : Recs s enc w' p xs := fun i x hx j u hu => below_cell he hp (h i x hx j u hu)

theorem Recs.lt {α : Type} {s : Nat} {enc : α → List Value} {w : World} {p : Option Addr} {xs : List α} (h : Recs s enc w p xs) {x : α} (hx : x ∈ xs) (he : enc x ≠ []) : ∀ a, p = some a → a.block < w.heap.size := by
  intro a ha
  obtain ⟨i, hi⟩ := List.mem_iff_getElem?.1 hx
  cases hx2 : enc x with
  | nil => exact absurd hx2 he
  | cons b r =>
    obtain ⟨c, hc, hl, _⟩ := cell_some (h i x hi 0 b (by rw [hx2]; rfl))
    rw [ha] at hc
    obtain rfl := Option.some.inj hc
    exact hl

theorem Own.recs {α : Type} {B : Nat} {w : World} {e : TypeId} {s : Nat} {p : Option Addr} {n c : Nat} {xs : List α} {enc : α → List Value} (h : Own B w e s p n c (xs.flatMap enc)) (hs : ∀ x ∈ xs, (enc x).length = s) : Recs s enc w p xs := by
  intro i x hx j u hu
  refine h.cells _ u ?_
  clear h
  induction xs generalizing i with
  | nil => simp at hx
  | cons a r ih =>
    have ha := hs a (List.mem_cons_self ..)
    simp only [List.flatMap_cons]
    cases i with
    | zero =>
      simp at hx; subst hx
      rw [Nat.zero_mul, Nat.zero_add, List.getElem?_append_left (List.getElem?_eq_some_iff.1 hu).1]; exact hu
    | succ i =>
      rw [List.getElem?_append_right (by rw [Nat.add_mul]; omega)]
      have := ih (fun x hx => hs x (List.mem_cons_of_mem _ hx)) i (by simpa using hx)
      rw [show (i + 1) * s + j - (enc a).length = i * s + j by rw [Nat.add_mul]; omega]
      exact this

/-- The list's own reading: integers of a slice of the call's own. -/
theorem Own.int_at {B : Nat} {w : World} {e : TypeId} {p : Option Addr} {n c : Nat} {k : IntKind} {xs : List Int} (h : Own B w e 1 p n c (xs.map (.int k))) {i : Int} (h0 : 0 ≤ i) (hi : i < xs.length) : cell w (pIdx p i 1) 0 = some (.int k (xs.getD i.toNat 0)) :=
  Ints.idx h.cells h0 hi
theorem Own.bool_at {B : Nat} {w : World} {e : TypeId} {p : Option Addr} {n c : Nat} {xs : List Bool} (h : Own B w e 1 p n c (xs.map .bool)) {i : Int} (h0 : 0 ≤ i) (hi : i < xs.length) : cell w (pIdx p i 1) 0 = some (.bool (xs.getD i.toNat false)) :=
  Bools.idx h.cells h0 hi
theorem Own.leni {B : Nat} {w : World} {e : TypeId} {p : Option Addr} {n c : Nat} {α : Type} {f : α → Value} {xs : List α} (h : Own B w e 1 p n c (xs.map f)) : xs.length = n := by
  have := h.len; simpa using this
theorem Own.ne {B : Nat} {w : World} {e : TypeId} {s : Nat} {p : Option Addr} {n c : Nat} {xs : List Value} (h : Own B w e s p n c xs) (hx : xs ≠ []) : p ≠ none := h.cells.ne hx
theorem Own.ne1 {B : Nat} {w : World} {e : TypeId} {s : Nat} {p : Option Addr} {n c : Nat} {xs : List Value} (h : Own B w e s p n c xs) (hn : 0 < n) (hs : 0 < s) : p ≠ none := by
  refine h.ne (fun hx => ?_)
  have h2 := Nat.mul_pos hn hs
  rw [← h.len, hx] at h2
  simp at h2

/-- A block that is to come is no slice's own. -/
theorem Own.free {B : Nat} {w : World} {e : TypeId} {s : Nat} {p : Option Addr} {n c : Nat} {xs : List Value} (h : Own B w e s p n c xs) {b : Nat} (hb : w.heap.size ≤ b) : ∀ b' ∈ [b], ∀ x, p = some x → x.block ≠ b' := by
  intro b' hb' x hx
  simp at hb'; subst hb'
  have := (h.lt x hx).2
  omega

theorem getD_set {α : Type} (xs : List α) (d : α) (i j : Nat) (v : α) (h : i < xs.length) : (xs.set i v).getD j d = if j = i then v else xs.getD j d := by
  simp only [List.getD_eq_getElem?_getD, List.getElem?_set]
  by_cases hij : i = j
  · subst hij; simp [h]
  · simp [hij, Ne.symm hij]

/-- One integer more. -/
theorem push_int {t ty e : TypeId} {z : Value} {k : IntKind} {b : Nat} (he : slEl P t = some (e, 1, b, z)) {B : Nat} {w : World} {p : Option Addr} {n c : Nat} {xs : List Int} {x : Int}
    {K : Option Addr → Nat → Nat → World → Prop} (ho : Own B w e 1 p n c (xs.map (.int k))) (hB : B ≤ w.heap.size) (hb : (n + 1) * b ≤ 140737488355328) (hm : n + 1 ≤ 9223372036854775807)
    (hk : ∀ p' c' w', Own B w' e 1 p' (n + 1) c' ((xs ++ [x]).map (.int k)) → Grew w w' p p' → p' ≠ none → K p' (n + 1) c' w') :
    ∀ w1, Ext w w1 → Run P (.buildSlice t 1 [(0, .int k x)]) w1 fun v2 w2 => Ext w1 w2 ∧ ∃ q : Option Addr, ∃ m : Nat, ∃ d : Nat, v2 = .slice q m d ∧ ∀ w3, Ext w2 w3 →
      Run P (.append #[t, t] ty [.slice p n c, .slice q m d]) w3 fun v4 w4 => ∃ q' : Option Addr, ∃ m' : Nat, ∃ d' : Nat, v4 = .slice q' m' d' ∧ K q' m' d' w4 :=
  push he (by omega) ho hB rfl (by intro u hu; simp [Value.cells] at hu; subst hu; rfl) hb (by omega) hm fun p' c' w' h1 h2 h3 => hk p' c' w' (by simpa [Value.cells] using h1) h2 h3

theorem mk_ints {t e : TypeId} {b : Nat} {k : IntKind} (he : slEl P t = some (e, 1, b, .int k 0)) {kl kc : IntKind} {n : Int} {w : World} {K : Value → World → Prop}
    (h0 : 0 ≤ n) (hb : b * n.toNat ≤ 281474976710656) (h63 : n ≤ 9223372036854775807)
    (hk : ∀ w', (∀ B, B ≤ w.heap.size → Own B w' e 1 (some ⟨w.heap.size, 0, none⟩) n.toNat n.toNat ((List.replicate n.toNat (0 : Int)).map (.int k))) → Ext w w' → K (.slice (some ⟨w.heap.size, 0, none⟩) n.toNat n.toNat) w') : Run P (.makeSlice t (.int kl n) (.int kc n)) w K :=
  run_mk he h0 hb h63 fun w' h1 h2 => hk w' (fun B hB => by have := h1 B hB; rw [made_one rfl] at this; simpa using this) h2
theorem mk_bools {t e : TypeId} {b : Nat} (he : slEl P t = some (e, 1, b, .bool false)) {kl kc : IntKind} {n : Int} {w : World} {K : Value → World → Prop}
    (h0 : 0 ≤ n) (hb : b * n.toNat ≤ 281474976710656) (h63 : n ≤ 9223372036854775807)
    (hk : ∀ w', (∀ B, B ≤ w.heap.size → Own B w' e 1 (some ⟨w.heap.size, 0, none⟩) n.toNat n.toNat ((List.replicate n.toNat false).map .bool)) → Ext w w' → K (.slice (some ⟨w.heap.size, 0, none⟩) n.toNat n.toNat) w') : Run P (.makeSlice t (.int kl n) (.int kc n)) w K :=
  run_mk he h0 hb h63 fun w' h1 h2 => hk w' (fun B hB => by have := h1 B hB; rw [made_one rfl] at this; simpa using this) h2
theorem fresh_apart {B : Nat} {w : World} {e : TypeId} {s : Nat} {p : Option Addr} {n c : Nat} {xs : List Value} (h : Own B w e s p n c xs) {m : Nat} (hm : w.heap.size ≤ m) : Apart p (some ⟨m, 0, none⟩) := by
  intro a b ha hb he
  obtain rfl := Option.some.inj hb
  have := (h.lt a ha).2
  simp at he; omega
end Go.Sx
namespace Go.Sx
variable {P : Program}
/-- A struct of three integers. -/
theorem SlcArg.recs3 {w : World} {e t1 t2 t3 : TypeId} {p : Option Addr} {l c : Nat} {α : Type} {k1 k2 k3 : IntKind} (h : SlcArg P w e p l c) (hl : leaves P 6 e = some [t1, t2, t3]) (hc : P.cellsOf e = 3)
    (u1 : P.underlying t1 = some (.int k1)) (u2 : P.underlying t2 = some (.int k2)) (u3 : P.underlying t3 = some (.int k3)) (mk : Int → Int → Int → α) (enc : α → List Value)
    (he : ∀ a b c, enc (mk a b c) = [.int k1 a, .int k2 b, .int k3 c]) : ∃ xs : List α, xs.length = l ∧ (∀ x ∈ xs, ∃ a b c, x = mk a b c ∧ InR k1 a ∧ InR k2 b ∧ InR k3 c) ∧ Recs 3 enc w p xs := by
  obtain ⟨xs, h1, h2, h3⟩ := h.list enc (fun x => ∃ a b c, x = mk a b c ∧ InR k1 a ∧ InR k2 b ∧ InR k3 c) (fun n es hg _ => by
    have hv := leaves_ok 6 e _ n es hl hg
    obtain ⟨v1, vs, rfl, l1, hv⟩ := lvs_cons hv
    obtain ⟨v2, vs, rfl, l2, hv⟩ := lvs_cons hv
    obtain ⟨v3, vs, rfl, l3, hv⟩ := lvs_cons hv
    obtain rfl := lvs_nil hv
    obtain ⟨a, rfl, ha⟩ := leaf_int u1 l1
    obtain ⟨b, rfl, hb⟩ := leaf_int u2 l2
    obtain ⟨d, rfl, hd⟩ := leaf_int u3 l3
    exact ⟨mk a b d, (he a b d).symm, a, b, d, rfl, ha, hb, hd⟩)
  exact ⟨xs, h1, h2, fun i x hx j u hu => by rw [← hc]; exact h3 i x hx j u hu⟩
theorem SlcArg.recs2 {w : World} {e t1 t2 : TypeId} {p : Option Addr} {l c : Nat} {α : Type} {k1 k2 : IntKind} (h : SlcArg P w e p l c) (hl : leaves P 6 e = some [t1, t2]) (hc : P.cellsOf e = 2)
    (u1 : P.underlying t1 = some (.int k1)) (u2 : P.underlying t2 = some (.int k2)) (mk : Int → Int → α) (enc : α → List Value)
    (he : ∀ a b, enc (mk a b) = [.int k1 a, .int k2 b]) : ∃ xs : List α, xs.length = l ∧ (∀ x ∈ xs, ∃ a b, x = mk a b ∧ InR k1 a ∧ InR k2 b) ∧ Recs 2 enc w p xs := by
  obtain ⟨xs, h1, h2, h3⟩ := h.list enc (fun x => ∃ a b, x = mk a b ∧ InR k1 a ∧ InR k2 b) (fun n es hg _ => by
    have hv := leaves_ok 6 e _ n es hl hg
    obtain ⟨v1, vs, rfl, l1, hv⟩ := lvs_cons hv
    obtain ⟨v2, vs, rfl, l2, hv⟩ := lvs_cons hv
    obtain rfl := lvs_nil hv
    obtain ⟨a, rfl, ha⟩ := leaf_int u1 l1
    obtain ⟨b, rfl, hb⟩ := leaf_int u2 l2
    exact ⟨mk a b, (he a b).symm, a, b, rfl, ha, hb⟩)
  exact ⟨xs, h1, h2, fun i x hx j u hu => by rw [← hc]; exact h3 i x hx j u hu⟩
end Go.Sx
namespace Go.Sx
variable {P : Program}
theorem NewOk.cells {w w' : World} {t : TypeId} {vs : List Value} {p : Option Addr} (h : NewOk w t vs p w') : Cells w' p vs := by
  intro i v hv
  rw [h.at_]
  have hadd : (⟨w.heap.size, 0, none⟩ : Addr).add i = ⟨w.heap.size, i, none⟩ := by unfold Addr.add; split <;> simp_all
  simp only [cell, Option.bind_some, hadd, World.cell?, h.block]
  simpa using hv
theorem new_one {w : World} {t : TypeId} {v : Value} {K : Option Addr → World → Prop} (h1 : v.oneCell' = true) (h : ∀ p w', Ext w w' → cell w' p 0 = some v → p = some ⟨w.heap.size, 0, none⟩ → w.heap.size < w'.heap.size → K p w') : New w t [v] K :=
  ⟨fun u hu => by simp at hu; subst hu; exact h1, fun p w' hn => h p w' hn.ext (hn.cells 0 v rfl) hn.at_ (by rw [hn.size]; omega)⟩

theorem shr1 (k : IntKind) (x : Int) : iBit .shr k x 1 = x / 2 := by
  have hb : min (1 : Int).toNat k.bits = 1 := by cases k <;> decide
  simp only [iBit, hb]
  rw [Int.fdiv_eq_ediv_of_nonneg _ (by decide)]
  rfl
end Go.Sx
namespace Go.Sx
theorem getD_replicate' {α : Type} (n i : Nat) (a : α) (h : i < n) : (List.replicate n a).getD i a = a := by
  simp [List.getD_eq_getElem?_getD, h]
end Go.Sx
namespace Go.Sx
open Go.RowKit
theorem extB_ext {ns : List Nat} {w w' : World} (h : ExtB [] ns w w') : Ext w w' := ⟨h.os, h.tape, h.output, h.size, fun k hk => h.block k hk (by simp)⟩
theorem but_below {B : Nat} {ds : List Nat} {w0 w w' : World} (h : But ds w w') (hb : Below B w0 w) (hB : B ≤ w.heap.size) (hd : ∀ d ∈ ds, B ≤ d) : Below B w0 w' :=
  ⟨h.os.trans hb.os, h.tape.trans hb.tape, h.output.trans hb.output, Nat.le_trans hb.size h.size, fun k hk => (h.block k (by omega) (fun hm => by have := hd k hm; omega)).trans (hb.block k hk)⟩
theorem but_ext {ds ns : List Nat} {w0 w w' : World} (h : ExtB ds ns w w') (hb : Ext w0 w) (hd : ∀ d ∈ ds, w0.heap.size ≤ d) : Ext w0 w' := but_below h.toBut hb hb.size hd
theorem Own.but {B : Nat} {w w' : World} {e : TypeId} {s : Nat} {p : Option Addr} {n c : Nat} {xs : List Value} {ds : List Nat} (h : Own B w e s p n c xs) (hb : But ds w w') (hd : ∀ d ∈ ds, ∀ x, p = some x → x.block ≠ d) : Own B w' e s p n c xs := by
  refine ⟨h.1, h.2.imp id ?_⟩
  rintro ⟨g, cap, cur, h1, h2, h3, h4⟩
  refine ⟨g, cap, cur, h1, h2, ?_, h4⟩
  have hlt := (Array.getElem?_eq_some_iff.1 h3).1
  rw [hb.block g hlt (fun hm => ?_)]
  · exact h3
  · simp at h1
    exact hd g hm _ h1.1 rfl
/-- A new block is a slice of one element. -/
theorem new_own {w : World} {t : TypeId} {vs : List Value} {K : Option Addr → World → Prop} (h1 : ∀ v ∈ vs, v.oneCell' = true)
    (h : ∀ w', (∀ B, B ≤ w.heap.size → Own B w' t vs.length (some ⟨w.heap.size, 0, none⟩) 1 1 vs) → Ext w w' → K (some ⟨w.heap.size, 0, none⟩) w') : New w t vs K := by
  refine ⟨h1, fun p w' hn => ?_⟩
  rw [hn.at_]
  refine h w' (fun B hB => ⟨by simp, .inr ⟨w.heap.size, 1, vs.toArray, rfl, hB, hn.block, Nat.le_refl _, by simp [maxLen], by simp, by simp⟩⟩) hn.ext
theorem map_add0 (p : Option Addr) : p = p.map (·.add 0) := by cases p <;> simp [add_zero]
theorem fresh_ne {w : World} {b : Nat} (h : b < w.heap.size) : ∀ x, (some (⟨w.heap.size, 0, none⟩ : Addr)) = some x → x.block ≠ b := by
  intro x hx; obtain rfl := Option.some.inj hx; simp; omega
theorem apart_fresh {w w' : World} (h : w.heap.size < w'.heap.size) : Apart (some (⟨w.heap.size, 0, none⟩ : Addr)) (some ⟨w'.heap.size, 0, none⟩) := by
  intro a b ha hb
  obtain rfl := Option.some.inj ha
  obtain rfl := Option.some.inj hb
  simp; omega
theorem Own.size_lt {B : Nat} {w : World} {e : TypeId} {s : Nat} {b n c : Nat} {xs : List Value} (h : Own B w e s (some ⟨b, 0, none⟩) n c xs) : b < w.heap.size := (h.lt _ rfl).2
end Go.Sx
namespace Go.Sx
open Go.RowKit
variable {P : Program}
/-- One integer more, beside tracked blocks. -/
theorem push_intB {t ty e : TypeId} {z : Value} {k : IntKind} {b : Nat} (he : slEl P t = some (e, 1, b, z)) {B : Nat} {w : World} {p : Option Addr} {n c : Nat} {xs : List Int} {x : Int} {ns : List Nat}
    {K : Option Addr → Nat → Nat → World → Prop} (ho : Own B w e 1 p n c (xs.map (.int k))) (hB : B ≤ w.heap.size) (hns : ∀ b ∈ ns, ∀ x, p = some x → x.block ≠ b) (hb : (n + 1) * b ≤ 140737488355328) (hm : n + 1 ≤ 9223372036854775807)
    (hk : ∀ p' c' w', Own B w' e 1 p' (n + 1) c' ((xs ++ [x]).map (.int k)) → Grew w w' p p' → p' ≠ none → (∀ b ∈ ns, ∀ x, p' = some x → x.block ≠ b) → K p' (n + 1) c' w') :
    ∀ w1, ExtB [] ns w w1 → Run P (.buildSlice t 1 [(0, .int k x)]) w1 fun v2 w2 => Ext w1 w2 ∧ ∃ q : Option Addr, ∃ m : Nat, ∃ d : Nat, v2 = .slice q m d ∧ ∀ w3, ExtB [] ns w2 w3 →
      Run P (.append #[t, t] ty [.slice p n c, .slice q m d]) w3 fun v4 w4 => Kept ns w3 w4 ∧ ∃ q' : Option Addr, ∃ m' : Nat, ∃ d' : Nat, v4 = .slice q' m' d' ∧ K q' m' d' w4 := by
  intro w1 x1
  have e1 := extB_ext x1
  refine run_lit he [.int k x] rfl rfl (fun u hu => by simp at hu; subst hu; rfl) (by omega) (by omega) fun w2 o2 e2 => ⟨e2, _, _, _, rfl, fun w3 x3 => ?_⟩
  have e3 := extB_ext x3
  have o2 := (o2 w1.heap.size (Nat.le_refl _)).ext e3
  have ho' := ((ho.ext e1).ext e2).ext e3
  have hsz : B ≤ w3.heap.size := Nat.le_trans hB (Nat.le_trans e1.size (Nat.le_trans e2.size e3.size))
  refine run_app he (by omega) ho' hsz (by simp) (news := [.int k x]) (by simp) (by simpa [Value.cells] using o2.cells) (by intro u hu; simp at hu; subst hu; rfl) hb hm fun p' c' w4 h2 h3 h4 => ⟨fun b hb => ?_, _, _, _, rfl, hk p' c' w4 (by simpa using h2) ?_ ?_ ?_⟩
  · refine h3.by_.block b (x3.lt b hb) fun he => ?_
    cases p with
    | none => cases he
    | some y => simp [blk] at he; exact hns b hb y rfl he.symm
  · exact Grew.of_ext e1 (Grew.of_ext e2 (Grew.of_ext e3 h3))
  · intro hn; have := h4.1 hn; omega
  · intro b hb y hy heq
    rcases h3.new with hn | hn
    · subst hy
      cases p with
      | none => simp [blk] at hn
      | some z' => simp [blk] at hn; exact hns b hb z' rfl (by omega)
    · have := hn y hy
      have := x3.lt b hb
      omega
end Go.Sx
namespace Go.Sx
open Go.RowKit
variable {P : Program}

theorem run_lit0 {t e : TypeId} {s b : Nat} {z : Value} (he : slEl P t = some (e, s, b, z)) {w : World} {K : Value → World → Prop}
    (hk : ∀ w', (∀ B, B ≤ w.heap.size → Own B w' e s (some ⟨w.heap.size, 0, none⟩) 0 0 []) → Ext w w' → K (.slice (some ⟨w.heap.size, 0, none⟩) 0 0) w') : Run P (.buildSlice t 0 []) w K := by
  obtain ⟨i, h1, h2, h3, rfl, rfl, h6⟩ := slEl_some he
  refine ⟨_, w.alloc (.cells #[] e), ?_, hk _ (fun B hB => ⟨by simp, .inr ⟨w.heap.size, 0, #[], rfl, hB, heap_alloc_new w _, Nat.le_refl _, by simp [maxLen], by simp, by simp⟩⟩) ?_⟩
  · show (Instr.buildSlice t 0 #[]).run P w = _
    simp [Instr.buildSlice, run_underlying h1, sizeOf, typeInfo, zeroValue, h2, h3, newRow, Instr.fill]
    congr 2
    apply Array.eq_empty_of_size_eq_zero; simp
  · exact Below.alloc (Below.refl _ _) (Nat.le_refl _) _

/-- A beginning of a slice of the call's own. -/
theorem Own.pre {B : Nat} {w : World} {e : TypeId} {s : Nat} {p : Option Addr} {n c m : Nat} {xs : List Value} (h : Own B w e s p n c xs) (hm : m ≤ n) : Own B w e s p m c (xs.take (m * s)) := by
  have hle : m * s ≤ n * s := Nat.mul_le_mul_right _ hm
  refine ⟨by rw [List.length_take, h.1]; omega, ?_⟩
  rcases h.2 with ⟨hv, hn⟩ | ⟨g, cap, cur, hv, hb, hg, hnc, hcm, hcs, ht⟩
  · left
    obtain ⟨rfl, _, rfl⟩ : p = none ∧ n = 0 ∧ c = 0 := by simpa using hv
    exact ⟨by rw [show m = 0 by omega], by omega⟩
  · right
    obtain ⟨rfl, _, rfl⟩ : p = some ⟨g, 0, none⟩ ∧ n = n ∧ c = cap := by simpa using hv
    refine ⟨g, c, cur, rfl, hb, hg, by omega, hcm, hcs, ?_⟩
    rw [← ht, List.take_take, Nat.min_eq_left hle]

/-- 'append(s[:i], s[j:]...)' in place: what lies between is gone. -/
theorem run_cut {t ty e : TypeId} {s b : Nat} {z : Value} (he : slEl P t = some (e, s, b, z)) (hs : 0 < s) {B : Nat} {w : World} {p q : Option Addr} {n c d i j m : Nat} {xs : List Value} {K : Value → World → Prop}
    (ho : Own B w e s p n c xs) (hij : i < j) (hj : j ≤ n) (hm : m = n - j) (hq : q = pCut p c j s) (h1 : ∀ u ∈ xs, u.oneCell' = true)
    (hk : ∀ w', Own B w' e s p (i + m) c (xs.take (i * s) ++ xs.drop (j * s)) → Grew w w' p p → K (.slice p (i + m) c) w') : Run P (.append #[t, t] ty [.slice p i c, .slice q m d]) w K := by
  obtain ⟨inf, g1, g2, g3, rfl, rfl, g6⟩ := slEl_some he
  have hle : (j + m) * inf.size ≤ n * inf.size := Nat.mul_le_mul_right _ (by omega)
  have hxl := ho.1
  have hlen : (xs.drop (j * inf.size)).length = m * inf.size := by
    rw [List.length_drop, ho.1, hm, Nat.sub_mul]
  rcases ho.2 with ⟨hv, hn⟩ | ⟨g, cap, cur, hv, hb, hg, hnc, hcm, hcs, ht⟩
  · omega
  obtain ⟨rfl, _, rfl⟩ : p = some ⟨g, 0, none⟩ ∧ n = n ∧ c = cap := by simpa using hv
  have hcur : n * inf.size ≤ cur.size := by rw [hcs]; exact Nat.mul_le_mul_right _ hnc
  have hij' : (i + m) * inf.size ≤ n * inf.size := Nat.mul_le_mul_right _ (by omega)
  have hq' : ∃ a, q = some a ∧ ∀ k u, (xs.drop (j * inf.size))[k]? = some u → w.cell? (a.add k) = some u := by
    by_cases hc : c = (j : Int).toNat
    · refine ⟨⟨g, 0, none⟩, by rw [hq]; unfold pCut; rw [if_pos hc], fun k u hu => ?_⟩
      have hz : (xs.drop (j * inf.size)).length = 0 := by rw [hlen, show m = 0 by simp at hc; omega]; simp
      rw [List.eq_nil_of_length_eq_zero hz] at hu; simp at hu
    · refine ⟨_, by rw [hq]; unfold pCut; rw [if_neg hc]; rfl, fun k u hu => ?_⟩
      have := ho.cells (j * inf.size + k) u (by rw [List.getElem?_drop] at hu; exact hu)
      simp only [cell, Option.bind_some] at this
      rw [add_add]
      simpa using this
  obtain ⟨a, rfl, hcell⟩ := hq'
  have hr := run_append_room (P := P) w t ty e inf g1 g2 g i c cur hg a m d (xs.drop (j * inf.size)) hlen hcell (fun u hu => h1 u (List.mem_of_mem_drop hu)) (by omega) (by rw [hlen, ← Nat.add_mul]; omega)
  refine ⟨_, _, hr, hk _ ⟨?_, .inr ⟨g, c, _, rfl, hb, setRow_heap w g cur _ e _ hg, by omega, hcm, ?_, ?_⟩⟩ ⟨⟨rfl, rfl, rfl, by simp, fun k _ hk => setRow_other w g k _ (fun e => hk (by simp [blk, e]))⟩, .inl rfl⟩⟩
  · rw [List.length_append, hlen, List.length_take, ho.1, Nat.min_eq_left (Nat.mul_le_mul_right _ (by omega)), Nat.add_mul]
  · have e1 : i * inf.size + m * inf.size ≤ cur.size := by rw [← Nat.add_mul]; omega
    simp only [List.size_toArray, List.length_append, List.length_take, List.length_drop, Array.length_toList, hlen, hxl]
    rw [← hcs]
    rw [hlen.symm.trans (List.length_drop ..), hxl] at *
    omega
  · have hti : cur.toList.take (i * inf.size) = xs.take (i * inf.size) := by
      rw [← ht, List.take_take, Nat.min_eq_left (Nat.mul_le_mul_right _ (by omega))]
    simp only []
    rw [hti]
    have hl2 : (xs.take (i * inf.size) ++ xs.drop (j * inf.size)).length = (i + m) * inf.size := by
      rw [List.length_append, hlen, List.length_take, ho.1, Nat.min_eq_left (Nat.mul_le_mul_right _ (by omega)), Nat.add_mul]
    rw [← hl2]
    exact List.take_left

/-- 'clear(s[n:c'])' behind what is owned: nothing of it turns. -/
theorem run_clear {t ty e : TypeId} {s b : Nat} {z : Value} (he : slEl P t = some (e, s, b, z)) (hs : 0 < s) (hz1 : ∀ u ∈ z.cells.toList, u.oneCell' = true) {B : Nat} {w : World} {p q : Option Addr} {n c m d : Nat} {xs : List Value} {K : Value → World → Prop}
    (ho : Own B w e s p n c xs) (hm : n + m ≤ c) (hq : q = pCut p c n s)
    (hk : ∀ w', Own B w' e s p n c xs → Grew w w' p p → K (.tuple #[]) w') : Run P (.clear #[t] ty [.slice q m d]) w K := by
  obtain ⟨inf, g1, g2, g3, rfl, rfl, g6⟩ := slEl_some he
  have same : Grew w w p p := ⟨⟨rfl, rfl, rfl, Nat.le_refl _, fun _ _ _ => rfl⟩, .inl rfl⟩
  cases q with
  | none =>
    refine ⟨_, w, ?_, hk w ho same⟩
    show (Builtin.clear_ #[t] ty #[.slice none m d]).run P w = _
    simp [Builtin.clear_, run_underlying g1]
  | some a =>
    by_cases h0 : m = 0
    · subst h0
      refine ⟨_, w, ?_, hk w ho same⟩
      show (Builtin.clear_ #[t] ty #[.slice (some a) 0 d]).run P w = _
      simp [Builtin.clear_, run_underlying g1]
    · rcases ho.2 with ⟨hv, hn⟩ | ⟨g, cap, cur, hv, hb, hg, hnc, hcm, hcs, ht⟩
      · obtain ⟨rfl, _, rfl⟩ : p = none ∧ n = 0 ∧ c = 0 := by simpa using hv
        omega
      obtain ⟨rfl, _, rfl⟩ : p = some ⟨g, 0, none⟩ ∧ n = n ∧ c = cap := by simpa using hv
      have ha : a = ⟨g, n * inf.size, none⟩ := by
        unfold pCut at hq
        rw [if_neg (by simp; omega)] at hq
        have := Option.some.inj hq
        rw [this]; show Addr.add _ _ = _; rw [Addr.add_lit]; simp
      subst ha
      have hzl : (Builtin.zeroCells z.cells m).toList.length = m * inf.size := by rw [Array.length_toList, size_zeroCells, g6]
      have hfit : n * inf.size + m * inf.size ≤ cur.size := by rw [hcs, ← Nat.add_mul]; exact Nat.mul_le_mul_right _ hm
      have hst := run_storeCells_at P g (n * inf.size) e (Builtin.zeroCells z.cells m).toList 0 cur w hg (by rw [hzl]; simpa using hfit) (by
        intro v hv
        simp only [Builtin.zeroCells] at hv
        have : v ∈ z.cells.toList := by
          simp only [Array.toList_map, List.mem_map, Array.toList_range, List.mem_range] at hv
          obtain ⟨i, _, rfl⟩ := hv
          have hlt : i % z.cells.size < z.cells.size := Nat.mod_lt _ (by omega)
          rw [getElem!_pos z.cells _ hlt]
          exact Array.getElem_mem_toList hlt
        exact hz1 v this)
      have key : (Builtin.clear_ #[t] ty #[.slice (some ⟨g, n * inf.size, none⟩) m d]).run P w = .ok (.tuple #[]) (w.setRow g (cur.toList.take (n * inf.size) ++ (Builtin.zeroCells z.cells m).toList ++ cur.toList.drop (n * inf.size + m * inf.size)).toArray) := by
        cases m with
        | zero => exact absurd rfl h0
        | succ m =>
          simp only [Nat.add_zero, hzl] at hst
          simp [Builtin.clear_, run_underlying g1, zeroValue, typeInfo, g2, g3, hst]
      refine ⟨_, _, key, hk _ ⟨ho.1, .inr ⟨g, c, _, rfl, hb, setRow_heap w g cur _ e _ hg, hnc, hcm, ?_, ?_⟩⟩ ⟨⟨rfl, rfl, rfl, by simp, fun k _ hk => setRow_other w g k _ (fun e => hk (by simp [blk, e]))⟩, .inl rfl⟩⟩
      · simp only [List.size_toArray, List.length_append, List.length_take, List.length_drop, hzl]
        simp only [Array.length_toList]
        rw [Nat.min_eq_left (by omega)]
        omega
      · have hl2 : (cur.toList.take (n * inf.size)).length = n * inf.size := by rw [ht, ho.1]
        show List.take (n * inf.size) (cur.toList.take (n * inf.size) ++ (Builtin.zeroCells z.cells m).toList ++ cur.toList.drop (n * inf.size + m * inf.size)) = xs
        rw [List.append_assoc, List.take_append_of_le_length (by rw [hl2]; exact Nat.le_refl _), List.take_take, Nat.min_self, ht]
end Go.Sx
namespace Go.Sx
open Go.RowKit
variable {P : Program}
section flat
variable {α : Type} {enc : α → List Value} {s : Nat}
theorem recs_len (hs : ∀ x, (enc x).length = s) (L : List α) : (L.flatMap enc).length = L.length * s := by
  induction L with
  | nil => simp
  | cons a r ih => rw [List.flatMap_cons, List.length_append, ih, hs, List.length_cons, Nat.add_mul]; omega
theorem recs_take (hs : ∀ x, (enc x).length = s) (L : List α) (m : Nat) : (L.flatMap enc).take (m * s) = (L.take m).flatMap enc := by
  induction L generalizing m with
  | nil => simp
  | cons a r ih =>
    cases m with
    | zero => simp
    | succ m => rw [List.flatMap_cons, List.take_succ_cons, List.flatMap_cons, ← ih m, show (m + 1) * s = (enc a).length + m * s by rw [hs, Nat.add_mul]; omega, List.take_length_add_append]
theorem recs_drop (hs : ∀ x, (enc x).length = s) (L : List α) (m : Nat) : (L.flatMap enc).drop (m * s) = (L.drop m).flatMap enc := by
  induction L generalizing m with
  | nil => simp
  | cons a r ih =>
    cases m with
    | zero => simp
    | succ m => rw [List.flatMap_cons, List.drop_succ_cons, ← ih m, show (m + 1) * s = (enc a).length + m * s by rw [hs, Nat.add_mul]; omega, List.drop_length_add_append]
theorem recs_cells (hs : ∀ x, (enc x).length = s) {w : World} {p : Option Addr} {L : List α} (h : Recs s enc w p L) : Cells w p (L.flatMap enc) := by
  have key : ∀ (L : List α) (off : Nat), (∀ (i : Nat) (x : α), L[i]? = some x → ∀ (j : Nat) (u : Value), (enc x)[j]? = some u → cell w p ((off + i) * s + j) = some u) → ∀ (k : Nat) (v : Value), (L.flatMap enc)[k]? = some v → cell w p (off * s + k) = some v := by
    intro L
    induction L with
    | nil => intro off _ k v hv; simp at hv
    | cons a r ih =>
      intro off hc k v hv
      rw [List.flatMap_cons] at hv
      by_cases hk : k < s
      · rw [List.getElem?_append_left (by rw [hs]; exact hk)] at hv
        exact hc 0 a rfl k v hv
      · rw [List.getElem?_append_right (by rw [hs]; omega), hs] at hv
        have := ih (off + 1) (fun i x hx j u hu => by
          have := hc (i + 1) x (by simpa using hx) j u hu
          rwa [show off + 1 + i = off + (i + 1) by omega]) (k - s) v hv
        rwa [show (off + 1) * s + (k - s) = off * s + k by rw [Nat.add_mul]; omega] at this
  intro k v hv
  have := key L 0 (fun i x hx j u hu => by rw [Nat.zero_add]; exact h i x hx j u hu) k v hv
  simpa using this
theorem setAt_append (xs : List Value) : ∀ (vs ys : List Value) (i : Nat), xs.length = i → setAt (xs ++ ys) i vs = xs ++ setAt ys 0 vs := by
  intro vs
  induction vs generalizing xs with
  | nil => intro ys i _; rfl
  | cons v r ih =>
    intro ys i hi
    subst hi
    cases ys with
    | nil =>
      simp only [List.append_nil, setAt]
      rw [List.set_eq_of_length_le (Nat.le_refl _)]
      have h0 : ∀ (vs : List Value) (xs : List Value) (i : Nat), xs.length ≤ i → setAt xs i vs = xs := by
        intro vs
        induction vs with
        | nil => intros; rfl
        | cons v r ih => intro xs i hi; simp only [setAt]; rw [List.set_eq_of_length_le hi]; exact ih _ _ (by omega)
      rw [h0 r xs _ (by omega), List.set_nil, h0 r [] _ (by simp)]; simp
    | cons y ys =>
      simp only [setAt, List.set_cons_zero]
      have e1 : (xs ++ y :: ys).set xs.length v = (xs ++ [v]) ++ ys := by
        rw [List.set_append_right _ _ (Nat.le_refl _)]; simp
      rw [e1, ih (xs ++ [v]) ys (xs.length + 1) (by simp)]
      have e2 : setAt (v :: ys) (0 + 1) r = [v] ++ setAt ys 0 r := ih [v] ys 1 rfl
      rw [e2]; simp
theorem setAt_over : ∀ (vs zs ys : List Value), zs.length = vs.length → setAt (zs ++ ys) 0 vs = vs ++ ys
  | [], [], ys, _ => rfl
  | [], _ :: _, ys, h => by simp at h
  | _ :: _, [], ys, h => by simp at h
  | v :: vs, z :: zs, ys, h => by
    show setAt ((z :: (zs ++ ys)).set 0 v) 1 vs = _
    rw [List.set_cons_zero]
    have := setAt_append [v] vs (zs ++ ys) 1 rfl
    rw [List.singleton_append] at this
    rw [this, setAt_over vs zs ys (by simpa using h)]; rfl
theorem recs_set (hs : ∀ x, (enc x).length = s) (L : List α) (i : Nat) (x : α) (hi : i < L.length) : setAt (L.flatMap enc) (i * s) (enc x) = (L.set i x).flatMap enc := by
  have h1 : L = L.take i ++ L[i] :: L.drop (i + 1) := by rw [List.getElem_cons_drop, List.take_append_drop]
  have h2 : L.set i x = L.take i ++ x :: L.drop (i + 1) := by
    rw [List.set_eq_take_append_cons_drop, if_pos hi]
  rw [h2]
  conv => lhs; rw [h1]
  simp only [List.flatMap_append, List.flatMap_cons]
  rw [setAt_append _ _ _ _ (by rw [recs_len hs, List.length_take, Nat.min_eq_left (by omega)]), setAt_over _ _ _ (by rw [hs, hs])]
theorem recs_one (h1 : ∀ x, ∀ u ∈ enc x, u.oneCell' = true) (L : List α) : ∀ u ∈ L.flatMap enc, u.oneCell' = true := fun u hu => by
  obtain ⟨x, _, hx⟩ := List.mem_flatMap.1 hu
  exact h1 x u hx
end flat

/-- slices.Clone's text behind its nil test. -/
theorem clone_txt {t ty e : TypeId} {s b : Nat} {z : Value} (he : slEl P t = some (e, s, b, z)) (hs : 0 < s) {w : World} {q : Option Addr} {n c : Nat} {xs : List Value} {Q : Value → World → Prop}
    (hx : Cells w q xs) (hl : xs.length = n * s) (h1 : ∀ u ∈ xs, u.oneCell' = true) (hb : n * b ≤ 140737488355328) (hn : n ≤ 9223372036854775807) (hq : q ≠ none)
    (hk : ∀ p' c' w', Ext w w' → Own w.heap.size w' e s p' n c' xs → Q (.slice p' n c') w') :
    ∀ w0, Ext w w0 → Run P (.buildSlice t 0 []) w0 fun v1 w1 => Ext w0 w1 ∧ ∃ t2 : Option Addr, ∃ tl3 : Nat, ∃ tc4 : Nat, v1 = (.slice t2 tl3 tc4) ∧
      ∀ w5, Ext w1 w5 → Run P (.append #[t, t] ty [(.slice t2 tl3 tc4), (.slice q n c)]) w5 fun v6 w6 => ∃ t7 : Option Addr, ∃ tl8 : Nat, ∃ tc9 : Nat, v6 = (.slice t7 tl8 tc9) ∧ ∀ w10, Ext w6 w10 → Q (.slice t7 tl8 tc9) w10 := by
  intro w0 h0
  refine run_lit0 he fun w1 o1 e1 => ⟨e1, _, _, _, rfl, fun w5 h5 => ?_⟩
  have o5 := (o1 w.heap.size h0.size).ext h5
  have hx5 := (h0.trans e1).trans h5
  refine run_app he hs o5 hx5.size hq (news := xs) hl (hx.ext hx5) h1 (by rw [Nat.zero_add]; exact hb) (by omega) fun p' c' w6 o6 g6 _ => ⟨_, _, _, rfl, fun w10 h10 => ?_⟩
  simp only [Nat.zero_add, List.nil_append] at o6 ⊢
  exact hk _ _ _ ((g6.ext hx5 o5).trans h10) (o6.ext h10)

theorem Grew.then_ {w w' w'' : World} {p : Option Addr} (h : Grew w w' p p) (hg : Grew w' w'' p p) : Grew w w'' p p :=
  ⟨⟨hg.by_.os.trans h.by_.os, hg.by_.tape.trans h.by_.tape, hg.by_.output.trans h.by_.output, Nat.le_trans h.size hg.size, fun k hk hb => (hg.by_.block k (Nat.lt_of_lt_of_le hk h.size) hb).trans (h.by_.block k hk hb)⟩, .inl rfl⟩
theorem grew_of_ext {w w' : World} {p : Option Addr} (h : Ext w w') : Grew w w' p p :=
  ⟨⟨h.os, h.tape, h.output, h.size, fun k hk _ => h.block k hk⟩, .inl rfl⟩

/-- slices.Delete's text where something goes. -/
theorem delete_txt {t ty ty' e : TypeId} {s b : Nat} {z : Value} (he : slEl P t = some (e, s, b, z)) (hs : 0 < s) (hz1 : ∀ u ∈ z.cells.toList, u.oneCell' = true) {B : Nat} {w : World} {q : Option Addr} {n c : Nat} {i j : Int} {xs : List Value} {Q : Value → World → Prop}
    (ho : Own B w e s q n c xs) (h1 : ∀ u ∈ xs, u.oneCell' = true) (hi0 : 0 ≤ i) (hij : i < j) (hj : j ≤ n)
    (hk : ∀ w', Grew w w' q q → Own B w' e s q (i.toNat + (n - j.toNat)) c (xs.take (i.toNat * s) ++ xs.drop (j.toNat * s)) → Q (.slice q (i.toNat + (n - j.toNat)) c) w') :
    (0 : Int) ≤ 0 ∧ (0 : Int) ≤ i ∧ (i : Int) ≤ (c : Int) ∧ (0 : Int) ≤ j ∧ (j : Int) ≤ (n : Int) ∧ ((n : Int) : Int) ≤ (c : Int) ∧
     ∀ w0, Ext w w0 → Run P (.append #[t, t] ty [(.slice (pCut q c 0 s) (i - 0).toNat (c - (0 : Int).toNat)), (.slice (pCut q c j s) ((n : Int) - j).toNat (c - j.toNat))]) w0 fun v1 w1 =>
      ∃ t2 : Option Addr, ∃ tl3 : Nat, ∃ tc4 : Nat, v1 = (.slice t2 tl3 tc4) ∧ (0 : Int) ≤ (tl3 : Int) ∧ ((tl3 : Int) : Int) ≤ (n : Int) ∧ ((n : Int) : Int) ≤ (tc4 : Int) ∧
      ∀ w5, Ext w1 w5 → Run P (.clear #[t] ty' [(.slice (pCut t2 tc4 (tl3 : Int) s) ((n : Int) - (tl3 : Int)).toNat (tc4 - (tl3 : Int).toNat))]) w5 fun v6 w6 => v6 = (.tuple #[]) ∧ ∀ w7, Ext w6 w7 → Q (.slice t2 tl3 tc4) w7 := by
  have hle := ho.le
  obtain ⟨i, rfl⟩ : ∃ k : Nat, i = k := ⟨i.toNat, by omega⟩
  obtain ⟨j, rfl⟩ : ∃ k : Nat, j = k := ⟨j.toNat, by omega⟩
  simp only [Int.toNat_natCast] at hk
  refine ⟨by omega, by omega, by omega, by omega, by omega, by omega, fun w0 h0 => ?_⟩
  have o0 := ho.ext h0
  simp only [pCut_zero, Int.sub_zero, Int.toNat_natCast, Int.toNat_zero, Nat.sub_zero]
  rw [show ((n : Int) - (j : Int)).toNat = n - j by omega]
  refine run_cut he hs (n := n) o0 (by omega) (by omega) rfl rfl h1 fun w1 o1 g1 => ⟨_, _, _, rfl, by omega, by omega, by omega, fun w5 h5 => ?_⟩
  have o5 := o1.ext h5
  refine run_clear he hs hz1 o5 (by omega) (by simp) fun w6 o6 g6 => ⟨rfl, fun w7 h7 => hk w7 ?_ (o6.ext h7)⟩
  exact Grew.then_ (grew_of_ext h0) (Grew.then_ g1 (Grew.then_ (grew_of_ext h5) (Grew.then_ g6 (grew_of_ext h7))))
end Go.Sx
namespace Go.Sx
theorem Own.st {B : Nat} {w w' : World} {e : TypeId} {s : Nat} {p q q' : Option Addr} {n c : Nat} {xs : List Value} (h : Own B w e s p n c xs) (ha : Apart p q) (hg : Grew w w' q q') : Own B w' e s p n c xs := h.grew (B' := 0) ha hg
end Go.Sx
