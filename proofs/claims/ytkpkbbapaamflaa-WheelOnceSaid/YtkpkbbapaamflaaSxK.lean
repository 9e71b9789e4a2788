/- Maps: what they hold, by key. -/
import Derived.Test.YtkpkbbapaamflaaSxD
set_option linter.unusedVariables false
set_option linter.unusedSimpArgs false
set_option linter.unusedSectionVars false
namespace Go.Sx
open Go.RowKit
variable {P : Program} {α : Type} [DecidableEq α]

theorem eraseIdx_map' {β γ : Type} (f : β → γ) : ∀ (l : List β) (j : Nat), (l.eraseIdx j).map f = (l.map f).eraseIdx j
  | [], _ => by simp
  | _ :: _, 0 => by simp
  | a :: l, j + 1 => by simp [eraseIdx_map' f l j]

structure KeyT (P : Program) (k : TypeId) (enc : α → Value) (d : TypeDesc) : Prop where
  u : P.underlying k = some d
  same : ∀ a b, Instr.sameNow d (enc a) (enc b) = some (decide (a = b))
  check : ∀ (em : Bool) (a : α) (w : World), (Instr.checkKey em 10000 k (enc a)).run P w = .ok () w
  stay : ∀ a, Instr.sameBits 10000 (enc a) (enc a) = true

theorem keyT_int {k : TypeId} {kk : IntKind} (h : P.underlying k = some (.int kk)) : KeyT P k (Value.int kk) (.int kk) :=
  ⟨h, fun a b => by simp [Instr.sameNow]; rfl, fun em a w => by
      show (Instr.checkKey em (9999 + 1) k (.int kk a)).run P w = _
      unfold Instr.checkKey; simp only [Sem.run_bind, run_underlying h, Result.andThen_ok]; rfl, fun a => by
      show Instr.sameBits (9999 + 1) (.int kk a) (.int kk a) = true
      unfold Instr.sameBits; simp⟩
theorem bytes_beq (a b : ByteArray) : (a == b) = decide (a = b) := by
  have h : (a == b) = (a.data == b.data) := by cases a; cases b; rfl
  rw [h]
  by_cases he : a = b
  · subst he; simp
  · have : a.data ≠ b.data := fun hd => he (by cases a; cases b; simp_all)
    simp [he, this]
theorem keyT_str {k : TypeId} (h : P.underlying k = some .string) : KeyT P k Value.string .string :=
  ⟨h, fun a b => by simp [Instr.sameNow, bytes_beq], fun em a w => by
      show (Instr.checkKey em (9999 + 1) k (.string a)).run P w = _
      unfold Instr.checkKey; simp only [Sem.run_bind, run_underlying h, Result.andThen_ok]; rfl, fun a => by
      show Instr.sameBits (9999 + 1) (.string a) (.string a) = true
      unfold Instr.sameBits; rw [bytes_beq]; simp⟩

def mget : List (α × Value) → α → Option Value
  | [], _ => none
  | (b, u) :: r, a => if b = a then some u else mget r a
def mset : List (α × Value) → α → Value → List (α × Value)
  | [], a, v => [(a, v)]
  | (b, u) :: r, a, v => if b = a then (a, v) :: r else (b, u) :: mset r a v
def mdel : List (α × Value) → α → List (α × Value)
  | [], _ => []
  | (b, u) :: r, a => if b = a then r else (b, u) :: mdel r a
def mfind : List (α × Value) → α → Nat → Option (Nat × Value)
  | [], _, _ => none
  | (b, u) :: r, a, i => if b = a then some (i, u) else mfind r a (i + 1)
def mkeys (m : List (α × Value)) : List α := m.map (·.1)

theorem mget_mset (m : List (α × Value)) (a b : α) (v : Value) : mget (mset m a v) b = if a = b then some v else mget m b := by
  induction m with
  | nil => rfl
  | cons x r ih =>
    obtain ⟨c, u⟩ := x
    simp only [mset]
    by_cases h : c = a
    · subst h; rw [if_pos rfl]; simp only [mget]
      by_cases hb : c = b
      · rw [if_pos hb, if_pos hb]
      · rw [if_neg hb, if_neg hb, if_neg hb]
    · rw [if_neg h]; simp only [mget, ih]
      by_cases hb : c = b
      · rw [if_pos hb, if_neg (fun he => h (hb.trans he.symm)), if_pos hb]
      · rw [if_neg hb, if_neg hb]
theorem mkeys_mset (m : List (α × Value)) (a : α) (v : Value) : mkeys (mset m a v) = if a ∈ mkeys m then mkeys m else mkeys m ++ [a] := by
  induction m with
  | nil => rfl
  | cons x r ih =>
    obtain ⟨c, u⟩ := x
    simp only [mset]
    by_cases h : c = a
    · subst h; rw [if_pos rfl]; simp [mkeys]
    · rw [if_neg h]
      have e : mkeys ((c, u) :: mset r a v) = c :: mkeys (mset r a v) := rfl
      rw [e, ih]
      have e2 : mkeys ((c, u) :: r) = c :: mkeys r := rfl
      rw [e2]
      by_cases hm : a ∈ mkeys r
      · rw [if_pos hm, if_pos (by simp [hm])]
      · rw [if_neg hm, if_neg (by simp [hm]; exact fun he => h he.symm)]; rfl
theorem mget_none {m : List (α × Value)} {a : α} : mget m a = none ↔ a ∉ mkeys m := by
  induction m with
  | nil => simp [mget, mkeys]
  | cons x r ih =>
    obtain ⟨c, u⟩ := x
    have e2 : mkeys ((c, u) :: r) = c :: mkeys r := rfl
    rw [e2]
    simp only [mget]
    by_cases h : c = a
    · subst h; simp
    · rw [if_neg h, ih]; simp; exact fun _ he => h he.symm
theorem mget_mdel (m : List (α × Value)) (hn : (mkeys m).Nodup) (a b : α) : mget (mdel m a) b = if a = b then none else mget m b := by
  induction m with
  | nil => simp [mdel, mget]
  | cons x r ih =>
    obtain ⟨c, u⟩ := x
    have e2 : mkeys ((c, u) :: r) = c :: mkeys r := rfl
    rw [e2, List.nodup_cons] at hn
    simp only [mdel]
    by_cases h : c = a
    · subst h; rw [if_pos rfl]; simp only [mget]
      by_cases hb : c = b
      · subst hb; rw [if_pos rfl]; exact mget_none.2 hn.1
      · rw [if_neg hb, if_neg hb]
    · rw [if_neg h]; simp only [mget, ih hn.2]
      by_cases hb : c = b
      · subst hb; rw [if_pos rfl, if_neg (fun he => h he.symm), if_pos rfl]
      · rw [if_neg hb, if_neg hb]
theorem mkeys_mdel (m : List (α × Value)) (a : α) : mkeys (mdel m a) = (mkeys m).erase a := by
  induction m with
  | nil => rfl
  | cons x r ih =>
    obtain ⟨c, u⟩ := x
    simp only [mdel]
    have e2 : mkeys ((c, u) :: r) = c :: mkeys r := rfl
    by_cases h : c = a
    · subst h; rw [if_pos rfl, e2]; simp
    · rw [if_neg h, e2, List.erase_cons_tail (by simpa using h), ← ih]; rfl

theorem mfind_some {m : List (α × Value)} {a : α} {i j : Nat} {u : Value} (h : mfind m a i = some (j, u)) : i ≤ j ∧ m[j - i]? = some (a, u) ∧ (∀ v, mset m a v = m.set (j - i) (a, v)) ∧ mdel m a = m.eraseIdx (j - i) ∧ mget m a = some u := by
  induction m generalizing i with
  | nil => simp [mfind] at h
  | cons x r ih =>
    obtain ⟨c, v⟩ := x
    simp only [mfind] at h
    by_cases hc : c = a
    · subst hc
      rw [if_pos rfl] at h
      obtain ⟨rfl, rfl⟩ := Prod.mk.inj (Option.some.inj h)
      refine ⟨Nat.le_refl _, by simp, fun w => by simp [mset], by simp [mdel], by simp [mget]⟩
    · rw [if_neg hc] at h
      obtain ⟨h1, h2, h3, h4, h5⟩ := ih h
      have e : j - i = (j - (i + 1)) + 1 := by omega
      refine ⟨by omega, by rw [e]; simpa using h2, fun w => ?_, ?_, ?_⟩
      · rw [e]; simp only [mset, if_neg hc, h3 w, List.set_cons_succ]
      · rw [e]; simp only [mdel, if_neg hc, h4, List.eraseIdx_cons_succ]
      · simp only [mget, if_neg hc, h5]
theorem mfind_none {m : List (α × Value)} {a : α} {i : Nat} (h : mfind m a i = none) : (∀ v, mset m a v = m ++ [(a, v)]) ∧ mdel m a = m ∧ mget m a = none := by
  induction m generalizing i with
  | nil => exact ⟨fun _ => rfl, rfl, rfl⟩
  | cons x r ih =>
    obtain ⟨c, v⟩ := x
    simp only [mfind] at h
    by_cases hc : c = a
    · rw [if_pos hc] at h; cases h
    · rw [if_neg hc] at h
      obtain ⟨h1, h2, h3⟩ := ih h
      exact ⟨fun w => by simp [mset, hc, h1 w], by simp [mdel, hc, h2], by simp [mget, hc, h3]⟩

theorem mset_ways {β : Type} (f : β → Value) (m : List (α × Value)) (F : List β) (h : m.map (·.2) = F.map f) (b : α) :
    (mget m b = none ∧ ∀ x, (mset m b (f x)).map (·.2) = (F ++ [x]).map f) ∨ ∃ j y, F[j]? = some y ∧ mget m b = some (f y) ∧ ∀ x, (mset m b (f x)).map (·.2) = (F.set j x).map f := by
  cases hf : mfind m b 0 with
  | none =>
    obtain ⟨h1, _, h3⟩ := mfind_none hf
    exact .inl ⟨h3, fun x => by rw [h1]; simp [h]⟩
  | some q =>
    obtain ⟨j, u⟩ := q
    obtain ⟨_, h2, h3, _, h5⟩ := mfind_some hf
    rw [Nat.sub_zero] at h2 h3
    have hj := congrArg (fun l => l[j]?) h
    simp only [List.getElem?_map, h2, Option.map_some] at hj
    cases hy : F[j]? with
    | none => rw [hy] at hj; simp at hj
    | some y =>
      rw [hy] at hj
      refine .inr ⟨j, y, hy, by rw [h5]; simpa using hj, fun x => ?_⟩
      rw [h3, List.map_set, List.map_set, h]

section
variable {k : TypeId} {enc : α → Value} {d : TypeDesc}
theorem findNow_m (K : KeyT P k enc d) (a : α) : ∀ (m : List (α × Value)) (es : List MapEntry) (i : Nat), es.map (fun e => (e.key, e.val)) = m.map (fun x => (enc x.1, x.2)) → Instr.findNow d (enc a) es i = some (mfind m a i)
  | [], es, i, h => by
    simp at h; subst h; rfl
  | (b, u) :: m, es, i, h => by
    cases es with
    | nil => simp at h
    | cons e es =>
      simp only [List.map_cons, List.cons.injEq, Prod.mk.injEq] at h
      obtain ⟨⟨h1, h2⟩, h3⟩ := h
      unfold Instr.findNow
      rw [h1, K.same]
      by_cases hab : b = a
      · subst hab; simp [mfind, h2]
      · have : decide (a = b) = false := by simp; exact fun he => hab he.symm
        rw [this]; simp only [mfind, if_neg hab]
        exact findNow_m K a m es (i + 1) h3

/-- What the map at r holds. -/
structure MapIs (enc : α → Value) (w : World) (r : Nat) (m : List (α × Value)) : Prop where
  nodup : (mkeys m).Nodup
  es : ∃ es clock, w.heap[r]? = some (.map es clock) ∧ es.toList.map (fun e => (e.key, e.val)) = m.map (fun x => (enc x.1, x.2))

theorem MapIs.lt {w : World} {r : Nat} {m : List (α × Value)} (h : MapIs enc w r m) : r < w.heap.size := by
  obtain ⟨es, c, h1, _⟩ := h.es
  exact (Array.getElem?_eq_some_iff.1 h1).1
theorem MapIs.ext {w w' : World} {r : Nat} {m : List (α × Value)} (h : MapIs enc w r m) (he : Ext w w') : MapIs enc w' r m := by
  have hl := h.lt
  obtain ⟨es, c, h1, h2⟩ := h.es
  exact ⟨h.nodup, es, c, by rw [he.block r hl]; exact h1, h2⟩
theorem MapIs.grew {w w' : World} {r : Nat} {m : List (α × Value)} {p q : Option Addr} (h : MapIs enc w r m) (hp : ∀ x, p = some x → x.block ≠ r) (hg : Grew w w' p q) : MapIs enc w' r m := by
  have hl := h.lt
  obtain ⟨es, c, h1, h2⟩ := h.es
  refine ⟨h.nodup, es, c, ?_, h2⟩
  rw [hg.by_.block r hl fun he => ?_]
  · exact h1
  · cases p with
    | none => cases he
    | some x => simp [blk] at he; exact hp x rfl he.symm

theorem run_makeMap {t : TypeId} {w : World} {K : Value → World → Prop} (hk : ∀ w', MapIs enc w' w.heap.size [] → Ext w w' → K (.map (some w.heap.size)) w') : Run P (.makeMap t) w K := by
  refine ⟨_, w.alloc (.map #[] 0), rfl, hk _ ⟨by simp [mkeys], #[], 0, ?_, rfl⟩ (Below.alloc (Below.refl _ _) (Nat.le_refl _) _)⟩
  exact heap_alloc_new w _

theorem findKey_m (K : KeyT P k enc d) {w : World} {m : List (α × Value)} {es : Array MapEntry} (h : es.toList.map (fun e => (e.key, e.val)) = m.map (fun x => (enc x.1, x.2))) (a : α) : (Instr.findKey k (enc a) es.toList).run P w = .ok (mfind m a 0) w := by
  unfold Instr.findKey
  rw [Sem.run_bind, run_underlying K.u, Result.andThen_ok, findNow_m K a m _ 0 h]
  simp

theorem getObj_run {w : World} {r : Nat} {es : Array MapEntry} {c : Nat} (h : w.heap[r]? = some (.map es c)) : (getObj r).run P w = .ok (.map es c) w := by simp [getObj, Sem.run, h]

theorem run_lookup (K : KeyT P k enc d) {t e : TypeId} (ht : P.underlying t = some (.map k e)) {i : TypeInfo} {z : Value} (hi : P.info? e = some i) (hz : i.zero = some z) {w : World} {r : Nat} {m : List (α × Value)} (h : MapIs enc w r m) {a : α} {ok : Bool} {Q : Value → World → Prop}
    (hk : Q (if ok then .tuple #[(mget m a).getD z, .bool (mget m a).isSome] else (mget m a).getD z) w) : Run P (.lookup t (.map (some r)) (enc a) ok) w Q := by
  obtain ⟨es, c, h1, h2⟩ := h.es
  refine ⟨_, w, ?_, hk⟩
  show (Instr.lookup t (.map (some r)) (enc a) ok).run P w = _
  have hzv : (zeroValue e).run P w = .ok z w := by simp [zeroValue, typeInfo, hi, hz]
  unfold Instr.lookup
  simp only [Sem.run_bind, run_underlying ht, Result.andThen_ok, getObj_run h1, Sem.run_pure, K.check, findKey_m K h2]
  cases hf : mfind m a 0 with
  | none =>
    have := (mfind_none hf).2.2
    cases ok <;> simp [this, hzv]
  | some x =>
    obtain ⟨j, u⟩ := x
    have := (mfind_some hf).2.2.2.2
    cases ok <;> simp [this]

theorem run_look (K : KeyT P k enc d) {t e : TypeId} (ht : P.underlying t = some (.map k e)) {sz b : Nat} {t' : TypeId} {z : Value} (he : slEl P t' = some (e, sz, b, z)) {w : World} {r : Nat} {m : List (α × Value)} (h : MapIs enc w r m) {a : α} {Q : Value → World → Prop}
    (hk : Q ((mget m a).getD z) w) : Run P (.lookup t (.map (some r)) (enc a) false) w Q := by
  obtain ⟨i, _, h2, h6, _⟩ := slEl_some he
  exact run_lookup K ht h2 h6 h hk

theorem setObj_frame {w : World} {r : Nat} {es es' : Array MapEntry} {c c' : Nat} (h : w.heap[r]? = some (.map es c)) : ∃ w', (setObj r (.map es' c')).run P w = .ok () w' ∧ w'.heap[r]? = some (.map es' c') ∧ Grew w w' (some ⟨r, 0, none⟩) (some ⟨r, 0, none⟩) := by
  have hl := (Array.getElem?_eq_some_iff.1 h).1
  refine ⟨{ w with heap := w.heap.setIfInBounds r (.map es' c') }, by simp [setObj, Sem.run, h], by simp [hl], ⟨⟨rfl, rfl, rfl, by simp, fun j hj hne => ?_⟩, .inl rfl⟩⟩
  have : r ≠ j := fun he => hne (by simp [blk, he])
  simp [Array.getElem?_setIfInBounds, this]

theorem run_mapUpdate (K : KeyT P k enc d) {t e : TypeId} (ht : P.underlying t = some (.map k e)) {w : World} {r : Nat} {m : List (α × Value)} (h : MapIs enc w r m) {a : α} {v : Value} {Q : Value → World → Prop}
    (hk : ∀ w', MapIs enc w' r (mset m a v) → Grew w w' (some ⟨r, 0, none⟩) (some ⟨r, 0, none⟩) → Q undef w') : Run P (.mapUpdate t (.map (some r)) (enc a) v) w Q := by
  obtain ⟨es, c, h1, h2⟩ := h.es
  have hn : (mkeys (mset m a v)).Nodup := by
    rw [mkeys_mset]
    split
    · exact h.nodup
    · rename_i hm
      rw [List.nodup_append]
      exact ⟨h.nodup, by simp, fun x hx y hy he => by simp at hy; subst hy; subst he; exact hm hx⟩
  cases hf : mfind m a 0 with
  | none =>
    obtain ⟨g1, _, g3⟩ := mfind_none hf
    obtain ⟨w', r1, r2, r3⟩ := setObj_frame (P := P) (es' := es.push { key := enc a, val := v, born := c }) (c' := c + 1) h1
    refine ⟨_, w', ?_, hk w' ⟨hn, _, _, r2, ?_⟩ r3⟩
    · show (do Instr.mapUpdate t (.map (some r)) (enc a) v; pure undef : Sem Value).run P w = _
      unfold Instr.mapUpdate
      simp only [Sem.run_bind, run_underlying ht, Result.andThen_ok, getObj_run h1, K.check, findKey_m K h2, hf, r1, Sem.run_pure]
    · rw [g1]; simp [h2]
  | some x =>
    obtain ⟨j, u⟩ := x
    obtain ⟨_, g2, g3, _, _⟩ := mfind_some hf
    rw [Nat.sub_zero] at g2
    have hj : j < es.size := by
      have := congrArg List.length h2
      simp at this
      have := (List.getElem?_eq_some_iff.1 g2).1
      omega
    have hkey : es[j].key = enc a := by
      have := congrArg (fun l => l[j]?) h2
      simp [g2, hj] at this
      exact this.1
    have hst : (Instr.keyThatStays (enc a) (enc a)).run P w = .ok (enc a) w := by unfold Instr.keyThatStays; rw [K.stay]; simp
    obtain ⟨w', r1, r2, r3⟩ := setObj_frame (P := P) (es' := es.modify j fun e => { e with key := enc a, val := v }) (c' := c) h1
    refine ⟨_, w', ?_, hk w' ⟨hn, _, _, r2, ?_⟩ r3⟩
    · show (do Instr.mapUpdate t (.map (some r)) (enc a) v; pure undef : Sem Value).run P w = _
      unfold Instr.mapUpdate
      simp only [Sem.run_bind, run_underlying ht, Result.andThen_ok, getObj_run h1, K.check, findKey_m K h2, hf]
      simp only [Array.getElem?_eq_getElem hj, Option.map_some, Option.getD_some, hkey, hst, Result.andThen_ok, r1, Sem.run_pure]
    · rw [g3, Nat.sub_zero]
      apply List.ext_getElem?
      intro i
      rw [List.map_set, ← h2]
      simp only [List.getElem?_map, Array.getElem?_toList, Array.getElem?_modify, List.getElem?_set, List.length_map, Array.length_toList]
      by_cases hij : j = i
      · subst hij; simp [hj]
      · simp [hij]

theorem run_len_m {t k' e ty : TypeId} (ht : P.underlying t = some (.map k' e)) {w : World} {r : Nat} {m : List (α × Value)} (h : MapIs enc w r m) {Q : Value → World → Prop} (hk : Q (.int .i64 m.length) w) : Run P (.len #[t] ty [.map (some r)]) w Q := by
  obtain ⟨es, c, h1, h2⟩ := h.es
  have hl := congrArg List.length h2
  simp at hl
  refine ⟨_, w, ?_, hk⟩
  show (Builtin.len_ #[t] ty #[.map (some r)]).run P w = _
  simp [Builtin.len_, run_underlying ht, getObj_run h1, goInt, hl]

theorem run_delete (K : KeyT P k enc d) {t e ty : TypeId} {ts : List TypeId} (ht : P.underlying t = some (.map k e)) {w : World} {r : Nat} {m : List (α × Value)} (h : MapIs enc w r m) {a : α} {Q : Value → World → Prop}
    (hk : ∀ w', MapIs enc w' r (mdel m a) → Grew w w' (some ⟨r, 0, none⟩) (some ⟨r, 0, none⟩) → Q (.tuple #[]) w') : Run P (.delete (t :: ts).toArray ty [.map (some r), enc a]) w Q := by
  obtain ⟨es, c, h1, h2⟩ := h.es
  have hn : (mkeys (mdel m a)).Nodup := by rw [mkeys_mdel]; exact h.nodup.erase _
  cases hf : mfind m a 0 with
  | none =>
    obtain ⟨_, g1, g3⟩ := mfind_none hf
    obtain ⟨w', r1, r2, r3⟩ := setObj_frame (P := P) (es' := es) (c' := c) h1
    refine ⟨_, w', ?_, hk w' ⟨hn, _, _, r2, by rw [g1]; exact h2⟩ r3⟩
    show (Builtin.delete_ (t :: ts).toArray ty #[.map (some r), enc a]).run P w = _
    unfold Builtin.delete_
    simp [run_underlying ht, getObj_run h1, K.check, findKey_m K h2, hf, r1]
  | some x =>
    obtain ⟨j, u⟩ := x
    obtain ⟨_, g2, _, g4, _⟩ := mfind_some hf
    rw [Nat.sub_zero] at g2 g4
    obtain ⟨w', r1, r2, r3⟩ := setObj_frame (P := P) (es' := es.eraseIdxIfInBounds j) (c' := c) h1
    refine ⟨_, w', ?_, hk w' ⟨hn, _, _, r2, ?_⟩ r3⟩
    · show (Builtin.delete_ (t :: ts).toArray ty #[.map (some r), enc a]).run P w = _
      unfold Builtin.delete_
      simp [run_underlying ht, getObj_run h1, K.check, findKey_m K h2, hf, r1]
    · have hj : j < es.size := by
        have := congrArg List.length h2
        simp at this
        have := (List.getElem?_eq_some_iff.1 g2).1
        omega
      rw [g4]
      have : (es.eraseIdxIfInBounds j).toList = es.toList.eraseIdx j := by simp [Array.eraseIdxIfInBounds, hj]
      rw [this, eraseIdx_map', h2, ← eraseIdx_map']
end
end Go.Sx
