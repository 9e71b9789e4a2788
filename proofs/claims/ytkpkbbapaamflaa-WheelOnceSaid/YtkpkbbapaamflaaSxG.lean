/- Maps that are ranged over: their entries' stamps; the iterator. -/
import Derived.Test.YtkpkbbapaamflaaSxF
import Derived.Laws.IdiomRangeMap
set_option linter.unusedVariables false
set_option linter.unusedSimpArgs false
set_option linter.unusedSectionVars false
namespace Go.Sx
open Go.RowKit
variable {P : Program} {α : Type} [DecidableEq α] {k : TypeId} {enc : α → Value} {d : TypeDesc}

/-- What the map at r holds; its entries' stamps are apart, and below its clock. -/
structure MapIt (enc : α → Value) (w : World) (r : Nat) (m : List (α × Value)) : Prop where
  nodup : (mkeys m).Nodup
  es : ∃ es clock, w.heap[r]? = some (.map es clock) ∧ es.toList.map (fun e => (e.key, e.val)) = m.map (fun x => (enc x.1, x.2)) ∧ (es.toList.map (·.born)).Nodup ∧ ∀ e ∈ es.toList, e.born < clock

theorem MapIt.is {w : World} {r : Nat} {m : List (α × Value)} (h : MapIt enc w r m) : MapIs enc w r m := by
  obtain ⟨es, c, h1, h2, _⟩ := h.es
  exact ⟨h.nodup, es, c, h1, h2⟩
theorem MapIt.lt {w : World} {r : Nat} {m : List (α × Value)} (h : MapIt enc w r m) : r < w.heap.size := h.is.lt
theorem MapIt.ext {w w' : World} {r : Nat} {m : List (α × Value)} (h : MapIt enc w r m) (he : Ext w w') : MapIt enc w' r m := by
  have hl := h.lt
  obtain ⟨es, c, h1, h2⟩ := h.es
  exact ⟨h.nodup, es, c, by rw [he.block r hl]; exact h1, h2⟩
theorem MapIt.fr {S : Nat → Prop} {w w' : World} {r : Nat} {m : List (α × Value)} (h : MapIt enc w r m) (k : Fr S w w') (hp : ¬ S r) : MapIt enc w' r m := by
  obtain ⟨es, c, h1, h2⟩ := h.es
  exact ⟨h.nodup, es, c, (k.block r h.lt hp).trans h1, h2⟩
theorem MapIt.grew {w w' : World} {r : Nat} {m : List (α × Value)} {p q : Option Addr} (h : MapIt enc w r m) (hp : ∀ x, p = some x → x.block ≠ r) (hg : Grew w w' p q) : MapIt enc w' r m :=
  h.fr (fr_grew (S := fun b => b ≠ r) hg hp) (fun h => h rfl)

theorem run_makeMap_it {t : TypeId} {w : World} {K : Value → World → Prop} (hk : ∀ w', MapIt enc w' w.heap.size [] → Ext w w' → K (.map (some w.heap.size)) w') : Run P (.makeMap t) w K := by
  refine ⟨_, w.alloc (.map #[] 0), rfl, hk _ ⟨by simp [mkeys], #[], 0, ?_, rfl, by simp, by simp⟩ (Below.alloc (Below.refl _ _) (Nat.le_refl _) _)⟩
  exact heap_alloc_new w _

theorem run_mapUpdate_it (K : KeyT P k enc d) {t e : TypeId} (ht : P.underlying t = some (.map k e)) {w : World} {r : Nat} {m : List (α × Value)} (h : MapIt enc w r m) {a : α} {v : Value} {Q : Value → World → Prop}
    (hk : ∀ w', MapIt enc w' r (mset m a v) → Grew w w' (some ⟨r, 0, none⟩) (some ⟨r, 0, none⟩) → Q undef w') : Run P (.mapUpdate t (.map (some r)) (enc a) v) w Q := by
  obtain ⟨es, c, h1, h2, h3, h4⟩ := h.es
  have hn : (mkeys (mset m a v)).Nodup := by
    rw [mkeys_mset]
    split
    · exact h.nodup
    · rename_i hm
      rw [List.nodup_append]
      exact ⟨h.nodup, by simp, fun x hx y hy he => by simp at hy; subst hy; subst he; exact hm hx⟩
  cases hf : mfind m a 0 with
  | none =>
    obtain ⟨g1, _, g3⟩ := mfind_none hf
    obtain ⟨w', r1, r2, r3⟩ := setObj_frame (P := P) (es' := es.push { key := enc a, val := v, born := c }) (c' := c + 1) h1
    refine ⟨_, w', ?_, hk w' ⟨hn, _, _, r2, ?_, ?_, ?_⟩ r3⟩
    · show (do Instr.mapUpdate t (.map (some r)) (enc a) v; pure undef : Sem Value).run P w = _
      unfold Instr.mapUpdate
      simp only [Sem.run_bind, run_underlying ht, Result.andThen_ok, getObj_run h1, K.check, findKey_m K h2, hf, r1, Sem.run_pure]
    · rw [g1]; simp [h2]
    · simp only [Array.toList_push, List.map_append, List.map_cons, List.map_nil]
      rw [List.nodup_append]
      refine ⟨h3, by simp, fun x hx y hy he => ?_⟩
      simp at hy; subst hy; subst he
      obtain ⟨e, he, hb⟩ := List.mem_map.1 hx
      have := h4 e he; omega
    · intro e he
      simp only [Array.toList_push, List.mem_append, List.mem_singleton] at he
      rcases he with he | rfl
      · have := h4 e he; omega
      · exact Nat.lt_succ_self c
  | some x =>
    obtain ⟨j, u⟩ := x
    obtain ⟨_, g2, g3, _, _⟩ := mfind_some hf
    rw [Nat.sub_zero] at g2
    have hj : j < es.size := by
      have := congrArg List.length h2
      simp at this
      have := (List.getElem?_eq_some_iff.1 g2).1
      omega
    have hkey : es[j].key = enc a := by
      have := congrArg (fun l => l[j]?) h2
      simp [g2, hj] at this
      exact this.1
    have hst : (Instr.keyThatStays (enc a) (enc a)).run P w = .ok (enc a) w := by unfold Instr.keyThatStays; rw [K.stay]; simp
    obtain ⟨w', r1, r2, r3⟩ := setObj_frame (P := P) (es' := es.modify j fun e => { e with key := enc a, val := v }) (c' := c) h1
    have hbn : (es.modify j fun e => { e with key := enc a, val := v }).toList.map (·.born) = es.toList.map (·.born) := by
      apply List.ext_getElem?
      intro i
      simp only [List.getElem?_map, Array.getElem?_toList, Array.getElem?_modify]
      by_cases hij : j = i
      · subst hij; simp [hj]
      · simp [hij]
    refine ⟨_, w', ?_, hk w' ⟨hn, _, _, r2, ?_, by rw [hbn]; exact h3, fun e he => ?_⟩ r3⟩
    · show (do Instr.mapUpdate t (.map (some r)) (enc a) v; pure undef : Sem Value).run P w = _
      unfold Instr.mapUpdate
      simp only [Sem.run_bind, run_underlying ht, Result.andThen_ok, getObj_run h1, K.check, findKey_m K h2, hf]
      simp only [Array.getElem?_eq_getElem hj, Option.map_some, Option.getD_some, hkey, hst, Result.andThen_ok, r1, Sem.run_pure]
    · rw [g3, Nat.sub_zero]
      apply List.ext_getElem?
      intro i
      rw [List.map_set, ← h2]
      simp only [List.getElem?_map, Array.getElem?_toList, Array.getElem?_modify, List.getElem?_set, List.length_map, Array.length_toList]
      by_cases hij : j = i
      · subst hij; simp [hj]
      · simp [hij]
    · have hm : e.born ∈ es.toList.map (·.born) := by rw [← hbn]; exact List.mem_map_of_mem he
      obtain ⟨e', he', hb⟩ := List.mem_map.1 hm
      rw [← hb]; exact h4 e' he'

theorem run_delete_it (K : KeyT P k enc d) {t e ty : TypeId} {ts : List TypeId} (ht : P.underlying t = some (.map k e)) {w : World} {r : Nat} {m : List (α × Value)} (h : MapIt enc w r m) {a : α} {Q : Value → World → Prop}
    (hk : ∀ w', MapIt enc w' r (mdel m a) → Grew w w' (some ⟨r, 0, none⟩) (some ⟨r, 0, none⟩) → Q (.tuple #[]) w') : Run P (.delete (t :: ts).toArray ty [.map (some r), enc a]) w Q := by
  obtain ⟨es, c, h1, h2, h3, h4⟩ := h.es
  have hn : (mkeys (mdel m a)).Nodup := by rw [mkeys_mdel]; exact h.nodup.erase _
  cases hf : mfind m a 0 with
  | none =>
    obtain ⟨_, g1, g3⟩ := mfind_none hf
    obtain ⟨w', r1, r2, r3⟩ := setObj_frame (P := P) (es' := es) (c' := c) h1
    refine ⟨_, w', ?_, hk w' ⟨hn, _, _, r2, by rw [g1]; exact h2, h3, h4⟩ r3⟩
    show (Builtin.delete_ (t :: ts).toArray ty #[.map (some r), enc a]).run P w = _
    unfold Builtin.delete_
    simp [run_underlying ht, getObj_run h1, K.check, findKey_m K h2, hf, r1]
  | some x =>
    obtain ⟨j, u⟩ := x
    obtain ⟨_, g2, _, g4, _⟩ := mfind_some hf
    rw [Nat.sub_zero] at g2 g4
    obtain ⟨w', r1, r2, r3⟩ := setObj_frame (P := P) (es' := es.eraseIdxIfInBounds j) (c' := c) h1
    have hj : j < es.size := by
      have := congrArg List.length h2
      simp at this
      have := (List.getElem?_eq_some_iff.1 g2).1
      omega
    have hl : (es.eraseIdxIfInBounds j).toList = es.toList.eraseIdx j := by simp [Array.eraseIdxIfInBounds, hj]
    refine ⟨_, w', ?_, hk w' ⟨hn, _, _, r2, ?_, ?_, fun e he => ?_⟩ r3⟩
    · show (Builtin.delete_ (t :: ts).toArray ty #[.map (some r), enc a]).run P w = _
      unfold Builtin.delete_
      simp [run_underlying ht, getObj_run h1, K.check, findKey_m K h2, hf, r1]
    · rw [g4, hl, eraseIdx_map', h2, ← eraseIdx_map']
    · rw [hl, eraseIdx_map']
      exact h3.sublist (List.eraseIdx_sublist ..)
    · rw [hl] at he
      exact h4 e (List.mem_of_mem_eraseIdx he)

/-! ### The iterator -/

/-- The iterator 'it' over the map 'mb': 'rest' is left; 'cur' is what was handed out last. -/
def ItAt (enc : α → Value) (w : World) (it mb : Nat) (rest : List (α × Value)) (cur : Option (α × Value)) : Prop :=
  ∃ es clock seen last, w.heap[mb]? = some (.map es clock) ∧ (es.toList.map (·.born)).Nodup ∧ (∀ e ∈ es.toList, e.born < clock) ∧ w.heap[it]? = some (.mapIter (some mb) clock seen last) ∧ clock ≤ last ∧
    (es.toList.filter fun e => !seen.contains e.born).map (fun e => (e.key, e.val)) = rest.map (fun x => (enc x.1, x.2)) ∧
    ∀ x, cur = some x → ∃ e ∈ es.toList, seen.back? = some e.born ∧ e.key = enc x.1 ∧ e.val = x.2 ∧ last = clock

theorem ItAt.fr {S : Nat → Prop} {w w' : World} {it mb : Nat} {rest : List (α × Value)} {cur : Option (α × Value)} (h : ItAt enc w it mb rest cur) (k : Fr S w w') (h1 : ¬ S it) (h2 : ¬ S mb) : ItAt enc w' it mb rest cur := by
  obtain ⟨es, c, seen, last, g1, g2, g3, g4, g5⟩ := h
  exact ⟨es, c, seen, last, (k.block mb (Array.getElem?_eq_some_iff.1 g1).1 h2).trans g1, g2, g3, (k.block it (Array.getElem?_eq_some_iff.1 g4).1 h1).trans g4, g5⟩
theorem ItAt.ext {w w' : World} {it mb : Nat} {rest : List (α × Value)} {cur : Option (α × Value)} (h : ItAt enc w it mb rest cur) (k : Ext w w') : ItAt enc w' it mb rest cur :=
  h.fr (S := fun _ => False) (fr_ext k) id id

/-- How many are left. -/
def itLeft (w : World) (it : Nat) : Nat :=
  match w.heap[it]? with
  | some (.mapIter (some mb) _ seen _) => (match w.heap[mb]? with | some (.map es _) => (es.toList.filter fun e => !seen.contains e.born).length | _ => 0)
  | _ => 0
theorem ItAt.left {w : World} {it mb : Nat} {rest : List (α × Value)} {cur : Option (α × Value)} (h : ItAt enc w it mb rest cur) : itLeft w it = rest.length := by
  obtain ⟨es, c, seen, last, g1, _, _, g4, _, g6, _⟩ := h
  have := congrArg List.length g6
  simp only [List.length_map] at this
  unfold itLeft
  rw [g4]
  simp only
  rw [g1]
  exact this

theorem run_range_it {t k e : TypeId} (ht : P.underlying t = some (.map k e)) {w : World} {mb : Nat} {m : List (α × Value)} (h : MapIt enc w mb m) {Q : Value → World → Prop}
    (hk : ∀ w', ItAt enc w' w.heap.size mb m none → Ext w w' → w.heap.size < w'.heap.size → Q (.pointer (some ⟨w.heap.size, 0, none⟩)) w') : Run P (.range t (.map (some mb))) w Q := by
  have hl := h.lt
  obtain ⟨es, c, h1, h2, h3, h4⟩ := h.es
  refine ⟨_, _, run_range_map w t k e mb es c ht h1, hk _ ⟨es, c, #[], c, ?_, h3, h4, heap_alloc_new w _, Nat.le_refl _, ?_, fun x hx => by cases hx⟩ (Below.alloc (Below.refl _ _) (Nat.le_refl _) _) ?_⟩
  · rw [heap_alloc_old w _ hl]; exact h1
  · have : (es.toList.filter fun e => !(#[] : Array Nat).contains e.born) = es.toList := by rw [List.filter_eq_self]; intro a _; simp
    rw [this]; exact h2
  · show w.heap.size < (w.heap.push _).size
    simp

theorem filter_push (es : List MapEntry) (seen : Array Nat) (e : MapEntry) (hn : (es.map (·.born)).Nodup) {i : Nat} (hi : (es.filter fun e => !seen.contains e.born)[i]? = some e) :
    (es.filter fun x => !(seen.push e.born).contains x.born) = (es.filter fun e => !seen.contains e.born).eraseIdx i := by
  have h1 : (es.filter fun x => !(seen.push e.born).contains x.born) = (es.filter fun e => !seen.contains e.born).filter fun x => decide (x.born ≠ e.born) := by
    rw [List.filter_filter]
    refine List.filter_congr fun x _ => ?_
    simp only [Array.contains_push]
    by_cases hx : x.born = e.born
    · simp [hx]
    · have : (e.born == x.born) = false := by simpa using fun h => hx h.symm
      simp [hx, this]
  rw [h1]
  have hn2 : ((es.filter fun e => !seen.contains e.born).map (·.born)).Nodup := hn.sublist ((List.filter_sublist).map _)
  generalize (es.filter fun e => !seen.contains e.born) = l at hi hn2
  clear h1
  induction l generalizing i with
  | nil => simp at hi
  | cons a l ih =>
    rw [List.map_cons, List.nodup_cons] at hn2
    cases i with
    | zero =>
      simp at hi; subst hi
      rw [List.filter_cons, if_neg (by simp), List.eraseIdx_cons_zero, List.filter_eq_self]
      intro x hx
      simp only [ne_eq, decide_not, Bool.not_eq_true', decide_eq_false_iff_not]
      intro he
      exact hn2.1 (he ▸ List.mem_map_of_mem hx)
    | succ i =>
      have hi' : l[i]? = some e := by simpa using hi
      have hne : a.born ≠ e.born := fun he => hn2.1 (he ▸ List.mem_map_of_mem (List.mem_of_getElem? hi'))
      rw [List.filter_cons, if_pos (by simpa using hne), List.eraseIdx_cons_succ, ih hi' hn2.2]

theorem run_next_it {ty : TypeId} {w : World} {it mb : Nat} {rest : List (α × Value)} {cur : Option (α × Value)} (h : ItAt enc w it mb rest cur) {Q : Value → World → Prop}
    (h0 : rest = [] → Q (.tuple #[.bool false]) w)
    (hk : ∀ (i : Nat) (x : α × Value), rest[i]? = some x → ∀ w', ItAt enc w' it mb (rest.eraseIdx i) (some x) → Grew w w' (some ⟨it, 0, none⟩) (some ⟨it, 0, none⟩) → Q (.tuple #[.bool true, enc x.1, x.2]) w') :
    Run P (.next (.pointer (some ⟨it, 0, none⟩)) false ty) w Q := by
  obtain ⟨es, c, seen, last, g1, g2, g3, g4, g5, g6, g7⟩ := h
  have hT := next_test_false seen es c last (fun e he => g3 e he) g5
  have hL : (es.filter fun e => !seen.contains e.born).toList = es.toList.filter fun e => !seen.contains e.born := by simp
  have hmem : ∀ x ∈ (Array.filter (fun e => !seen.contains e.born) es).toList, x.born < c := fun x hx => g3 x (by simp at hx ⊢; exact hx.1)
  have hbody : (MC.sem (.next (.pointer (some ⟨it, 0, none⟩)) false ty)).run P w = (Instr.next (.pointer (some ⟨it, 0, none⟩)) false ty).run P w := rfl
  unfold Run
  rw [hbody]
  simp only [Instr.next, getObj, Sem.run_bind, Sem.run, g4, g1, Result.andThen, hT, Bool.false_eq_true, if_false]
  rw [← hL] at g6
  have hpush := fun e i hi => filter_push es.toList seen e g2 (i := i) hi
  rw [← hL] at hpush
  have hsub : ∀ x ∈ (Array.filter (fun e => !seen.contains e.born) es).toList, x ∈ es.toList := fun x hx => by rw [hL] at hx; exact (List.mem_filter.1 hx).1
  generalize Array.filter (fun e => !seen.contains e.born) es = L at hmem g6 hpush hsub ⊢
  have e1 : L.filter (fun x => decide (x.born < c)) = L := Array.filter_eq_self.2 (fun x hx => by simpa using hmem x (by simpa using hx))
  have e2 : L.filter (fun x => decide (x.born ≥ c)) = #[] := by
    rw [Array.filter_eq_empty_iff]
    intro x hx
    have := hmem x (by simpa using hx)
    simp
    omega
  simp only [e1, e2, Array.append_empty]
  by_cases hz : L.size = 0
  · have hLe : L = #[] := Array.eq_empty_of_size_eq_zero hz
    subst hLe
    have hr : rest = [] := by simpa using g6.symm
    refine ⟨_, w, ?_, h0 hr⟩
    simp [choose, Sem.run, Question.forced]
  · have hne : L.isEmpty = false := by simp [Array.isEmpty, hz]
    simp only [hne, Bool.false_eq_true, if_false, Array.empty_append, Array.size_map]
    have hch : ∃ (j : Nat) (w1 : World), j < L.size ∧ w1.heap = w.heap ∧ w1.os = w.os ∧ w1.tape = w.tape ∧ w1.output = w.output ∧ (choose (Question.mapNext L.size)).run P w = .ok j w1 := by
      by_cases hf : L.size ≤ 1
      · exact ⟨0, w, by omega, rfl, rfl, rfl, rfl, by simp [choose, Sem.run, Question.forced, hf]⟩
      · exact ⟨_, w.drew, Nat.mod_lt _ (by omega), rfl, rfl, rfl, rfl, by
          simp only [choose, Sem.run, Question.forced, decide_eq_true_eq, hf, if_false, Question.cut]
          rfl⟩
    obtain ⟨j, w1, hj, q1, q2, q3, q4, hrun⟩ := hch
    have hx := congrArg (fun l => l[j]?) g6
    simp only [List.getElem?_map, Array.getElem?_toList, Array.getElem?_eq_getElem hj, Option.map_some] at hx
    cases hr : rest[j]? with
    | none => rw [hr] at hx; simp at hx
    | some x =>
      rw [hr] at hx
      simp only [Option.map_some, Option.some.injEq, Prod.mk.injEq] at hx
      have hlt := (Array.getElem?_eq_some_iff.1 g4).1
      have hset : (setObj it (.mapIter (some mb) c (seen.push L[j].born) c)).run P w1 = .ok () { w1 with heap := w1.heap.setIfInBounds it (.mapIter (some mb) c (seen.push L[j].born) c) } := by
        simp [setObj, Sem.run, q1, g4]
      refine ⟨.tuple #[.bool true, L[j].key, L[j].val], { w1 with heap := w1.heap.setIfInBounds it (.mapIter (some mb) c (seen.push L[j].born) c) }, ?_, ?_⟩
      · simp only [hrun, Array.getElem?_map, Array.getElem?_eq_getElem hj, Option.map_some, Sem.run_bind, hset, Result.andThen]
        rfl
      · rw [hx.1, hx.2]
        have hmi : mb ≠ it := fun he => by subst he; rw [g1] at g4; cases g4
        refine hk j x hr _ ⟨es, c, seen.push L[j].born, c, ?_, g2, g3, ?_, Nat.le_refl _, ?_, fun y hy => ?_⟩ ?_
        · show (w1.heap.setIfInBounds it _)[mb]? = _
          rw [q1, Array.getElem?_setIfInBounds, if_neg (Ne.symm hmi)]; exact g1
        · show (w1.heap.setIfInBounds it _)[it]? = _
          rw [q1, Array.getElem?_setIfInBounds, if_pos rfl, if_pos hlt]
        · rw [hpush L[j] j (by simp [hj])]
          rw [eraseIdx_map', g6, ← eraseIdx_map']
        · obtain rfl := Option.some.inj hy
          have hme : L[j] ∈ es.toList := hsub _ (by simp)
          exact ⟨L[j], hme, by simp, hx.1, hx.2, rfl⟩
        · refine ⟨⟨q2, q3, q4, by simp [q1], fun b hb hne => ?_⟩, .inl rfl⟩
          have hbi : it ≠ b := fun he => hne (by simp [blk, he])
          show (w1.heap.setIfInBounds it _)[b]? = _
          rw [q1, Array.getElem?_setIfInBounds, if_neg hbi]

theorem run_entry_it {w : World} {it mb : Nat} {rest : List (α × Value)} {x : α × Value} (h : ItAt enc w it mb rest (some x)) {Q : Value → World → Prop} (hk : Q (.tuple #[enc x.1, x.2]) w) :
    Run P (.entry (.pointer (some ⟨it, 0, none⟩))) w Q := by
  obtain ⟨es, c, seen, last, g1, g2, g3, g4, g5, g6, g7⟩ := h
  obtain ⟨e, he, hb, h1, h2, h3⟩ := g7 x rfl
  subst h3
  refine ⟨_, w, ?_, hk⟩
  show (Instr.entry (.pointer (some ⟨it, 0, none⟩))).run P w = _
  have hf : es.find? (·.born == e.born) = some e := by rw [← Array.find?_toList]; exact find_born e es.toList g2 he
  simp only [Instr.entry, getObj, Sem.run_bind, Sem.run, g4, g1, hb, Result.andThen, bne_self_eq_false, Bool.false_eq_true, if_false, hf]
  rw [h1, h2]; rfl
theorem run_extract {xs : Array Value} {i : Nat} {v : Value} {w : World} {Q : Value → World → Prop} (h : xs[i]? = some v) (hk : Q v w) : Run P (.extract (.tuple xs) i) w Q := by
  refine ⟨v, w, ?_, hk⟩
  show (Instr.extract (.tuple xs) i).run P w = _
  simp [Instr.extract, h]
end Go.Sx
