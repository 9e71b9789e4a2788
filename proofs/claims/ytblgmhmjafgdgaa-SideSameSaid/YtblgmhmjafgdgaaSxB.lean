/- From a law's walk to its row: what well-formed arguments look like; the postcondition of a law that answers true and turns nothing that was there. -/
import Derived.Test.YtblgmhmjafgdgaaSxY
import Derived.WalkKit
import Derived.ProofKit
import Derived.OpenShut
import Derived.JoinedCond
set_option linter.unusedVariables false
set_option linter.unusedSimpArgs false
namespace Go.Sx
open Go.ChangeShapes Go.WideShapes Go.ChangeAt Go.RowKit
variable {H : Type} {enc : TypeId × Value → H} {P : Program}

/-- The cells of a value of a type, with all that it leads to. -/
def Good (P : Program) (w : World) : Nat → TypeId → List Value → Prop
  | 0, _, _ => False
  | n + 1, t, cs =>
    match P.underlying t with
    | some .bool => ∃ b, cs = [.bool b]
    | some (.int k) => ∃ x, cs = [.int k x] ∧ InR k x
    | some .string => ∃ s : ByteArray, cs = [.string s] ∧ s.size ≤ 9223372036854775807
    | some (.pointer e) => cs = [.pointer none] ∨ ∃ a es, cs = [.pointer (some a)] ∧ w.cells? 0 a (P.cellsOf e) = some es ∧ Good P w n e es
    | some (.slice e) => cs = [.slice none 0 0] ∨ ∃ a len cap, cs = [.slice (some a) len cap] ∧ len ≤ cap ∧ cap ≤ 9223372036854775807 ∧
        ∀ i, i < cap → ∃ es, w.cells? 0 (a.add (i * P.cellsOf e)) (P.cellsOf e) = some es ∧ Good P w n e es
    | some (.struct fs) => cs.length = P.cellsOf t ∧ ∀ f ∈ fs.toList, Good P w n f.type ((cs.drop f.offset).take (P.cellsOf f.type))
    | some (.array m e) => cs.length = P.cellsOf t ∧ ∀ i, i < m → Good P w n e ((cs.drop (i * P.cellsOf e)).take (P.cellsOf e))
    | _ => ∃ v, cs = [v]

theorem wf_inR {k : IntKind} {x : Int} (h : (Lit.int k x).wf = true) : InR k x := by
  simpa [Lit.wf, InR] using h

theorem mapM_some {α β : Type} {f : α → Option β} : ∀ {l : List α} {ys : List β}, l.mapM f = some ys → ∀ x ∈ l, ∃ y, f x = some y
  | [], ys, _, x, hx => by cases hx
  | a :: r, ys, h, x, hx => by
    simp only [List.mapM_cons, Option.bind_eq_bind, Option.bind_eq_some_iff] at h
    obtain ⟨y, hy, ys', hr, _⟩ := h
    rcases List.mem_cons.1 hx with rfl | hx
    · exact ⟨y, hy⟩
    · exact mapM_some hr x hx

theorem good_of_trod {w : World} : ∀ {n : Nat} {t : TypeId} {cs : List Value} {x : DataW H × List MemPlace}, DataW.trod enc P w 0 (fun _ => true) true n t cs = some x → Good P w n t cs
  | 0, t, cs, x, h => by cases h
  | n + 1, t, cs, x, h => by
    unfold DataW.trod at h
    unfold Good
    cases hu : P.underlying t with
    | none => simp [hu] at h
    | some u =>
      rw [hu] at h
      cases u with
      | bool => simp only at h ⊢; split at h <;> simp_all
      | int k =>
        simp only at h ⊢
        split at h <;> simp_all
        obtain ⟨⟨h1, h2⟩, _⟩ := h
        exact wf_inR h2
      | string =>
        simp only at h ⊢
        split at h <;> simp_all
        simp only [maxLen] at h
        omega
      | pointer e =>
        simp only at h ⊢
        split at h
        all_goals first | (simp_all; done) | skip
        rename_i a heq
        simp only [Option.some.injEq, TypeDesc.pointer.injEq] at heq
        subst heq
        rw [Option.map_eq_some_iff] at h
        obtain ⟨y, h, _⟩ := h
        rw [Option.bind_eq_some_iff] at h
        obtain ⟨es, h1, h2⟩ := h
        exact .inr ⟨a, es, rfl, h1, good_of_trod h2⟩
      | slice e =>
        simp only
        have h' : DataW.trod enc P w 0 (fun _ => true) true (n + 1) t cs = some x := by unfold DataW.trod; rw [hu]; exact h
        rcases DataW.trod_slice hu h' with h0 | ⟨a, len, cap, elems, rest, n', hn, hcs, hx, hb, hl, hm, hlen, hel, hsp, _⟩
        · exact .inl h0.1
        · obtain rfl : n = n' := by omega
          refine .inr ⟨a, len, cap, hcs, hl, by simp only [maxLen] at hm; omega, fun i hi => ?_⟩
          obtain ⟨hrl, hrest⟩ := hsp rfl
          have hsome : ∃ y, (w.cells? 0 (a.add (i * P.cellsOf e)) (P.cellsOf e)).bind (DataW.trod enc P w 0 (fun _ => true) true n e) = some y := by
            by_cases hil : i < len
            · exact ⟨elems[i]'(by omega), by rw [hel i hil]; exact List.getElem?_eq_getElem (by omega)⟩
            · have := hrest (i - len) (by omega)
              rw [show len + (i - len) = i by omega] at this
              exact ⟨rest[i - len]'(by omega), by rw [this]; exact List.getElem?_eq_getElem (by omega)⟩
          obtain ⟨y, hy⟩ := hsome
          rw [Option.bind_eq_some_iff] at hy
          obtain ⟨es, h1, h2⟩ := hy
          exact ⟨es, h1, good_of_trod h2⟩
      | struct fs =>
        simp only at h ⊢
        split at h
        · rename_i hl
          rw [Option.map_eq_some_iff] at h
          obtain ⟨y, h, _⟩ := h
          refine ⟨hl, fun f hf => ?_⟩
          obtain ⟨z, hz⟩ := mapM_some h f hf
          exact good_of_trod hz
        · cases h
      | array m e =>
        simp only at h ⊢
        split at h
        · rename_i hl
          rw [Option.map_eq_some_iff] at h
          obtain ⟨y, h, _⟩ := h
          refine ⟨hl, fun i hi => ?_⟩
          obtain ⟨z, hz⟩ := mapM_some h i (by simpa using hi)
          exact good_of_trod hz
        · cases h
      | _ =>
        simp only at h ⊢
        match cs, h with
        | [], h => simp at h
        | [v], h => exact ⟨v, rfl⟩
        | _ :: _ :: _, h => simp at h

/-- The outer form of an argument, and what it leads to. -/
def GoodV (P : Program) (w : World) (t : TypeId) (v : Value) : Prop :=
  ∃ n cs, Good P w n t cs ∧ v = bif isAggT P t then .agg cs.toArray else cs.headD undef

theorem goodV_of {w : World} {r : Reach} {b : Nat} {t : TypeId} {v : Value} {d : DataW H} {ps : List MemPlace} (hok : Value.okWide P w r b t v) (h : DataW.Trod enc P w 0 (fun _ => true) true t v d ps) : GoodV P w t v := by
  obtain ⟨n, h⟩ := h
  refine ⟨n, v.cells.toList, good_of_trod h, ?_⟩
  cases n with
  | zero => cases h
  | succ n =>
    unfold Value.okWide at hok
    unfold isAggT
    cases hu : P.underlying t with
    | none => unfold DataW.trod at h; rw [hu] at h; simp at h
    | some u =>
      rw [hu] at hok
      cases u with
      | struct fs => obtain ⟨cs, rfl, _⟩ := hok; rfl
      | array m e => obtain ⟨cs, rfl, _⟩ := hok; rfl
      | _ => cases v <;> first | rfl | (unfold Cell.okWide at hok; rw [hu] at hok; simp [Cell.ok] at hok)

inductive GoodAll (P : Program) (w : World) : List TypeId → List Value → Prop
  | nil : GoodAll P w [] []
  | cons {t ts v vs} : GoodV P w t v → GoodAll P w ts vs → GoodAll P w (t :: ts) (v :: vs)

theorem goodAll_of {w : World} {r : Reach} {b : Nat} : ∀ {ts : List TypeId} {vs : List Value} {ds : List (DataW H)} {ps : List MemPlace}, (∀ (j : Nat) t v, ts[j]? = some t → vs[j]? = some v → Value.okWide P w r b t v) →
    DataW.TrodAll enc P w 0 (fun _ => true) true ts vs ds ps → GoodAll P w ts vs ∧ ds.length = ts.length
  | [], [], [], ps, _, _ => ⟨.nil, rfl⟩
  | [], [], _ :: _, ps, _, h => h.elim
  | [], _ :: _, _, ps, _, h => by simp [DataW.TrodAll] at h
  | _ :: _, [], _, ps, _, h => by simp [DataW.TrodAll] at h
  | _ :: _, _ :: _, [], ps, _, h => by simp [DataW.TrodAll] at h
  | t :: ts, v :: vs, d :: ds, ps, hok, h => by
    obtain ⟨p, q, h1, h2, _⟩ := h
    obtain ⟨g, e⟩ := goodAll_of (fun j t v ht hv => hok (j + 1) t v (by simpa using ht) (by simpa using hv)) h2
    exact ⟨.cons (goodV_of (hok 0 t v rfl rfl) h1) g, by simp [e]⟩

theorem trodVars_length {w : World} {sp : Nat → Bool} : ∀ {ns : List String} {gs : List (DataW H)} {ps : List MemPlace}, DataW.TrodVars enc P w sp ns gs ps → gs.length = ns.length
  | [], [], _, _ => rfl
  | [], _ :: _, _, h => h.elim
  | _ :: _, [], _, h => h.elim
  | _ :: _, _ :: _, _, h => by
    obtain ⟨g, t, cs, fuel, p, q, _, _, _, _, hs, _⟩ := h
    simp [trodVars_length hs]

theorem below_trodAll (hl : laidOutB P = true) {W W' : World} (hb : Below W.heap.size W W') : ∀ {ts : List TypeId} {vs : List Value} {ds : List (DataW H)} {ps : List MemPlace}, (ts.all fun t => P.readableRec t && decide (t < P.types.size)) = true →
    DataW.TrodAll enc P W 0 (fun _ => true) true ts vs ds ps → (∀ x ∈ ps, x.block < W.heap.size) → DataW.TrodAll enc P W' 0 (fun b => decide (b < W.heap.size)) true ts vs ds ps
  | [], [], [], ps, _, h, _ => h
  | [], [], _ :: _, ps, _, h, _ => h.elim
  | [], _ :: _, _, ps, _, h, _ => by simp [DataW.TrodAll] at h
  | _ :: _, [], _, ps, _, h, _ => by simp [DataW.TrodAll] at h
  | _ :: _, _ :: _, [], ps, _, h, _ => by simp [DataW.TrodAll] at h
  | t :: ts, v :: vs, d :: ds, ps, hr, h, hlt => by
    obtain ⟨p, q, h1, h2, e⟩ := h
    simp only [List.all_cons, Bool.and_eq_true, decide_eq_true_eq] at hr
    exact ⟨p, q, Below.trod hl hr.1.1 hr.1.2 h1 hb (fun x hx => hlt x (by rw [e]; simp [hx])), below_trodAll hl hb (by simpa using hr.2) h2 (fun x hx => hlt x (by rw [e]; simp [hx])), e⟩

/-- A law's end: it answers true, and turns nothing that was there. -/
theorem law_post {f : Func} {s : ChangeSpec} {apart fresh handsOn : Bool} {W W' : World} {args : Array Value} {ds gs : List (DataW H)} {before : List MemPlace} {tb : TypeId} (hl : laidOutB P = true)
    (hrow : (f.params.toList.all fun t => P.readableRec t && decide (t < P.types.size)) = true) (hres : f.resultTypes = #[tb]) (htb : P.underlying tb = some .bool)
    (hvars : ∀ q, DataW.TrodVars enc P W (fun _ => true) s.vars gs q → (∀ x ∈ q, x.block < W.heap.size) → DataW.TrodVars enc P W' (fun b => decide (b < W.heap.size)) s.vars gs q)
    (hs : s.fn H (ds ++ gs) = { results := [.lit (.bool true)], args := ds, vars := gs }) (hW : DataW.Whole enc P f.params.toList s.vars apart W args.toList ds gs before) (hB : Ext W W') :
    s.post enc P f apart fresh handsOn false W args (.bool true) W' := by
  have hlt := hW.lt
  have hW' := hW
  obtain ⟨p, q, hA, hV, he, _, _⟩ := hW
  refine ⟨ds, gs, before, [], p, q, hW', ?_, ?_, ?_, Below.frame hB _, fun h => by cases h⟩
  · rw [hs, hres]
    exact ⟨[], [], ⟨1, by simp [DataW.trod, htb, Value.cells]⟩, rfl, rfl⟩
  · rw [hs]
    exact below_trodAll hl hB hrow hA (fun x hx => hlt x (by rw [he]; simp [hx]))
  · rw [hs]
    exact hvars q hV (fun x hx => hlt x (by rw [he]; simp [hx]))

/-- A law's contract, without variables. -/
theorem law_contract {f : Func} {F : FuncId} {s : ChangeSpec} {apart fresh handsOn : Bool} {tb : TypeId} (hl : laidOutB P = true)
    (hrow : (f.params.toList.all fun t => P.readableRec t && decide (t < P.types.size)) = true) (hres : f.resultTypes = #[tb]) (htb : P.underlying tb = some .bool) (hv : s.vars = [])
    (hs : ∀ ds : List (DataW H), ds.length = f.params.toList.length → s.fn H ds = { results := [.lit (.bool true)], args := ds, vars := [] })
    (law : ∀ W args, GoodAll P W f.params.toList args.toList → FnP P F args W fun v W' => v = .bool true ∧ Ext W W')
    (W : World) (base : Nat) (args : Array Value) (ds gs : List (DataW H)) (before : List MemPlace)
    (hval : ∀ (j : Nat) t v, f.params[j]? = some t → args[j]? = some v → Value.okWide P W .any base t v)
    (hW : DataW.Whole enc P f.params.toList s.vars apart W args.toList ds gs before) :
    Calls P F args W fun e W' => ∃ v, e = .returned v ∧ s.post enc P f apart fresh handsOn false W args v W' := by
  have hW' := hW
  obtain ⟨p, q, hA, hV, _, _, _⟩ := hW
  obtain ⟨hg, hlen⟩ := goodAll_of (fun j t v ht hv => hval j t v (by simpa using ht) (by simpa using hv)) hA
  refine (law W args hg).2.mono fun e W' ⟨v, he, hvt, hE⟩ => ⟨v, he, ?_⟩
  subst hvt
  have hg0 : gs = [] := by
    have := trodVars_length hV
    rw [hv] at this
    exact List.length_eq_zero_iff.1 this
  refine law_post hl hrow hres htb (fun q h _ => ?_) (by subst hg0; simpa using hs ds hlen) hW' hE
  subst hg0
  rw [hv] at h ⊢
  exact h
/-- The same at one world. -/
theorem law_at {f : Func} {F : FuncId} {s : ChangeSpec} {apart fresh handsOn : Bool} {tb : TypeId} (hl : laidOutB P = true)
    (hrow : (f.params.toList.all fun t => P.readableRec t && decide (t < P.types.size)) = true) (hres : f.resultTypes = #[tb]) (htb : P.underlying tb = some .bool) (hv : s.vars = [])
    (hs : ∀ ds : List (DataW H), ds.length = f.params.toList.length → s.fn H ds = { results := [.lit (.bool true)], args := ds, vars := [] })
    (W : World) (base : Nat) (args : Array Value) (law : GoodAll P W f.params.toList args.toList → FnP P F args W fun v W' => v = .bool true ∧ Ext W W') (ds gs : List (DataW H)) (before : List MemPlace)
    (hval : ∀ (j : Nat) t v, f.params[j]? = some t → args[j]? = some v → Value.okWide P W .any base t v)
    (hW : DataW.Whole enc P f.params.toList s.vars apart W args.toList ds gs before) :
    Calls P F args W fun e W' => ∃ v, e = .returned v ∧ s.post enc P f apart fresh handsOn false W args v W' := by
  have hW' := hW
  obtain ⟨p, q, hA, hV, _, _, _⟩ := hW
  obtain ⟨hg, hlen⟩ := goodAll_of (fun j t v ht hv => hval j t v (by simpa using ht) (by simpa using hv)) hA
  refine (law hg).2.mono fun e W' ⟨v, he, hvt, hE⟩ => ⟨v, he, ?_⟩
  subst hvt
  have hg0 : gs = [] := by
    have := trodVars_length hV
    rw [hv] at this
    exact List.length_eq_zero_iff.1 this
  refine law_post hl hrow hres htb (fun q h _ => ?_) (by subst hg0; simpa using hs ds hlen) hW' hE
  subst hg0
  rw [hv] at h ⊢
  exact h
end Go.Sx
