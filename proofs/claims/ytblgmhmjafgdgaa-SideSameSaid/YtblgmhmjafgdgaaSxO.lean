/- Regions that draw their order: what can be done in one order, can be done in each. -/
import Derived.Test.YtblgmhmjafgdgaaSxT
set_option linter.unusedVariables false
set_option linter.unusedSimpArgs false
namespace Go.Sx
open RowKit
variable {P : Program} {ops : Array Oper}

def NoEx : Exit → Act → World → Prop := fun _ _ _ => False

/-- As 'Can', over a tree of orders, with more told of an operation that turns the world. pure: it gives what it gives in whatever world; soft: what was known of the world is known still. -/
def CanO (P : Program) (ops : Array Oper) (kd : Oper → Kd) (K : Act → World → Prop) : DT → (World → Prop) → Act → Prop
  | .stop, C, a => ∀ w, C w → K a w
  | .alt s t, C, a => CanO P ops kd K s C a ∧ CanO P ops kd K t C a
  | .op i l, C, a =>
    match ops[i]? with
    | none => CanO P ops kd K l C a
    | some o =>
      if Region.wanted o (yielded ops a.tmps) then
        (∃ v, (∀ w, (kd o = .pure ∨ C w) → Gives P o a w v) ∧ CanO P ops kd K l C (a.put o.dst v)) ∨
        ((kd o).quiet = false ∧ ∀ w, C w → o.wp P a w (fun a' w' => ∃ v, a' = a.put o.dst v ∧ ∃ C' : World → Prop, C' w' ∧ (kd o = .soft → ∀ x, C' x → C x) ∧ CanO P ops kd K l C' a') NoEx)
      else CanO P ops kd K l C (a.put o.dst undef)

theorem putD (a : Act) (d : Option Tmp) (v : Value) : (a.put d v).defers = a.defers := by cases d <;> rfl

theorem letsOut_no : ¬ LetsOut NoEx := fun ⟨_, _, h⟩ => h

theorem wp_noEx {o : Oper} {a : Act} {w : World} {K : Act → World → Prop} {Qx : Exit → Act → World → Prop} (h : o.wp P a w K NoEx) : o.wp P a w K Qx := by
  unfold Oper.wp at *
  generalize (execOp a.eval o).run P w = r at *
  cases r with
  | ok n w' =>
    cases n <;> simp only [Oper.upon] at h ⊢ <;>
      first
        | exact h
        | exact Calls.mono h (fun e w'' he => by cases e <;> first | exact he | exact absurd he letsOut_no | exact he.elim)
        | exact Rows.mono h (fun _ _ he => he)
  | halt x w' => cases x <;> simp only [Oper.upon] at h ⊢ <;> exact h.elim

theorem gives_put {o : Oper} {a : Act} {w : World} {v u : Value} {d : Option Tmp} (hs : ∀ cs b, o.op ≠ .select cs b) (hd : ∀ t, d = some t → t ∉ o.looksAt ops) : Gives P o (a.put d u) w v ↔ Gives P o a w v := by
  unfold Gives
  rw [execOp_put o hs a d u hd]

def QuietAt (P : Program) (ops : Array Oper) (kd : Oper → Kd) (C : World → Prop) (o : Oper) (v : Value) (a : Act) : Prop :=
  (Region.wanted o (yielded ops a.tmps) = true ∧ ∀ w, (kd o = .pure ∨ C w) → Gives P o a w v) ∨ (Region.wanted o (yielded ops a.tmps) = false ∧ v = undef)

theorem QuietAt.can {kd : Oper → Kd} {K : Act → World → Prop} {C : World → Prop} {o : Oper} {v : Value} {a : Act} {i : Nat} {l : DT} (hi : ops[i]? = some o) (h : QuietAt P ops kd C o v a) (hc : CanO P ops kd K l C (a.put o.dst v)) : CanO P ops kd K (.op i l) C a := by
  simp only [CanO, hi]
  rcases h with ⟨hw, hg⟩ | ⟨hw, rfl⟩
  · rw [if_pos hw]; exact .inl ⟨v, hg, hc⟩
  · rw [if_neg (by rw [hw]; simp)]; exact hc

theorem QuietAt.put {kd : Oper → Kd} {C C' : World → Prop} {o : Oper} {v u : Value} {a : Act} {d : Option Tmp} (hs : ∀ cs b, o.op ≠ .select cs b) (hd : ∀ t, d = some t → t ∉ o.looksAt ops) (hC : kd o = .pure ∨ ∀ x, C' x → C x) (h : QuietAt P ops kd C o v a) :
    QuietAt P ops kd C' o v (a.put d u) := by
  rcases h with ⟨hw, hg⟩ | ⟨hw, rfl⟩
  · refine .inl ⟨by rw [wanted_put o a d u hd]; exact hw, fun w hw' => (gives_put hs hd).2 (hg w ?_)⟩
    rcases hw' with h | h
    · exact .inl h
    · exact hC.imp id (fun f => f w h)
  · exact .inr ⟨by rw [wanted_put o a d u hd]; exact hw, rfl⟩

theorem CanO.quiet {kd : Oper → Kd} {K : Act → World → Prop} {C : World → Prop} {o : Oper} {a : Act} {i : Nat} {l : DT} (hi : ops[i]? = some o) (hq : (kd o).quiet = true) (h : CanO P ops kd K (.op i l) C a) : ∃ v, QuietAt P ops kd C o v a ∧ CanO P ops kd K l C (a.put o.dst v) := by
  simp only [CanO, hi] at h
  split at h
  · rename_i hw
    rcases h with ⟨v, hg, hc⟩ | ⟨hn, _⟩
    · exact ⟨v, .inl ⟨hw, hg⟩, hc⟩
    · rw [hq] at hn; cases hn
  · rename_i hw
    exact ⟨undef, .inr ⟨by simpa using hw, rfl⟩, h⟩

/-- Neighbours change places. -/
theorem can_swap {kd : Oper → Kd} {K : Act → World → Prop} {i j : Nat} {oi oj : Oper} {l : DT} {C : World → Prop} {a : Act} (hi : ops[i]? = some oi) (hj : ops[j]? = some oj) (hap : oi.apart ops oj = true)
    (hsi : ∀ cs b, oi.op ≠ .select cs b) (hsj : ∀ cs b, oj.op ≠ .select cs b) (hq : (kd oj).quiet = true) (hok : kd oj = .pure ∨ kd oi = .soft ∨ (kd oi).quiet = true)
    (h : CanO P ops kd K (.op j (.op i l)) C a) : CanO P ops kd K (.op i (.op j l)) C a := by
  obtain ⟨h1, h2, h3⟩ := Oper.apart_spec hap
  have h2' : ∀ d, oj.dst = some d → oi.dst ≠ some d := fun d hd he => h2 d he hd
  obtain ⟨vj, qj, hc⟩ := h.quiet hj hq
  simp only [CanO, hi] at hc ⊢
  rw [wanted_put oi a oj.dst vj h3] at hc
  split at hc
  · rename_i hwi
    rw [if_pos hwi]
    rcases hc with ⟨vi, hg, hc⟩ | ⟨hn, hc⟩
    · refine .inl ⟨vi, fun w hw => (gives_put hsi h3).1 (hg w hw), ?_⟩
      refine QuietAt.can hj (qj.put hsj h1 (.inr fun _ h => h)) ?_
      rw [Act.put_comm a vi vj h2]; exact hc
    · refine .inr ⟨hn, fun w hw => ?_⟩
      have hcw := hc w hw
      have hsub : ∀ C' : World → Prop, (kd oi = .soft → ∀ x, C' x → C x) → kd oj = .pure ∨ ∀ x, C' x → C x := by
        intro C' hs
        rcases hok with h | h | h
        · exact .inl h
        · exact .inr (hs h)
        · rw [h] at hn; cases hn
      have key : ∀ u w', (∃ v, (a.put oj.dst vj).put oi.dst u = (a.put oj.dst vj).put oi.dst v ∧ ∃ C' : World → Prop, C' w' ∧ (kd oi = .soft → ∀ x, C' x → C x) ∧ CanO P ops kd K l C' ((a.put oj.dst vj).put oi.dst u)) →
          ∃ v, a.put oi.dst u = a.put oi.dst v ∧ ∃ C' : World → Prop, C' w' ∧ (kd oi = .soft → ∀ x, C' x → C x) ∧ CanO P ops kd K (.op j l) C' (a.put oi.dst u) := by
        rintro u w' ⟨v, _, C', hC', hs, hcan⟩
        refine ⟨u, rfl, C', hC', hs, QuietAt.can hj (qj.put hsj h1 (hsub C' hs)) ?_⟩
        rw [Act.put_comm a u vj h2]; exact hcan
      unfold Oper.wp at *
      rw [execOp_put oi hsi a oj.dst vj h3] at hcw
      generalize (execOp a.eval oi).run P w = r at *
      cases r with
      | ok n w' =>
        cases n <;> simp only [Oper.upon] at hcw ⊢
        case value u => exact key u w' hcw
        case skip => exact key undef w' hcw
        case defer d =>
          obtain ⟨v, he, _⟩ := hcw
          have := congrArg (fun x : Act => x.defers.length) he
          simp [putD] at this
        case enter f args =>
          refine Calls.mono hcw fun e w'' he => ?_
          cases e with
          | returned u => exact key u w'' he
          | panicked c => exact he.elim
          | outgrown => exact he
        case row row args => exact Rows.mono hcw fun u w'' he => key u w'' he
      | halt x w' => cases x <;> simp only [Oper.upon] at hcw ⊢ <;> exact hcw.elim
  · rename_i hwi
    rw [if_neg hwi]
    refine QuietAt.can hj (qj.put hsj h1 (.inr fun _ h => h)) ?_
    rw [Act.put_comm a undef vj h2]; exact hc

structure Lst (md : Region.Mode) (ops : Array Oper) (l : List Nat) (listed : Array Bool) : Prop where
  size : listed.size = ops.size
  un : ∀ k, k < ops.size → (listed.getD k true = false ↔ k ∈ l)
  lt : ∀ k ∈ l, k < ops.size
  down : ∀ (k : Nat) o, ops[k]? = some o → k ∉ l → ∀ e ∈ o.after, Region.binds md e = true → e.on ∉ l

theorem getD_tf {listed : Array Bool} {k : Nat} (h : k < listed.size) : listed.getD k true = listed.getD k false := by
  simp [Array.getD, h]

def Down (md : Region.Mode) (ops : Array Oper) (l : List Nat) : Prop := ∀ (k : Nat) o, ops[k]? = some o → k ∉ l → ∀ e ∈ o.after, Region.binds md e = true → e.on ∉ l
/-- Nothing that is left is ahead of it. -/
def Open (md : Region.Mode) (ops : Array Oper) (l : List Nat) (i : Nat) : Prop := ∀ o, ops[i]? = some o → ∀ e ∈ o.after, Region.binds md e = true → e.on ∉ l

theorem dep_off {md : Region.Mode} {l : List Nat} (h : Down md ops l) : ∀ (n i j : Nat), Open md ops l i → dep md ops n i j = true → j ∉ l
  | 0, i, j, _, hd => by cases hd
  | n + 1, i, j, hi, hd => by
    unfold dep at hd
    split at hd
    · rename_i o ho
      simp only [List.any_eq_true, Bool.and_eq_true, Bool.or_eq_true] at hd
      obtain ⟨e, he, hb, hd⟩ := hd
      have hoff := hi o ho e (by simpa using he) hb
      rcases hd with hd | hd
      · have := Nat.eq_of_beq_eq_true hd
        subst this
        exact hoff
      · exact dep_off h n e.on j (fun o' ho' e' he' hb' => h e.on o' ho' hoff e' he' hb') hd
    · cases hd

theorem dropN_eq (i : Nat) : ∀ l : List Nat, dropN i l = l.erase i
  | [] => rfl
  | j :: r => by
    unfold dropN
    by_cases h : i = j
    · subst h; simp [Nat.beq_refl]
    · have h1 : Nat.beq i j = false := by
        cases hb : Nat.beq i j
        · rfl
        · exact absurd (Nat.eq_of_beq_eq_true hb) h
      rw [h1, dropN_eq i r]
      simp [List.erase_cons, Ne.symm h]

theorem mem_dropN {l : List Nat} (hd : l.Nodup) {i k : Nat} : k ∈ dropN i l ↔ k ≠ i ∧ k ∈ l := by
  rw [dropN_eq]; exact hd.mem_erase_iff
theorem nodup_dropN {l : List Nat} (hd : l.Nodup) (i : Nat) : (dropN i l).Nodup := by
  rw [dropN_eq]; exact hd.erase i
theorem dropN_comm {l : List Nat} (i j : Nat) : dropN i (dropN j l) = dropN j (dropN i l) := by
  rw [dropN_eq, dropN_eq, dropN_eq, dropN_eq]; exact List.erase_comm ..

theorem opOk_spec {md : Region.Mode} {l : List Nat} {j : Nat} (h : opOk md ops l j = true) : ∃ o, ops[j]? = some o ∧ j ∈ l ∧ Open md ops l j := by
  unfold opOk at h
  split at h
  · rename_i o ho
    simp only [Bool.and_eq_true, Bool.not_eq_true'] at h
    refine ⟨o, ho, (memN_iff _ _).1 h.1, fun o' ho' e he hb hm => ?_⟩
    rw [ho] at ho'
    obtain rfl := Option.some.inj ho'
    have := h.2
    unfold bound at this
    rw [List.any_eq_false] at this
    refine this e (by simpa using he) ?_
    simp only [Bool.and_eq_true]
    exact ⟨hb, (memN_iff _ _).2 hm⟩
  · cases h

theorem down_drop {md : Region.Mode} {l : List Nat} (hd : l.Nodup) (h : Down md ops l) {j : Nat} (hj : Open md ops l j) : Down md ops (dropN j l) := by
  intro k o ho hk e he hb hm
  rw [mem_dropN hd] at hk hm
  by_cases hkj : k = j
  · subst hkj; exact hj o ho e he hb hm.2
  · exact h k o ho (fun hkl => hk ⟨hkj, hkl⟩) e he hb hm.2

theorem open_drop {md : Region.Mode} {l : List Nat} (hd : l.Nodup) {i j : Nat} (h : Open md ops l i) : Open md ops (dropN j l) i := fun o ho e he hb hm => h o ho e he hb ((mem_dropN hd).1 hm).2

theorem all_sub {p : Nat → Bool} {l l' : List Nat} (h : l.all p = true) (hs : ∀ x ∈ l', x ∈ l) : l'.all p = true := by
  simp only [List.all_eq_true] at h ⊢
  exact fun x hx => h x (hs x hx)

theorem bound_sub {md : Region.Mode} {l l' : List Nat} {o : Oper} (h : bound md l o = false) (hs : ∀ x ∈ l', x ∈ l) : bound md l' o = false := by
  unfold bound at h ⊢
  rw [List.any_eq_false] at h ⊢
  intro e he hb
  simp only [Bool.and_eq_true] at hb
  exact h e he (by simp only [Bool.and_eq_true]; exact ⟨hb.1, (memN_iff _ _).2 (hs _ ((memN_iff _ _).1 hb.2))⟩)

/-- One of the heads is taken. -/
theorem heads_pull {md : Region.Mode} {kd : Oper → Kd} {n i : Nat} {K : Act → World → Prop} : ∀ (S : DT) (rem : List Nat), i ∈ S.heads → okD md ops kd n true S rem = true → ∃ T', okD md ops kd n false T' (dropN i rem) = true ∧ ∀ C a, CanO P ops kd K S C a → CanO P ops kd K (.op i T') C a
  | .stop, rem, h, _ => by cases h
  | .op j t, rem, h, hok => by
    simp only [DT.heads, List.mem_singleton] at h
    subst h
    simp only [okD, Bool.and_eq_true] at hok
    exact ⟨t, hok.2, fun C a h => h⟩
  | .alt s t, rem, h, hok => by
    simp only [DT.heads, List.mem_append] at h
    simp only [okD, Bool.and_eq_true] at hok
    rcases h with h | h
    · obtain ⟨T', h1, h2⟩ := heads_pull s rem h hok.1.1
      exact ⟨T', h1, fun C a h => h2 C a h.1⟩
    · obtain ⟨T', h1, h2⟩ := heads_pull t rem h hok.1.2
      exact ⟨T', h1, fun C a h => h2 C a h.2⟩

/-- Whatever may come now, may be taken first. -/
theorem can_pull {md : Region.Mode} {kd : Oper → Kd} {n i : Nat} {oi : Oper} {K : Act → World → Prop} (hi : ops[i]? = some oi) (hsel : ∀ (j : Nat) (o : Oper) cs b, ops[j]? = some o → o.op ≠ .select cs b) :
    ∀ (T : DT) (rem : List Nat), rem.Nodup → Down md ops rem → i ∈ rem → Open md ops rem i → okD md ops kd n false T rem = true → ∃ T', okD md ops kd n false T' (dropN i rem) = true ∧ ∀ C a, CanO P ops kd K T C a → CanO P ops kd K (.op i T') C a
  | .stop, rem, _, _, him, _, hok => by
    simp only [okD, Bool.not_false, Bool.true_and, List.isEmpty_iff] at hok
    subst hok; cases him
  | .alt s t, rem, hd, hD, him, hop, hok => by
    have hok0 := hok
    simp only [okD, Bool.and_eq_true, Bool.false_or, List.all_eq_true, Bool.or_eq_true] at hok
    have hh : i ∈ s.heads ++ t.heads := by
      rcases hok.2 i him with h | h
      · exact (memN_iff _ _).1 h
      · unfold bnd at h
        rw [hi] at h
        simp only at h
        unfold bound at h
        simp only [List.any_eq_true, Bool.and_eq_true] at h
        obtain ⟨e, he, hb, hm⟩ := h
        exact absurd ((memN_iff _ _).1 hm) (hop oi hi e (by simpa using he) hb)
    refine heads_pull (.alt s t) rem hh ?_
    simp only [okD, Bool.and_eq_true, Bool.true_or]
    exact ⟨hok.1, trivial⟩
  | .op j t, rem, hd, hD, him, hop, hok => by
    simp only [okD, Bool.and_eq_true, Bool.false_or, List.all_eq_true] at hok
    obtain ⟨⟨h1, h2⟩, h3⟩ := hok
    obtain ⟨oj, hj, hjm, hjo⟩ := opOk_spec h1
    by_cases hij : i = j
    · subst hij; exact ⟨t, h3, fun C a h => h⟩
    · have him' : i ∈ dropN j rem := (mem_dropN hd).2 ⟨hij, him⟩
      obtain ⟨T', g1, g2⟩ := can_pull (K := K) hi hsel t (dropN j rem) (nodup_dropN hd j) (down_drop hd hD hjo) him' (open_drop hd hop) h3
      have hp := h2 i him'
      unfold pairOk at hp
      rw [hj, hi] at hp
      simp only [Bool.and_eq_true, Bool.or_eq_true, decide_eq_true_eq] at hp
      have hnd : ¬ dep md ops n i j = true := fun h => dep_off hD n i j hop h hjm
      have hp2 : oi.apart ops oj = true ∧ (kd oj).quiet = true ∧ (kd oj = .pure ∨ kd oi = .soft ∨ (kd oi).quiet = true) := by
        rcases hp.2 with h | h
        · exact ⟨h.1.1, h.1.2, by rcases h.2 with (h | h) | h <;> simp [h]⟩
        · exact absurd h hnd
      refine ⟨.op j T', ?_, fun C a h => ?_⟩
      · simp only [okD, Bool.and_eq_true, Bool.false_or]
        refine ⟨⟨?_, ?_⟩, ?_⟩
        · unfold opOk
          rw [hj]
          simp only [Bool.and_eq_true, Bool.not_eq_true']
          refine ⟨(memN_iff _ _).2 ((mem_dropN hd).2 ⟨Ne.symm hij, hjm⟩), ?_⟩
          unfold opOk at h1
          rw [hj] at h1
          simp only [Bool.and_eq_true, Bool.not_eq_true'] at h1
          exact bound_sub h1.2 fun x hx => ((mem_dropN hd).1 hx).2
        · simp only [List.all_eq_true]
          intro x hx
          rw [mem_dropN (nodup_dropN hd i), mem_dropN hd] at hx
          exact h2 x ((mem_dropN hd).2 ⟨hx.1, hx.2.2⟩)
        · rw [dropN_comm]; exact g1
      · obtain ⟨vj, qj, hc⟩ := CanO.quiet hj hp2.2.1 h
        exact can_swap hi hj hp2.1 (fun cs b => hsel i oi cs b hi) (fun cs b => hsel j oj cs b hj) hp2.2.1 hp2.2.2 (qj.can hj (g2 _ _ hc))

theorem mem_readyL {md : Region.Mode} {l : List Nat} {listed : Array Bool} (hL : Lst md ops l listed) {j : Nat} {o : Oper} (ho : ops[j]? = some o) (hin : ∀ e ∈ o.after, e.on < ops.size) (hm : j ∈ l) (hop : Open md ops l j) : j ∈ Region.ready md ops listed := by
  refine mem_ready.2 ⟨(hL.un j (Array.getElem?_eq_some_iff.1 ho).1).2 hm, o, ho, fun e he hb => ?_⟩
  have hlt := hin e he
  have hnot := hop o ho e he hb
  rw [← getD_tf (by rw [hL.size]; exact hlt)]
  cases hg : listed.getD e.on true
  · exact absurd ((hL.un _ hlt).1 hg) hnot
  · rfl

theorem lst_set {md : Region.Mode} {l : List Nat} {i : Nat} {listed : Array Bool} (hd : l.Nodup) (h : Lst md ops l listed) (hi : i ∈ l) (hop : Open md ops l i) : Lst md ops (dropN i l) (listed.setIfInBounds i true) := by
  have hil := h.lt i hi
  refine ⟨by simp [h.size], fun k hk => ?_, fun k hk => h.lt k ((mem_dropN hd).1 hk).2, down_drop hd h.down hop⟩
  rw [mem_dropN hd]
  by_cases hki : k = i
  · subst hki
    constructor
    · intro hf
      rw [getD_tf (by simpa [h.size] using hil)] at hf
      rw [show (listed.setIfInBounds k true).getD k false = true by simp [Array.getD, h.size, hil]] at hf
      cases hf
    · intro hm; exact absurd rfl hm.1
  · rw [getD_set_ne true (Ne.symm hki), h.un k hk]
    simp [hki]

theorem can_any {md : Region.Mode} {kd : Oper → Kd} {n : Nat} {Qx : Exit → Act → World → Prop} (hsel : ∀ (j : Nat) (o : Oper) cs b, ops[j]? = some o → o.op ≠ .select cs b) (hin : ∀ (j : Nat) (o : Oper), ops[j]? = some o → ∀ e ∈ o.after, e.on < ops.size) :
    ∀ (fuel : Nat) (T : DT) (l : List Nat) (listed : Array Bool) (C : World → Prop) (a : Act) (w : World), l.length = fuel → l.Nodup → okD md ops kd n false T l = true → Lst md ops l listed → CanO P ops kd (Qx .normal) T C a → C w → wpAny P md ops Qx fuel listed a w
  | 0, T, l, listed, C, a, w, hl, hnd, hok, hL, hc, hw => by
    obtain rfl := List.length_eq_zero_iff.1 hl
    have hready : Region.ready md ops listed = [] := by
      rw [List.eq_nil_iff_forall_not_mem]
      intro j hj
      obtain ⟨h1, o, ho, _⟩ := mem_ready.1 hj
      have := (hL.un j (Array.getElem?_eq_some_iff.1 ho).1).1 h1
      cases this
    refine ⟨hready, ?_⟩
    cases T with
    | stop => exact hc w hw
    | op j t =>
      simp only [okD, Bool.and_eq_true] at hok
      obtain ⟨_, _, hm, _⟩ := opOk_spec hok.1.1
      cases hm
    | alt s t =>
      exfalso
      simp only [okD, Bool.and_eq_true] at hok
      have key : ∀ S : DT, okD md ops kd n true S [] = true → False := by
        intro S
        induction S with
        | stop => intro h; simp [okD] at h
        | op j t _ =>
          intro h
          simp only [okD, Bool.and_eq_true] at h
          obtain ⟨_, _, hm, _⟩ := opOk_spec h.1.1
          cases hm
        | alt s t ihs _ =>
          intro h
          simp only [okD, Bool.and_eq_true] at h
          exact ihs h.1.1
      exact key s hok.1.1
  | fuel + 1, T, l, listed, C, a, w, hl, hnd, hok, hL, hc, hw => by
    constructor
    · intro hr
      exfalso
      have some_ : ∃ j, j ∈ Region.ready md ops listed := by
        have key : ∀ (S : DT) (f : Bool), okD md ops kd n f S l = true → ∃ j, j ∈ Region.ready md ops listed := by
          intro S
          induction S with
          | stop =>
            intro f h
            simp only [okD, Bool.and_eq_true, List.isEmpty_iff] at h
            rw [h.2] at hl; simp at hl
          | op j t _ =>
            intro f h
            simp only [okD, Bool.and_eq_true] at h
            obtain ⟨o, ho, hm, hop⟩ := opOk_spec h.1.1
            exact ⟨j, mem_readyL hL ho (hin j o ho) hm hop⟩
          | alt s t ihs _ =>
            intro f h
            simp only [okD, Bool.and_eq_true] at h
            exact ihs true h.1.1
        exact key T false hok
      obtain ⟨j, hj⟩ := some_
      rw [hr] at hj
      cases hj
    · intro i hi
      obtain ⟨h1, o, ho, hafter⟩ := mem_ready.1 hi
      have him := (hL.un i (Array.getElem?_eq_some_iff.1 ho).1).1 h1
      have hop : Open md ops l i := by
        intro o' ho' e he hb hm
        rw [ho] at ho'
        obtain rfl := Option.some.inj ho'
        have h2 := hafter e he hb
        have hlt := hL.lt _ hm
        have := (hL.un _ hlt).2 hm
        rw [getD_tf (by rw [hL.size]; exact hlt), h2] at this
        cases this
      obtain ⟨T', g1, g2⟩ := can_pull (P := P) (K := Qx .normal) ho hsel T l hnd hL.down him hop hok
      have hpull := g2 C a hc
      have hL' := lst_set hnd hL him hop
      have hlen : (dropN i l).length = fuel := by rw [dropN_eq, List.length_erase_of_mem him]; omega
      have hnd' := nodup_dropN hnd i
      unfold wpOp
      simp only [ho]
      simp only [CanO, ho] at hpull
      split at hpull
      · rename_i hwant
        rw [if_pos hwant]
        refine .inl ?_
        rcases hpull with ⟨v, hg, hcan⟩ | ⟨_, hcan⟩
        · have hgv := hg w (.inr hw)
          unfold Gives at hgv
          unfold Oper.wp
          rw [hgv]
          exact can_any hsel hin fuel _ _ _ C _ w hlen hnd' g1 hL' hcan hw
        · refine Oper.wp_mono (fun a' w' hk => ?_) (wp_noEx (hcan w hw))
          obtain ⟨v, _, C', hC', _, hcan'⟩ := hk
          exact can_any hsel hin fuel _ _ _ C' _ w' hlen hnd' g1 hL' hcan' hC'
      · rename_i hwant
        rw [if_neg hwant]
        exact can_any hsel hin fuel _ _ _ C _ w hlen hnd' g1 hL' hpull hw
end Go.Sx
