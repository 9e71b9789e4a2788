/- Regions that draw their order: what can be done in one order, can be done in each. -/
import Derived.Test.YthndjkpnllanpaaSxT
set_option linter.unusedVariables false
set_option linter.unusedSimpArgs false
namespace Go.Sx
open RowKit
variable {P : Program} {ops : Array Oper}

def NoEx : Exit → Act → World → Prop := fun _ _ _ => False

/-- As 'Can', with more told of an operation that turns the world. pure: it gives what it gives in whatever world; soft: what was known of the world is known still. -/
def CanO (P : Program) (ops : Array Oper) (kd : Oper → Kd) (K : Act → World → Prop) : List Nat → (World → Prop) → Act → Prop
  | [], C, a => ∀ w, C w → K a w
  | i :: l, C, a =>
    match ops[i]? with
    | none => CanO P ops kd K l C a
    | some o =>
      if Region.wanted o (yielded ops a.tmps) then
        (∃ v, (∀ w, (kd o = .pure ∨ C w) → Gives P o a w v) ∧ CanO P ops kd K l C (a.put o.dst v)) ∨
        ((kd o).quiet = false ∧ ∀ w, C w → o.wp P a w (fun a' w' => ∃ v, a' = a.put o.dst v ∧ ∃ C' : World → Prop, C' w' ∧ (kd o = .soft → ∀ x, C' x → C x) ∧ CanO P ops kd K l C' a') NoEx)
      else CanO P ops kd K l C (a.put o.dst undef)

theorem putD (a : Act) (d : Option Tmp) (v : Value) : (a.put d v).defers = a.defers := by cases d <;> rfl

theorem letsOut_no : ¬ LetsOut NoEx := fun ⟨_, _, h⟩ => h

theorem wp_noEx {o : Oper} {a : Act} {w : World} {K : Act → World → Prop} {Qx : Exit → Act → World → Prop} (h : o.wp P a w K NoEx) : o.wp P a w K Qx := by
  unfold Oper.wp at *
  generalize (execOp a.eval o).run P w = r at *
  cases r with
  | ok n w' =>
    cases n <;> simp only [Oper.upon] at h ⊢ <;>
      first
        | exact h
        | exact Calls.mono h (fun e w'' he => by cases e <;> first | exact he | exact absurd he letsOut_no | exact he.elim)
        | exact Rows.mono h (fun _ _ he => he)
  | halt x w' => cases x <;> simp only [Oper.upon] at h ⊢ <;> exact h.elim

theorem gives_put {o : Oper} {a : Act} {w : World} {v u : Value} {d : Option Tmp} (hs : ∀ cs b, o.op ≠ .select cs b) (hd : ∀ t, d = some t → t ∉ o.looksAt ops) : Gives P o (a.put d u) w v ↔ Gives P o a w v := by
  unfold Gives
  rw [execOp_put o hs a d u hd]

def QuietAt (P : Program) (ops : Array Oper) (kd : Oper → Kd) (C : World → Prop) (o : Oper) (v : Value) (a : Act) : Prop :=
  (Region.wanted o (yielded ops a.tmps) = true ∧ ∀ w, (kd o = .pure ∨ C w) → Gives P o a w v) ∨ (Region.wanted o (yielded ops a.tmps) = false ∧ v = undef)

theorem QuietAt.can {kd : Oper → Kd} {K : Act → World → Prop} {C : World → Prop} {o : Oper} {v : Value} {a : Act} {i : Nat} {l : List Nat} (hi : ops[i]? = some o) (h : QuietAt P ops kd C o v a) (hc : CanO P ops kd K l C (a.put o.dst v)) : CanO P ops kd K (i :: l) C a := by
  simp only [CanO, hi]
  rcases h with ⟨hw, hg⟩ | ⟨hw, rfl⟩
  · rw [if_pos hw]; exact .inl ⟨v, hg, hc⟩
  · rw [if_neg (by rw [hw]; simp)]; exact hc

theorem QuietAt.put {kd : Oper → Kd} {C C' : World → Prop} {o : Oper} {v u : Value} {a : Act} {d : Option Tmp} (hs : ∀ cs b, o.op ≠ .select cs b) (hd : ∀ t, d = some t → t ∉ o.looksAt ops) (hC : kd o = .pure ∨ ∀ x, C' x → C x) (h : QuietAt P ops kd C o v a) :
    QuietAt P ops kd C' o v (a.put d u) := by
  rcases h with ⟨hw, hg⟩ | ⟨hw, rfl⟩
  · refine .inl ⟨by rw [wanted_put o a d u hd]; exact hw, fun w hw' => (gives_put hs hd).2 (hg w ?_)⟩
    rcases hw' with h | h
    · exact .inl h
    · exact hC.imp id (fun f => f w h)
  · exact .inr ⟨by rw [wanted_put o a d u hd]; exact hw, rfl⟩

theorem CanO.quiet {kd : Oper → Kd} {K : Act → World → Prop} {C : World → Prop} {o : Oper} {a : Act} {i : Nat} {l : List Nat} (hi : ops[i]? = some o) (hq : (kd o).quiet = true) (h : CanO P ops kd K (i :: l) C a) : ∃ v, QuietAt P ops kd C o v a ∧ CanO P ops kd K l C (a.put o.dst v) := by
  simp only [CanO, hi] at h
  split at h
  · rename_i hw
    rcases h with ⟨v, hg, hc⟩ | ⟨hn, _⟩
    · exact ⟨v, .inl ⟨hw, hg⟩, hc⟩
    · rw [hq] at hn; cases hn
  · rename_i hw
    exact ⟨undef, .inr ⟨by simpa using hw, rfl⟩, h⟩

/-- Neighbours change places. -/
theorem can_swap {kd : Oper → Kd} {K : Act → World → Prop} {i j : Nat} {oi oj : Oper} {l : List Nat} {C : World → Prop} {a : Act} (hi : ops[i]? = some oi) (hj : ops[j]? = some oj) (hap : oi.apart ops oj = true)
    (hsi : ∀ cs b, oi.op ≠ .select cs b) (hsj : ∀ cs b, oj.op ≠ .select cs b) (hq : (kd oj).quiet = true) (hok : kd oj = .pure ∨ kd oi = .soft ∨ (kd oi).quiet = true)
    (h : CanO P ops kd K (j :: i :: l) C a) : CanO P ops kd K (i :: j :: l) C a := by
  obtain ⟨h1, h2, h3⟩ := Oper.apart_spec hap
  have h2' : ∀ d, oj.dst = some d → oi.dst ≠ some d := fun d hd he => h2 d he hd
  obtain ⟨vj, qj, hc⟩ := h.quiet hj hq
  simp only [CanO, hi] at hc ⊢
  rw [wanted_put oi a oj.dst vj h3] at hc
  split at hc
  · rename_i hwi
    rw [if_pos hwi]
    rcases hc with ⟨vi, hg, hc⟩ | ⟨hn, hc⟩
    · refine .inl ⟨vi, fun w hw => (gives_put hsi h3).1 (hg w hw), ?_⟩
      refine QuietAt.can hj (qj.put hsj h1 (.inr fun _ h => h)) ?_
      rw [Act.put_comm a vi vj h2]; exact hc
    · refine .inr ⟨hn, fun w hw => ?_⟩
      have hcw := hc w hw
      have hsub : ∀ C' : World → Prop, (kd oi = .soft → ∀ x, C' x → C x) → kd oj = .pure ∨ ∀ x, C' x → C x := by
        intro C' hs
        rcases hok with h | h | h
        · exact .inl h
        · exact .inr (hs h)
        · rw [h] at hn; cases hn
      have key : ∀ u w', (∃ v, (a.put oj.dst vj).put oi.dst u = (a.put oj.dst vj).put oi.dst v ∧ ∃ C' : World → Prop, C' w' ∧ (kd oi = .soft → ∀ x, C' x → C x) ∧ CanO P ops kd K l C' ((a.put oj.dst vj).put oi.dst u)) →
          ∃ v, a.put oi.dst u = a.put oi.dst v ∧ ∃ C' : World → Prop, C' w' ∧ (kd oi = .soft → ∀ x, C' x → C x) ∧ CanO P ops kd K (j :: l) C' (a.put oi.dst u) := by
        rintro u w' ⟨v, _, C', hC', hs, hcan⟩
        refine ⟨u, rfl, C', hC', hs, QuietAt.can hj (qj.put hsj h1 (hsub C' hs)) ?_⟩
        rw [Act.put_comm a u vj h2]; exact hcan
      unfold Oper.wp at *
      rw [execOp_put oi hsi a oj.dst vj h3] at hcw
      generalize (execOp a.eval oi).run P w = r at *
      cases r with
      | ok n w' =>
        cases n <;> simp only [Oper.upon] at hcw ⊢
        case value u => exact key u w' hcw
        case skip => exact key undef w' hcw
        case defer d =>
          obtain ⟨v, he, _⟩ := hcw
          have := congrArg (fun x : Act => x.defers.length) he
          simp [putD] at this
        case enter f args =>
          refine Calls.mono hcw fun e w'' he => ?_
          cases e with
          | returned u => exact key u w'' he
          | panicked c => exact he.elim
          | outgrown => exact he
        case row row args => exact Rows.mono hcw fun u w'' he => key u w'' he
      | halt x w' => cases x <;> simp only [Oper.upon] at hcw ⊢ <;> exact hcw.elim
  · rename_i hwi
    rw [if_neg hwi]
    refine QuietAt.can hj (qj.put hsj h1 (.inr fun _ h => h)) ?_
    rw [Act.put_comm a undef vj h2]; exact hc

theorem can_pull {kd : Oper → Kd} {K : Act → World → Prop} {i : Nat} {oi : Oper} {l2 : List Nat} {C : World → Prop} (hi : ops[i]? = some oi) (hsel : ∀ (j : Nat) (o : Oper) cs b, ops[j]? = some o → o.op ≠ .select cs b) :
    ∀ (l1 : List Nat) (a : Act), (∀ j ∈ l1, ∃ oj, ops[j]? = some oj ∧ oi.apart ops oj = true ∧ (kd oj).quiet = true ∧ (kd oj = .pure ∨ kd oi = .soft ∨ (kd oi).quiet = true)) → CanO P ops kd K (l1 ++ i :: l2) C a → CanO P ops kd K (i :: (l1 ++ l2)) C a
  | [], a, _, h => h
  | j :: l1, a, hall, h => by
    obtain ⟨oj, hj, hap, hq, hok⟩ := hall j (List.mem_cons_self ..)
    obtain ⟨vj, qj, hc⟩ := CanO.quiet (l := l1 ++ i :: l2) hj hq h
    have := can_pull hi hsel l1 _ (fun j' hj' => hall j' (List.mem_cons_of_mem _ hj')) hc
    exact can_swap (l := l1 ++ l2) hi hj hap (fun cs b => hsel i oi cs b hi) (fun cs b => hsel j oj cs b hj) hq hok (qj.can hj this)

structure Lst (md : Region.Mode) (ops : Array Oper) (l : List Nat) (listed : Array Bool) : Prop where
  size : listed.size = ops.size
  un : ∀ k, k < ops.size → (listed.getD k true = false ↔ k ∈ l)
  down : ∀ k o, ops[k]? = some o → k ∉ l → ∀ e ∈ o.after, Region.binds md e = true → listed.getD e.on false = true

theorem getD_tf {listed : Array Bool} {k : Nat} (h : k < listed.size) : listed.getD k true = listed.getD k false := by
  simp [Array.getD, h]

theorem Lst.off {md : Region.Mode} {l : List Nat} {listed : Array Bool} (h : Lst md ops l listed) {k : Nat} (hk : listed.getD k false = true) : k < ops.size ∧ k ∉ l := by
  by_cases hs : k < ops.size
  · refine ⟨hs, fun hm => ?_⟩
    have := (h.un k hs).2 hm
    rw [getD_tf (by rw [h.size]; exact hs), hk] at this
    cases this
  · have : ¬ k < listed.size := by rw [h.size]; exact hs
    simp [Array.getD, this] at hk

theorem dep_off {md : Region.Mode} {l : List Nat} {listed : Array Bool} (h : Lst md ops l listed) : ∀ (n i j : Nat), (∀ o, ops[i]? = some o → ∀ e ∈ o.after, Region.binds md e = true → listed.getD e.on false = true) → dep md ops n i j = true → j ∉ l
  | 0, i, j, _, hd => by cases hd
  | n + 1, i, j, hi, hd => by
    unfold dep at hd
    split at hd
    · rename_i o ho
      simp only [List.any_eq_true, Bool.and_eq_true, Bool.or_eq_true] at hd
      obtain ⟨e, he, hb, hd⟩ := hd
      have hoff := hi o ho e (by simpa using he) hb
      rcases hd with hd | hd
      · have := Nat.eq_of_beq_eq_true hd
        subst this
        exact (h.off hoff).2
      · exact dep_off h n e.on j (fun o' ho' => h.down e.on o' ho' (h.off hoff).2) hd
    · cases hd

theorem okL_split {md : Region.Mode} {kd : Oper → Kd} {n i : Nat} {l2 : List Nat} : ∀ {l1 : List Nat}, okL md ops kd n (l1 ++ i :: l2) = true → (∀ j ∈ l1, pairOk md ops kd n j i = true) ∧ okL md ops kd n (l1 ++ l2) = true ∧ i ∉ l1 ++ l2
  | [], h => by
    simp only [List.nil_append, okL, Bool.and_eq_true] at h
    refine ⟨fun j hj => (by cases hj), h.2, ?_⟩
    have := h.1.1.2
    intro hm
    rw [(memN_iff l2 i).2 (by simpa using hm)] at this
    cases this
  | j :: l1, h => by
    simp only [List.cons_append, okL, Bool.and_eq_true, List.all_eq_true] at h
    obtain ⟨⟨⟨h1, h2⟩, h3⟩, h4⟩ := h
    obtain ⟨g1, g2, g3⟩ := okL_split h4
    have hne : i ≠ j := by
      intro he; subst he
      rw [(memN_iff _ _).2 (by simp)] at h2
      cases h2
    have hmem : memN (l1 ++ l2) j = false := by
      cases hm : memN (l1 ++ l2) j
      · rfl
      · have := (memN_iff _ _).1 hm
        rw [(memN_iff _ _).2 (show j ∈ l1 ++ i :: l2 by simp at this ⊢; rcases this with h | h <;> simp [h])] at h2
        cases h2
    refine ⟨fun k hk => ?_, ?_, ?_⟩
    · rcases List.mem_cons.1 hk with rfl | hk
      · exact h3 i (by simp)
      · exact g1 k hk
    · simp only [List.cons_append, okL, Bool.and_eq_true, List.all_eq_true]
      exact ⟨⟨⟨h1, by rw [hmem]; rfl⟩, fun k hk => h3 k (by simp at hk ⊢; rcases hk with h | h <;> simp [h])⟩, g2⟩
    · simp only [List.cons_append, List.mem_cons, not_or]
      exact ⟨hne, g3⟩

theorem lst_set {md : Region.Mode} {l1 l2 : List Nat} {i : Nat} {listed : Array Bool} (h : Lst md ops (l1 ++ i :: l2) listed) (hn : i ∉ l1 ++ l2) (hr : i ∈ Region.ready md ops listed) : Lst md ops (l1 ++ l2) (listed.setIfInBounds i true) := by
  obtain ⟨_, o, ho, hafter⟩ := mem_ready.1 hr
  have hi : i < listed.size := by rw [h.size]; exact (Array.getElem?_eq_some_iff.1 ho).1
  refine ⟨by simp [h.size], fun k hk => ?_, fun k o' ho' hk e he hb => ?_⟩
  · by_cases hki : k = i
    · subst hki
      constructor
      · intro hf
        rw [getD_tf (by simpa using hi)] at hf
        rw [show (listed.setIfInBounds k true).getD k false = true by simp [Array.getD, hi]] at hf
        cases hf
      · intro hm; exact absurd hm hn
    · rw [getD_set_ne true (Ne.symm hki), h.un k hk]
      simp [hki]
  · by_cases hki : k = i
    · subst hki
      rw [ho] at ho'
      obtain rfl := Option.some.inj ho'
      exact getD_set_true (hafter e he hb)
    · exact getD_set_true (h.down k o' ho' (by simp [hki] at hk ⊢; exact hk) e he hb)

theorem can_any {md : Region.Mode} {kd : Oper → Kd} {n : Nat} {Qx : Exit → Act → World → Prop} (hsel : ∀ (j : Nat) (o : Oper) cs b, ops[j]? = some o → o.op ≠ .select cs b) :
    ∀ (fuel : Nat) (l : List Nat) (listed : Array Bool) (C : World → Prop) (a : Act) (w : World), l.length = fuel → okL md ops kd n l = true → Lst md ops l listed → CanO P ops kd (Qx .normal) l C a → C w → wpAny P md ops Qx fuel listed a w
  | 0, l, listed, C, a, w, hl, hok, hL, hc, hw => by
    obtain rfl := List.length_eq_zero_iff.1 hl
    refine ⟨?_, hc w hw⟩
    rw [List.eq_nil_iff_forall_not_mem]
    intro j hj
    obtain ⟨h1, o, ho, _⟩ := mem_ready.1 hj
    have := (hL.un j (Array.getElem?_eq_some_iff.1 ho).1).1 h1
    cases this
  | fuel + 1, l, listed, C, a, w, hl, hok, hL, hc, hw => by
    constructor
    · intro hr
      cases l with
      | nil => cases hl
      | cons j r =>
        exfalso
        have hok' := hok
        simp only [okL, Bool.and_eq_true, List.all_eq_true] at hok
        obtain ⟨⟨⟨h1, h2⟩, h3⟩, h4⟩ := hok
        split at h1
        · rename_i o ho
          simp only [Bool.and_eq_true, List.all_eq_true] at h1
          obtain ⟨hnj, hin⟩ := h1
          have : j ∈ Region.ready md ops listed := by
            refine mem_ready.2 ⟨(hL.un j (Array.getElem?_eq_some_iff.1 ho).1).2 (List.mem_cons_self ..), o, ho, fun e he hb => ?_⟩
            have hlt : e.on < ops.size := by
              have := hin e (by simpa using he)
              simp [Nat.blt] at this; omega
            have hnot : e.on ∉ j :: r := by
              intro hm
              have hnear : near md ops j e.on = true := by
                unfold near; rw [ho]
                simp only [List.any_eq_true, Bool.and_eq_true]
                exact ⟨e, by simpa using he, hb, by simp⟩
              rcases List.mem_cons.1 hm with hm | hm
              · rw [hm] at hnear; rw [hnear] at hnj; cases hnj
              · have hp := h3 _ hm
                unfold pairOk at hp
                split at hp
                · rw [hnear] at hp; simp at hp
                · cases hp
            rw [← getD_tf (by rw [hL.size]; exact hlt)]
            cases hg : listed.getD e.on true
            · exact absurd ((hL.un _ hlt).1 hg) hnot
            · rfl
          rw [hr] at this
          cases this
        · cases h1
    · intro i hi
      obtain ⟨h1, o, ho, hafter⟩ := mem_ready.1 hi
      have him := (hL.un i (Array.getElem?_eq_some_iff.1 ho).1).1 h1
      obtain ⟨l1, l2, rfl⟩ := List.append_of_mem him
      obtain ⟨g1, g2, g3⟩ := okL_split hok
      have hpull := can_pull ho hsel l1 a (fun j hj => by
        have hp := g1 j hj
        unfold pairOk at hp
        split at hp
        · rename_i oj oi hoj hoi
          rw [ho] at hoi
          obtain rfl := Option.some.inj hoi
          simp only [Bool.and_eq_true, Bool.or_eq_true, decide_eq_true_eq] at hp
          refine ⟨oj, hoj, ?_⟩
          rcases hp.2 with hd | hd
          · exact absurd (List.mem_append_left _ hj) (dep_off hL n i j (fun o' ho' e he hb => by rw [ho] at ho'; obtain rfl := Option.some.inj ho'; exact hafter e he hb) hd)
          · refine ⟨hd.1.1, hd.1.2, ?_⟩
            rcases hd.2 with (h | h) | h
            · exact .inl h
            · exact .inr (.inl h)
            · exact .inr (.inr h)
        · cases hp) hc
      have hL' := lst_set hL g3 hi
      have hlen : (l1 ++ l2).length = fuel := by simp at hl ⊢; omega
      unfold wpOp
      simp only [ho]
      simp only [CanO, ho] at hpull
      split at hpull
      · rename_i hwant
        rw [if_pos hwant]
        refine .inl ?_
        rcases hpull with ⟨v, hg, hcan⟩ | ⟨_, hcan⟩
        · have hgv := hg w (.inr hw)
          unfold Gives at hgv
          unfold Oper.wp
          rw [hgv]
          exact can_any hsel fuel _ _ C _ w hlen g2 hL' hcan hw
        · refine Oper.wp_mono (fun a' w' hk => ?_) (wp_noEx (hcan w hw))
          obtain ⟨v, _, C', hC', _, hcan'⟩ := hk
          exact can_any hsel fuel _ _ C' _ w' hlen g2 hL' hcan' hC'
      · rename_i hwant
        rw [if_neg hwant]
        exact can_any hsel fuel _ _ C _ w hlen g2 hL' hpull hw
end Go.Sx
