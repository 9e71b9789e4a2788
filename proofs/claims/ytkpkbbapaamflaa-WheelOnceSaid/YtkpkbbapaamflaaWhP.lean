/- Timers: where each lies in the wheel, seen from a time; what moves where, when the time goes on; the sorted list of them. Plain: no program. -/
import Derived.Test.YtkpkbbapaamflaaSxM
set_option linter.unusedVariables false
set_option linter.unusedSimpArgs false
namespace Go.Proofs.Ytkpkbbapaamflaa
open Go.Sx

structure Tm where
  t : Int
  id : Int
  bn : Int

/-- The level at which two times are apart. -/
def lv (now t : Int) : Nat := if t / 64 = now / 64 then 0 else if t / 4096 = now / 4096 then 1 else if t / 262144 = now / 262144 then 2 else if t / 16777216 = now / 16777216 then 3 else 4
def pw : Nat → Int
  | 0 => 1
  | n + 1 => 64 * pw n
def ix (l : Nat) (t : Int) : Nat := (t / pw l % 64).toNat
/-- The slot of a time. -/
def sx (now t : Int) : Nat := lv now t * 64 + ix (lv now t) t
/-- The slot of a time, while the levels above l have come down. -/
def cs (was now : Int) (l : Nat) (t : Int) : Nat := if l < lv was t then sx now t else sx was t

theorem lv_le (now t : Int) : lv now t ≤ 4 := by unfold lv; split <;> (try split) <;> (try split) <;> (try split) <;> omega
theorem ix_lt (l : Nat) (t : Int) : ix l t < 64 := by
  unfold ix
  have h1 := Int.emod_nonneg (t / pw l) (show (64 : Int) ≠ 0 by omega)
  have h2 := Int.emod_lt_of_pos (t / pw l) (show (0 : Int) < 64 by omega)
  omega
theorem sx_lt (now t : Int) : sx now t < 320 := by
  have := lv_le now t
  have := ix_lt (lv now t) t
  unfold sx; omega
theorem cs_lt (was now : Int) (l : Nat) (t : Int) : cs was now l t < 320 := by unfold cs; split <;> exact sx_lt _ _

theorem pw0 : pw 0 = 1 := rfl
theorem pw1 : pw 1 = 64 := rfl
theorem pw2 : pw 2 = 4096 := rfl
theorem pw3 : pw 3 = 262144 := rfl
theorem pw4 : pw 4 = 16777216 := rfl

/-- Below a level the times are apart; at it they are not. -/
theorem lv_at (now t : Int) : (lv now t < 4 → t / pw (lv now t + 1) = now / pw (lv now t + 1)) ∧ ∀ k, k < lv now t → t / pw (k + 1) ≠ now / pw (k + 1) := by
  have p : ∀ k, k < 4 → k = 0 ∨ k = 1 ∨ k = 2 ∨ k = 3 := by omega
  unfold lv
  split
  · exact ⟨fun _ => by simpa [pw] using ‹_›, fun k hk => by omega⟩
  · split
    · refine ⟨fun _ => by simpa [pw] using ‹_›, fun k hk => ?_⟩
      obtain rfl : k = 0 := by omega
      simpa [pw] using ‹_›
    · split
      · refine ⟨fun _ => by simpa [pw] using ‹_›, fun k hk => ?_⟩
        rcases (show k = 0 ∨ k = 1 by omega) with rfl | rfl <;> simp only [pw] <;> omega
      · split
        · refine ⟨fun _ => by simpa [pw] using ‹_›, fun k hk => ?_⟩
          rcases (show k = 0 ∨ k = 1 ∨ k = 2 by omega) with rfl | rfl | rfl <;> simp only [pw] <;> omega
        · refine ⟨fun h => by omega, fun k hk => ?_⟩
          rcases p k hk with rfl | rfl | rfl | rfl <;> simp only [pw] <;> omega

/-- A level is told by what it does. -/
theorem lv_eq {now t : Int} {l : Nat} (hl : l ≤ 4) (h1 : l < 4 → t / pw (l + 1) = now / pw (l + 1)) (h2 : 0 < l → t / pw l ≠ now / pw l) : lv now t = l := by
  unfold lv
  rcases (show l = 0 ∨ l = 1 ∨ l = 2 ∨ l = 3 ∨ l = 4 by omega) with rfl | rfl | rfl | rfl | rfl
  · have := h1 (by omega); simp only [pw] at this; rw [if_pos (by omega)]
  · have a := h1 (by omega); have b := h2 (by omega); simp only [pw] at a b; rw [if_neg (by omega), if_pos (by omega)]
  · have a := h1 (by omega); have b := h2 (by omega); simp only [pw] at a b; rw [if_neg (by omega), if_neg (by omega), if_pos (by omega)]
  · have a := h1 (by omega); have b := h2 (by omega); simp only [pw] at a b; rw [if_neg (by omega), if_neg (by omega), if_neg (by omega), if_pos (by omega)]
  · have b := h2 (by omega); simp only [pw] at b; rw [if_neg (by omega), if_neg (by omega), if_neg (by omega), if_neg (by omega)]

theorem sx_same {was now t : Int} (h : lv was t = lv now t) : sx was t = sx now t := by unfold sx; rw [h]

section
variable {was now t : Int} (h1 : was ≤ now) (h2 : now ≤ t) (h3 : t - was ≤ 16777216)
include h1 h2 h3

/-- Who stood at level l, and is not in the slot that is begun, stands still. -/
theorem lv_stay {l : Nat} (hl : lv was t = l) (hne : 0 < l → t / pw l ≠ now / pw l) : lv now t = l := by
  have hle := lv_le was t
  obtain ⟨a, b⟩ := lv_at was t
  rw [hl] at a b hle
  refine lv_eq hle (fun h => ?_) hne
  have := a h
  rcases (show l = 0 ∨ l = 1 ∨ l = 2 ∨ l = 3 by omega) with rfl | rfl | rfl | rfl <;> simp only [pw] at this ⊢ <;> omega

theorem cs_skip {l : Nat} (hl : 0 < l) (h : was / pw l = now / pw l) : cs was now (l - 1) t = cs was now l t := by
  unfold cs
  by_cases hk : lv was t = l
  · rw [if_pos (by omega), if_neg (by omega)]
    have := lv_stay h1 h2 h3 hk (fun _ => by
      obtain ⟨_, b⟩ := lv_at was t
      have := b (l - 1) (by omega)
      rw [show l - 1 + 1 = l by omega] at this
      omega)
    exact (sx_same (by omega)).symm
  · by_cases hlt : l < lv was t
    · rw [if_pos (by omega), if_pos hlt]
    · rw [if_neg (by omega), if_neg hlt]

theorem ix_eq_of {l : Nat} (hl : l ≤ 4) (hq : l < 4 → t / pw (l + 1) = now / pw (l + 1)) (he : ix l t = ix l now) : t / pw l = now / pw l := by
  unfold ix at he
  rcases (show l = 0 ∨ l = 1 ∨ l = 2 ∨ l = 3 ∨ l = 4 by omega) with rfl | rfl | rfl | rfl | rfl
  · have := hq (by omega); simp only [pw] at this he ⊢; omega
  · have := hq (by omega); simp only [pw] at this he ⊢; omega
  · have := hq (by omega); simp only [pw] at this he ⊢; omega
  · have := hq (by omega); simp only [pw] at this he ⊢; omega
  · simp only [pw] at he ⊢; omega

/-- Level l comes down: who is in the slot that is begun goes where it is now; all others stand still. -/
theorem cs_move {l : Nat} (hl : 0 < l) (hl4 : l ≤ 4) (h : was / pw l ≠ now / pw l) : cs was now (l - 1) t = if cs was now l t = l * 64 + ix l now then sx now t else cs was now l t := by
  have hx := ix_lt (lv was t) t
  have hn := ix_lt l now
  have hy := ix_lt (lv now t) t
  by_cases hk : lv was t = l
  · have e1 : cs was now (l - 1) t = sx now t := by unfold cs; rw [if_pos (by omega)]
    have e2 : cs was now l t = sx was t := by unfold cs; rw [if_neg (by omega)]
    rw [e1, e2]
    by_cases hj : sx was t = l * 64 + ix l now
    · rw [if_pos hj]
    · rw [if_neg hj]
      refine (sx_same ?_).symm
      have hi : ix l t ≠ ix l now := fun he => hj (by unfold sx; rw [hk, he])
      have := lv_stay h1 h2 h3 hk (fun _ he => hi (by unfold ix; rw [he]))
      omega
  · by_cases hlt : l < lv was t
    · have e1 : cs was now (l - 1) t = sx now t := by unfold cs; rw [if_pos (by omega)]
      have e2 : cs was now l t = sx now t := by unfold cs; rw [if_pos hlt]
      rw [e1, e2]; simp
    · have e1 : cs was now (l - 1) t = sx was t := by unfold cs; rw [if_neg (by omega)]
      have e2 : cs was now l t = sx was t := by unfold cs; rw [if_neg hlt]
      rw [e1, e2, if_neg]
      unfold sx; omega

theorem cs_zero : cs was now 0 t = sx now t := by
  unfold cs
  split
  · rfl
  · have := lv_stay h1 h2 h3 (l := 0) (by omega) (fun h => by omega)
    exact sx_same (by omega)
end
theorem cs_four (was now t : Int) : cs was now 4 t = sx was t := by
  unfold cs
  rw [if_neg (by have := lv_le was t; omega)]

/-- In the slot of the time that it is, there is no other time. -/
theorem sx_now {now t : Int} (h0 : now ≤ t) (h : sx now t = sx now now) : t = now := by
  have hx := ix_lt (lv now t) t
  have hy := ix_lt (lv now now) now
  have e0 : lv now now = 0 := by unfold lv; simp
  unfold sx at h
  rw [e0] at h hy
  have hl : lv now t = 0 := by omega
  rw [hl] at h hx
  have ha := (lv_at now t).1 (by omega)
  rw [hl] at ha
  simp only [ix, pw] at h hx hy ha
  omega

/-! ### Rows that hold the timers of a list, each where f says -/

def upd {α : Type} (R : Nat → α) (j : Nat) (r : α) : Nat → α := fun k => if k = j then r else R k
theorem upd_at {α : Type} (R : Nat → α) (j : Nat) (r : α) : upd R j r j = r := by simp [upd]
theorem upd_ne {α : Type} (R : Nat → α) {j k : Nat} (r : α) (h : k ≠ j) : upd R j r k = R k := by simp [upd, h]

/-- Timers of one time stand in the order in which they came. -/
def Came (l : List Tm) : Prop := l.Pairwise fun a b => a.t = b.t → a.bn < b.bn
/-- What lies where. -/
structure Lies (f : Int → Nat) (L : List Tm) (R : Nat → List Tm) : Prop where
  perm : ∀ j, j < 320 → (R j).Perm (L.filter fun x => decide (f x.t = j))
  came : ∀ j, j < 320 → Came (R j)

theorem Lies.mem {f : Int → Nat} {L : List Tm} {R : Nat → List Tm} (h : Lies f L R) {j : Nat} (hj : j < 320) {x : Tm} : x ∈ R j ↔ x ∈ L ∧ f x.t = j := by
  rw [(h.perm j hj).mem_iff]; simp
theorem Lies.cong {f g : Int → Nat} {L : List Tm} {R : Nat → List Tm} (h : Lies f L R) (he : ∀ x ∈ L, f x.t = g x.t) : Lies g L R :=
  ⟨fun j hj => by
    have : (L.filter fun x => decide (g x.t = j)) = L.filter fun x => decide (f x.t = j) := List.filter_congr fun x hx => by rw [he x hx]
    rw [this]; exact h.perm j hj, h.came⟩

theorem filter_perm_split {α : Type} (p q : α → Bool) : ∀ l : List α, (∀ x ∈ l, ¬ (p x = true ∧ q x = true)) → (l.filter p ++ l.filter q).Perm (l.filter fun x => p x || q x)
  | [], _ => by simp
  | a :: l, h => by
    have ih := filter_perm_split p q l fun x hx => h x (List.mem_cons_of_mem _ hx)
    have ha := h a (List.mem_cons_self ..)
    simp only [List.filter_cons]
    cases hp : p a <;> cases hq : q a
    · simpa [hp, hq] using ih
    · simp only [Bool.false_eq_true, if_false, if_true, Bool.or_true]
      exact List.Perm.trans List.perm_middle (List.Perm.cons _ ih)
    · simp only [Bool.false_eq_true, if_false, if_true, Bool.or_false, List.cons_append]
      exact List.Perm.cons _ ih
    · exact absurd ⟨hp, hq⟩ ha

/-- A slot's timers are put where g says. -/
theorem Lies.move {f g : Int → Nat} {L : List Tm} {R : Nat → List Tm} (h : Lies f L R) {j0 : Nat} (hj0 : j0 < 320) :
    Lies (fun t => if f t = j0 then g t else f t) L (fun j => (if j = j0 then [] else R j) ++ (R j0).filter fun x => decide (g x.t = j)) := by
  refine ⟨fun j hj => ?_, fun j hj => ?_⟩
  · have h1 : ((R j0).filter fun x => decide (g x.t = j)).Perm (L.filter fun x => decide (f x.t = j0) && decide (g x.t = j)) := by
      refine ((h.perm j0 hj0).filter _).trans ?_
      rw [List.filter_filter]
      refine List.Perm.of_eq (List.filter_congr fun x _ => ?_)
      rw [Bool.and_comm]
    have h2 : (if j = j0 then [] else R j).Perm (L.filter fun x => decide (f x.t ≠ j0) && decide (f x.t = j)) := by
      by_cases hjj : j = j0
      · rw [if_pos hjj]
        refine List.Perm.of_eq ?_
        rw [eq_comm, List.filter_eq_nil_iff]
        intro x _
        simp; omega
      · rw [if_neg hjj]
        refine (h.perm j hj).trans (List.Perm.of_eq (List.filter_congr fun x _ => ?_))
        by_cases hx : f x.t = j
        · simp [hx, hjj]
        · simp [hx]
    refine (List.Perm.append h2 h1).trans ((filter_perm_split _ _ L fun x _ => ?_).trans (List.Perm.of_eq (List.filter_congr fun x _ => ?_)))
    · simp; intro a _ b; exact absurd b a
    · by_cases hx : f x.t = j0 <;> simp [hx]
  · unfold Came
    rw [List.pairwise_append]
    refine ⟨?_, (h.came j0 hj0).filter _, fun a ha b hb hab => ?_⟩
    · by_cases hjj : j = j0
      · rw [if_pos hjj]; exact List.Pairwise.nil
      · rw [if_neg hjj]; exact h.came j hj
    · by_cases hjj : j = j0
      · rw [if_pos hjj] at ha; cases ha
      · rw [if_neg hjj] at ha
        have a1 := ((h.mem hj).1 ha).2
        have b1 := ((h.mem hj0).1 (List.mem_filter.1 hb).1).2
        rw [hab, b1] at a1
        exact absurd a1.symm hjj

/-! ### The sorted list -/

def before (a b : Tm) : Prop := a.t < b.t ∨ a.t = b.t ∧ a.bn < b.bn
structure WOk (now born : Int) (L : List Tm) : Prop where
  sorted : L.Pairwise before
  ids : (L.map (·.id)).Nodup
  lo : ∀ x ∈ L, now ≤ x.t
  hi : ∀ x ∈ L, x.t - now ≤ 16777216
  bn : ∀ x ∈ L, x.bn ≤ born

def addL (x : Tm) (L : List Tm) : List Tm := (L.filter fun y => decide (y.t ≤ x.t)) ++ x :: L.filter fun y => decide (x.t < y.t)
theorem addL_perm (x : Tm) (L : List Tm) : (addL x L).Perm (x :: L) := by
  unfold addL
  refine List.perm_middle.trans (List.Perm.cons _ ?_)
  refine (filter_perm_split _ _ L fun y _ => ?_).trans (List.Perm.of_eq ?_)
  · simp
  · rw [List.filter_eq_self]
    intro y _
    simp; omega

theorem WOk.add {now born : Int} {L : List Tm} (h : WOk now born L) {x : Tm} (h1 : now ≤ x.t) (h2 : x.t - now ≤ 16777216) (h3 : x.bn = born + 1) (h4 : ∀ y ∈ L, y.id ≠ x.id) : WOk now (born + 1) (addL x L) := by
  have hm : ∀ y, y ∈ addL x L ↔ y = x ∨ y ∈ L := fun y => by rw [(addL_perm x L).mem_iff]; simp
  refine ⟨?_, ?_, fun y hy => ?_, fun y hy => ?_, fun y hy => ?_⟩
  · unfold addL
    rw [List.pairwise_append, List.pairwise_cons]
    refine ⟨h.sorted.filter _, ⟨fun b hb => ?_, h.sorted.filter _⟩, fun a ha b hb => ?_⟩
    · have := (List.mem_filter.1 hb).2
      simp at this
      exact .inl this
    · have ha' := List.mem_filter.1 ha
      have hba := h.bn a ha'.1
      simp at ha'
      rcases List.mem_cons.1 hb with rfl | hb
      · unfold before; omega
      · have := (List.mem_filter.1 hb).2
        simp at this
        unfold before; omega
  · refine ((addL_perm x L).map _).nodup_iff.2 ?_
    rw [List.map_cons, List.nodup_cons]
    refine ⟨fun hc => ?_, h.ids⟩
    obtain ⟨y, hy, he⟩ := List.mem_map.1 hc
    exact h4 y hy he
  · rcases (hm y).1 hy with rfl | hy
    · exact h1
    · exact h.lo y hy
  · rcases (hm y).1 hy with rfl | hy
    · exact h2
    · exact h.hi y hy
  · rcases (hm y).1 hy with rfl | hy
    · omega
    · have := h.bn y hy; omega

theorem WOk.filter {now born : Int} {L : List Tm} (h : WOk now born L) (p : Tm → Bool) : WOk now born (L.filter p) :=
  ⟨h.sorted.filter p, (h.ids.sublist ((List.filter_sublist).map _)), fun x hx => h.lo x (List.mem_filter.1 hx).1, fun x hx => h.hi x (List.mem_filter.1 hx).1, fun x hx => h.bn x (List.mem_filter.1 hx).1⟩
theorem WOk.to {now now' born : Int} {L : List Tm} (h : WOk now born L) (h1 : now ≤ now') (h2 : ∀ x ∈ L, now' ≤ x.t) : WOk now' born L :=
  ⟨h.sorted, h.ids, h2, fun x hx => by have := h.hi x hx; omega, h.bn⟩

theorem Lies.add {f : Int → Nat} {L : List Tm} {R : Nat → List Tm} (h : Lies f L R) {x : Tm} (hb : ∀ y ∈ L, y.bn < x.bn) : Lies f (addL x L) (upd R (f x.t) (R (f x.t) ++ [x])) := by
  have key : ∀ j, ((addL x L).filter fun y => decide (f y.t = j)).Perm ((x :: L).filter fun y => decide (f y.t = j)) := fun j => (addL_perm x L).filter _
  refine ⟨fun j hj => ?_, fun j hj => ?_⟩
  · refine List.Perm.trans ?_ (key j).symm
    by_cases hjx : j = f x.t
    · subst hjx
      rw [upd_at]
      simp only [List.filter_cons, decide_true, if_true]
      exact (List.perm_append_comm).trans (List.Perm.cons _ (h.perm _ hj))
    · rw [upd_ne _ _ hjx]
      simp only [List.filter_cons]
      rw [if_neg (by simpa using fun he => hjx he.symm)]
      exact h.perm j hj
  · by_cases hjx : j = f x.t
    · subst hjx
      rw [upd_at]
      unfold Came
      rw [List.pairwise_append]
      refine ⟨h.came _ hj, by simp, fun a ha b hb' _ => ?_⟩
      simp at hb'; subst hb'
      exact hb a ((h.mem hj).1 ha).1
    · rw [upd_ne _ _ hjx]; exact h.came j hj

/-- Who is dropped from the list is dropped from its slot. -/
theorem Lies.drop {f : Int → Nat} {L : List Tm} {R : Nat → List Tm} (h : Lies f L R) (p : Tm → Bool) (j0 : Nat) (hp : ∀ x ∈ L, p x = false → f x.t = j0) : Lies f (L.filter p) (upd R j0 ((R j0).filter p)) := by
  refine ⟨fun j hj => ?_, fun j hj => ?_⟩
  · by_cases hjx : j = j0
    · subst hjx
      rw [upd_at]
      refine ((h.perm j hj).filter p).trans (List.Perm.of_eq ?_)
      rw [List.filter_filter, List.filter_filter]
      exact List.filter_congr fun x _ => Bool.and_comm _ _
    · rw [upd_ne _ _ hjx]
      refine (h.perm j hj).trans (List.Perm.of_eq ?_)
      rw [List.filter_filter]
      refine List.filter_congr fun x hx => ?_
      by_cases hf : f x.t = j
      · have : p x = true := by
          cases hpx : p x with
          | true => rfl
          | false => exact absurd ((hp x hx hpx).symm.trans hf).symm hjx
        simp [hf, this]
      · simp [hf]
  · by_cases hjx : j = j0
    · subst hjx; rw [upd_at]; exact (h.came j hj).filter p
    · rw [upd_ne _ _ hjx]; exact h.came j hj

theorem perm_sorted_eq : ∀ {A B : List Tm}, A.Perm B → A.Pairwise before → B.Pairwise before → A = B
  | [], B, hp, _, _ => by rw [List.nil_perm] at hp; exact hp.symm
  | a :: A, [], hp, _, _ => by simp at hp
  | a :: A, b :: B, hp, h1, h2 => by
    rw [List.pairwise_cons] at h1 h2
    have hab : a = b := by
      rcases List.mem_cons.1 (hp.mem_iff.1 (List.mem_cons_self ..)) with h | h
      · exact h
      · rcases List.mem_cons.1 (hp.mem_iff.2 (List.mem_cons_self ..)) with k | k
        · exact k.symm
        · have a1 := h1.1 b k
          have a2 := h2.1 a h
          unfold before at a1 a2; omega
    subst hab
    rw [perm_sorted_eq (List.Perm.cons_inv hp) h1.2 h2.2]

/-- Who is due now, in its slot: in the list's own order. -/
theorem Lies.due {now born : Int} {L : List Tm} {R : Nat → List Tm} (h : Lies (sx now) L R) (hw : WOk now born L) : R (sx now now) = L.filter fun x => decide (x.t = now) := by
  have hj := sx_lt now now
  have he : (L.filter fun x => decide (sx now x.t = sx now now)) = L.filter fun x => decide (x.t = now) := List.filter_congr fun x hx => by
    by_cases hx' : x.t = now
    · simp [hx']
    · have : ¬ sx now x.t = sx now now := fun hc => hx' (sx_now (hw.lo x hx) hc)
      simp [this, hx']
  have hp := h.perm _ hj
  rw [he] at hp
  refine perm_sorted_eq hp ?_ (hw.sorted.filter _)
  refine List.Pairwise.imp_of_mem (fun {a b} ha hb hab => ?_) (h.came _ hj)
  have ha' := (List.mem_filter.1 (hp.mem_iff.1 ha)).2
  have hb' := (List.mem_filter.1 (hp.mem_iff.1 hb)).2
  simp at ha' hb'
  exact .inr ⟨ha'.trans hb'.symm, hab (ha'.trans hb'.symm)⟩

/-- A sorted list, up to a time and behind it. -/
theorem sorted_split : ∀ {L : List Tm}, L.Pairwise before → ∀ (a b : Int), a ≤ b → (L.filter fun x => decide (x.t ≤ a)) ++ (L.filter fun x => decide (a < x.t) && decide (x.t ≤ b)) = L.filter fun x => decide (x.t ≤ b)
  | [], _, a, b, _ => by simp
  | x :: L, h, a, b, hab => by
    rw [List.pairwise_cons] at h
    have ih := sorted_split h.2 a b hab
    by_cases h1 : x.t ≤ a
    · simp only [List.filter_cons]
      rw [if_pos (by simpa using h1), if_neg (by simp; omega), if_pos (by simp; omega), List.cons_append, ih]
    · have h0 : (L.filter fun y => decide (y.t ≤ a)) = [] := by
        rw [List.filter_eq_nil_iff]
        intro y hy
        have := h.1 y hy
        unfold before at this
        simp; omega
      rw [h0, List.nil_append] at ih
      by_cases h2 : x.t ≤ b
      · simp only [List.filter_cons]
        rw [if_neg (by simpa using h1), if_pos (by simp; omega), if_pos (by simpa using h2), h0, List.nil_append, ih]
      · simp only [List.filter_cons]
        rw [if_neg (by simpa using h1), if_neg (by simp; omega), if_neg (by simpa using h2), h0, List.nil_append, ih]
theorem erase_perm {α : Type} : ∀ {l : List α} {i : Nat} {y : α}, l[i]? = some y → (y :: l.eraseIdx i).Perm l
  | [], i, y, h => by simp at h
  | a :: l, 0, y, h => by simp at h; subst h; simp
  | a :: l, i + 1, y, h => by
    simp only [List.eraseIdx_cons_succ]
    exact (List.Perm.swap a y _).trans (List.Perm.cons _ (erase_perm (by simpa using h)))
end Go.Proofs.Ytkpkbbapaamflaa
