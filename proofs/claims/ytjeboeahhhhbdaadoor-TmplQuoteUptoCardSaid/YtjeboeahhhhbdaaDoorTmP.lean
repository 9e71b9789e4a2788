/- Scripts with gaps, in plain words: pieces, names, what stands for them. -/
import Derived.Test.YtjeboeahhhhbdaaDoorLbA
import Derived.Lib.IndexLaws
import Derived.Lib.CutLaws
set_option linter.unusedVariables false
set_option linter.unusedSimpArgs false
namespace Go.Proofs.YtjeboeahhhhbdaaDoor
open Go.Sx Go.RowKit

abbrev By := List UInt8
def ofL (l : By) : ByteArray := ⟨l.toArray⟩
theorem ofL_list (l : By) : (ofL l).data.toList = l := rfl
theorem ofL_size (l : By) : (ofL l).size = l.length := rfl
theorem ofL_of (s : ByteArray) : ofL s.data.toList = s := by cases s; rfl
theorem bs_app (a b : ByteArray) : (a ++ b).data.toList = a.data.toList ++ b.data.toList := by simp
theorem ofL_app (a b : By) : ofL a ++ ofL b = ofL (a ++ b) := by
  rw [← ofL_of (ofL a ++ ofL b), bs_app]; rfl
theorem ofL_inj {a b : By} (h : ofL a = ofL b) : a = b := congrArg (fun s : ByteArray => s.data.toList) h
theorem ofL_ext {a : By} {s : ByteArray} : ofL a = s ↔ a = s.data.toList := ⟨fun h => by rw [← h]; rfl, fun h => by rw [h, ofL_of]⟩

/-- One sign: what stands ahead of it, what behind it. -/
def cutAt (c : UInt8) : By → By × By × Bool
  | [] => ([], [], false)
  | x :: l => if x = c then ([], l, true) else (x :: (cutAt c l).1, (cutAt c l).2.1, (cutAt c l).2.2)
theorem cutAt_cases (c : UInt8) : ∀ l : By, (c ∉ l ∧ cutAt c l = (l, [], false)) ∨ ∃ a b, l = a ++ c :: b ∧ c ∉ a ∧ cutAt c l = (a, b, true)
  | [] => .inl ⟨by simp, rfl⟩
  | x :: l => by
    by_cases hx : x = c
    · subst hx; exact .inr ⟨[], l, rfl, by simp, by simp [cutAt]⟩
    · rcases cutAt_cases c l with ⟨h1, h2⟩ | ⟨a, b, h1, h2, h3⟩
      · exact .inl ⟨by simp [h1, Ne.symm hx], by simp [cutAt, hx, h2]⟩
      · exact .inr ⟨x :: a, b, by simp [h1], by simp [h2, Ne.symm hx], by simp [cutAt, hx, h3]⟩
theorem index_one (c : UInt8) : ∀ l : By, (c ∉ l ∧ Lib.index l [c] = -1) ∨ ∃ a b, l = a ++ c :: b ∧ c ∉ a ∧ Lib.index l [c] = a.length
  | [] => .inl ⟨by simp, rfl⟩
  | x :: l => by
    have e : Lib.index (x :: l) [c] = if x = c then 0 else if Lib.index l [c] == -1 then -1 else Lib.index l [c] + 1 := by
      rw [Lib.index]
      by_cases h : x = c
      · subst h; simp [List.isPrefixOf]
      · have : ([c] : By).isPrefixOf (x :: l) = false := by simp [List.isPrefixOf]; exact fun he => h he.symm
        rw [this, if_neg h]; try rfl
    rw [e]
    by_cases hx : x = c
    · subst hx; exact .inr ⟨[], l, rfl, by simp, by simp⟩
    · rcases index_one c l with ⟨h1, h2⟩ | ⟨a, b, h1, h2, h3⟩
      · exact .inl ⟨by simp [h1, Ne.symm hx], by simp [hx, h2]⟩
      · refine .inr ⟨x :: a, b, by simp [h1], by simp [h2, Ne.symm hx], ?_⟩
        rw [if_neg hx, h3, if_neg (by simp <;> omega)]; simp
theorem split_uniq {c : UInt8} : ∀ {a a' b b' : By}, a ++ c :: b = a' ++ c :: b' → c ∉ a → c ∉ a' → a = a' ∧ b = b'
  | [], [], b, b', h, _, _ => by simpa using h
  | [], x :: a', b, b', h, _, h2 => by simp at h h2; exact absurd h.1 h2.1
  | x :: a, [], b, b', h, h1, _ => by simp at h h1; exact absurd h.1.symm h1.1
  | x :: a, y :: a', b, b', h, h1, h2 => by
    simp only [List.cons_append, List.cons.injEq] at h
    have := split_uniq h.2 (fun hm => h1 (List.mem_cons_of_mem _ hm)) fun hm => h2 (List.mem_cons_of_mem _ hm)
    exact ⟨by rw [h.1, this.1], this.2⟩
theorem cut_at (c : UInt8) (l : By) : Lib.cut l [c] = cutAt c l := by
  unfold Lib.cut
  rcases cutAt_cases c l with ⟨h1, h2⟩ | ⟨a, b, h1, h2, h3⟩ <;> rcases index_one c l with ⟨k1, k2⟩ | ⟨a', b', k1, k2, k3⟩
  · rw [h2, k2, if_neg (by omega)]
  · exact absurd (by rw [k1]; simp) h1
  · exact absurd (by rw [h1]; simp) k1
  · obtain ⟨rfl, rfl⟩ := split_uniq (h1.symm.trans k1) h2 k2
    rw [h3, k3, if_pos (by omega), h1]
    simp

/-- A piece of a script: text, or the name of a gap. -/
inductive Sg where
  | txt (l : By)
  | gap (n : By)
deriving DecidableEq

def lbL (n : By) : Prop := lbB (ofL n) = true
theorem lb_no {n : By} (h : lbL n) {c : UInt8} (hc : okC (c.toNat : Int) = false) : c ∉ n := fun hm => by
  unfold lbL lbB at h
  simp only [Bool.and_eq_true, List.all_eq_true] at h
  have := h.2 (c.toNat : Int) (by unfold bytesI; rw [ofL_list]; exact List.mem_map.2 ⟨c, hm, rfl⟩)
  rw [hc] at this; cases this
theorem lb_36 {n : By} (h : lbL n) : (36 : UInt8) ∉ n := lb_no h (by decide)
theorem lb_125 {n : By} (h : lbL n) : (125 : UInt8) ∉ n := lb_no h (by decide)
theorem lb_123 {n : By} (h : lbL n) : (123 : UInt8) ∉ n := lb_no h (by decide)

/-- How a script falls into pieces; false: where none of both begins. -/
inductive Segs : By → List Sg → Bool → Prop where
  | stop {s : By} (h : (36 : UInt8) ∉ s) : Segs s [.txt s] true
  | dol {a r : By} {L : List Sg} {b : Bool} (h : (36 : UInt8) ∉ a) (k : Segs r L b) : Segs (a ++ 36 :: 36 :: r) (.txt a :: .txt [36] :: L) b
  | gap {a n r : By} {L : List Sg} {b : Bool} (h : (36 : UInt8) ∉ a) (hn : lbL n) (k : Segs r L b) : Segs (a ++ 36 :: 123 :: (n ++ 125 :: r)) (.txt a :: .gap n :: L) b
  | bad {a r : By} (h : (36 : UInt8) ∉ a) (h1 : ∀ t, r ≠ 36 :: t) (h2 : ∀ n t, lbL n → r ≠ 123 :: (n ++ 125 :: t)) : Segs (a ++ 36 :: r) [.txt a] false

theorem Segs.uniq {s : By} {L L' : List Sg} {b b' : Bool} (h : Segs s L b) (k : Segs s L' b') : L = L' ∧ b = b' := by
  induction h generalizing L' b' with
  | @stop s h =>
    cases k with
    | stop h' => exact ⟨rfl, rfl⟩
    | dol h' k => exact absurd (by simp) h
    | gap h' hn k => exact absurd (by simp) h
    | bad h' h1 h2 => exact absurd (by simp) h
  | @dol a r L b h k' ih =>
    generalize hs : a ++ 36 :: 36 :: r = s at k
    cases k with
    | stop h' => subst hs; exact absurd (by simp) h'
    | dol h' k =>
      obtain ⟨rfl, e⟩ := split_uniq hs h h'
      simp only [List.cons.injEq, true_and] at e
      subst e
      obtain ⟨rfl, rfl⟩ := ih k
      exact ⟨rfl, rfl⟩
    | gap h' hn k => obtain ⟨_, e⟩ := split_uniq hs h h'; simp at e
    | bad h' h1 h2 => obtain ⟨_, e⟩ := split_uniq hs h h'; exact absurd e.symm (h1 _)
  | @gap a n r L b h hn k' ih =>
    generalize hs : a ++ 36 :: 123 :: (n ++ 125 :: r) = s at k
    cases k with
    | stop h' => subst hs; exact absurd (by simp) h'
    | dol h' k => obtain ⟨_, e⟩ := split_uniq hs h h'; simp at e
    | gap h' hn' k =>
      obtain ⟨rfl, e⟩ := split_uniq hs h h'
      simp only [List.cons.injEq, true_and] at e
      obtain ⟨rfl, rfl⟩ := split_uniq e (lb_125 hn) (lb_125 hn')
      obtain ⟨rfl, rfl⟩ := ih k
      exact ⟨rfl, rfl⟩
    | bad h' h1 h2 => obtain ⟨_, e⟩ := split_uniq hs h h'; exact absurd e.symm (h2 _ _ hn)
  | @bad a r h h1 h2 =>
    generalize hs : a ++ 36 :: r = s at k
    cases k with
    | stop h' => subst hs; exact absurd (by simp) h'
    | dol h' k => obtain ⟨_, e⟩ := split_uniq hs h h'; exact absurd e (h1 _)
    | gap h' hn k => obtain ⟨_, e⟩ := split_uniq hs h h'; exact absurd e (h2 _ _ hn)
    | bad h' k1 k2 => obtain ⟨rfl, _⟩ := split_uniq hs h h'; exact ⟨rfl, rfl⟩

/-- What a script is filled to, by a value of each name. -/
def flat (v : By → By) : List Sg → By
  | [] => []
  | .txt l :: L => l ++ flat v L
  | .gap n :: L => v n ++ flat v L
def gaps : List Sg → List By
  | [] => []
  | .txt _ :: L => gaps L
  | .gap n :: L => n :: gaps L
theorem flat_app (v : By → By) : ∀ (L M : List Sg), flat v (L ++ M) = flat v L ++ flat v M
  | [], M => rfl
  | .txt l :: L, M => by simp [flat, flat_app v L M]
  | .gap l :: L, M => by simp [flat, flat_app v L M]
theorem gaps_app : ∀ (L M : List Sg), gaps (L ++ M) = gaps L ++ gaps M
  | [], M => rfl
  | .txt l :: L, M => by simp [gaps, gaps_app L M]
  | .gap l :: L, M => by simp [gaps, gaps_app L M]
theorem flat_congr {v u : By → By} : ∀ {L : List Sg}, (∀ n ∈ gaps L, v n = u n) → flat v L = flat u L
  | [], _ => rfl
  | .txt l :: L, h => by simp only [flat]; rw [flat_congr (L := L) h]
  | .gap n :: L, h => by
    simp only [flat]
    rw [h n (by simp [gaps]), flat_congr (L := L) fun m hm => h m (by simp [gaps, hm])]
/-- Each once, in the order in which they come first. -/
def nub : List By → List By → List By
  | acc, [] => acc
  | acc, n :: r => nub (if n ∈ acc then acc else acc ++ [n]) r
theorem nub_app : ∀ (r acc t : List By), nub acc (r ++ t) = nub (nub acc r) t
  | [], acc, t => rfl
  | n :: r, acc, t => nub_app r _ t
theorem nub_mem : ∀ (r acc : List By) (n : By), n ∈ nub acc r ↔ n ∈ acc ∨ n ∈ r
  | [], acc, n => by simp [nub]
  | m :: r, acc, n => by
    simp only [nub, nub_mem r, List.mem_cons]
    split
    · rename_i h
      constructor
      · rintro (h1 | h1)
        · exact .inl h1
        · exact .inr (.inr h1)
      · rintro (h1 | h1 | h1)
        · exact .inl h1
        · subst h1; exact .inl h
        · exact .inr h1
    · simp [or_assoc]
theorem nub_nodup : ∀ (r acc : List By), acc.Nodup → (nub acc r).Nodup
  | [], acc, h => h
  | m :: r, acc, h => by
    simp only [nub]
    refine nub_nodup r _ ?_
    split
    · exact h
    · rename_i hm
      rw [List.nodup_append]
      exact ⟨h, by simp, fun x hx y hy he => by simp at hy; subst hy; subst he; exact hm hx⟩
def names (L : List Sg) : List By := nub [] (gaps L)
theorem names_mem {L : List Sg} {n : By} : n ∈ names L ↔ n ∈ gaps L := by simp [names, nub_mem]
theorem names_nodup (L : List Sg) : (names L).Nodup := nub_nodup _ _ (by simp)

theorem Segs.label {s : By} {L : List Sg} {b : Bool} (h : Segs s L b) : ∀ n ∈ gaps L, lbL n := by
  induction h with
  | stop h => intro n hn; simp [gaps] at hn
  | dol h k ih => intro n hn; exact ih n (by simpa [gaps] using hn)
  | gap h hn k ih =>
    intro m hm
    simp only [gaps, List.mem_cons] at hm
    rcases hm with rfl | hm
    · exact hn
    · exact ih m hm
  | bad h h1 h2 => intro n hn; simp [gaps] at hn
theorem Segs.short {s : By} {L : List Sg} {b : Bool} (h : Segs s L b) : (flat (fun _ => []) L).length ≤ s.length := by
  induction h with
  | stop h => simp [flat]
  | dol h k ih => simp [flat]; omega
  | gap h hn k ih => simp [flat]; omega
  | bad h h1 h2 => simp [flat]
theorem Segs.count {s : By} {L : List Sg} {b : Bool} (h : Segs s L b) : (gaps L).length ≤ s.length := by
  induction h with
  | stop h => simp [gaps]
  | dol h k ih => simp [gaps]; omega
  | gap h hn k ih => simp [gaps]; omega
  | bad h h1 h2 => simp [gaps]
/-- Text ahead of a script is text of its first piece. -/
theorem Segs.front {a t : By} {M : List Sg} {b : Bool} (ha : (36 : UInt8) ∉ a) (h : Segs t M b) : ∃ M', Segs (a ++ t) M' b ∧ gaps M' = gaps M ∧ ∀ v, flat v M' = a ++ flat v M := by
  have mem : ∀ {x : By}, (36 : UInt8) ∉ x → (36 : UInt8) ∉ a ++ x := fun hx hm => (List.mem_append.1 hm).elim ha hx
  cases h with
  | stop h => exact ⟨_, .stop (mem h), rfl, fun v => by simp [flat]⟩
  | @dol a' r L _ h k => exact ⟨.txt (a ++ a') :: .txt [36] :: L, by rw [← List.append_assoc]; exact .dol (mem h) k, rfl, fun v => by simp [flat]⟩
  | @gap a' n r L _ h hn k => exact ⟨.txt (a ++ a') :: .gap n :: L, by rw [← List.append_assoc]; exact .gap (mem h) hn k, rfl, fun v => by simp [flat]⟩
  | @bad a' r h h1 h2 => exact ⟨[.txt (a ++ a')], by rw [← List.append_assoc]; exact .bad (mem h) h1 h2, rfl, fun v => by simp [flat]⟩
/-- Two scripts, one behind the other. -/
theorem Segs.join {s t : By} {L M : List Sg} {b c : Bool} (h : Segs s L b) (hb : b = true) (k : Segs t M c) : ∃ K, Segs (s ++ t) K c ∧ gaps K = gaps L ++ gaps M ∧ ∀ v, flat v K = flat v L ++ flat v M := by
  induction h with
  | stop h =>
    obtain ⟨K, h1, h2, h3⟩ := k.front h
    exact ⟨K, h1, by simpa [gaps] using h2, fun v => by simpa [flat] using h3 v⟩
  | @dol a r L _ h k' ih =>
    obtain ⟨K, h1, h2, h3⟩ := ih hb
    refine ⟨.txt a :: .txt [36] :: K, ?_, ?_, fun v => ?_⟩
    · simpa using Segs.dol h h1
    · simp [gaps, h2]
    · simp [flat, h3]
  | @gap a n r L _ h hn k' ih =>
    obtain ⟨K, h1, h2, h3⟩ := ih hb
    refine ⟨.txt a :: .gap n :: K, ?_, ?_, fun v => ?_⟩
    · simpa using Segs.gap h hn h1
    · simp [gaps, h2]
    · simp [flat, h3]
  | bad h h1 h2 => cases hb
/-- Each '$' as two of them. -/
def dbl : By → By
  | [] => []
  | x :: l => if x = 36 then 36 :: 36 :: dbl l else x :: dbl l
theorem dbl_segs : ∀ s : By, ∃ L, Segs (dbl s) L true ∧ gaps L = [] ∧ ∀ v, flat v L = s
  | [] => ⟨_, .stop (by simp [dbl]), rfl, fun v => by simp [flat, dbl]⟩
  | x :: s => by
    obtain ⟨L, h1, h2, h3⟩ := dbl_segs s
    by_cases hx : x = 36
    · subst hx
      refine ⟨.txt [] :: .txt [36] :: L, ?_, by simpa [gaps] using h2, fun v => by simp [flat, h3]⟩
      have := Segs.dol (a := []) (by simp) h1
      simpa [dbl] using this
    · obtain ⟨M, k1, k2, k3⟩ := h1.front (a := [x]) (by simp; exact fun h => hx h.symm)
      refine ⟨M, by simpa [dbl, hx] using k1, k2.trans h2, fun v => by rw [k3, h3]; rfl⟩
/-- One gap alone. -/
theorem segs_gap {n : By} (hn : lbL n) : Segs (36 :: 123 :: (n ++ [125])) [.txt [], .gap n, .txt []] true := by
  have := Segs.gap (a := []) (b := true) (L := [.txt []]) (by simp) hn (.stop (by simp))
  simpa using this
end Go.Proofs.YtjeboeahhhhbdaaDoor
