/- An item of a cron's field. -/
import Derived.Test.YteelndoflikliaaDoorCtB
set_option linter.unusedVariables false
set_option linter.unusedSimpArgs false
namespace Go.Proofs.YteelndoflikliaaDoor
open Go.Sx Go.RowKit

theorem cut_miss {c : UInt8} {a : List UInt8} (h : c ∉ a) : Lib.cut a [c] = (a, [], false) := by
  unfold Lib.cut
  rw [idx_miss h, if_neg (by omega)]
theorem cut_size1 (s : List UInt8) (c : UInt8) : (Lib.cut s [c]).1.length ≤ s.length := by
  unfold Lib.cut
  split
  · simp only [List.length_take]; omega
  · simp
def run (l t : Int) : List UInt8 := if l < t then Lib.itoa l ++ 45 :: Lib.itoa t else Lib.itoa l
theorem itoa_head {n : Int} (h : 0 ≤ n) : ∃ c r, Lib.itoa n = c :: r ∧ 48 ≤ c.toNat ∧ c.toNat ≤ 57 := by
  rw [itoa_dec h]
  cases hl : Lib.decDigits n.toNat with
  | nil => exact absurd hl (dec_ne _)
  | cons c r =>
    have := dec_digits n.toNat c (by rw [hl]; exact List.mem_cons_self ..)
    exact ⟨c, r, rfl, this⟩
theorem run_head {l t : Int} (h : 0 ≤ l) : ∃ c r, run l t = c :: r ∧ 48 ≤ c.toNat ∧ c.toNat ≤ 57 := by
  obtain ⟨c, r, e, hc⟩ := itoa_head h
  unfold run
  split
  · exact ⟨c, r ++ 45 :: Lib.itoa t, by rw [e]; rfl, hc⟩
  · exact ⟨c, r, e, hc⟩
theorem run_star {l t : Int} (h : 0 ≤ l) : ofL (run l t) ≠ ofL [42] := fun he => by
  obtain ⟨c, r, e, hc⟩ := run_head (t := t) h
  have := ofL_inj he
  rw [e] at this
  injection this with h1 _
  rw [h1] at hc
  exact absurd hc.1 (by decide)
theorem run_no {l t : Int} (h : 0 ≤ l) (ht : 0 ≤ t) {c : UInt8} (hc : c.toNat < 48) (hne : c ≠ 45) : c ∉ run l t := fun hm => by
  unfold run at hm
  split at hm
  · rcases List.mem_append.1 hm with h1 | h1
    · exact itoa_no h hc h1
    · rcases List.mem_cons.1 h1 with h1 | h1
      · exact hne h1
      · exact itoa_no ht hc h1
  · exact itoa_no h hc hm
theorem run_len {l t : Int} (h : 0 ≤ l) (ht : l ≤ t) (h1 : t ≤ 62) : (run l t).length ≤ 5 := by
  unfold run
  have a := itoa_two h (by omega : l ≤ 99)
  have b := itoa_two (m := t) (by omega) (by omega)
  split
  · rw [List.length_append, List.length_cons]; omega
  · omega

/-- What an item answers. -/
abbrev RI (w : World) (s : ByteArray) (low top : Int) (v : Value) (w' : World) : Prop := Ext w w' ∧ ∃ (set : Int) (b : Bool), v = .tuple #[.int .u64 set, .bool b] ∧
  (b = true → U set ∧ set ≠ 0 ∧ ∀ j : Nat, tb set j = true → low ≤ (j : Int) ∧ (j : Int) ≤ top) ∧
  (s = ofL [42] → b = true ∧ ∀ j : Nat, tb set j = decide (low ≤ (j : Int) ∧ (j : Int) ≤ top)) ∧
  (∀ l t : Int, low ≤ l → l ≤ t → t ≤ top → s = ofL (run l t) → b = true ∧ ∀ j : Nat, tb set j = decide (l ≤ (j : Int) ∧ (j : Int) ≤ t))
theorem ri_no {w w' : World} {s : ByteArray} {low top : Int} (x : Ext w w') (h1 : s ≠ ofL [42]) (h2 : ∀ l t : Int, low ≤ l → l ≤ t → t ≤ top → s ≠ ofL (run l t)) : RI w s low top (.tuple #[.int .u64 0, .bool false]) w' :=
  ⟨x, 0, false, rfl, fun h => (by cases h), fun h => absurd h h1, fun l t a b c h => absurd h (h2 l t a b c)⟩
theorem ri_yes {w w' : World} {s : ByteArray} {low top lo tp step set : Int} (x : Ext w w') (hl : low ≤ lo) (ht : tp ≤ top) (h : stepped lo tp lo tp step set)
    (h1 : s = ofL [42] → step = 1 ∧ lo = low ∧ tp = top) (h2 : ∀ l t : Int, low ≤ l → l ≤ t → t ≤ top → s = ofL (run l t) → step = 1 ∧ lo = l ∧ tp = t) : RI w s low top (.tuple #[.int .u64 set, .bool true]) w' := by
  obtain ⟨hu, hlo, hb, hs⟩ := h
  refine ⟨x, set, true, rfl, fun _ => ⟨hu, fun h => ?_, fun j hj => ?_⟩, fun h => ⟨rfl, ?_⟩, fun l t a b c h => ⟨rfl, ?_⟩⟩
  · rw [h, tb_zero] at hlo; cases hlo
  · have := hb j hj; omega
  · obtain ⟨rfl, rfl, rfl⟩ := h1 h; exact hs rfl
  · obtain ⟨rfl, rfl, rfl⟩ := h2 l t a b c h; exact hs rfl

theorem item_k (p : Option Addr) (low top : Int) (h0 : 0 ≤ low) (h1 : low ≤ top) (h2 : top ≤ 62) (s : ByteArray) (hs : s.size ≤ 1000) (w : World) (g : GB w) :
    FnP Tryd.prog F_cron_field_item #[.agg #[.pointer p, .int .i64 low, .int .i64 top], .string s] w (RI w s low top) := by
  refine ok_cron_field_item p low top s w _ fun b0 _ w1 x1 => (Cut_k 47 s (by omega) w1 (g.ext x1)).mono fun v w2 ⟨e2, hv⟩ => ⟨e2, _, _, _, hv, fun w6 x6 => ?_⟩
  have F1 : s = ofL [42] → ofL (Lib.cut s.data.toList [47]).1 = ofL [42] ∧ (Lib.cut s.data.toList [47]).2.2 = false := fun h => by
    subst h; exact ⟨rfl, rfl⟩
  have F2 : ∀ l t : Int, low ≤ l → l ≤ t → t ≤ top → s = ofL (run l t) → ofL (Lib.cut s.data.toList [47]).1 = s ∧ (Lib.cut s.data.toList [47]).2.2 = false := fun l t a b c h => by
    subst h
    have : Lib.cut (ofL (run l t)).data.toList [47] = (run l t, [], false) := cut_miss (run_no (by omega) (by omega) (by decide) (by decide))
    rw [this]; exact ⟨rfl, rfl⟩
  have S1 : (ofL (Lib.cut s.data.toList [47]).1).size ≤ s.size := by
    have := cut_size1 s.data.toList 47
    have hsz : s.data.toList.length = s.size := by simp
    rw [ofL_size]; omega
  have S2 : (ofL (Lib.cut s.data.toList [47]).2.1).size ≤ s.size := by
    have := cut_size s.data.toList 47
    have hsz : s.data.toList.length = s.size := by simp
    rw [ofL_size]; omega
  generalize ofL (Lib.cut s.data.toList [47]).1 = hd at F1 F2 S1 ⊢
  generalize ofL (Lib.cut s.data.toList [47]).2.1 = ev at S2 ⊢
  generalize (Lib.cut s.data.toList [47]).2.2 = st at F1 F2 ⊢
  refine (Cut_k 45 hd (by omega) w6 (g.ext x6)).mono fun v w7 ⟨e7, hv⟩ => ⟨e7, _, _, _, hv, ?_⟩
  have F3 : ∀ l t : Int, low ≤ l → l ≤ t → t ≤ top → s = ofL (run l t) → ofL (Lib.cut hd.data.toList [45]).1 = ofL (Lib.itoa l) ∧ (l < t → ofL (Lib.cut hd.data.toList [45]).2.1 = ofL (Lib.itoa t) ∧ (Lib.cut hd.data.toList [45]).2.2 = true) ∧ (l = t → (Lib.cut hd.data.toList [45]).2.2 = false) := fun l t a b c h => by
    rw [(F2 l t a b c h).1, h]
    by_cases hlt : l < t
    · have : Lib.cut (ofL (run l t)).data.toList [45] = (Lib.itoa l, Lib.itoa t, true) := by
        have e : run l t = Lib.itoa l ++ 45 :: Lib.itoa t := by unfold run; rw [if_pos hlt]
        rw [e]
        exact cut_hit _ (itoa_no (by omega) (by decide))
      rw [this]; exact ⟨rfl, fun _ => ⟨rfl, rfl⟩, fun h => by omega⟩
    · have : Lib.cut (ofL (run l t)).data.toList [45] = (Lib.itoa l, [], false) := by
        have e : run l t = Lib.itoa l := by unfold run; rw [if_neg hlt]
        rw [e]
        exact cut_miss (itoa_no (by omega) (by decide))
      rw [this]; exact ⟨rfl, fun h => absurd h hlt, fun _ => rfl⟩
  have S3 : (ofL (Lib.cut hd.data.toList [45]).1).size ≤ s.size := by
    have := cut_size1 hd.data.toList 45
    have hsz : hd.data.toList.length = hd.size := by simp
    rw [ofL_size]; omega
  have S4 : (ofL (Lib.cut hd.data.toList [45]).2.1).size ≤ s.size := by
    have := cut_size hd.data.toList 45
    have hsz : hd.data.toList.length = hd.size := by simp
    rw [ofL_size]; omega
  generalize ofL (Lib.cut hd.data.toList [45]).1 = fi at F3 S3 ⊢
  generalize ofL (Lib.cut hd.data.toList [45]).2.1 = la at F3 S4 ⊢
  generalize (Lib.cut hd.data.toList [45]).2.2 = tw at F3 ⊢
  refine ⟨fun hns => ?_, fun hst => ?_⟩
  · have ns : s ≠ ofL [42] := fun h => hns (F1 h).1
    intro w11 x11
    refine (number_k fi (by omega) low top w11 (g.ext x11)).mono fun v w12 ⟨e12, n1, b1, hv, y1, z1⟩ => ⟨e12, n1, b1, hv, fun hb w15 x15 => ri_no x15 ns fun l t a b c h => ?_, fun hb => ?_⟩
    · have := (z1 l (by omega) (by omega) a (by omega) (F3 l t a b c h).1).1
      rw [hb] at this; cases this
    obtain ⟨l1, l2, _⟩ := y1 hb
    have Z1 : ∀ l t : Int, low ≤ l → l ≤ t → t ≤ top → s = ofL (run l t) → n1 = l := fun l t a b c h => (z1 l (by omega) (by omega) a (by omega) (F3 l t a b c h).1).2
    refine ⟨fun htw w15 x15 => ?_, fun htw => ⟨fun hbad w15 x15 => ri_no x15 ns fun l t a b c h => ?_, fun hor => ⟨fun hs1 => ?_, fun hs0 => ?_⟩⟩⟩
    · refine (number_k la (by omega) n1 top w15 (g.ext x15)).mono fun v w16 ⟨e16, n2, b2, hv, y2, z2⟩ => ⟨e16, n2, b2, hv, fun hor w19 x19 => ri_no x19 ns fun l t a b c h => ?_, fun hor => ?_⟩
      · have f3 := F3 l t a b c h
        have hlt : l < t := by
          rcases Int.lt_or_eq_of_le b with h' | h'
          · exact h'
          · have := f3.2.2 h'; rw [htw] at this; cases this
        rcases hor with h' | h'
        · have := (z2 t (by omega) (by omega) (by rw [Z1 l t a b c h]; exact b) c (f3.2.1 hlt).1).1
          rw [h'] at this; cases this
        · rw [htw] at h'; exact absurd h'.2 (by simp)
      · obtain ⟨m1, m2, _⟩ := y2 hor.1
        refine ⟨fun hs1 w19 x19 => ?_, fun hs0 => ?_⟩
        · refine (number_k ev (by omega) 1 99 w19 (g.ext x19)).mono fun v w20 ⟨e20, n3, b3, hv, y3, _⟩ => ⟨e20, n3, b3, hv, fun hb3 w23 x23 => ri_no x23 ns fun l t a b c h => ?_, fun hb3 => ?_⟩
          · have := (F2 l t a b c h).2; rw [hs1] at this; cases this
          · obtain ⟨k1, k2, _⟩ := y3 hb3
            refine loop_ok (by omega) m1 (by omega) k1 k2 fun set w' x' hst => ri_yes x' l1 m2 hst (fun h => absurd h ns) fun l t a b c h => ?_
            have := (F2 l t a b c h).2; rw [hs1] at this; cases this
        · refine loop_ok (step := 1) (by omega) m1 (by omega) (by omega) (by omega) fun set w' x' hst => ri_yes x' l1 m2 hst (fun h => absurd h ns) fun l t a b c h => ?_
          have f3 := F3 l t a b c h
          have hlt : l < t := by
            rcases Int.lt_or_eq_of_le b with h' | h'
            · exact h'
            · have := f3.2.2 h'; rw [htw] at this; cases this
          exact ⟨rfl, Z1 l t a b c h, (z2 t (by omega) (by omega) (by rw [Z1 l t a b c h]; exact b) c (f3.2.1 hlt).1).2⟩
    · have := (F2 l t a b c h).2; rw [hbad.1] at this; cases this
    · exact absurd hor (by rw [hs1, htw]; simp)
    · refine loop_ok (step := 1) (by omega) (Int.le_refl _) (by omega) (by omega) (by omega) fun set w' x' hst => ri_yes x' l1 l2 hst (fun h => absurd h ns) fun l t a b c h => ?_
      have f3 := F3 l t a b c h
      have heq : l = t := by
        rcases Int.lt_or_eq_of_le b with h' | h'
        · have := (f3.2.1 h').2; rw [htw] at this; cases this
        · exact h'
      exact ⟨rfl, Z1 l t a b c h, (Z1 l t a b c h).trans heq⟩
  · have nr : ∀ l t : Int, low ≤ l → l ≤ t → t ≤ top → s ≠ ofL (run l t) := fun l t a b c h => by
      have := (F2 l t a b c h).1
      rw [h] at this
      exact run_star (by omega) (this.symm.trans hst)
    refine ⟨fun hs1 w11 x11 => ?_, fun hs0 => ?_⟩
    · have ns : s ≠ ofL [42] := fun h => by have := (F1 h).2; rw [hs1] at this; cases this
      refine (number_k ev (by omega) 1 99 w11 (g.ext x11)).mono fun v w12 ⟨e12, n3, b3, hv, y3, _⟩ => ⟨e12, n3, b3, hv, fun hb3 w15 x15 => ri_no x15 ns nr, fun hb3 => ?_⟩
      obtain ⟨k1, k2, _⟩ := y3 hb3
      exact loop_ok h0 h1 h2 k1 k2 fun set w' x' hst => ri_yes x' (Int.le_refl _) (Int.le_refl _) hst (fun h => absurd h ns) fun l t a b c h => absurd h (nr l t a b c)
    · exact loop_ok (step := 1) h0 h1 h2 (by omega) (by omega) fun set w' x' hst => ri_yes x' (Int.le_refl _) (Int.le_refl _) hst (fun _ => ⟨rfl, rfl, rfl⟩) fun l t a b c h => absurd h (nr l t a b c)
end Go.Proofs.YteelndoflikliaaDoor
