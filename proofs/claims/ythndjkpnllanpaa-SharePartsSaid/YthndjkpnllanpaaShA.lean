/- What the functions of package share answer: what is checked, and levels. -/
import Derived.Test.YthndjkpnllanpaaGood
set_option linter.unusedVariables false
set_option linter.unusedSimpArgs false
namespace Go.Proofs.Ythndjkpnllanpaa
open Go.Sx Go.RowKit

def okS (all : Int) (l : List Int) : Prop := 0 ≤ all ∧ all ≤ 1099511627776 ∧ l.length ≤ 100 ∧ ∀ x ∈ l, 0 ≤ x ∧ x ≤ 1099511627776
open Classical in
noncomputable def errS (all : Int) (l : List Int) : Int := if ¬ (0 ≤ all ∧ all ≤ 1099511627776) then 1 else if 100 < l.length then 2 else if (∀ x ∈ l, 0 ≤ x ∧ x ≤ 1099511627776) then 0 else 4

theorem errS_ok {all : Int} {l : List Int} : errS all l = 0 ↔ okS all l := by
  unfold errS okS
  by_cases h1 : 0 ≤ all ∧ all ≤ 1099511627776
  · rw [if_neg (by simpa using h1)]
    by_cases h2 : 100 < l.length
    · rw [if_pos h2]; constructor <;> intro h' <;> omega
    · rw [if_neg h2]
      by_cases h3 : ∀ x ∈ l, 0 ≤ x ∧ x ≤ 1099511627776
      · rw [if_pos h3]; exact ⟨fun _ => ⟨h1.1, h1.2, by omega, h3⟩, fun _ => rfl⟩
      · rw [if_neg h3]; exact ⟨fun h' => by omega, fun h' => absurd h'.2.2.2 h3⟩
  · rw [if_pos h1]; constructor <;> intro h' <;> omega

theorem check_k (all : Int) (p : Option Addr) (c : Nat) (l : List Int) (h63 : (l.length : Int) ≤ 9223372036854775807) (w : World) (h : Ints .i64 w p l) : FnP Try.prog F_share_Check #[.int .i64 all, .slice p l.length c] w fun v w' => Ext w w' ∧ v = .int .i64 (errS all l) := by
  refine ok_share_Check all p l.length c w _ ?_
  refine ⟨fun ha w0 h0 => ⟨h0, by unfold errS; rw [if_pos (by omega)]⟩, fun ha => ⟨fun hl w0 h0 => ⟨h0, by unfold errS; rw [if_neg (by omega), if_pos (by omega)]⟩, fun hl => ?_⟩⟩
  have e0 : (∀ x ∈ l, 0 ≤ x ∧ x ≤ 1099511627776) → errS all l = 0 := fun h => by unfold errS; rw [if_neg (by omega), if_neg (by omega), if_pos h]
  have e4 : (¬ ∀ x ∈ l, 0 ≤ x ∧ x ≤ 1099511627776) → errS all l = 4 := fun h => by unfold errS; rw [if_neg (by omega), if_neg (by omega), if_neg h]
  refine ⟨fun k w' => w' = w ∧ 0 ≤ k ∧ k ≤ l.length ∧ ∀ i : Nat, (i : Int) < k → 0 ≤ l.getD i 0 ∧ l.getD i 0 ≤ 1099511627776, fun k _ => (l.length - k).toNat, ⟨rfl, by omega, by omega, fun i hi => by omega⟩, ?_⟩
  rintro k _ ⟨rfl, hk0, hk1, hok⟩
  refine ⟨fun hlt => ⟨fun hp => ?_, hk0, hlt, _, h.idx hk0 hlt, fun hb w4 h4 => ⟨h4, ?_⟩, fun hg => ⟨i64 (by omega), ⟨rfl, by omega, by omega, fun i hi => ?_⟩, by simp only []; omega⟩⟩, fun hge w3 h3 => ⟨h3, ?_⟩⟩
  · exact cell_p (h.idx hk0 hlt) (pIdx_none.2 hp)
  · rw [e4 fun hall => by have := hall _ (getD_mem l 0 (i := k.toNat) (by omega)); omega]
  · by_cases hik : (i : Int) < k
    · exact hok i hik
    · obtain rfl : i = k.toNat := by omega
      exact hg
  · rw [e0 fun x hx => ?_]
    obtain ⟨i, hi⟩ := List.mem_iff_getElem?.1 hx
    have hlt := (List.getElem?_eq_some_iff.1 hi).1
    have := hok i (by omega)
    rw [List.getD_eq_getElem?_getD, hi] at this
    exact this

/-- All that is asked for, but of none more than n. -/
def upTo : List Int → Int → Int
  | [], _ => 0
  | x :: r, n => min x n + upTo r n
/-- How many ask for more than n. -/
def over : List Int → Int → Int
  | [], _ => 0
  | x :: r, n => (if n < x then 1 else 0) + over r n

theorem upTo_append : ∀ (l r : List Int) (n : Int), upTo (l ++ r) n = upTo l n + upTo r n
  | [], r, n => by simp [upTo]
  | x :: l, r, n => by simp only [List.cons_append, upTo]; rw [upTo_append l r n]; omega
theorem upTo_take_succ (l : List Int) (n : Int) {k : Nat} (h : k < l.length) : upTo (l.take (k + 1)) n = upTo (l.take k) n + min (l.getD k 0) n := by
  rw [List.take_succ_eq_append_getElem h, upTo_append]
  simp [upTo, List.getD_eq_getElem?_getD, h]
theorem upTo_bounds {c n : Int} (hn : 0 ≤ n) : ∀ {l : List Int}, (∀ x ∈ l, 0 ≤ x ∧ x ≤ c) → 0 ≤ upTo l n ∧ upTo l n ≤ l.length * c
  | [], _ => by simp [upTo]
  | x :: l, h => by
    have h1 := h x (List.mem_cons_self ..)
    have h2 := upTo_bounds hn (fun y hy => h y (List.mem_cons_of_mem _ hy))
    simp only [upTo, List.length_cons]
    rw [show ((l.length + 1 : Nat) : Int) * c = l.length * c + c by rw [Int.natCast_add, Int.add_mul]; simp]
    omega
theorem upTo_mono {m n : Int} (h : m ≤ n) : ∀ l : List Int, upTo l m ≤ upTo l n
  | [] => Int.le_refl _
  | x :: l => by simp only [upTo]; have := upTo_mono h l; omega
theorem upTo_succ (n : Int) : ∀ l : List Int, upTo l (n + 1) = upTo l n + over l n
  | [] => rfl
  | x :: l => by simp only [upTo, over]; rw [upTo_succ n l]; split <;> omega
theorem upTo_zero : ∀ {l : List Int}, (∀ x ∈ l, 0 ≤ x) → upTo l 0 = 0
  | [], _ => rfl
  | x :: l, h => by
    have := h x (List.mem_cons_self ..)
    simp only [upTo]; rw [upTo_zero fun y hy => h y (List.mem_cons_of_mem _ hy)]; omega
theorem upTo_all {c : Int} : ∀ {l : List Int}, (∀ x ∈ l, x ≤ c) → upTo l c = sumL l
  | [], _ => rfl
  | x :: l, h => by
    have := h x (List.mem_cons_self ..)
    simp only [upTo, sumL]; rw [upTo_all fun y hy => h y (List.mem_cons_of_mem _ hy)]; omega
theorem upTo_le_sum (n : Int) : ∀ l : List Int, upTo l n ≤ sumL l
  | [] => Int.le_refl _
  | x :: l => by simp only [upTo, sumL]; have := upTo_le_sum n l; omega
theorem over_zero {n : Int} : ∀ {l : List Int}, (∀ x ∈ l, x ≤ n) → over l n = 0
  | [], _ => rfl
  | x :: l, h => by
    have := h x (List.mem_cons_self ..)
    simp only [over]; rw [over_zero fun y hy => h y (List.mem_cons_of_mem _ hy), if_neg (by omega)]; rfl

theorem upTo_k (p : Option Addr) (c : Nat) (l : List Int) (n : Int) (hl : l.length ≤ 100) (hx : ∀ x ∈ l, 0 ≤ x ∧ x ≤ 1099511627776) (hn : 0 ≤ n) (w : World) (h : Ints .i64 w p l) : FnP Try.prog F_share_upTo #[.slice p l.length c, .int .i64 n] w fun v w' => Ext w w' ∧ v = .int .i64 (upTo l n) := by
  refine ok_share_upTo p l.length c n w _ ?_
  refine ⟨fun s k w' => w' = w ∧ 0 ≤ k ∧ k ≤ l.length ∧ s = upTo (l.take k.toNat) n, fun _ k _ => (l.length - k).toNat, ⟨rfl, by omega, by omega, by simp [upTo]⟩, ?_⟩
  rintro s k _ ⟨rfl, hk0, hk1, rfl⟩
  refine ⟨fun hlt => ?_, fun hge w4 h4 => ⟨h4, ?_⟩⟩
  · have hb := upTo_bounds hn (l := l.take (k + 1).toNat) (fun x h => hx x (List.mem_of_mem_take h))
    have hlen : ((l.take (k + 1).toNat).length : Int) ≤ 100 := by rw [List.length_take]; omega
    have hk' : (k + 1).toNat = k.toNat + 1 := by omega
    have hs : upTo (l.take k.toNat) n + min (l.getD k.toNat 0) n = upTo (l.take (k + 1).toNat) n := by rw [hk', upTo_take_succ _ _ (by omega)]
    refine ⟨fun hp => cell_p (h.idx hk0 hlt) (pIdx_none.2 hp), hk0, hlt, _, h.idx hk0 hlt, ?_⟩
    rw [hs]
    exact ⟨i64 (by omega), i64 (by omega), ⟨rfl, by omega, by omega, rfl⟩, by simp only []; omega⟩
  · rw [List.take_of_length_le (by omega)]

theorem search_k (f : Value) (n : Int) (hn : 0 ≤ n ∧ n ≤ 4611686018427387904) (g : Int → Bool) (w : World)
    (hf : ∀ i, 0 ≤ i → i < n → ∀ w', Ext w w' → FnVP Try.prog f [.int .i64 i] w' fun v w'' => Ext w' w'' ∧ v = .bool (g i)) :
    FnP Try.prog F_sort_Search #[.int .i64 n, f] w fun v w' => Ext w w' ∧ ∃ i, v = .int .i64 i ∧ 0 ≤ i ∧ i ≤ n ∧ (i = 0 ∨ g (i - 1) = false) ∧ (i = n ∨ g i = true) := by
  refine ok_sort_Search n f w _ ?_
  refine ⟨fun i j w' => Ext w w' ∧ 0 ≤ i ∧ i ≤ j ∧ j ≤ n ∧ (i = 0 ∨ g (i - 1) = false) ∧ (j = n ∨ g j = true), fun i j _ => (j - i).toNat, ⟨Ext.refl w, by omega, by omega, by omega, .inl rfl, .inl rfl⟩, ?_⟩
  rintro i j w3 ⟨hw, h0, hij, hj, hi', hj'⟩
  rw [shr1]
  refine ⟨fun hlt => ⟨i64 (by omega), ⟨by simp [IntKind.min, IntKind.signed]; omega, by simp [IntKind.max, IntKind.signed, IntKind.bits]; omega⟩, i64 (by omega), fun w4 h4 => ?_⟩, fun hge w4 h4 => ⟨hw.trans h4, _, rfl, h0, by omega, hi', (by have e : i = j := (by omega); rw [e]; exact hj')⟩⟩
  obtain ⟨F, cap, e1, e2⟩ := hf ((i + j) / 2) (by omega) (by omega) w4 (hw.trans h4)
  refine ⟨F, cap, e1, e2.mono fun v w5 ⟨e5, hv⟩ => ⟨e5, _, hv, fun ht => ⟨i64 (by omega), ⟨hw, by omega, by omega, by omega, .inr ?_, hj'⟩, by simp only []; omega⟩, fun ht => ⟨⟨hw, by omega, by omega, by omega, hi', .inr ht⟩, by simp only []; omega⟩⟩⟩
  rw [show (i + j) / 2 + 1 - 1 = (i + j) / 2 by omega]; exact ht

/-- The level: the greatest one at which not more is asked for than there is. -/
def Lev (all : Int) (l : List Int) (n : Int) : Prop := 0 ≤ n ∧ n ≤ 1099511627776 ∧ upTo l n ≤ all ∧ (n = 1099511627776 ∨ all < upTo l (n + 1))

theorem lev_unique {all : Int} {l : List Int} {m n : Int} (h : Lev all l m) (k : Lev all l n) : m = n := by
  obtain ⟨h1, h2, h3, h4⟩ := h
  obtain ⟨k1, k2, k3, k4⟩ := k
  rcases Int.lt_trichotomy m n with hl | hl | hl
  · have := upTo_mono (show m + 1 ≤ n by omega) l; omega
  · exact hl
  · have := upTo_mono (show n + 1 ≤ m by omega) l; omega

theorem level_k (all : Int) (p : Option Addr) (c : Nat) (l : List Int) (hok : okS all l) (w : World) (h : Ints .i64 w p l) : FnP Try.prog F_share_level #[.int .i64 all, .slice p l.length c] w fun v w' => Ext w w' ∧ ∃ n, v = .int .i64 n ∧ Lev all l n := by
  obtain ⟨h1, h2, h3, h4⟩ := hok
  refine ok_share_level all p l.length c w _ ?_
  intro w0 h0
  refine new_one rfl fun p1 w1 e1 c1 _ _ => fun w2 h2' => new_one rfl fun p3 w3 e3 c3 _ _ => fun w4 h4' => ?_
  have hx4 : Ext w w4 := (((h0.trans e1).trans h2').trans e3).trans h4'
  have c1' := ext_cell h4' (ext_cell e3 (ext_cell h2' c1))
  have c3' := ext_cell h4' c3
  refine (search_k _ 1099511627776 (by omega) (fun i => decide (all < upTo l (i + 1))) w4 (fun i hi0 hi1 w' hw' => ?_)).mono fun v w5 ⟨e5, i, hv, r1, r2, r3, r4⟩ => ⟨e5, i, hv, fun w7 h7 => ⟨(((h0.trans e1).trans h2').trans e3).trans h7, i, rfl, r1, r2, ?_, ?_⟩⟩
  · refine ⟨_, _, rfl, (ok_share_level_1 i p3 p1 w' _ ⟨p, l.length, c, ext_cell hw' c3', i64 (by omega), all, ext_cell hw' c1', fun w6 h6 => ?_⟩ : FnP Try.prog 22 _ _ _)⟩
    refine (upTo_k p c l (i + 1) h3 h4 (by omega) w6 (((h.ext hx4).ext hw').ext h6)).mono fun v w7 ⟨e7, hv⟩ => ⟨e7, _, hv, fun w8 h8 => ⟨h8, rfl⟩⟩
  · rcases r3 with rfl | r3
    · rw [upTo_zero fun x hx => (h4 x hx).1]; exact h1
    · simp at r3; exact r3
  · rcases r4 with r4 | r4
    · exact .inl r4
    · exact .inr (by simpa using r4)

theorem Level_k (all : Int) (p : Option Addr) (c : Nat) (l : List Int) (h63 : (l.length : Int) ≤ 9223372036854775807) (w : World) (h : Ints .i64 w p l) : FnP Try.prog F_share_Level #[.int .i64 all, .slice p l.length c] w fun v w' => Ext w w' ∧ ∃ n, v = .tuple #[.int .i64 n, .int .i64 (errS all l)] ∧ (okS all l → Lev all l n) := by
  refine ok_share_Level all p l.length c w _ ?_
  intro w0 h0
  refine (check_k all p c l h63 w0 (h.ext h0)).mono fun v w1 ⟨e1, hv⟩ => ⟨e1, _, hv, fun hne w3 h3 => ⟨h3, _, rfl, fun hok => absurd (errS_ok.2 hok) hne⟩, fun he w3 h3 => ?_⟩
  have hok := errS_ok.1 he
  refine (level_k all p c l hok w3 (h.ext h3)).mono fun v w4 ⟨e4, n, hv, hn⟩ => ⟨e4, n, hv, fun w5 h5 => ⟨h5, n, by rw [he], fun _ => hn⟩⟩

theorem shares_k (w : World) : FnP Try.prog F_shiftbellkeep_shares #[] w fun v w' => Ext w w' ∧ v = .bool true := by
  refine ok_shiftbellkeep_shares w _ ?_
  intro w0 h0
  refine run_lit elem_sl_int64 [.int .i64 3, .int .i64 9] rfl rfl (by intro v hv; simp at hv; rcases hv with rfl | rfl <;> rfl) (by omega) (by omega) fun w1 o1 e1 => ⟨e1, _, _, _, rfl, fun w5 h5 => ?_⟩
  have o5 := (o1 0 (Nat.zero_le _)).ext h5
  have hI : Ints .i64 w5 (some ⟨w0.heap.size, 0, none⟩) [3, 9] := o5.cells
  have hok : okS 10 [3, 9] := ⟨by omega, by omega, by simp, by intro x hx; simp at hx; omega⟩
  refine (Level_k 10 _ 2 [3, 9] (by simp) w5 hI).mono fun v w6 ⟨e6, n, hv, hn⟩ => ⟨e6, n, _, hv, fun w9 h9 => ⟨(h0.trans e1).trans h9, b_true ?_⟩⟩
  have hu := lev_unique (hn hok) (n := 7) ⟨by omega, by omega, by decide, .inr (by decide)⟩
  rw [errS_ok.2 hok, hu]; rfl
end Go.Proofs.Ythndjkpnllanpaa
