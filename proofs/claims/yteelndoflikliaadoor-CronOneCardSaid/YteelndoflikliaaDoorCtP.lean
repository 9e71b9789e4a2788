/- Crons are parsed. -/
import Derived.Test.YteelndoflikliaaDoorCtI
import Derived.Test.YteelndoflikliaaDoorSxF
set_option linter.unusedVariables false
set_option linter.unusedSimpArgs false
namespace Go.Proofs.YteelndoflikliaaDoor
open Go.Sx Go.RowKit

theorem split_lenC {c : UInt8} : ∀ (k : Nat) (s : ByteArray), Lib.countB s (one c) = k → (Lib.splitB (one c) 0 k s).length = k + 1
  | 0, s, _ => by rw [Lib.splitB_zero]; rfl
  | k + 1, s, h => by
    rcases Lib.indexB_cases s (one c) with hm | ⟨j, hj, hle⟩
    · rw [Lib.countB_miss _ _ hm] at h; omega
    · rw [Lib.countB_hit s (one c) j (Nat.le_refl 1) hj] at h
      rw [Lib.splitB_hit (one c) 0 k s j hj, List.length_cons, split_lenC k _ (by omega)]
theorem mem_join {c d : UInt8} : ∀ (L : List (List UInt8)), c ∈ Lib.join L [d] → c = d ∨ ∃ y ∈ L, c ∈ y
  | [], h => by rw [Lib.join_nil] at h; cases h
  | [x], h => by rw [Lib.join_one] at h; exact .inr ⟨x, List.mem_cons_self .., h⟩
  | x :: y :: L, h => by
    have e : Lib.join (x :: y :: L) [d] = x ++ d :: Lib.join (y :: L) [d] := by
      rw [Lib.join_cons, Lib.join_cons]
      simp [Lib.joinTail]
    rw [e] at h
    rcases List.mem_append.1 h with h | h
    · exact .inr ⟨x, List.mem_cons_self .., h⟩
    · rcases List.mem_cons.1 h with h | h
      · exact .inl h
      · rcases mem_join (y :: L) h with h | ⟨z, hz, h⟩
        · exact .inl h
        · exact .inr ⟨z, List.mem_cons_of_mem _ hz, h⟩

/-! ### Texts of a field, and of a cron -/
abbrev Itm := List UInt8 × Int × Int
def IT (low top : Int) (r : Itm) : Prop := (r.1 = [42] ∧ r.2.1 = low ∧ r.2.2 = top) ∨ (low ≤ r.2.1 ∧ r.2.1 ≤ r.2.2 ∧ r.2.2 ≤ top ∧ r.1 = run r.2.1 r.2.2)
def FTL (set low top : Int) (l : List UInt8) (L : List Itm) : Prop := L ≠ [] ∧ (∀ r ∈ L, IT low top r) ∧ l = Lib.join (L.map (·.1)) [44] ∧ ∀ j : Nat, tb set j = decide (∃ r ∈ L, r.2.1 ≤ (j : Int) ∧ (j : Int) ≤ r.2.2)
def FT (set low top : Int) (l : List UInt8) : Prop := ∃ L, FTL set low top l L
def CT (c : Cr) (s : ByteArray) : Prop := ∃ ls : List (List UInt8), ls.length = 5 ∧ (∀ i, i < 5 → FT (fld c i) (lows i) (tops i) (ls.getD i [])) ∧ s = ofL (Lib.join ls [32])
theorem it_no {low top : Int} (h0 : 0 ≤ low) {r : Itm} (h : IT low top r) {c : UInt8} (hc : c.toNat < 48) (h1 : c ≠ 45) (h2 : c ≠ 42) : c ∉ r.1 := by
  rcases h with ⟨h, _⟩ | ⟨a, b, _, h⟩
  · rw [h]; simpa using h2
  · rw [h]; exact run_no (by omega) (by omega) hc h1
theorem ft_no {set low top : Int} (h0 : 0 ≤ low) {l : List UInt8} (h : FT set low top l) : (32 : UInt8) ∉ l := by
  obtain ⟨L, _, hi, rfl, _⟩ := h
  intro hm
  rcases mem_join _ hm with h | ⟨y, hy, h⟩
  · exact absurd h (by decide)
  · obtain ⟨r, hr, rfl⟩ := List.mem_map.1 hy
    exact it_no h0 (hi r hr) (by decide) (by decide) (by decide) h
theorem low0 (i : Nat) : 0 ≤ lows i ∧ lows i ≤ tops i ∧ tops i ≤ 59 := by
  match i with
  | 0 => decide
  | 1 => decide
  | 2 => decide
  | 3 => decide
  | n + 4 => exact ⟨by simp [lows], by simp [lows, tops], by simp [tops]⟩
theorem ct_parts {c : Cr} {s : ByteArray} (h : CT c s) : Lib.countB s (one 32) = 4 ∧ ∀ i, i < 5 → ∃ l, (Lib.splitB (one 32) 0 (Lib.countB s (one 32)) s)[i]? = some (ofL l) ∧ FT (fld c i) (lows i) (tops i) l := by
  obtain ⟨ls, hl, hf, rfl⟩ := h
  cases ls with
  | nil => simp at hl
  | cons x l =>
    obtain ⟨h1, h2⟩ := join_split (c := 32) l x fun y hy => by
      obtain ⟨i, hi, rfl⟩ := List.getElem_of_mem hy
      have := hf i (by omega)
      rw [List.getD_eq_getElem?_getD, List.getElem?_eq_getElem hi] at this
      exact ft_no (low0 i).1 this
    rw [List.length_cons] at hl
    refine ⟨by omega, fun i hi => ?_⟩
    have hlt : i < (x :: l).length := by rw [List.length_cons]; omega
    have := hf i hi
    rw [List.getD_eq_getElem?_getD, List.getElem?_eq_getElem hlt] at this
    refine ⟨(x :: l)[i], ?_, this⟩
    rw [h1, h2, List.getElem?_map, List.getElem?_eq_getElem hlt]; rfl
theorem ft_parts {set low top : Int} (h0 : 0 ≤ low) {l : List UInt8} {L : List Itm} (h : FTL set low top l L) : Lib.countB (ofL l) (one 44) + 1 = L.length ∧ Lib.splitB (one 44) 0 (Lib.countB (ofL l) (one 44)) (ofL l) = L.map fun r => ofL r.1 := by
  obtain ⟨hne, hi, rfl, _⟩ := h
  cases L with
  | nil => exact absurd rfl hne
  | cons r L =>
    obtain ⟨h1, h2⟩ := join_split (c := 44) (L.map (·.1)) r.1 fun y hy => by
      have hy : y ∈ (r :: L).map (·.1) := hy
      obtain ⟨q, hq, rfl⟩ := List.mem_map.1 hy
      exact it_no h0 (hi q hq) (by decide) (by decide) (by decide)
    rw [List.length_map] at h1 h2
    rw [List.map_cons, h1, h2]
    exact ⟨rfl, by simp⟩
theorem ri_it {w w' : World} {s : ByteArray} {low top set : Int} {b : Bool} {r : Itm} (hr : IT low top r) (hs : s = ofL r.1)
    (z1 : s = ofL [42] → b = true ∧ ∀ j : Nat, tb set j = decide (low ≤ (j : Int) ∧ (j : Int) ≤ top)) (z2 : ∀ l t : Int, low ≤ l → l ≤ t → t ≤ top → s = ofL (run l t) → b = true ∧ ∀ j : Nat, tb set j = decide (l ≤ (j : Int) ∧ (j : Int) ≤ t)) :
    b = true ∧ ∀ j : Nat, tb set j = decide (r.2.1 ≤ (j : Int) ∧ (j : Int) ≤ r.2.2) := by
  rcases hr with ⟨h1, h2, h3⟩ | ⟨a, c, d, h⟩
  · rw [h2, h3]; exact z1 (by rw [hs, h1])
  · exact z2 _ _ a c d (by rw [hs, h])

/-! ### Fields in memory -/
def setF (c : Cr) (k : Nat) (x : Int) : Cr := match k with | 0 => { c with a := x } | 1 => { c with b := x } | 2 => { c with c := x } | 3 => { c with d := x } | _ => { c with e := x }
theorem encC_set (c : Cr) {k : Nat} (hk : k < 5) (x : Int) : (encC c).set k (.int .u64 x) = encC (setF c k x) := by
  match k, hk with
  | 0, _ | 1, _ | 2, _ | 3, _ | 4, _ => rfl
theorem fld_setF (c : Cr) {k i : Nat} (hk : k < 5) (hi : i < 5) (x : Int) : fld (setF c k x) i = if i = k then x else fld c i := by
  match k, i, hk, hi with
  | 0, 0, _, _ | 0, 1, _, _ | 0, 2, _, _ | 0, 3, _, _ | 0, 4, _, _ => rfl
  | 1, 0, _, _ | 1, 1, _, _ | 1, 2, _, _ | 1, 3, _, _ | 1, 4, _, _ => rfl
  | 2, 0, _, _ | 2, 1, _, _ | 2, 2, _, _ | 2, 3, _, _ | 2, 4, _, _ => rfl
  | 3, 0, _, _ | 3, 1, _, _ | 3, 2, _, _ | 3, 3, _, _ | 3, 4, _, _ => rfl
  | 4, 0, _, _ | 4, 1, _, _ | 4, 2, _, _ | 4, 3, _, _ | 4, 4, _, _ => rfl
theorem setF_setF (c : Cr) (k : Nat) (x y : Int) : setF (setF c k x) k y = setF c k y := by
  match k with
  | 0 | 1 | 2 | 3 => rfl
  | n + 4 => rfl
theorem cr_ext {c d : Cr} (h : ∀ i, i < 5 → fld c i = fld d i) : c = d := by
  have h0 := h 0 (by omega)
  have h1 := h 1 (by omega)
  have h2 := h 2 (by omega)
  have h3 := h 3 (by omega)
  have h4 := h 4 (by omega)
  cases c; cases d
  simp only [fld] at h0 h1 h2 h3 h4
  simp [h0, h1, h2, h3, h4]
theorem setF_zero {c : Cr} {k : Nat} (hk : k < 5) (h : fld c k = 0) : setF c k 0 = c := cr_ext fun i hi => by
  rw [fld_setF c hk hi]
  split
  · rename_i e; subst e; exact h.symm
  · rfl
theorem crU_iff {c : Cr} : CrU c ↔ ∀ i, i < 5 → U (fld c i) := by
  constructor
  · rintro ⟨a, b, c', d, e⟩ i hi
    match i, hi with
    | 0, _ => exact a
    | 1, _ => exact b
    | 2, _ => exact c'
    | 3, _ => exact d
    | 4, _ => exact e
  · intro h
    exact ⟨h 0 (by omega), h 1 (by omega), h 2 (by omega), h 3 (by omega), h 4 (by omega)⟩
abbrev fieldsL (p : Option Addr) : List Value := [.pointer (pAdd p 0), .int .i64 0, .int .i64 59, .pointer (pAdd p 1), .int .i64 0, .int .i64 23, .pointer (pAdd p 2), .int .i64 1, .int .i64 31, .pointer (pAdd p 3), .int .i64 1, .int .i64 12, .pointer (pAdd p 4), .int .i64 0, .int .i64 6]
theorem field_at {w : World} {q p : Option Addr} (cs : Cells w q (fieldsL p)) : fieldsAt w q p := by
  intro k h0 h1
  rcases five h0 h1 with rfl | rfl | rfl | rfl | rfl
  · exact ⟨by rw [cell_pIdx]; exact cs 0 _ rfl, by rw [cell_pIdx]; exact cs 1 _ rfl, by rw [cell_pIdx]; exact cs 2 _ rfl⟩
  · exact ⟨by rw [cell_pIdx]; exact cs 3 _ rfl, by rw [cell_pIdx]; exact cs 4 _ rfl, by rw [cell_pIdx]; exact cs 5 _ rfl⟩
  · exact ⟨by rw [cell_pIdx]; exact cs 6 _ rfl, by rw [cell_pIdx]; exact cs 7 _ rfl, by rw [cell_pIdx]; exact cs 8 _ rfl⟩
  · exact ⟨by rw [cell_pIdx]; exact cs 9 _ rfl, by rw [cell_pIdx]; exact cs 10 _ rfl, by rw [cell_pIdx]; exact cs 11 _ rfl⟩
  · exact ⟨by rw [cell_pIdx]; exact cs 12 _ rfl, by rw [cell_pIdx]; exact cs 13 _ rfl, by rw [cell_pIdx]; exact cs 14 _ rfl⟩
theorem fieldsC_k (p : Option Addr) (hp : p ≠ none) (w : World) : FnP Tryd.prog F_cron_fields #[.pointer p] w fun v w' => Ext w w' ∧ ∃ q, v = .slice q 5 5 ∧ Cells w' q (fieldsL p) ∧ ∀ x, q = some x → w.heap.size ≤ x.block := by
  refine ok_cron_fields p w _ ⟨hp, hp, hp, hp, hp, hp, hp, hp, hp, hp, fun w0 h0 => ?_⟩
  refine run_lit elem_sl_cron_field [(.agg #[(.pointer (pAdd p 0)), (.int .i64 0), (.int .i64 59)]), (.agg #[(.pointer (pAdd p 1)), (.int .i64 0), (.int .i64 23)]), (.agg #[(.pointer (pAdd p 2)), (.int .i64 1), (.int .i64 31)]), (.agg #[(.pointer (pAdd p 3)), (.int .i64 1), (.int .i64 12)]), (.agg #[(.pointer (pAdd p 4)), (.int .i64 0), (.int .i64 6)])] rfl rfl (by intro v hv; simp at hv; rcases hv with rfl | rfl | rfl | rfl | rfl <;> rfl) (by omega) (by omega) fun w1 o1 e1 => ⟨e1, _, _, _, rfl, fun w5 h5 => ⟨(h0.trans e1).trans h5, _, rfl, ?_, fun x hx => ?_⟩⟩
  · have cs := ((o1 0 (Nat.zero_le _)).ext h5).cells
    simpa [Value.cells] using cs
  · obtain rfl := Option.some.inj hx
    exact h0.size
end Go.Proofs.YteelndoflikliaaDoor
