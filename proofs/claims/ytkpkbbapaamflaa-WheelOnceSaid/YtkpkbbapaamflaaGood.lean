/- Small things that all laws use: integers' bounds; whether all errors are none. -/
import Derived.Test.YtkpkbbapaamflaaTxt
set_option linter.unusedVariables false
set_option linter.unusedSimpArgs false
namespace Go.Proofs.Ytkpkbbapaamflaa
open Go.Sx Go.RowKit

theorem i64 {x : Int} (h : -9223372036854775808 ≤ x ∧ x ≤ 9223372036854775807) : InR .i64 x := h
theorem of64 {x : Int} (h : InR .i64 x) : -9223372036854775808 ≤ x ∧ x ≤ 9223372036854775807 := h
theorem td {a b : Int} (h : 0 ≤ a) : a.tdiv b = a / b := Int.tdiv_eq_ediv_of_nonneg h
theorem tm {a b : Int} (h : 0 ≤ a) : a.tmod b = a % b := Int.tmod_eq_emod_of_nonneg h
theorem wrap64 {x : Int} (h : -9223372036854775808 ≤ x ∧ x ≤ 9223372036854775807) : IntKind.wrap .i64 x = x := by
  simp [IntKind.wrap, IntKind.signed, IntKind.bits]; omega
theorem wrap_in (x : Int) : InR .i64 (IntKind.wrap .i64 x) := by
  constructor <;> simp [IntKind.wrap, IntKind.signed, IntKind.bits, IntKind.min, IntKind.max] <;> omega
theorem b_true {b : Bool} (h : b = true) : Value.bool b = .bool true := by rw [h]

theorem indexf_k (p : Option Addr) (l c : Nat) (xs : List Int) (hl : xs.length = l) (h63 : l ≤ 1000000) (w : World) (hx : Ints .i64 w p xs) :
    FnP Try.prog F_slices_IndexFunc_api_Errno_api_Errno #[.slice p l c, .func (.func F_shiftbellkeep_good_1) #[] #[]] w fun v w' => Ext w w' ∧ ∃ t, v = .int .i64 t ∧ (0 ≤ t ↔ ∃ x ∈ xs, x ≠ 0) := by
  refine ok_slices_IndexFunc_api_Errno_api_Errno p l c _ w _ ?_
  refine ⟨fun k w' => Ext w w' ∧ 0 ≤ k ∧ k ≤ l ∧ ∀ (i : Nat) x, xs[i]? = some x → (i : Int) < k → x = 0, fun k _ => (l - k).toNat, ⟨Ext.refl w, by omega, by omega, fun i x _ h => by omega⟩, ?_⟩
  intro k w2 ⟨hw, hk0, hk1, hz⟩
  refine ⟨fun hlt => ⟨?_, hk0, hlt, _, Ints.idx (hx.ext hw) hk0 (by rw [hl]; exact hlt), fun w4 h4 => ?_⟩, fun hge w3 h3 => ⟨hw.trans h3, _, rfl, ?_⟩⟩
  · exact hx.ne (by intro h; simp at h; subst h; simp at hl; omega)
  · refine ⟨_, _, rfl, (ok_shiftbellkeep_good_1 _ w4 _ (fun w5 h5 => ⟨h5, _, rfl, ?_⟩))⟩
    have hget : xs[k.toNat]? = some (xs.getD k.toNat 0) := by
      have : k.toNat < xs.length := by omega
      simp [this, List.getD_eq_getElem?_getD]
    refine ⟨fun ht w7 h7 => ⟨hw.trans h7, _, rfl, ?_⟩, fun ht => ⟨i64 (by omega), ⟨hw, by omega, by omega, fun i x hi hlt' => ?_⟩, by simp only []; omega⟩⟩
    · exact ⟨fun _ => ⟨_, List.mem_of_getElem? hget, by simpa using ht⟩, fun _ => hk0⟩
    · by_cases h : (i : Int) < k
      · exact hz i x hi h
      · obtain rfl : i = k.toNat := by omega
        rw [hget] at hi
        obtain rfl := Option.some.inj hi
        simpa using ht
  · constructor
    · intro h; omega
    · rintro ⟨x, hm, hne⟩
      obtain ⟨i, hi⟩ := List.mem_iff_getElem?.1 hm
      have := (List.getElem?_eq_some_iff.1 hi).1
      exact absurd (hz i x hi (by omega)) hne

theorem good_k (p : Option Addr) (l c : Nat) (xs : List Int) (hl : xs.length = l) (h63 : l ≤ 1000000) (w : World) (hx : Ints .i64 w p xs) :
    FnP Try.prog F_shiftbellkeep_good #[.slice p l c] w fun v w' => Ext w w' ∧ v = .bool (decide (∀ x ∈ xs, x = 0)) := by
  refine ok_shiftbellkeep_good p l c w _ ?_
  intro w0 h0
  refine (ok_slices_ContainsFunc_api_Errno_api_Errno p l c _ w0 _ ?_ : FnP Try.prog F_slices_ContainsFunc_api_Errno_api_Errno #[.slice p l c, .func (.func F_shiftbellkeep_good_1) #[] #[]] w0 _)
  intro w1 h1
  refine (indexf_k p l c xs hl h63 w1 ((hx.ext h0).ext h1)).mono fun v w2 ⟨e2, t, hv, ht⟩ => ⟨e2, t, hv, fun w3 h3 => ⟨h3, _, rfl, fun w4 h4 => ⟨h4, ?_⟩⟩⟩
  congr 1
  rw [Bool.eq_iff_iff]
  simp only [Bool.not_eq_true', decide_eq_false_iff_not, decide_eq_true_eq, ht, ne_eq, not_exists, not_and, Classical.not_not]

theorem good_lit {w : World} (xs : List Int) {n : Nat} {parts : List (Nat × Value)} {K : Bool → World → Prop} (hp : parts = partsOf 0 (xs.map (.int .i64))) (hn : n = xs.length) (h0 : 0 < n) (h63 : n ≤ 1000)
    (hk : ∀ w2, Ext w w2 → K (decide (∀ x ∈ xs, x = 0)) w2) :
    ∀ w1, Ext w w1 → Run Try.prog (.buildSlice T_sl_Errno n parts) w1 fun v2 w2 => Ext w1 w2 ∧ ∃ q : Option Addr, ∃ m : Nat, ∃ d : Nat, v2 = .slice q m d ∧ ∀ w3, Ext w2 w3 →
      FnP Try.prog F_shiftbellkeep_good #[.slice q m d] w3 fun v4 w4 => Ext w3 w4 ∧ ∃ t : Bool, v4 = .bool t ∧ K t w2 := by
  intro w1 e1
  refine run_lit elem_sl_Errno (xs.map (.int .i64)) hp (by simpa using hn) (by intro v hv; simp at hv; obtain ⟨x, _, rfl⟩ := hv; rfl) (by omega) (by omega) fun w2 o2 e2 => ⟨e2, _, _, _, rfl, fun w3 e3 => ?_⟩
  have o3 := ((o2 w1.heap.size (Nat.le_refl _)).ext e3).cells
  have hcs : (List.map (Value.int IntKind.i64) xs).flatMap (fun v => v.cells.toList) = xs.map (.int .i64) := by
    clear hp hn h0 hk o2 o3
    induction xs with
    | nil => rfl
    | cons a r ih => simp only [List.map_cons, List.flatMap_cons, ih]; rfl
  rw [hcs] at o3
  exact (good_k _ n n xs hn.symm (by omega) w3 o3).mono fun v w4 ⟨h4, hv⟩ => ⟨h4, _, hv, hk w2 (e1.trans e2)⟩
end Go.Proofs.Ytkpkbbapaamflaa
