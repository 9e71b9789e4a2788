/- The reader of asks: one sign taken, a word, an ask. -/
import Derived.Test.YtenppnomdejmlaaGreatDoorAtX
import Derived.Test.YtenppnomdejmlaaGreatDoorTxtE
import Derived.Test.YtenppnomdejmlaaGreatDoorIxA
set_option linter.unusedVariables false
set_option linter.unusedSimpArgs false
namespace Go.Proofs.YtenppnomdejmlaaGreatDoor
open Go.Sx Go.RowKit

/-! ### Words, in plain terms -/
def sgs : List UInt8 := [63, 61, 62, 33, 40, 41, 38, 124]
def sep (l : List UInt8) : Prop := l = [] ∨ ∃ x r, l = x :: r ∧ x ∈ sgs
theorem sep_cons {x : UInt8} {r : List UInt8} (h : x ∈ sgs) : sep (x :: r) := .inr ⟨x, r, rfl, h⟩
def asc (l : List UInt8) : Prop := ∀ b ∈ l, b.toNat < 128
theorem asc_at {l : List UInt8} : asc l ↔ ∀ (j : Nat) b, l[j]? = some b → b.toNat < 128 :=
  ⟨fun h j b hb => h b (List.mem_of_getElem? hb), fun h b hb => by obtain ⟨j, hj⟩ := List.getElem?_of_mem hb; exact h j b hj⟩
theorem any_at {a b : List UInt8} (ha : ∀ x ∈ a, x ∉ sgs) (hb : sep b) : (b = [] ∧ Lib.indexAny (a ++ b) sgs = -1) ∨ (b ≠ [] ∧ Lib.indexAny (a ++ b) sgs = a.length) := by
  have hno : ∀ j, j ≤ a.length → Lib.NoAny (a ++ b) sgs j := fun j hj i x hi hx => by
    rw [List.getElem?_append_left (by omega)] at hx
    have := ha x (List.mem_of_getElem? hx)
    simpa using this
  rcases hb with rfl | ⟨x, r, rfl, hx⟩
  · exact .inl ⟨rfl, Lib.indexAny_none (by rw [List.append_nil] at hno ⊢; exact hno _ (Nat.le_refl _))⟩
  · exact .inr ⟨by simp, Lib.indexAny_hit (x := x) (hno _ (Nat.le_refl _)) (by simp) (by simpa using hx)⟩

theorem IndexAny_k (s : ByteArray) (hs : s.size ≤ 2000) (w : World) : FnP Tryz.prog F_strings_IndexAny #[.string s, .string (⟨#[63, 61, 62, 33, 40, 41, 38, 124]⟩ : ByteArray)] w fun v w' => Ext w w' ∧ ∃ n : Int, v = .int .i64 n ∧ n < s.size ∧ (asc s.data.toList → n = Lib.indexAny s.data.toList sgs) :=
  ⟨fun args w => Tryz.call83 args w, (Any.IndexAny_any Tryz.lays153 (by kernel_rfl) s _ w (by decide) (by omega) (by decide) (by
    intro j b hb
    have : b ∈ sgs := List.mem_of_getElem? hb
    have key : ∀ b ∈ sgs, b.toNat < 128 := by decide
    exact key b this)).mono fun e w' ⟨⟨n, he, hn, hv⟩, hb⟩ => ⟨_, he, hb, n, rfl, hn, fun h => hv (asc_at.1 h)⟩⟩

/-! ### The reader -/
abbrev RD (B : Nat) (w : World) (rb : Nat) (l : List UInt8) (left : Nat) : Prop := Own B w T_ask_reader 2 (some ⟨rb, 0, none⟩) 1 1 [.string (ofL l), .int .i64 left]
abbrev rp (rb : Nat) : Value := .pointer (some ⟨rb, 0, none⟩)
theorem RD.lt {B : Nat} {w : World} {rb : Nat} {l : List UInt8} {left : Nat} (o : RD B w rb l left) : rb < w.heap.size := Own.size_lt o
theorem RD.cells {B : Nat} {w : World} {rb : Nat} {l : List UInt8} {left : Nat} (o : RD B w rb l left) : cell w (pAdd (some ⟨rb, 0, none⟩) 0) 0 = some (.string (ofL l)) ∧ cell w (pAdd (some ⟨rb, 0, none⟩) 1) 0 = some (.int .i64 left) := by
  have h0 : cell w (some ⟨rb, 0, none⟩) 0 = some (.string (ofL l)) := Own.cells o 0 _ rfl
  have h1 : cell w (some ⟨rb, 0, none⟩) 1 = some (.int .i64 left) := Own.cells o 1 _ rfl
  exact ⟨by rw [cell_pAdd]; exact h0, by rw [cell_pAdd]; exact h1⟩
theorem RD.fr {B : Nat} {w w' : World} {rb : Nat} {l : List UInt8} {left : Nat} {S : Nat → Prop} (o : RD B w rb l left) (k : Fr S w w') (h : ¬ S rb) : RD B w' rb l left := Own.fr o k fun a ha => by obtain rfl := Option.some.inj ha; exact h
theorem RD.put {B : Nat} {w : World} {rb : Nat} {l m : List UInt8} {left : Nat} (o : RD B w rb l left) {t : ByteArray} (ht : t = ofL m) {K : World → Prop} (hk : ∀ w', RD B w' rb m left → Fr (· = rb) w w' → K w') : Store w (pAdd (some ⟨rb, 0, none⟩) 0) [.string t] [] K :=
  store_own (off := 0) o rfl (by simp) (by simp) (by intro v hv; simp at hv; subst hv; rfl) (by simp) fun w' o' g => hk w' (by subst ht; exact o') (fr_grew g fun a ha => by obtain rfl := Option.some.inj ha; rfl)
theorem RD.left {B : Nat} {w : World} {rb : Nat} {l : List UInt8} {left : Nat} {b0 : Nat} (o : RD B w rb l left) (hb : b0 ≠ rb) {x : Int} {m : Nat} (hx : x = m) {K : World → Prop} (hk : ∀ w', RD B w' rb l m → Fr (· = rb) w w' → K w') : Store w (pAdd (some ⟨rb, 0, none⟩) 1) [.int .i64 x] [b0] K :=
  store_own (off := 1) o rfl (by simp) (by simp) (by intro v hv; simp at hv; subst hv; rfl) (by intro b hb' y hy hh; simp at hb'; subst hb'; obtain rfl := Option.some.inj hy; exact hb hh.symm) fun w' o' g => hk w' (by subst hx; exact o') (fr_grew g fun a ha => by obtain rfl := Option.some.inj ha; rfl)

theorem take_k {B : Nat} {w : World} {rb : Nat} {l : List UInt8} {left : Nat} (o : RD B w rb l left) (hl : l.length ≤ 2000) (c : UInt8) (ci : Int) (hc : ci = c.toNat) :
    FnP Tryz.prog F_ask_reader_take #[rp rb, .int .u8 ci] w fun v w' => Fr (· = rb) w w' ∧ ((∃ r, l = c :: r ∧ v = .bool true ∧ RD B w' rb r left) ∨ ((∀ r, l ≠ c :: r) ∧ v = .bool false ∧ RD B w' rb l left)) := by
  subst hc
  obtain ⟨g0, _⟩ := o.cells
  cases l with
  | nil =>
    refine ok_ask_reader_take _ _ w _ ⟨by simp, by simp, _, g0, fun _ => by simp, fun _ => by simp, fun _ w1 h1 => ⟨fr_ext h1, .inr ⟨fun r => by simp, rfl, Own.ext o h1⟩⟩, fun h => absurd rfl h⟩
  | cons x r =>
    have hx : sAt (ofL (x :: r)) 0 = (x.toNat : Int) := rfl
    refine ok_ask_reader_take _ _ w _ ⟨by simp, by simp, _, g0, fun _ => by simp, fun _ => by simp, fun h => absurd h (by intro h; have := congrArg (fun s : ByteArray => s.data.toList) h; simp [ofL] at this), fun _ => ⟨_, g0, Int.le_refl _, by rw [ofL_size]; simp, fun hne w2 h2 => ⟨fr_ext h2, .inr ⟨fun r' he => ?_, rfl, Own.ext o h2⟩⟩, fun he => ⟨by simp, by simp, _, g0, by omega, by rw [ofL_size]; simp; omega, Int.le_refl _, by simp, by simp, ?_⟩⟩⟩
    · rw [hx] at hne
      simp at he
      rw [he.1] at hne
      exact hne rfl
    · rw [hx] at he
      have hxc : x = c := UInt8.toNat_inj.1 (by omega)
      subst hxc
      refine o.put (m := r) ?_ fun w3 o3 f3 w4 h4 => ⟨f3.tr (fr_ext h4), .inl ⟨r, rfl, rfl, Own.ext o3 h4⟩⟩
      rw [← ofL_of (ByteArray.extract _ _ _)]
      congr 1
      rw [ofL_size]
      simp [ofL]

theorem word_k {B : Nat} {w : World} {rb : Nat} {l : List UInt8} {left : Nat} (o : RD B w rb l left) (hl : l.length ≤ 2000) :
    FnP Tryz.prog F_ask_reader_word #[rp rb] w fun v w' => Fr (· = rb) w w' ∧ ∃ a b, v = .string (ofL a) ∧ l = a ++ b ∧ RD B w' rb b left ∧ (∀ a0 b0, l = a0 ++ b0 → asc l → (∀ x ∈ a0, x ∉ sgs) → sep b0 → a = a0 ∧ b = b0) := by
  obtain ⟨g0, _⟩ := o.cells
  refine ok_ask_reader_word _ w _ ⟨by simp, by simp, _, g0, fun w1 h1 => (IndexAny_k (ofL l) (by rw [ofL_size]; omega) w1).mono fun v w2 ⟨e2, n, hv, hn, hval⟩ => ⟨e2, n, hv, fun hneg => ⟨by simp, by simp, _, g0, by simp, by simp, _, g0, Int.le_refl _, by omega, Int.le_refl _, by simp, by simp, _, g0, by omega, Int.le_refl _, Int.le_refl _, by simp, by simp, ?_⟩, fun hge => ⟨by simp, by simp, _, g0, Int.le_refl _, hge, by omega, by simp, by simp, _, g0, hge, by omega, Int.le_refl _, by simp, by simp, ?_⟩⟩⟩
  · refine o.put (m := []) ?_ fun w3 o3 f3 w4 h4 => ⟨f3.tr (fr_ext h4), l, [], ?_, by simp, Own.ext o3 h4, fun a0 b0 he hasc ha hb => ?_⟩
    · rw [← ofL_of (ByteArray.extract _ _ _)]
      congr 1
      simp [ofL]
    · rw [← ofL_of (ByteArray.extract _ _ _)]
      congr 2
      simp [ofL]
    · have hv' := hval hasc
      rw [ofL_list, he] at hv'
      rcases any_at ha hb with ⟨hb0, _⟩ | ⟨_, hq⟩
      · subst hb0; exact ⟨by rw [he, List.append_nil], rfl⟩
      · omega
  · have hnl : n.toNat ≤ l.length := by rw [ofL_size] at hn; omega
    refine o.put (m := l.drop n.toNat) ?_ fun w3 o3 f3 w4 h4 => ⟨f3.tr (fr_ext h4), l.take n.toNat, l.drop n.toNat, ?_, by simp, Own.ext o3 h4, fun a0 b0 he hasc ha hb => ?_⟩
    · rw [← ofL_of (ByteArray.extract _ _ _)]
      congr 1
      rw [ofL_size]
      simp only [ByteArray.data_extract, Array.toList_extract, List.extract_eq_take_drop, ofL]
      exact List.take_of_length_le (by simp)
    · rw [← ofL_of (ByteArray.extract _ _ _)]
      congr 2
      simp [ofL]
    · have hv' := hval hasc
      rw [ofL_list, he] at hv'
      rcases any_at ha hb with ⟨_, hq⟩ | ⟨_, hq⟩
      · omega
      · have : n.toNat = a0.length := by omega
        rw [this, he]
        simp
end Go.Proofs.YtenppnomdejmlaaGreatDoor
