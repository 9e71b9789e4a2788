/- The wheel in memory: its slots and its map; slot, put, Next, Now, New. -/
import Derived.Test.YtkpkbbapaamflaaGood
import Derived.Test.YtkpkbbapaamflaaWhP
import Derived.Test.YtkpkbbapaamflaaSxG
set_option linter.unusedVariables false
set_option linter.unusedSimpArgs false
namespace Go.Proofs.Ytkpkbbapaamflaa
open Go.Sx Go.RowKit

def ptr (b : Nat) : Option Addr := some ⟨b, 0, none⟩
theorem ptr_ne (b : Nat) : ptr b ≠ none := by simp [ptr]
theorem apart_ptr {a b : Nat} (h : a ≠ b) : Apart (ptr a) (ptr b) := fun x y hx hy => by cases hx; cases hy; exact h
theorem apart_to {a : Nat} {p : Option Addr} (h : ∀ x, p = some x → x.block ≠ a) : Apart (ptr a) p := fun x y hx hy => by cases hx; exact fun he => h y hy he.symm
theorem pAdd_ne {p : Option Addr} {n : Nat} (h : p ≠ none) : pAdd p n ≠ none := fun hc => h (pAdd_none.1 hc)
theorem pIdx_ne {p : Option Addr} {i : Int} {n : Nat} (h : p ≠ none) : pIdx p i n ≠ none := fun hc => h (pIdx_none.1 hc)

theorem shr_k (x : Int) {l : Nat} (hl : l ≤ 4) : iBit .shr .i64 x (6 * (l : Int)) = x / pw l := by
  have e : ∀ (n m : Nat), min ((6 * (n : Int)).toNat) (IntKind.bits .i64) = m → ((2 : Int) ^ m = pw n) → 0 ≤ pw n → iBit .shr .i64 x (6 * (n : Int)) = x / pw n := fun n m h1 h2 h3 => by
    simp only [iBit, h1, h2]
    exact Int.fdiv_eq_ediv_of_nonneg _ h3
  rcases (show l = 0 ∨ l = 1 ∨ l = 2 ∨ l = 3 ∨ l = 4 by omega) with rfl | rfl | rfl | rfl | rfl
  · exact e 0 0 (by decide) (by decide) (by decide)
  · exact e 1 6 (by decide) (by decide) (by decide)
  · exact e 2 12 (by decide) (by decide) (by decide)
  · exact e 3 18 (by decide) (by decide) (by decide)
  · exact e 4 24 (by decide) (by decide) (by decide)
theorem and63 {y : Int} (h0 : 0 ≤ y) (h1 : y ≤ 9223372036854775807) : iBit .and .i64 y 63 = y % 64 := by
  obtain ⟨m, rfl⟩ : ∃ m : Nat, y = m := ⟨y.toNat, by omega⟩
  have h : (BitVec.ofInt 64 ((m : Nat) : Int) &&& BitVec.ofInt 64 63).toNat = m % 64 := by
    rw [BitVec.toNat_and, show (BitVec.ofInt 64 63).toNat = 2 ^ 6 - 1 from rfl, Nat.and_two_pow_sub_one_eq_mod, BitVec.ofInt_natCast, BitVec.toNat_ofNat]
    omega
  show IntKind.wrap .i64 (((BitVec.ofInt 64 ((m : Nat) : Int) &&& BitVec.ofInt 64 63).toNat : Nat) : Int) = _
  rw [h]
  rw [wrap64 (by omega)]
  omega
theorem div_in {t : Int} (h0 : 0 ≤ t) (h1 : t ≤ 9223372036854775807) {l : Nat} (hl : l ≤ 4) : 0 ≤ t / pw l ∧ t / pw l ≤ 9223372036854775807 := by
  rcases (show l = 0 ∨ l = 1 ∨ l = 2 ∨ l = 3 ∨ l = 4 by omega) with rfl | rfl | rfl | rfl | rfl <;> simp only [pw] <;> omega
theorem ix_k {t : Int} (h0 : 0 ≤ t) (h1 : t ≤ 9223372036854775807) {l : Nat} (hl : l ≤ 4) : iBit .and .i64 (iBit .shr .i64 t (6 * (l : Int))) 63 = (ix l t : Int) := by
  obtain ⟨a, b⟩ := div_in h0 h1 hl
  rw [shr_k t hl, and63 a b]
  unfold ix
  have := Int.emod_nonneg (t / pw l) (show (64 : Int) ≠ 0 by omega)
  omega

/-! ### The wheel's own blocks -/

structure Row where
  p : Option Addr
  c : Nat
  l : List Tm
def tmc (x : Tm) : List Value := [.int .i64 x.t, .int .i64 x.id, .int .i64 x.bn]
theorem tmc_len (x : Tm) : (tmc x).length = 3 := rfl
theorem tmc_one (x : Tm) : ∀ u ∈ tmc x, u.oneCell' = true := fun u hu => by simp [tmc] at hu; rcases hu with rfl | rfl | rfl <;> rfl
def hd (r : Row) : Value := .slice r.p r.l.length r.c
def whc (now born : Int) (mb : Nat) (R : Nat → Row) : List Value := .int .i64 now :: .int .i64 born :: .map (some mb) :: (List.range 320).map fun j => hd (R j)
theorem whc_at {now born : Int} {mb : Nat} {R : Nat → Row} {j : Nat} (h : j < 320) : (whc now born mb R)[3 + j]? = some (hd (R j)) := by
  unfold whc
  rw [show 3 + j = j + 1 + 1 + 1 by omega]
  simp [h]
theorem whc_set {now born : Int} {mb : Nat} {R : Nat → Row} {j : Nat} (h : j < 320) (r : Row) : (whc now born mb R).set (3 + j) (hd r) = whc now born mb (upd R j r) := by
  unfold whc
  rw [show 3 + j = j + 1 + 1 + 1 by omega]
  simp only [List.set_cons_succ, List.cons.injEq, true_and]
  apply List.ext_getElem?
  intro i
  simp only [List.getElem?_set, List.length_map, List.length_range, List.getElem?_map, List.getElem?_range]
  by_cases hij : j = i
  · subst hij; simp [h, upd]
  · by_cases hi : i < 320
    · simp [hij, hi, upd, Ne.symm hij]
    · simp [hij, hi]
theorem whc_len {now born : Int} {mb : Nat} {R : Nat → Row} : (whc now born mb R).length = 323 := by simp [whc]

def WF (wb mb : Nat) (R : Nat → Row) (b : Nat) : Prop := b = wb ∨ b = mb ∨ ∃ j, j < 320 ∧ ∃ a, (R j).p = some a ∧ a.block = b

structure WI (B : Nat) (w : World) (wb mb : Nat) (now born : Int) (M : List (Int × Value)) (R : Nat → Row) : Prop where
  slot : Own B w T_wheel_Wheel 323 (ptr wb) 1 1 (whc now born mb R)
  map : MapIt (Value.int .i64) w mb M
  mB : B ≤ mb
  mw : mb ≠ wb
  row : ∀ j, j < 320 → Own B w T_wheel_timer 3 (R j).p (R j).l.length (R j).c ((R j).l.flatMap tmc)
  ap : ∀ i j, i < 320 → j < 320 → i ≠ j → Apart (R i).p (R j).p
  aw : ∀ j, j < 320 → ∀ a, (R j).p = some a → a.block ≠ wb ∧ a.block ≠ mb

section
variable {B : Nat} {w : World} {wb mb : Nat} {now born : Int} {M : List (Int × Value)} {R : Nat → Row}

theorem WI.ext {w' : World} (h : WI B w wb mb now born M R) (e : Ext w w') : WI B w' wb mb now born M R :=
  ⟨h.slot.ext e, h.map.ext e, h.mB, h.mw, fun j hj => (h.row j hj).ext e, h.ap, h.aw⟩
theorem WI.fr {S : Nat → Prop} {w' : World} (h : WI B w wb mb now born M R) (f : Fr S w w') (hs : ∀ b, WF wb mb R b → ¬ S b) : WI B w' wb mb now born M R :=
  ⟨h.slot.fr f fun a ha => by cases ha; exact hs _ (.inl rfl), h.map.fr f (hs _ (.inr (.inl rfl))), h.mB, h.mw, fun j hj => (h.row j hj).fr f fun a ha => hs _ (.inr (.inr ⟨j, hj, a, ha, rfl⟩)), h.ap, h.aw⟩
theorem WI.foot (h : WI B w wb mb now born M R) {b : Nat} (hb : WF wb mb R b) : B ≤ b ∧ b < w.heap.size := by
  rcases hb with rfl | rfl | ⟨j, hj, a, ha, rfl⟩
  · exact h.slot.lt _ rfl
  · exact ⟨h.mB, h.map.lt⟩
  · exact (h.row j hj).lt a ha
theorem WI.nw (h : WI B w wb mb now born M R) : cell w (pAdd (ptr wb) 0) 0 = some (.int .i64 now) := h.slot.cellAt0 rfl
theorem WI.bw (h : WI B w wb mb now born M R) : cell w (pAdd (ptr wb) 1) 0 = some (.int .i64 born) := h.slot.cellAt0 rfl
theorem WI.mp (h : WI B w wb mb now born M R) : cell w (pAdd (ptr wb) 2) 0 = some (.map (some mb)) := h.slot.cellAt0 rfl
theorem WI.at (h : WI B w wb mb now born M R) {j : Nat} (hj : j < 320) : cell w (pAdd (ptr wb) (3 + j)) 0 = some (.slice (R j).p (R j).l.length (R j).c) := h.slot.cellAt0 (whc_at hj)

/-- A store into the wheel's own block. -/
theorem WI.put {w' : World} {now' born' : Int} (h : WI B w wb mb now born M R) (o : Own B w' T_wheel_Wheel 323 (ptr wb) 1 1 (whc now' born' mb R)) (g : Grew w w' (ptr wb) (ptr wb)) : WI B w' wb mb now' born' M R := by
  have f : Fr (fun b => b = wb) w w' := fr_grew g fun a ha => by cases ha; rfl
  exact ⟨o, h.map.fr f h.mw, h.mB, h.mw, fun j hj => (h.row j hj).fr f fun a ha => (h.aw j hj a ha).1, h.ap, h.aw⟩
/-- The map is turned. -/
theorem WI.mapd {w' : World} {M' : List (Int × Value)} (h : WI B w wb mb now born M R) (o : MapIt (Value.int .i64) w' mb M') (g : Grew w w' (some ⟨mb, 0, none⟩) (some ⟨mb, 0, none⟩)) : WI B w' wb mb now born M' R := by
  have f : Fr (fun b => b = mb) w w' := fr_grew g fun a ha => by cases ha; rfl
  exact ⟨h.slot.fr f fun a ha => by cases ha; exact Ne.symm h.mw, o, h.mB, h.mw, fun j hj => (h.row j hj).fr f fun a ha => (h.aw j hj a ha).2, h.ap, h.aw⟩

/-- What is held while a row stands aside: all but that row. -/
structure WJ (B : Nat) (w : World) (wb mb : Nat) (now born : Int) (M : List (Int × Value)) (R : Nat → Row) (j0 : Nat) : Prop where
  slot : Own B w T_wheel_Wheel 323 (ptr wb) 1 1 (whc now born mb R)
  map : MapIt (Value.int .i64) w mb M
  mB : B ≤ mb
  mw : mb ≠ wb
  row : ∀ j, j < 320 → j ≠ j0 → Own B w T_wheel_timer 3 (R j).p (R j).l.length (R j).c ((R j).l.flatMap tmc)
  ap : ∀ i j, i < 320 → j < 320 → i ≠ j → Apart (R i).p (R j).p
  aw : ∀ j, j < 320 → ∀ a, (R j).p = some a → a.block ≠ wb ∧ a.block ≠ mb
theorem WI.aside (h : WI B w wb mb now born M R) (j0 : Nat) : WJ B w wb mb now born M R j0 := ⟨h.slot, h.map, h.mB, h.mw, fun j hj _ => h.row j hj, h.ap, h.aw⟩
theorem WJ.fr {S : Nat → Prop} {w' : World} {j0 : Nat} (h : WJ B w wb mb now born M R j0) (f : Fr S w w') (h1 : ¬ S wb) (h2 : ¬ S mb) (hs : ∀ j, j < 320 → j ≠ j0 → ∀ a, (R j).p = some a → ¬ S a.block) : WJ B w' wb mb now born M R j0 :=
  ⟨h.slot.fr f fun a ha => by cases ha; exact h1, h.map.fr f h2, h.mB, h.mw, fun j hj hne => (h.row j hj hne).fr f (hs j hj hne), h.ap, h.aw⟩
theorem WJ.ext {w' : World} {j0 : Nat} (h : WJ B w wb mb now born M R j0) (e : Ext w w') : WJ B w' wb mb now born M R j0 :=
  h.fr (S := fun _ => False) (fr_ext e) id id fun _ _ _ _ _ => id
/-- The row that stood aside has turned, in its own block or in a new one; all else stands. -/
theorem WJ.grew {w' : World} {j0 : Nat} {q : Option Addr} (h : WJ B w wb mb now born M R j0) (hj : j0 < 320) (g : Grew w w' (R j0).p q) : WJ B w' wb mb now born M R j0 :=
  h.fr (fr_grew (S := fun b => ∃ a, (R j0).p = some a ∧ a.block = b) g fun a ha => ⟨a, ha, rfl⟩) (fun ⟨a, ha, he⟩ => (h.aw j0 hj a ha).1 he) (fun ⟨a, ha, he⟩ => (h.aw j0 hj a ha).2 he)
    fun j hjl hne a ha ⟨b, hb, he⟩ => h.ap j0 j hj hjl (Ne.symm hne) b a hb ha he
/-- It is put back. -/
theorem WJ.back {w' : World} {j0 : Nat} {r : Row} (h : WJ B w wb mb now born M R j0) (hj : j0 < 320) (o : Own B w' T_wheel_Wheel 323 (ptr wb) 1 1 (whc now born mb (upd R j0 r))) (g : Grew w w' (ptr wb) (ptr wb))
    (hr : Own B w T_wheel_timer 3 r.p r.l.length r.c (r.l.flatMap tmc)) (hn : ∀ a, r.p = some a → a.block ≠ wb ∧ a.block ≠ mb ∧ ∀ j, j < 320 → j ≠ j0 → ∀ b, (R j).p = some b → a.block ≠ b.block) : WI B w' wb mb now born M (upd R j0 r) := by
  have f : Fr (fun b => b = wb) w w' := fr_grew g fun a ha => by cases ha; rfl
  refine ⟨o, h.map.fr f h.mw, h.mB, h.mw, fun j hjl => ?_, fun i j hi hjl hij => ?_, fun j hjl a ha => ?_⟩
  · by_cases he : j = j0
    · subst he; rw [upd_at]; exact hr.fr f fun a ha => (hn a ha).1
    · rw [upd_ne _ _ he]; exact (h.row j hjl he).fr f fun a ha => (h.aw j hjl a ha).1
  · by_cases h1 : i = j0
    · subst h1
      rw [upd_at, upd_ne _ _ (Ne.symm hij)]
      exact fun a b ha hb => (hn a ha).2.2 j hjl (Ne.symm hij) b hb
    · by_cases h2 : j = j0
      · subst h2
        rw [upd_at, upd_ne _ _ h1]
        exact fun a b ha hb he => (hn b hb).2.2 i hi h1 a ha he.symm
      · rw [upd_ne _ _ h1, upd_ne _ _ h2]; exact h.ap i j hi hjl hij
  · by_cases he : j = j0
    · subst he; rw [upd_at] at ha; exact ⟨(hn a ha).1, (hn a ha).2.1⟩
    · rw [upd_ne _ _ he] at ha; exact h.aw j hjl a ha
theorem WF.upd {j0 : Nat} {r : Row} {n : Nat} (hj : j0 < 320) (hp : ∀ a, r.p = some a → (∃ b, (R j0).p = some b ∧ b.block = a.block) ∨ n ≤ a.block) {b : Nat} (h : WF wb mb (upd R j0 r) b) : WF wb mb R b ∨ n ≤ b := by
  rcases h with h | h | ⟨j, hjl, a, ha, rfl⟩
  · exact .inl (.inl h)
  · exact .inl (.inr (.inl h))
  · by_cases he : j = j0
    · subst he
      rw [upd_at] at ha
      rcases hp a ha with ⟨b, hb, he⟩ | h
      · exact .inl (.inr (.inr ⟨j, hjl, b, hb, he⟩))
      · exact .inr h
    · rw [upd_ne _ _ he] at ha
      exact .inl (.inr (.inr ⟨j, hjl, a, ha, rfl⟩))

/-! ### slot -/

theorem slot_addr {l : Nat} {i : Nat} : pIdx (pIdx (pAdd (ptr wb) 3) (l : Int) 64) (i : Int) 1 = pAdd (ptr wb) (3 + (l * 64 + i)) := by
  simp only [pIdx, pAdd, ptr, Option.map_some, add_add, Int.toNat_natCast, Nat.mul_one]
  congr 2; omega

theorem slot_k (h : cell w (pAdd (ptr wb) 0) 0 = some (.int .i64 now)) (n0 : 0 ≤ now) (n1 : now ≤ 9223372036854775807) {t : Int} (t0 : 0 ≤ t) (t1 : t ≤ 9223372036854775807) :
    FnP Try.prog F_wheel_Wheel_slot #[.pointer (ptr wb), .int .i64 t] w fun v w' => Ext w w' ∧ v = .pointer (pAdd (ptr wb) (3 + sx now t)) := by
  refine ok_wheel_Wheel_slot (ptr wb) t w _ ⟨fun l w' => w' = w ∧ ∃ n : Nat, l = n ∧ n ≤ 4 ∧ ∀ k, k < n → t / pw (k + 1) ≠ now / pw (k + 1), fun l _ => (4 - l).toNat, ⟨rfl, 0, rfl, by omega, fun k hk => by omega⟩, ?_⟩
  rintro l w2 ⟨rfl, n, rfl, hn, ha⟩
  have nn := ptr_ne wb
  have fin : ∀ (hq : n < 4 → t / pw (n + 1) = now / pw (n + 1)), InR .i64 (6 * (n : Int)) ∧ 0 ≤ ((6 * (n : Int)) : Int) ∧ ptr wb ≠ none ∧ ptr wb ≠ none ∧ (pAdd (ptr wb) 3) ≠ none ∧ (0 : Int) ≤ (n : Int) ∧ ((n : Int) : Int) < 5 ∧ (pIdx (pAdd (ptr wb) 3) (n : Int) 64) ≠ none ∧
      (0 : Int) ≤ (iBit .and .i64 (iBit .shr .i64 t (6 * (n : Int))) 63) ∧ ((iBit .and .i64 (iBit .shr .i64 t (6 * (n : Int))) 63) : Int) < 64 ∧ ∀ w4, Ext w2 w4 →
      (Ext w2 w4 ∧ Value.pointer (pIdx (pIdx (pAdd (ptr wb) 3) (n : Int) 64) (iBit .and .i64 (iBit .shr .i64 t (6 * (n : Int))) 63) 1) = .pointer (pAdd (ptr wb) (3 + sx now t))) := fun hq => by
    have hx := ix_lt n t
    have hlv : lv now t = n := by
      refine lv_eq hn hq fun h0 => ?_
      have := ha (n - 1) (by omega)
      rw [show n - 1 + 1 = n by omega] at this; exact this
    rw [ix_k t0 t1 hn, slot_addr]
    refine ⟨i64 (by omega), by omega, nn, nn, pAdd_ne nn, by omega, by omega, pIdx_ne (pAdd_ne nn), by omega, by omega, fun w4 h4 => ⟨h4, ?_⟩⟩
    unfold sx; rw [hlv]
  refine ⟨fun _ => i64 (by omega), fun _ => i64 (by omega), fun _ => by omega, fun _ => nn, fun _ => nn, fun hlt => ⟨now, h, i64 (by omega), i64 (by omega), by omega, ?_, ?_⟩, fun hge => fin fun hl => by omega⟩
  · rw [show (6 * ((n : Int) + 1)) = 6 * (((n + 1 : Nat)) : Int) by omega, shr_k t (by omega), shr_k now (by omega)]
    exact fun hne => ⟨i64 (by omega), ⟨rfl, n + 1, by omega, by omega, fun k hk => by
      by_cases he : k = n
      · subst he; exact hne
      · exact ha k (by omega)⟩, by simp only []; omega⟩
  · rw [show (6 * ((n : Int) + 1)) = 6 * (((n + 1 : Nat)) : Int) by omega, shr_k t (by omega), shr_k now (by omega)]
    exact fun he => fin fun _ => he

/-! ### put -/

theorem put_k (h : WI B w wb mb now born M R) (hB : B ≤ w.heap.size) (n0 : 0 ≤ now) (n1 : now ≤ 9223372036854775807) (x : Tm) (t0 : 0 ≤ x.t) (t1 : x.t ≤ 9223372036854775807) (hl : (R (sx now x.t)).l.length ≤ 100000) :
    FnP Try.prog F_wheel_Wheel_put #[.pointer (ptr wb), .agg #[.int .i64 x.t, .int .i64 x.id, .int .i64 x.bn]] w fun v w' => v = .tuple #[] ∧ ∃ p' c', WI B w' wb mb now born M (upd R (sx now x.t) ⟨p', c', (R (sx now x.t)).l ++ [x]⟩) ∧ Fr (WF wb mb R) w w' ∧
      (∀ b, WF wb mb (upd R (sx now x.t) ⟨p', c', (R (sx now x.t)).l ++ [x]⟩) b → WF wb mb R b ∨ w.heap.size ≤ b) := by
  have hj := sx_lt now x.t
  generalize hjj : sx now x.t = j at hj hl
  refine ok_wheel_Wheel_put (ptr wb) x.t x.id x.bn w _ fun b0 hb0 w1 x1 => ?_
  have e1 := extB_ext x1
  have h1 := h.ext e1
  refine (slot_k h1.nw n0 n1 t0 t1).mono fun v w2 ⟨e2, hv⟩ => ⟨e2, _, hv, ?_⟩
  rw [hjj]
  have h2 := h1.ext e2
  refine ⟨pAdd_ne (ptr_ne wb), _, _, _, h2.at hj, ?_⟩
  have hf : ∀ b ∈ [b0], ∀ y, (R j).p = some y → y.block ≠ b := fun b hb y hy he => by
    obtain rfl : b = b0 := by simpa using hb
    have := (h.foot (.inr (.inr ⟨j, hj, y, hy, rfl⟩))).2; omega
  refine push_B elem_sl_wheel_timer (by omega) (h2.row j hj) (Nat.le_trans hB (Nat.le_trans e1.size e2.size)) hf rfl (tmc_one x) (by omega) (by omega) (by omega) fun p' c' w13 o13 g13 hp' hf' => ⟨pAdd_ne (ptr_ne wb), ?_⟩
  have j13 := (h2.aside j).grew hj g13
  have o13' : Own B w13 T_wheel_timer 3 p' ((R j).l ++ [x]).length c' (((R j).l ++ [x]).flatMap tmc) := by
    have e : ((R j).l ++ [x]).flatMap tmc = (R j).l.flatMap tmc ++ tmc x := by simp
    rw [List.length_append, e]; exact o13
  have np : ∀ a, p' = some a → (∃ b, (R j).p = some b ∧ b.block = a.block) ∨ w2.heap.size ≤ a.block := fun a ha => by
    rcases g13.new with h | h
    · subst ha
      cases hp : (R j).p with
      | none => rw [hp] at h; simp [blk] at h
      | some z => rw [hp] at h; simp [blk] at h; exact .inl ⟨z, rfl, h.symm⟩
    · exact .inr (h a ha)
  have s12 : w.heap.size ≤ w2.heap.size := Nat.le_trans e1.size e2.size
  refine store_one (off := 3 + j) j13.slot (by rw [whc_len]; omega) rfl (fun b hb y hy he => by
    obtain rfl : b = b0 := by simpa using hb
    cases hy
    have := (h.foot (.inl rfl)).2; simp at he; omega) fun w17 o17 g17 w18 e18 => ⟨rfl, p', c', ?_, ?_, fun b hb => WF.upd hj (fun a ha => (np a ha).imp id fun h => Nat.le_trans s12 h) hb⟩
  · refine WI.ext ?_ e18
    refine j13.back hj ?_ g17 o13' fun a ha => ?_
    · rw [← whc_set hj]
      have : hd ⟨p', c', (R j).l ++ [x]⟩ = .slice p' ((R j).l.length + 1) c' := by simp [hd]
      rw [this]; exact o17
    · rcases np a ha with ⟨b, hb, he⟩ | hge
      · rw [← he]
        exact ⟨(h.aw j hj b hb).1, (h.aw j hj b hb).2, fun i hi hne d hd => h.ap j i hj hi (Ne.symm hne) b d hb hd⟩
      · have w1 := (h2.foot (.inl rfl)).2
        have w2' := (h2.foot (.inr (.inl rfl))).2
        refine ⟨by omega, by omega, fun i hi hne d hd => ?_⟩
        have := (h2.foot (.inr (.inr ⟨i, hi, d, hd, rfl⟩))).2
        omega
  · refine Fr.tr (Fr.tr (Fr.tr (fr_ext (e1.trans e2)) (fr_grew g13 fun a ha => ?_)) (fr_grew g17 fun a ha => ?_)) (fr_ext e18)
    · exact .inr (.inr ⟨j, hj, a, ha, rfl⟩)
    · cases ha; exact .inl rfl

/-! ### Now, Next -/

theorem now_k (h : WI B w wb mb now born M R) : FnP Try.prog F_wheel_Wheel_Now #[.pointer (ptr wb)] w fun v w' => Ext w w' ∧ v = .int .i64 now :=
  ok_wheel_Wheel_Now (ptr wb) w _ ⟨ptr_ne _, ptr_ne _, _, h.nw, fun w1 h1 => ⟨h1, rfl⟩⟩

/-- The least of a map's elements. -/
def Lst (G : List Int) (t : Int) (is : Bool) : Prop := (is = false → G = [] ∧ t = 0) ∧ (is = true → t ∈ G ∧ ∀ u ∈ G, t ≤ u)

theorem next_k (h : WI B w wb mb now born M R) {L : List (Int × Int)} (hM : M = L.map fun x => (x.1, .int .i64 x.2)) :
    FnP Try.prog F_wheel_Wheel_Next #[.pointer (ptr wb)] w fun v w' => Ext w w' ∧ ∃ t is, v = .tuple #[.int .i64 t, .bool is] ∧ Lst (L.map (·.2)) t is := by
  refine ok_wheel_Wheel_Next (ptr wb) w _ ⟨ptr_ne _, ptr_ne _, _, h.mp, fun w1 e1 => ?_⟩
  refine run_range_it (k := T_int) (e := T_int64) (by kernel_rfl) (h.map.ext e1) fun w2 it2 e2 s2 => ⟨_, rfl, ?_⟩
  have hit : w.heap.size ≤ w1.heap.size := e1.size
  let f : Int × Int → Int × Value := fun x => (x.1, .int .i64 x.2)
  refine ⟨fun t is w' => Ext w w' ∧ ∃ (G : List (Int × Int)) (rest : List (Int × Int)) (cur : Option (Int × Value)), (G ++ rest).Perm L ∧ ItAt (Value.int .i64) w' w1.heap.size mb (rest.map f) cur ∧ Lst (G.map (·.2)) t is,
    fun _ _ w' => itLeft w' w1.heap.size, ⟨e1.trans e2, [], L, none, by simp, (by rw [← hM]; exact it2), ⟨fun _ => ⟨rfl, rfl⟩, fun hc => by cases hc⟩⟩, ?_⟩
  rintro t is w7 ⟨e7, G, rest, cur, hp, it7, hL⟩ w8 e8
  have hx := it7.left
  refine run_next_it (it7.ext e8) (fun hr => ⟨_, rfl, fun w11 e11 => run_extract rfl ⟨Ext.refl _, _, rfl, fun hc => (by cases hc), fun _ w14 e14 => ⟨(e7.trans e8).trans e14, t, is, rfl, ?_⟩⟩⟩) fun i x hi w9 it9 g9 => ⟨_, rfl, fun w11 e11 => run_extract rfl ⟨Ext.refl _, _, rfl, fun _ w14 e14 => ?_, fun hc => by cases hc⟩⟩
  · have hre : rest = [] := by simpa using hr
    subst hre
    rw [List.append_nil] at hp
    refine ⟨fun h0 => ?_, fun h1 => ?_⟩
    · obtain ⟨h2, h3⟩ := hL.1 h0
      have : G = [] := by simpa using h2
      subst this
      rw [List.nil_perm] at hp
      subst hp; exact ⟨rfl, h3⟩
    · obtain ⟨h2, h3⟩ := hL.2 h1
      have hm : ∀ u, u ∈ L.map (·.2) ↔ u ∈ G.map (·.2) := fun u => (hp.map (·.2)).mem_iff.symm
      exact ⟨(hm t).2 h2, fun u hu => h3 u ((hm u).1 hu)⟩
  · have it14 := it9.ext e14
    have hb : Ext w w14 := ((fr_grew (S := fun b => w.heap.size ≤ b) g9 fun a ha => by cases ha; exact hit).ext (e7.trans e8) fun b hb => hb).trans e14
    refine run_entry_it it14 ⟨Ext.refl _, _, rfl, fun w17 e17 => ?_⟩
    rw [List.getElem?_map, Option.map_eq_some_iff] at hi
    obtain ⟨y, hy, rfl⟩ := hi
    have hyr : y ∈ rest := List.mem_of_getElem? hy
    have hlt : i < rest.length := (List.getElem?_eq_some_iff.1 hy).1
    have hget : rest[i] = y := (List.getElem?_eq_some_iff.1 hy).2
    have hpr : (y :: rest.eraseIdx i).Perm rest := erase_perm hy
    have hpG : ((G ++ [y]) ++ rest.eraseIdx i).Perm L := by
      rw [List.append_assoc]
      exact (List.Perm.append_left G hpr).trans hp
    rw [← eraseIdx_map'] at it14
    have hm : itLeft w14 w1.heap.size < itLeft w7 w1.heap.size := by
      rw [it14.left, hx, List.length_map, List.length_map, List.length_eraseIdx_of_lt hlt]; omega
    refine run_extract rfl ⟨Ext.refl _, y.2, rfl, fun hc => ⟨⟨hb, _, _, _, hpG, it14, ?_⟩, hm⟩, fun hc => ⟨⟨hb, _, _, _, hpG, it14, ?_⟩, hm⟩⟩
    · refine ⟨fun h => by simp at h, fun _ => ⟨by simp, fun u hu => ?_⟩⟩
      rw [List.map_append] at hu
      rcases List.mem_append.1 hu with hu | hu
      · rcases hc with hc | hc
        · rw [(hL.1 hc).1] at hu; cases hu
        · cases his : is with
          | false => rw [(hL.1 his).1] at hu; cases hu
          | true => have := (hL.2 his).2 u hu; omega
      · simp at hu; omega
    · refine ⟨fun h => (by rw [hc.1] at h; cases h), fun _ => ⟨?_, fun u hu => ?_⟩⟩
      · rw [List.map_append]; exact List.mem_append.2 (.inl (hL.2 hc.1).1)
      · rw [List.map_append] at hu
        rcases List.mem_append.1 hu with hu | hu
        · exact (hL.2 hc.1).2 u hu
        · simp at hu; omega

/-! ### New -/

theorem new_k {w : World} : FnP Try.prog F_wheel_New #[] w fun v w' => Ext w w' ∧ ∃ wb mb, v = .pointer (ptr wb) ∧ w.heap.size ≤ wb ∧ ∀ B, B ≤ w.heap.size → WI B w' wb mb 0 0 [] fun _ => ⟨none, 0, []⟩ := by
  refine ok_wheel_New w _ fun w0 h0 => run_makeMap_it (α := Int) (enc := Value.int .i64) fun w1 m1 e1 => ⟨e1, _, rfl, rfl, fun w3 h3 => ?_⟩
  have key : ∀ l : List Value, l = whc 0 0 w0.heap.size (fun _ => ⟨none, 0, []⟩) → New w3 T_wheel_Wheel l fun p w4 => ∀ w5, Ext w4 w5 → (Ext w w5 ∧ ∃ wb mb, Value.pointer p = .pointer (ptr wb) ∧ w.heap.size ≤ wb ∧ ∀ B, B ≤ w.heap.size → WI B w5 wb mb 0 0 [] fun _ => ⟨none, 0, []⟩) := by
    rintro l rfl
    refine new_own (fun v hv => ?_) fun w4 o4 e4 w5 h5 => ⟨?_, w3.heap.size, w0.heap.size, rfl, ?_, fun B hB => ?_⟩
    · simp only [whc, List.mem_cons, List.mem_map] at hv
      rcases hv with rfl | rfl | rfl | ⟨j, _, rfl⟩ <;> rfl
    · exact (((h0.trans e1).trans h3).trans e4).trans h5
    · exact Nat.le_trans h0.size (Nat.le_trans e1.size h3.size)
    · have l1 := m1.lt
      have s0 := h0.size
      have s3 := h3.size
      have o4' := (o4 B (by omega)).ext h5
      rw [whc_len] at o4'
      exact ⟨o4', ((m1.ext h3).ext e4).ext h5, by omega, by omega, fun j hj => Own.nil, fun i j _ _ _ => Apart.nil, fun j hj a ha => by cases ha⟩
  exact key _ (by kernel_rfl)
end
end Go.Proofs.Ytkpkbbapaamflaa
