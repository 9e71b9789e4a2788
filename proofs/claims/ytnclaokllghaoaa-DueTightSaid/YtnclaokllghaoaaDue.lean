/- What the functions of package due answer. -/
import Derived.Test.YtnclaokllghaoaaGood
set_option linter.unusedVariables false
set_option linter.unusedSimpArgs false
namespace Go.Proofs.Ytnclaokllghaoaa
open Go.Sx Go.RowKit

/-- A task: from when on, by when, for how long. -/
structure T where
  a : Int
  d : Int
  n : Int
deriving Inhabited

def enc (t : T) : List Value := [.int .i64 t.a, .int .i64 t.d, .int .i64 t.n]
abbrev Tasks (w : World) (p : Option Addr) (l : List T) : Prop := Recs 3 enc w p l
def tk (l : List T) (i : Nat) : T := l.getD i default
def okT (t : T) : Prop := 0 ≤ t.a ∧ 0 ≤ t.d ∧ t.d ≤ 200 ∧ 1 ≤ t.n ∧ t.n ≤ 200 ∧ t.a ≤ t.d - t.n
def okL (l : List T) : Prop := l.length ≤ 20 ∧ ∀ t ∈ l, okT t

theorem tasks_at {w : World} {p : Option Addr} {l : List T} (h : Tasks w p l) {k : Int} (h0 : 0 ≤ k) (hk : k < l.length) :
    p ≠ none ∧ pIdx p k 3 ≠ none ∧ cell w (pIdx p k 3) 0 = some (.int .i64 (tk l k.toNat).a) ∧ cell w (pIdx p k 3) 1 = some (.int .i64 (tk l k.toNat).d) ∧ cell w (pIdx p k 3) 2 = some (.int .i64 (tk l k.toNat).n) := by
  have h1 := h.idx default h0 hk (j := 0) rfl
  have h2 := h.idx default h0 hk (j := 1) rfl
  have h3 := h.idx default h0 hk (j := 2) rfl
  have hp := cell_p h1
  exact ⟨fun he => hp (pIdx_none.2 he), hp, h1, h2, h3⟩
theorem tasks_fld {w : World} {p : Option Addr} {l : List T} (h : Tasks w p l) {k : Int} (h0 : 0 ≤ k) (hk : k < l.length) :
    cell w (pAdd (pIdx p k 3) 0) 0 = some (.int .i64 (tk l k.toNat).a) ∧ cell w (pAdd (pIdx p k 3) 1) 0 = some (.int .i64 (tk l k.toNat).d) ∧ cell w (pAdd (pIdx p k 3) 2) 0 = some (.int .i64 (tk l k.toNat).n) := by
  obtain ⟨_, _, h1, h2, h3⟩ := tasks_at h h0 hk
  exact ⟨by rw [cell_pAdd]; exact h1, by rw [cell_pAdd]; exact h2, by rw [cell_pAdd]; exact h3⟩
theorem tk_mem {l : List T} {i : Nat} (h : i < l.length) : tk l i ∈ l := by
  unfold tk; rw [List.getD_eq_getElem?_getD]; simp [h]

open Classical in
noncomputable def errC (l : List T) : Int := if 20 < l.length then 2 else if (∀ t ∈ l, okT t) then 0 else 4

theorem errC_ok {l : List T} : errC l = 0 ↔ okL l := by
  unfold errC okL
  by_cases h : 20 < l.length
  · rw [if_pos h]; constructor <;> intro h' <;> omega
  · rw [if_neg h]
    by_cases h2 : ∀ t ∈ l, okT t
    · rw [if_pos h2]; exact ⟨fun _ => ⟨by omega, h2⟩, fun _ => rfl⟩
    · rw [if_neg h2]; exact ⟨fun h' => by omega, fun h' => absurd h'.2 h2⟩

theorem check_k (p : Option Addr) (c : Nat) (l : List T) (h63 : (l.length : Int) ≤ 9223372036854775807) (hin : ∀ t ∈ l, InR .i64 t.a ∧ InR .i64 t.d ∧ InR .i64 t.n) (w : World) (h : Tasks w p l) : FnP Try.prog F_due_Check #[.slice p l.length c] w fun v w' => Ext w w' ∧ v = .int .i64 (errC l) := by
  refine ok_due_Check p l.length c w _ ?_
  refine ⟨fun hl w0 h0 => ⟨h0, by unfold errC; rw [if_pos (by omega)]⟩, fun hl => ?_⟩
  have e0 : (∀ t ∈ l, okT t) → errC l = 0 := fun h => by unfold errC; rw [if_neg (by omega), if_pos h]
  have e4 : (¬ ∀ t ∈ l, okT t) → errC l = 4 := fun h => by unfold errC; rw [if_neg (by omega), if_neg h]
  refine ⟨fun k w' => w' = w ∧ 0 ≤ k ∧ k ≤ l.length ∧ ∀ i : Nat, (i : Int) < k → okT (tk l i), fun k _ => (l.length - k).toNat, ⟨rfl, by omega, by omega, fun i hi => by omega⟩, ?_⟩
  rintro k _ ⟨rfl, hk0, hk1, hok⟩
  refine ⟨fun hlt => ?_, fun hge w3 h3 => ⟨h3, ?_⟩⟩
  · obtain ⟨h1, h2, h3, h4, h5⟩ := tasks_at h hk0 hlt
    refine ⟨h1, hk0, hlt, h2, _, h3, _, h4, _, h5, fun b6 _ => ⟨fun _ => i64 (by omega), fun hbad w7 h7 => ⟨h7, ?_⟩, fun hgood => ⟨i64 (by omega), ⟨rfl, by omega, by omega, fun i hi => ?_⟩, by simp only []; omega⟩⟩⟩
    · have hno : ¬ ∀ t ∈ l, okT t := fun hall => by
        have := hall _ (tk_mem (l := l) (i := k.toNat) (by omega))
        unfold okT at this; omega
      rw [e4 hno]
    · by_cases hik : (i : Int) < k
      · exact hok i hik
      · obtain rfl : i = k.toNat := by omega
        unfold okT; omega
  · have hall : ∀ t ∈ l, okT t := fun t ht => by
      obtain ⟨i, hi⟩ := List.mem_iff_getElem?.1 ht
      have hlt := (List.getElem?_eq_some_iff.1 hi).1
      have := hok i (by omega)
      unfold tk at this
      rw [List.getD_eq_getElem?_getD, hi] at this
      exact this
    rw [e0 hall]

/-! ### The run: who is due first, works -/

def left (l : List T) (R : List Int) (i : Nat) : Int := (tk l i).n - cnt i R
def Ready (l : List T) (R : List Int) (now : Int) (i : Nat) : Prop := (tk l i).a ≤ now ∧ 0 < left l R i
def PickTo (l : List T) (R : List Int) (now : Int) (k : Nat) (b : Int) : Prop :=
  (b = -1 ∧ ∀ i, i < k → ¬ Ready l R now i) ∨ ∃ i : Nat, i < k ∧ b = i ∧ Ready l R now i ∧ ∀ j, j < k → Ready l R now j → (tk l i).d ≤ (tk l j).d
def Steps (l : List T) (R : List Int) : Prop := ∀ t, t < R.length → PickTo l (R.take t) t l.length (R.getD t 0)
def Bad (l : List T) (R : List Int) (i : Nat) : Prop := ∃ t : Nat, R[t]? = some (i : Int) ∧ (tk l i).d ≤ t
def Late (l : List T) (R : List Int) (i : Nat) : Prop := Bad l R i ∨ 0 < left l R i

theorem steps_snoc {l : List T} {R : List Int} {b : Int} (h : Steps l R) (hb : PickTo l R R.length l.length b) : Steps l (R ++ [b]) := by
  intro t ht
  simp at ht
  by_cases hl : t < R.length
  · have := h t hl
    rw [List.take_append_of_le_length (by omega)]
    rw [show (R ++ [b]).getD t 0 = R.getD t 0 by simp [List.getD_eq_getElem?_getD, List.getElem?_append_left hl]]
    exact this
  · obtain rfl : t = R.length := by omega
    rw [List.take_left, show (R ++ [b]).getD R.length 0 = b by simp [List.getD_eq_getElem?_getD]]
    exact hb

theorem left_snoc {l : List T} {R : List Int} {b : Int} {i : Nat} : left l (R ++ [b]) i = left l R i - if b = i then 1 else 0 := by
  unfold left; rw [cnt_append]; simp [cnt]; omega

theorem bad_snoc {l : List T} {R : List Int} {b : Int} {i : Nat} : Bad l (R ++ [b]) i ↔ Bad l R i ∨ (b = i ∧ (tk l i).d ≤ R.length) := by
  constructor
  · rintro ⟨t, h1, h2⟩
    by_cases hl : t < R.length
    · rw [List.getElem?_append_left hl] at h1
      exact .inl ⟨t, h1, h2⟩
    · have := (List.getElem?_eq_some_iff.1 h1).1
      simp at this
      obtain rfl : t = R.length := by omega
      simp at h1
      exact .inr ⟨h1, h2⟩
  · rintro (⟨t, h1, h2⟩ | ⟨h1, h2⟩)
    · exact ⟨t, by rw [List.getElem?_append_left (List.getElem?_eq_some_iff.1 h1).1]; exact h1, h2⟩
    · exact ⟨R.length, by simp [h1], h2⟩

theorem pickTo_succ {l : List T} {R : List Int} {now : Int} {k : Nat} {b : Int} (h : PickTo l R now k b) (hn : ¬ Ready l R now k ∨ (0 ≤ b ∧ (tk l b.toNat).d ≤ (tk l k).d)) : PickTo l R now (k + 1) b := by
  rcases h with ⟨hb, hz⟩ | ⟨i, hi, hb, hr, hm⟩
  · refine .inl ⟨hb, fun i hi => ?_⟩
    by_cases hik : i = k
    · subst hik; rcases hn with hn | hn
      · exact hn
      · omega
    · exact hz i (by omega)
  · refine .inr ⟨i, by omega, hb, hr, fun j hj hrj => ?_⟩
    by_cases hjk : j = k
    · subst hjk
      rcases hn with hn | hn
      · exact absurd hrj hn
      · subst hb; simpa using hn.2
    · exact hm j (by omega) hrj

theorem pickTo_new {l : List T} {R : List Int} {now : Int} {k : Nat} {b : Int} (h : PickTo l R now k b) (hr : Ready l R now k) (hn : b < 0 ∨ (tk l k).d < (tk l b.toNat).d) : PickTo l R now (k + 1) k := by
  refine .inr ⟨k, by omega, rfl, hr, fun j hj hrj => ?_⟩
  by_cases hjk : j = k
  · subst hjk; omega
  · rcases h with ⟨hb, hz⟩ | ⟨i, hi, hb, hri, hm⟩
    · exact absurd hrj (hz j (by omega))
    · have := hm j (by omega) hrj
      subst hb
      simp at hn
      omega

structure RunS (B : Nat) (w : World) (l : List T) (q2 q7 row : Option Addr) (rl rc : Nat) (R L : List Int) (D : List Bool) : Prop where
  o2 : Own B w T_int 1 q2 l.length l.length (L.map (.int .i64))
  o7 : Own B w T_bool 1 q7 l.length l.length (D.map .bool)
  or : Own B w T_int 1 row rl rc (R.map (.int .i64))
  a27 : Apart q2 q7
  a2r : Apart q2 row
  a7r : Apart q7 row
  hL : ∀ i, i < l.length → L.getD i 0 = left l R i
  hD : ∀ i, i < l.length → (D.getD i false = true ↔ Bad l R i)

theorem RunS.grew {B : Nat} {w w' : World} {l : List T} {q2 q7 row x y : Option Addr} {rl rc : Nat} {R L : List Int} {D : List Bool} (h : RunS B w l q2 q7 row rl rc R L D) (g : Grew w w' x y) (h2 : Apart q2 x) (h7 : Apart q7 x) (hr : Apart row x) : RunS B w' l q2 q7 row rl rc R L D :=
  ⟨Own.grew (B' := B) h.o2 h2 g, Own.grew (B' := B) h.o7 h7 g, Own.grew (B' := B) h.or hr g, h.a27, h.a2r, h.a7r, h.hL, h.hD⟩

theorem getD_replicate {α : Type} (n i : Nat) (a d : α) (h : i < n) : (List.replicate n a).getD i d = a := by
  simp [List.getD_eq_getElem?_getD, h]

theorem run_k (p : Option Addr) (c : Nat) (l : List T) (hok : okL l) (w : World) (h : Tasks w p l) : FnP Try.prog F_due_run #[.slice p l.length c] w fun v w' =>
    Ext w w' ∧ ∃ row rc late fl fc R, v = .tuple #[.slice row 200 rc, .slice late fl fc] ∧ Own w.heap.size w' T_int 1 row 200 rc (R.map (.int .i64)) ∧ Steps l R ∧ (fl = 0 ↔ ∀ i, i < l.length → ¬ Late l R i) ∧ (fl : Int) ≤ 20 := by
  have hlen := hok.1
  have okt : ∀ i, i < l.length → okT (tk l i) := fun i hi => hok.2 _ (tk_mem hi)
  refine ok_due_run p l.length c w _ ?_
  intro w0 h0
  refine mk_ints elem_sl_int (by omega) (by omega) (by omega) fun w1 o2 e1 => ⟨e1, _, _, _, rfl, fun w5 e5 => ?_⟩
  refine mk_bools elem_sl_bool (by omega) (by omega) (by omega) fun w6 o7 e6 => ⟨e6, _, _, _, rfl, ?_⟩
  have hs0 := h0.size
  have hs1 := e1.size
  have hs5 := e5.size
  have o2 := (o2 w.heap.size hs0).ext e5
  have a27 := fresh_apart o2 (Nat.le_refl _)
  have o2 := o2.ext e6
  have o7 := o7 w.heap.size (by omega)
  simp only [Int.toNat_natCast] at o2 o7 ⊢
  have hx6 : Ext w w6 := ((h0.trans e1).trans e5).trans e6
  clear hs0 hs1 hs5
  revert a27 o2 o7
  generalize (some (⟨w0.heap.size, 0, none⟩ : Addr)) = q2
  generalize (some (⟨w5.heap.size, 0, none⟩ : Addr)) = q7
  intro a27 o2 o7
  refine ⟨fun k w' => ∃ L : List Int, Ext w w' ∧ Own w.heap.size w' T_int 1 q2 l.length l.length (L.map (.int .i64)) ∧ Own w.heap.size w' T_bool 1 q7 l.length l.length ((List.replicate l.length false).map .bool) ∧ 0 ≤ k ∧ k ≤ l.length ∧ ∀ i : Nat, (i : Int) < k → L.getD i 0 = (tk l i).n, fun k _ => (l.length - k).toNat, ⟨_, hx6, o2, o7, by omega, by omega, fun i hi => by omega⟩, ?_⟩
  rintro k w12 ⟨L, hx, o2, o7, hk0, hk1, hL⟩
  have lenL := o2.leni
  refine ⟨fun hlt => ?_, fun hge => ?_⟩
  · obtain ⟨h1, h2, h3, h4, h5⟩ := tasks_at (h.ext hx) hk0 hlt
    refine ⟨h1, hk0, hlt, h2, _, h3, _, h4, _, h5, fun b16 hb => ⟨o2.ne1 (by omega) (by omega), hk0, hlt, ?_⟩⟩
    refine store_int o2 hk0 (by omega) (o2.free hb) fun w17 o2' g => ⟨i64 (by omega), ⟨_, g.ext hx o2, o2', Own.grew (B' := 0) o7 a27.symm g, by omega, by omega, fun i hi => ?_⟩, by simp only []; omega⟩
    rw [getD_set _ _ _ _ _ (by omega)]
    by_cases hik : i = k.toNat
    · rw [if_pos hik, hik]
    · rw [if_neg hik]; exact hL i (by omega)
  · obtain rfl : k = l.length := by omega
    refine ⟨fun row rl rc k w' => ∃ (R L : List Int) (D : List Bool), Ext w w' ∧ RunS w.heap.size w' l q2 q7 row rl rc R L D ∧ Steps l R ∧ (R.length : Int) = k ∧ k ≤ 200, fun _ _ _ k _ => (200 - k).toNat,
      ⟨[], L, List.replicate l.length false, hx, ⟨o2, o7, Own.nil, a27, Apart.nil, Apart.nil, fun i hi => by rw [hL i (by omega)]; simp [left, cnt], fun i hi => by rw [getD_replicate _ _ _ _ hi]; simp [Bad]⟩, fun t ht => by simp at ht, by simp, by omega⟩, ?_⟩
    clear hL lenL o2 o7 hx hk0 hk1 hge
    rintro row rl rc now w16 ⟨R, L, D, hx, S, hst, hRn, h200⟩
    have lenL := S.o2.leni
    have lenD := S.o7.leni
    have lenR := S.or.leni
    have hT := h.ext hx
    have hB := hx.size
    refine ⟨fun hnow => ?_, fun hnow => ?_⟩
    · refine ⟨fun b k w' => w' = w16 ∧ 0 ≤ k ∧ k ≤ l.length ∧ PickTo l R now k.toNat b, fun _ k _ => (l.length - k).toNat, ⟨rfl, by omega, by omega, .inl ⟨rfl, fun i hi => by omega⟩⟩, ?_⟩
      rintro b k _ ⟨rfl, hk0, hk1, hpick⟩
      have hbr : b = -1 ∨ (0 ≤ b ∧ b < k) := by
        rcases hpick with ⟨hb, _⟩ | ⟨i, hi, hb, _⟩
        · exact .inl hb
        · right; omega
      refine ⟨fun hlt => ?_, fun hge => ?_⟩
      · obtain ⟨h1, h2, h3, h4, h5⟩ := tasks_at hT hk0 hlt
        have hk' : (k + 1).toNat = k.toNat + 1 := by omega
        have hleft := S.hL k.toNat (by omega)
        have hkk : ((k.toNat : Nat) : Int) = k := by omega
        refine ⟨h1, hk0, hlt, h2, _, h3, _, h4, _, h5, fun b24 _ => ⟨fun _ => S.o2.ne1 (by omega) (by omega), fun _ => hk0, fun _ => hlt, fun hat => ⟨_, S.o2.int_at hk0 (by omega), fun _ _ => h1, fun _ hb => hb, fun _ hb => by omega, fun _ hb => (tasks_at hT hb (by omega)).2.1, fun hpos => ⟨fun hb => ⟨i64 (by omega), ⟨rfl, by omega, by omega, ?_⟩, by simp only []; omega⟩, fun hb => ⟨_, (tasks_fld hT hb (by omega)).2.1, fun hd => ⟨i64 (by omega), ⟨rfl, by omega, by omega, ?_⟩, by simp only []; omega⟩, fun hd => ⟨i64 (by omega), ⟨rfl, by omega, by omega, ?_⟩, by simp only []; omega⟩⟩⟩, fun hpos => ⟨i64 (by omega), ⟨rfl, by omega, by omega, ?_⟩, by simp only []; omega⟩⟩, fun hat => ⟨i64 (by omega), ⟨rfl, by omega, by omega, ?_⟩, by simp only []; omega⟩⟩⟩
        · rw [hk']
          have := pickTo_new hpick ⟨hat, by rw [← hleft]; exact hpos⟩ (.inl hb)
          rwa [hkk] at this
        · rw [hk']
          have := pickTo_new hpick ⟨hat, by rw [← hleft]; exact hpos⟩ (.inr hd)
          rwa [hkk] at this
        · rw [hk']
          exact pickTo_succ hpick (.inr ⟨hb, hd⟩)
        · rw [hk']
          exact pickTo_succ hpick (.inl fun hr => by have := hr.2; rw [← hleft] at this; omega)
        · rw [hk']
          exact pickTo_succ hpick (.inl fun hr => by have := hr.1; omega)
      · obtain rfl : k = l.length := by omega
        simp only [Int.toNat_natCast] at hpick
        have hsteps : Steps l (R ++ [b]) := steps_snoc hst (by rw [hRn]; exact hpick)
        refine push_int elem_sl_int S.or hB (by omega) (by omega) fun row' rc' w27 or' g hne => ?_
        have hx27 : Ext w w27 := g.ext hx S.or
        have o2' := Own.grew (B' := 0) S.o2 S.a2r g
        have o7' := Own.grew (B' := 0) S.o7 S.a7r g
        have a2r' := S.a2r.grew S.o2 g
        have a7r' := S.a7r.grew S.o7 g
        have hT27 := h.ext hx27
        refine ⟨fun hb => ?_, fun hb => ⟨i64 (by omega), ⟨R ++ [b], L, D, hx27, ⟨o2', o7', or', S.a27, a2r', a7r', fun i hi => ?_, fun i hi => ?_⟩, hsteps, by simp; omega, by omega⟩, by simp only []; omega⟩⟩
        · have hbl : b < l.length := by omega
          have hbb : ((b.toNat : Nat) : Int) = b := by omega
          have hready : Ready l R now b.toNat := by
            rcases hpick with ⟨hb', _⟩ | ⟨i, hi, hb', hr, _⟩
            · omega
            · subst hb'; simpa using hr
          have hlb := S.hL b.toNat (by omega)
          have hpos := hready.2
          have hle : left l R b.toNat ≤ 200 := by
            have := cnt_nonneg b.toNat R
            have := okt b.toNat (by omega)
            unfold left; unfold okT at this; omega
          refine ⟨o2'.ne1 (by omega) (by omega), hb, hbl, _, o2'.int_at hb (by omega), i64 (by omega), o2'.ne1 (by omega) (by omega), hb, hbl, ?_⟩
          refine store_int o2' hb (by omega) (by simp) fun w32 o2'' g2 => ?_
          have hx32 : Ext w w32 := g2.ext hx27 o2'
          have o7'' := Own.grew (B' := 0) o7' S.a27.symm g2
          have or'' := Own.grew (B' := 0) or' a2r'.symm g2
          have hT32 := h.ext hx32
          obtain ⟨t1, t2, _⟩ := tasks_at hT32 hb hbl
          have fin : ∀ (w34 : World) (x : Bool), (x = true ↔ D.getD b.toNat false = true ∨ (tk l b.toNat).d ≤ now) → Own w.heap.size w34 T_bool 1 q7 l.length l.length ((D.set b.toNat x).map .bool) → Grew w32 w34 q7 q7 →
              InR .i64 (now + 1) ∧ (∃ (R L : List Int) (D : List Bool), Ext w w34 ∧ RunS w.heap.size w34 l q2 q7 row' (rl + 1) rc' R L D ∧ Steps l R ∧ (R.length : Int) = now + 1 ∧ now + 1 ≤ 200) ∧ (200 - (now + 1)).toNat < (200 - now).toNat := by
            intro w34 x hxx o7n g3
            refine ⟨i64 (by omega), ⟨R ++ [b], _, _, g3.ext hx32 o7'', ⟨Own.grew (B' := 0) o2'' S.a27 g3, o7n, Own.grew (B' := 0) or'' a7r'.symm g3, S.a27, a2r', a7r', fun i hi => ?_, fun i hi => ?_⟩, hsteps, by simp; omega, by omega⟩, by omega⟩
            · rw [getD_set _ _ _ _ _ (by omega), left_snoc]
              by_cases hib : i = b.toNat
              · subst hib; rw [if_pos rfl, if_pos (by omega), hlb]
              · rw [if_neg hib, if_neg (by omega), S.hL i hi]; omega
            · rw [getD_set _ _ _ _ _ (by omega), bad_snoc]
              by_cases hib : i = b.toNat
              · subst hib
                rw [if_pos rfl, hxx, S.hD _ hi]
                have : ((R.length : Nat) : Int) = now := hRn
                constructor
                · rintro (h | h)
                  · exact .inl h
                  · exact .inr ⟨by omega, by omega⟩
                · rintro (h | h)
                  · exact .inl h
                  · exact .inr (by omega)
              · rw [if_neg hib, S.hD _ hi]
                constructor
                · exact .inl
                · rintro (h | h)
                  · exact h
                  · omega
          refine ⟨o7''.ne1 (by omega) (by omega), hb, hbl, _, o7''.bool_at hb (by omega), fun _ => t1, fun _ => hb, fun _ => hbl, fun _ => t2, fun ht => ⟨o7''.ne1 (by omega) (by omega), hb, hbl, ?_⟩, fun ht => ⟨_, (tasks_fld hT32 hb hbl).2.1, o7''.ne1 (by omega) (by omega), hb, hbl, ?_⟩⟩
          · refine store_bool o7'' hb (by omega) (by simp) fun w34 o7n g3 => fin w34 true ⟨fun _ => .inl ht, fun _ => rfl⟩ o7n g3
          · refine store_bool o7'' hb (by omega) (by simp) fun w34 o7n g3 => fin w34 _ (by rw [ht, decide_eq_true_iff]; simp) o7n g3
        · rw [left_snoc, if_neg (by omega), S.hL i hi]; omega
        · rw [bad_snoc, S.hD i hi]
          constructor
          · exact .inl
          · rintro (h | h)
            · exact h
            · omega
    · refine ⟨fun late fl fc k w' => ∃ F : List Int, Ext w w' ∧ RunS w.heap.size w' l q2 q7 row rl rc R L D ∧ Own w.heap.size w' T_int 1 late fl fc (F.map (.int .i64)) ∧ Apart q2 late ∧ Apart q7 late ∧ Apart row late ∧ 0 ≤ k ∧ k ≤ l.length ∧ (fl : Int) ≤ k ∧ (fl = 0 ↔ ∀ i : Nat, (i : Int) < k → ¬ Late l R i), fun _ _ _ k _ => (l.length - k).toNat,
        ⟨[], hx, S, Own.nil, Apart.nil, Apart.nil, Apart.nil, by omega, by omega, by omega, ⟨fun _ i hi => by omega, fun _ => rfl⟩⟩, ?_⟩
      rintro late fl fc k w20 ⟨F, hx, S, of, a2f, a7f, arf, hk0, hk1, hfk, hF⟩
      have hB := hx.size
      have step : ∀ (hlt : k < l.length), ¬ Late l R k.toNat → (fl = 0 ↔ ∀ i : Nat, (i : Int) < k + 1 → ¬ Late l R i) := by
        intro hlt hno
        rw [hF]
        constructor
        · intro hz i hi
          by_cases hik : (i : Int) < k
          · exact hz i hik
          · obtain rfl : i = k.toNat := by omega
            exact hno
        · intro hz i hi; exact hz i (by omega)
      have pushed : ∀ (hlt : k < l.length), Late l R k.toNat → ∀ w22, Ext w20 w22 → Run Try.prog (.buildSlice 24 1 [(0, (.int .i64 k))]) w22 fun v23 w23 =>
          Ext w22 w23 ∧ ∃ t24 : Option Addr, ∃ tl25 : Nat, ∃ tc26 : Nat, v23 = (.slice t24 tl25 tc26) ∧ ∀ w27, Ext w23 w27 →
            Run Try.prog (.append #[24, 24] 24 [(.slice late fl fc), (.slice t24 tl25 tc26)]) w27 fun v28 w28 =>
             ∃ t29 : Option Addr, ∃ tl30 : Nat, ∃ tc31 : Nat, v28 = (.slice t29 tl30 tc31) ∧ (InR .i64 (k + 1) ∧
             ((∃ F : List Int, Ext w w28 ∧ RunS w.heap.size w28 l q2 q7 row rl rc R L D ∧ Own w.heap.size w28 T_int 1 t29 tl30 tc31 (F.map (.int .i64)) ∧ Apart q2 t29 ∧ Apart q7 t29 ∧ Apart row t29 ∧ 0 ≤ k + 1 ∧ k + 1 ≤ l.length ∧ (tl30 : Int) ≤ k + 1 ∧ (tl30 = 0 ↔ ∀ i : Nat, (i : Int) < k + 1 → ¬ Late l R i)) ∧ (l.length - (k + 1)).toNat < (l.length - k).toNat)) := by
        intro hlt hl w22 e22
        refine push_int elem_sl_int of hB (by omega) (by omega) (fun late' fc' w28 of' g hne => ⟨i64 (by omega), ⟨F ++ [k], g.ext hx of, S.grew g a2f a7f arf, of', a2f.grew S.o2 g, a7f.grew S.o7 g, arf.grew S.or g, by omega, by omega, by omega, ⟨fun h => by omega, fun h => absurd hl (h k.toNat (by omega))⟩⟩, by omega⟩) w22 e22
      have hkk : ((k.toNat : Nat) : Int) = k := by omega
      refine ⟨fun hlt => ?_, fun hge w21 h21 => ?_⟩
      · refine ⟨S.o7.ne1 (by omega) (by omega), hk0, hlt, _, S.o7.bool_at hk0 (by omega), fun _ => S.o2.ne1 (by omega) (by omega), fun _ => hk0, fun _ => hlt, fun ht => ?_, fun ht => ⟨_, S.o2.int_at hk0 (by omega), fun hp => ?_, fun hp => ⟨i64 (by omega), ⟨F, hx, S, of, a2f, a7f, arf, by omega, by omega, by omega, step hlt ?_⟩, by simp only []; omega⟩⟩⟩
        · exact pushed hlt (.inl ((S.hD k.toNat (by omega)).1 ht))
        · exact pushed hlt (.inr (by rw [← S.hL k.toNat (by omega)]; exact hp))
        · rintro (hb | hb)
          · have := (S.hD k.toNat (by omega)).2 hb
            rw [ht] at this; cases this
          · rw [← S.hL k.toNat (by omega)] at hb; omega
      · obtain rfl : k = l.length := by omega
        have hR200 : R.length = 200 := by omega
        obtain rfl : rl = 200 := by rw [← lenR]; exact hR200
        exact ⟨hx.trans h21, row, rc, late, fl, fc, R, rfl, S.or.ext h21, hst, by rw [hF]; exact ⟨fun h i hi => h i (by omega), fun h i hi => h i (by omega)⟩, by omega⟩
end Go.Proofs.Ytnclaokllghaoaa
