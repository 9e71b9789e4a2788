/- The law CivilText: days as texts. -/
import Derived.Test.YtcliejgmehlojaaDoorCvD
import Derived.Test.YtcliejgmehlojaaDoorTxtB
import Derived.Test.YtcliejgmehlojaaDoorSxR
import Derived.Laws.IdiomStrings
import Derived.Laws.Runes
set_option linter.unusedVariables false
set_option linter.unusedSimpArgs false
namespace Go.Proofs.YtcliejgmehlojaaDoor
open Go.Sx Go.RowKit

abbrev GL := Gl

theorem laid_ok {W : World} (h : laidMetH Tryd.prog [("shiftbell/civil.ahead", Rows.laid_shiftbell_civil_ahead)] W) : GL W := by
  have key := laid_ints h (by kernel_rfl) (name := "shiftbell/civil.ahead") (k := .i64) (xs := [0, 0, 31, 59, 90, 120, 151, 181, 212, 243, 273, 304, 334]) (by exact List.mem_singleton.2 rfl)
    (g := 0) (t := (Tryd.prog.globals[0]?).elim 0 (·.type)) (e := T_int) (n := 13) (by kernel_rfl) (by kernel_rfl) (by kernel_rfl) (by kernel_rfl) (by kernel_rfl)
  intro i hi
  refine key i _ ?_ hi
  match i, hi with
  | 0, _ | 1, _ | 2, _ | 3, _ | 4, _ | 5, _ | 6, _ | 7, _ | 8, _ | 9, _ | 10, _ | 11, _ | 12, _ => rfl

/-- The bytes of a text, as numbers. -/
def bytesI (s : ByteArray) : List Int := s.data.toList.map fun b => (b.toNat : Int)
theorem bytesI_len (s : ByteArray) : (bytesI s).length = s.size := by simp [bytesI]
theorem bytesI_app (a b : ByteArray) : bytesI (a ++ b) = bytesI a ++ bytesI b := by simp [bytesI]
theorem bytesI_inj {a b : ByteArray} (h : bytesI a = bytesI b) : a = b := by
  have h1 : a.data.toList = b.data.toList := by
    unfold bytesI at h
    exact (List.map_inj_right (fun x y hxy => by
      have : x.toNat = y.toNat := by exact_mod_cast hxy
      exact UInt8.toNat_inj.1 this)).1 h
  cases a; cases b; simp_all
/-- '[]byte(s)': the bytes in a new row. -/
theorem run_s2b {P : Program} {src dst e : TypeId} {s : ByteArray} (hs : P.underlying src = some .string) (hd : P.underlying dst = some (.slice e)) (he : P.underlying e = some (.int .u8)) {w : World} {K : Value → World → Prop}
    (hk : ∀ p c w', Ext w w' → Ints .u8 w' p (bytesI s) → (∀ a, p = some a → w.heap.size ≤ a.block) → K (.slice p s.size c) w') : Run P (.convert src dst (.string s)) w K := by
  refine ⟨_, _, run_bytes_of_string w src dst e s hs hd he, hk _ _ _ ?_ (fun i v hv => ?_) (fun a ha => by obtain rfl := Option.some.inj ha; exact Nat.le_refl _)⟩
  · exact Below.alloc (B := w.heap.size) (a := w) (w := w.drew) ⟨rfl, rfl, rfl, Nat.le_refl _, fun _ _ => rfl⟩ (Nat.le_refl _) _
  · obtain ⟨hi, hv⟩ := List.getElem?_eq_some_iff.1 hv
    have hi' : i < s.data.size := by simpa [bytesI] using hi
    have hc := World.cell?_alloc_mark w.drew (bytesRow s (grownCap w s.size 0 e)) e ((bytesRow s (grownCap w s.size 0 e)).size, (bytesRow s (grownCap w s.size 0 e)).size + 1) i
    rw [bytesRow_at s _ i hi'] at hc
    simp only [cell, Option.bind_some]
    have ha : (Addr.add ⟨w.heap.size, 0, none⟩ i) = ⟨w.drew.heap.size, i, none⟩ := by simp [Addr.add]; intro h; exact h.symm
    rw [ha, hc, ← hv]
    simp [bytesI]

/-! ### Digits -/
def dgl : Int → Nat → List Int
  | _, 0 => []
  | n, k + 1 => dgl (n / 10) k ++ [48 + n % 10]
theorem dgl_len (n : Int) (k : Nat) : (dgl n k).length = k := by
  induction k generalizing n with
  | zero => rfl
  | succ k ih => simp [dgl, ih]
theorem enc1 {x : Int} (h0 : 0 ≤ x) (h1 : x < 128) : bytesI (Utf8.encode x) = [x] := by
  have hv : Utf8.valid x = true := by unfold Utf8.valid; simp; omega
  have hc : x.toNat < 128 := by omega
  unfold Utf8.encode
  simp only [hv, if_true, hc]
  simp [bytesI]; omega
theorem digits_k (n many : Int) (h0 : 0 ≤ n) (h1 : n ≤ 1000000) (h2 : 0 ≤ many) (h3 : many ≤ 10) (w : World) : FnP Tryd.prog F_civil_digits #[.int .i64 n, .int .i64 many] w fun v w' => Ext w w' ∧ ∃ s, v = .string s ∧ bytesI s = dgl n many.toNat := by
  refine ok_civil_digits n many w _ ⟨fun s m k w' => w' = w ∧ 0 ≤ k ∧ k ≤ many ∧ 0 ≤ m ∧ m ≤ 1000000 ∧ (s.size : Int) = k ∧ dgl n many.toNat = dgl m (many - k).toNat ++ bytesI s, fun _ _ k _ => (many - k).toNat, ⟨rfl, by omega, by omega, h0, h1, rfl, by rw [Int.sub_zero, show bytesI (⟨#[]⟩ : ByteArray) = [] from rfl, List.append_nil]⟩, ?_⟩
  rintro s m k w4 ⟨rfl, hk0, hk1, hm0, hm1, hs, he⟩
  refine ⟨fun hlt => ?_, fun hge w5 h5 => ⟨h5, s, rfl, ?_⟩⟩
  · rw [tm hm0, td hm0]
    refine ⟨i64 (by omega), ⟨by simp [IntKind.min, IntKind.signed, IntKind.bits]; omega, by simp [IntKind.max, IntKind.signed, IntKind.bits]; omega⟩, fun w5 h5 => ⟨_, _, run_convert_int_string w5 _ _ _ _ (by kernel_rfl) (by kernel_rfl), Ext.refl _, _, rfl, ?_⟩⟩
    have hb := enc1 (x := 48 + m % 10) (by omega) (by omega)
    have hsz : (Utf8.encode (48 + m % 10)).size = 1 := by rw [← bytesI_len, hb]; rfl
    refine ⟨by unfold CatOk; omega, i64 (by omega), i64 (by omega), ⟨rfl, by omega, by omega, by omega, by omega, by rw [ByteArray.size_append, hsz]; omega, ?_⟩, by simp only []; omega⟩
    rw [he, bytesI_app, hb, show (many - k).toNat = (many - (k + 1)).toNat + 1 by omega, dgl, List.append_assoc]
  · rw [he, show (many - k).toNat = 0 by omega]; rfl

def tx (y m d : Int) : List Int := dgl y 4 ++ ([45] ++ (dgl m 2 ++ ([45] ++ dgl d 2)))
theorem tx_eq (y m d : Int) : tx y m d = [48 + y / 10 / 10 / 10 % 10, 48 + y / 10 / 10 % 10, 48 + y / 10 % 10, 48 + y % 10, 45, 48 + m / 10 % 10, 48 + m % 10, 45, 48 + d / 10 % 10, 48 + d % 10] := rfl

theorem Text_k (n : Int) (hn : InR .i64 n) (w : World) (hg : GL w) : FnP Tryd.prog F_civil_Text #[.int .i64 n] w fun v w' => Ext w w' ∧ ∃ s e, v = .tuple #[.string s, .int .i64 e] ∧
    (((0 ≤ n ∧ n ≤ 3652058) ∧ e = 0 ∧ ∃ y m d, vd y m d ∧ dy y m d = n ∧ bytesI s = tx y m d) ∨ (¬ (0 ≤ n ∧ n ≤ 3652058) ∧ e = 4)) := by
  refine ok_civil_Text n w _ fun w0 h0 => ?_
  refine (Date_k n hn w0 (Gl.ext hg h0)).mono fun v w1 ⟨e1, y, m, d, e, hv, ho, hno⟩ => ⟨e1, _, _, _, _, hv, fun hne w6 h6 => ⟨h6, _, _, rfl, ?_⟩, fun he w6 h6 => ?_⟩
  · by_cases hr : 0 ≤ n ∧ n ≤ 3652058
    · exact absurd (ho hr).1 hne
    · exact .inr ⟨hr, (hno hr).1⟩
  have hr : 0 ≤ n ∧ n ≤ 3652058 := by
    by_cases hr : 0 ≤ n ∧ n ≤ 3652058
    · exact hr
    · have := (hno hr).1; omega
  obtain ⟨_, hvd, hdy⟩ := ho hr
  have hvd' := hvd
  obtain ⟨g1, g2, g3, g4, g5, g6⟩ := hvd'
  have hl := ln_bounds (y := y) g3 g4
  have sz : ∀ {s : ByteArray} {n : Int} {k : Nat}, bytesI s = dgl n k → s.size = k := fun h => by rw [← bytesI_len, h, dgl_len]
  refine (digits_k y 4 (by omega) (by omega) (by omega) (by omega) w6).mono fun v w7 ⟨e7, s1, hv, b1⟩ => ⟨e7, _, hv, ?_⟩
  have z1 := sz b1
  refine ⟨by unfold CatOk; rw [z1]; decide, fun w9 h9 => (digits_k m 2 (by omega) (by omega) (by omega) (by omega) w9).mono fun v w10 ⟨e10, s2, hv, b2⟩ => ⟨e10, _, hv, ?_⟩⟩
  have z2 := sz b2
  refine ⟨by unfold CatOk; rw [ByteArray.size_append, z1, z2]; decide, by unfold CatOk; rw [ByteArray.size_append, ByteArray.size_append, z1, z2]; decide, fun w12 h12 => (digits_k d 2 (by omega) (by omega) (by omega) (by omega) w12).mono fun v w13 ⟨e13, s3, hv, b3⟩ => ⟨e13, _, hv, ?_⟩⟩
  have z3 := sz b3
  refine ⟨by unfold CatOk; rw [ByteArray.size_append, ByteArray.size_append, ByteArray.size_append, z1, z2, z3]; decide, fun w15 h15 => ⟨h15, _, _, rfl, .inl ⟨hr, rfl, y, m, d, hvd, hdy, ?_⟩⟩⟩
  rw [bytesI_app, bytesI_app, bytesI_app, bytesI_app, b1, b2, b3]
  unfold tx
  simp [bytesI]

/-! ### Reading -/
def kk3 (i : Nat) : Nat := if i ≤ 4 then 0 else if i ≤ 7 then 1 else 2
def Dd (b : Nat → Int) : Nat → List Int
  | 0 => [0, 0, 0]
  | i + 1 => if i = 4 ∨ i = 7 then Dd b i else (Dd b i).set (kk3 i) (10 * (Dd b i).getD (kk3 i) 0 + (b i - 48))
theorem Dd_len (b : Nat → Int) (i : Nat) : (Dd b i).length = 3 := by
  induction i with
  | zero => rfl
  | succ i ih => rw [Dd]; split <;> simp [ih]
theorem Dd_bound (b : Nat → Int) : ∀ i, (∀ j, j < i → j ≠ 4 → j ≠ 7 → 48 ≤ b j ∧ b j ≤ 57) → ∀ x ∈ Dd b i, 0 ≤ x ∧ x < ((10 ^ i : Nat) : Int)
  | 0, _, x, hx => by simp [Dd] at hx; subst hx; simp
  | i + 1, h, x, hx => by
    have ih := Dd_bound b i fun j hj => h j (by omega)
    have hp : ((10 ^ (i + 1) : Nat) : Int) = 10 * ((10 ^ i : Nat) : Int) := by rw [Nat.pow_succ]; omega
    rw [hp]
    have hpos : (0 : Int) < ((10 ^ i : Nat) : Int) := by have : 0 < 10 ^ i := Nat.pow_pos (by omega); omega
    rw [Dd] at hx
    split at hx
    · have := ih x hx; omega
    · rename_i hne
      rcases List.mem_or_eq_of_mem_set hx with hx | rfl
      · have := ih x hx; omega
      · have hk : kk3 i < (Dd b i).length := by rw [Dd_len]; unfold kk3; split <;> (try split) <;> omega
        have := ih _ (getD_mem (Dd b i) 0 hk)
        have := h i (by omega) (by omega) (by omega)
        omega
theorem Dd_ten (b : Nat → Int) : Dd b 10 = [10 * (10 * (10 * (10 * 0 + (b 0 - 48)) + (b 1 - 48)) + (b 2 - 48)) + (b 3 - 48), 10 * (10 * 0 + (b 5 - 48)) + (b 6 - 48), 10 * (10 * 0 + (b 8 - 48)) + (b 9 - 48)] := by
  simp [Dd, kk3]

theorem Read_k (s : ByteArray) (w : World) (hg : GL w) : FnP Tryd.prog F_civil_Read #[.string s] w fun v w' => Ext w w' ∧ ∃ k e, v = .tuple #[.int .i64 k, .int .i64 e] ∧
    ((e ≠ 0 ∧ k = 0 ∧ ∀ y m d, vd y m d → bytesI s ≠ tx y m d) ∨ (e = 0 ∧ ∃ y m d, vd y m d ∧ k = dy y m d ∧ bytesI s = tx y m d)) := by
  refine ok_civil_Read s w _ ⟨fun hne w0 h0 => ⟨h0, _, _, rfl, .inl ⟨by omega, rfl, fun y m d _ h => ?_⟩⟩, fun h10 w0 h0 => ?_⟩
  · have := congrArg List.length h
    rw [bytesI_len, tx_eq] at this
    simp at this; omega
  have hsz : s.size = 10 := by omega
  refine new_own (by intro v hv; simp at hv; subst hv; rfl) fun w1 o1 e1 => ?_
  generalize hp1 : (some ⟨w0.heap.size, 0, none⟩ : Option Addr) = p1
  rw [hp1] at o1
  have hp : p1 ≠ none := by rw [← hp1]; simp
  have x1 := h0.trans e1
  intro w2 h2
  refine run_s2b (e := T_uint8) (by kernel_rfl) (by kernel_rfl) (by kernel_rfl) fun q c w3 e3 hI hq3 => ⟨e3, q, s.size, c, rfl, ?_⟩
  obtain ⟨b, hb⟩ : ∃ b : Nat → Int, b = fun i => (bytesI s).getD i 0 := ⟨_, rfl⟩
  have x3 := (x1.trans h2).trans e3
  have o3 := ((o1 w.heap.size h0.size).ext h2).ext e3
  have hap : Apart q p1 := fun a b' ha hb' => by
    have h1 := hq3 a ha
    have h2' := (o1 0 (Nat.zero_le _)).lt b' hb'
    have := h2.size
    omega
  refine ⟨fun k i w' => Ext w w' ∧ 0 ≤ i ∧ i ≤ 10 ∧ k = kk3 i.toNat ∧ Own w.heap.size w' 45 3 p1 1 1 ((Dd b i.toNat).map (.int .i64)) ∧ Ints .u8 w' q (bytesI s) ∧ (∀ j : Nat, (j : Int) < i → (j = 4 ∨ j = 7 → b j = 45) ∧ (j ≠ 4 → j ≠ 7 → 48 ≤ b j ∧ b j ≤ 57)), fun _ i _ => (10 - i).toNat, ⟨x3, by omega, by omega, rfl, o3, hI, fun j hj => by omega⟩, ?_⟩
  rintro k i w10 ⟨x10, hi0, hi1, rfl, o10, hI10, hall⟩
  have bad : ∀ {e : Int} {w' : World}, Ext w w' → e ≠ 0 → (∀ y m d, vd y m d → bytesI s ≠ tx y m d) → Ext w w' ∧ ∃ k' e', Value.tuple #[.int .i64 0, .int .i64 e] = .tuple #[.int .i64 k', .int .i64 e'] ∧ ((e' ≠ 0 ∧ k' = 0 ∧ ∀ y m d, vd y m d → bytesI s ≠ tx y m d) ∨ (e' = 0 ∧ ∃ y m d, vd y m d ∧ k' = dy y m d ∧ bytesI s = tx y m d)) := fun hx he h => ⟨hx, _, _, rfl, .inl ⟨he, rfl, h⟩⟩
  -- what a text of a day looks like
  have look : ∀ y m d, vd y m d → bytesI s = tx y m d → ∀ j : Nat, j < 10 → (j = 4 ∨ j = 7 → b j = 45) ∧ (j ≠ 4 → j ≠ 7 → 48 ≤ b j ∧ b j ≤ 57) := fun y m d hv h j hj => by
    rw [hb]
    simp only [h, tx_eq]
    have : j = 0 ∨ j = 1 ∨ j = 2 ∨ j = 3 ∨ j = 4 ∨ j = 5 ∨ j = 6 ∨ j = 7 ∨ j = 8 ∨ j = 9 := by omega
    rcases this with rfl | rfl | rfl | rfl | rfl | rfl | rfl | rfl | rfl | rfl <;> simp <;> omega
  refine ⟨fun hlt => ?_, fun hge => ?_⟩
  · have hlt : i < 10 := by omega
    have g := Ints.idx hI10 hi0 (by rw [bytesI_len]; omega)
    have hbi : (bytesI s).getD i.toNat 0 = b i.toNat := by rw [hb]
    rw [hbi] at g
    refine ⟨fun hq => cell_p g (pIdx_none.2 hq), hi0, by omega, _, g, fun hd => ⟨fun hne w12 h12 => bad (x10.trans h12) (by omega) fun y m d hv h => hne ((look y m d hv h i.toNat (by omega)).1 (by omega)), fun heq => ⟨i64 (by unfold kk3; split <;> (try split) <;> omega), i64 (by omega), ⟨x10, by omega, by omega, ?_, ?_, hI10, fun j hj => ?_⟩, by simp only []; omega⟩⟩, fun ⟨hn4, hn7⟩ => ⟨fun hr w12 h12 => bad (x10.trans h12) (by omega) fun y m d hv h => ?_, fun ⟨hr0, hr1⟩ => ?_⟩⟩
    · rcases hd with rfl | rfl <;> rfl
    · rw [show (i + 1).toNat = i.toNat + 1 by omega, Dd, if_pos (by omega)]; exact o10
    · by_cases hji : (j : Int) < i
      · exact hall j hji
      · obtain rfl : j = i.toNat := by omega
        exact ⟨fun _ => heq, fun _ _ => by omega⟩
    · have := (look y m d hv h i.toNat (by omega)).2 (by omega) (by omega)
      omega
    · have hk : kk3 i.toNat < 3 := by unfold kk3; split <;> (try split) <;> omega
      have hdl := Dd_len b i.toNat
      have hgk : Go.Sx.cell w10 (pIdx p1 (kk3 i.toNat : Nat) 1) 0 = some (.int .i64 ((Dd b i.toNat).getD (kk3 i.toNat) 0)) := by
        rw [cell_pIdx]
        refine o10.cells _ _ ?_
        rw [List.getElem?_map, getElem?_getD (Dd b i.toNat) 0 (by simp [hdl]; exact hk)]
        simp
      have hbd := Dd_bound b i.toNat (fun j hj h4 h7 => (hall j (by omega)).2 h4 h7) _ (getD_mem (Dd b i.toNat) 0 (i := kk3 i.toNat) (by omega))
      have hpw : ((10 ^ i.toNat : Nat) : Int) ≤ 10000000000 := by
        have := Nat.pow_le_pow_right (n := 10) (by omega) (show i.toNat ≤ 10 by omega)
        omega
      refine ⟨hp, by omega, by omega, _, hgk, i64 (by omega), ⟨by simp [IntKind.min, IntKind.signed, IntKind.bits]; omega, by simp [IntKind.max, IntKind.signed, IntKind.bits]; omega⟩, i64 (by omega), i64 (by omega), hp, by omega, by omega, ?_⟩
      refine store_own o10 pIdx_map (by simp [hdl]; omega) (by simp) (by intro v hv; simp at hv; subst hv; rfl) (by simp) fun w13 o13 g13 => ⟨i64 (by omega), ⟨g13.ext x10 o10, by omega, by omega, ?_, ?_, ?_, fun j hj => ?_⟩, by simp only []; omega⟩
      · have : i ≠ 4 ∧ i ≠ 7 := ⟨hn4, hn7⟩
        have : kk3 (i + 1).toNat = kk3 i.toNat := by unfold kk3; split <;> split <;> (try split) <;> (try split) <;> omega
        rw [this]
      · rw [show (i + 1).toNat = i.toNat + 1 by omega, Dd, if_neg (by omega)]
        simpa [setAt, List.map_set] using o13
      · exact Cells.grew hI10 hap g13
      · by_cases hji : (j : Int) < i
        · exact hall j hji
        · obtain rfl : j = i.toNat := by omega
          exact ⟨fun h => by omega, fun _ _ => ⟨hr0, hr1⟩⟩
  · obtain rfl : i = 10 := by omega
    have hD := Dd_ten b
    have hc := o10.cells
    rw [show (10 : Int).toNat = 10 from rfl, hD] at hc
    have dgt := fun j (hj : j < 10) => hall j (by omega)
    have d0 := (dgt 0 (by omega)).2 (by omega) (by omega)
    have d1 := (dgt 1 (by omega)).2 (by omega) (by omega)
    have d2 := (dgt 2 (by omega)).2 (by omega) (by omega)
    have d3 := (dgt 3 (by omega)).2 (by omega) (by omega)
    have d4 := (dgt 4 (by omega)).1 (by omega)
    have d5 := (dgt 5 (by omega)).2 (by omega) (by omega)
    have d6 := (dgt 6 (by omega)).2 (by omega) (by omega)
    have d7 := (dgt 7 (by omega)).1 (by omega)
    have d8 := (dgt 8 (by omega)).2 (by omega) (by omega)
    have d9 := (dgt 9 (by omega)).2 (by omega) (by omega)
    obtain ⟨y, hy⟩ : ∃ y, y = 10 * (10 * (10 * (10 * 0 + (b 0 - 48)) + (b 1 - 48)) + (b 2 - 48)) + (b 3 - 48) := ⟨_, rfl⟩
    obtain ⟨m, hm⟩ : ∃ m, m = 10 * (10 * 0 + (b 5 - 48)) + (b 6 - 48) := ⟨_, rfl⟩
    obtain ⟨d, hd⟩ : ∃ d, d = 10 * (10 * 0 + (b 8 - 48)) + (b 9 - 48) := ⟨_, rfl⟩
    rw [← hy, ← hm, ← hd] at hc
    have c0 : Go.Sx.cell w10 (pIdx p1 0 1) 0 = some (.int .i64 y) := by rw [cell_pIdx]; exact hc 0 _ rfl
    have c1 : Go.Sx.cell w10 (pIdx p1 1 1) 0 = some (.int .i64 m) := by rw [cell_pIdx]; exact hc 1 _ rfl
    have c2 : Go.Sx.cell w10 (pIdx p1 2 1) 0 = some (.int .i64 d) := by rw [cell_pIdx]; exact hc 2 _ rfl
    have hlist : bytesI s = [b 0, b 1, b 2, b 3, b 4, b 5, b 6, b 7, b 8, b 9] := by
      have hl : (bytesI s).length = 10 := by rw [bytesI_len, hsz]
      rw [hb]
      match hbs : bytesI s, hl with
      | [_, _, _, _, _, _, _, _, _, _], _ => rfl
    have htx : bytesI s = tx y m d := by
      rw [hlist, tx_eq]
      have e0 : b 0 = 48 + y / 10 / 10 / 10 % 10 := by omega
      have e1 : b 1 = 48 + y / 10 / 10 % 10 := by omega
      have e2 : b 2 = 48 + y / 10 % 10 := by omega
      have e3 : b 3 = 48 + y % 10 := by omega
      have e5 : b 5 = 48 + m / 10 % 10 := by omega
      have e6 : b 6 = 48 + m % 10 := by omega
      have e8 : b 8 = 48 + d / 10 % 10 := by omega
      have e9 : b 9 = 48 + d % 10 := by omega
      rw [e0, e1, e2, e3, d4, e5, e6, d7, e8, e9]
    refine ⟨hp, by omega, by omega, _, c0, hp, by omega, by omega, _, c1, hp, by omega, by omega, _, c2, fun w14 h14 => ?_⟩
    refine (Days_k y m d (i64 (by omega)) w14 (Gl.ext hg (x10.trans h14))).mono fun v w15 ⟨e15, k, e, hv, ho, hno⟩ => ⟨e15, _, _, hv, fun w18 h18 => ?_⟩
    by_cases hvd : vd y m d
    · obtain ⟨rfl, rfl⟩ := ho hvd
      exact ⟨x10.trans h18, _, _, rfl, .inr ⟨rfl, y, m, d, hvd, rfl, htx⟩⟩
    · obtain ⟨rfl, rfl⟩ := hno hvd
      refine bad (x10.trans h18) (by omega) fun y' m' d' hv' h' => hvd ?_
      rw [htx, tx_eq, tx_eq] at h'
      simp only [List.cons.injEq, and_true] at h'
      obtain ⟨g1, g2, g3, g4, g5, g6⟩ := id hv'
      have hl := ln_bounds (y := y') g3 g4
      obtain ⟨a0, a1, a2, a3, _, a5, a6, _, a8, a9⟩ := h'
      have : y = y' := by omega
      have : m = m' := by omega
      have : d = d' := by omega
      subst_vars
      assumption

/-! ### The order of texts -/
def lexI : List Int → List Int → Prop
  | _, [] => False
  | [], _ :: _ => True
  | a :: x, b :: y => a < b ∨ (a = b ∧ lexI x y)
theorem sLt_lex (a b : ByteArray) : sLt a b = true ↔ lexI (bytesI a) (bytesI b) := by
  unfold sLt bytesI
  rw [ByteArray.toList_eq, ByteArray.toList_eq]
  generalize a.data.toList = x
  generalize b.data.toList = y
  induction x generalizing y with
  | nil =>
    cases y with
    | nil => simp [Op.bytesLess, lexI]
    | cons b y => simp [Op.bytesLess, lexI]
  | cons a x ih =>
    cases y with
    | nil => simp [Op.bytesLess, lexI]
    | cons b y =>
      rw [Op.bytesLess, List.map_cons, List.map_cons, lexI, ← ih y]
      simp only [Bool.or_eq_true, Bool.and_eq_true, decide_eq_true_iff, beq_iff_eq]
      have h1 : a < b ↔ (a.toNat : Int) < b.toNat := by rw [UInt8.lt_iff_toNat_lt]; omega
      have h2 : a = b ↔ (a.toNat : Int) = b.toNat := by rw [← UInt8.toNat_inj]; omega
      rw [h1, h2]
theorem lex_dgl {y y' : Int} {k : Nat} : ∀ {r r' : List Int}, 0 ≤ y → 0 ≤ y' → y < ((10 ^ k : Nat) : Int) → y' < ((10 ^ k : Nat) : Int) → (lexI (dgl y k ++ r) (dgl y' k ++ r') ↔ y < y' ∨ (y = y' ∧ lexI r r')) := by
  induction k generalizing y y' with
  | zero =>
    intro r r' h0 h1 h2 h3
    simp at h2 h3
    have : y = y' := by omega
    subst this
    simp [dgl]
  | succ k ih =>
    intro r r' h0 h1 h2 h3
    have hp : ((10 ^ (k + 1) : Nat) : Int) = 10 * ((10 ^ k : Nat) : Int) := by rw [Nat.pow_succ]; omega
    rw [hp] at h2 h3
    rw [dgl, dgl, List.append_assoc, List.append_assoc, ih (by omega) (by omega) (by omega) (by omega), List.singleton_append, List.singleton_append, lexI]
    by_cases hl : lexI r r' <;> simp only [hl, and_true, and_false, or_false] <;> omega
theorem lex_cons {a b : Int} {x y : List Int} : lexI (a :: x) (b :: y) ↔ a < b ∨ (a = b ∧ lexI x y) := by rw [lexI]
theorem lex_tx {y m d y' m' d' : Int} (h : vd y m d) (h' : vd y' m' d') : lexI (tx y m d) (tx y' m' d') ↔ dy y m d < dy y' m' d' := by
  obtain ⟨g1, g2, g3, g4, g5, g6⟩ := id h
  obtain ⟨f1, f2, f3, f4, f5, f6⟩ := id h'
  have hl := ln_bounds (y := y) g3 g4
  have hl' := ln_bounds (y := y') f3 f4
  unfold tx
  rw [lex_dgl (by omega) (by omega) (by simp; omega) (by simp; omega)]
  simp only [List.singleton_append, lex_cons]
  rw [lex_dgl (by omega) (by omega) (by simp; omega) (by simp; omega)]
  simp only [lex_cons]
  have hd := lex_dgl (y := d) (y' := d') (k := 2) (r := []) (r' := []) (by omega) (by omega) (by simp; omega) (by simp; omega)
  rw [List.append_nil, List.append_nil] at hd
  rw [hd, show lexI [] [] = False by unfold lexI; rfl]
  simp only [and_false, or_false, Int.lt_irrefl, false_or, true_and]
  have b1 := dy_bounds h
  have b2 := dy_bounds h'
  rcases Int.lt_trichotomy y y' with hy | hy | hy
  · have := bef_mono (show y + 1 ≤ y' by omega)
    constructor
    · intro _; omega
    · intro _; exact .inl hy
  · subst hy
    rcases Int.lt_trichotomy m m' with hm | hm | hm
    · have := ms_le (y := y) g3 hm f4
      unfold dy
      constructor
      · intro _; omega
      · intro _; exact .inr ⟨rfl, .inl hm⟩
    · subst hm
      unfold dy
      omega
    · have := ms_le (y := y) f3 hm g4
      unfold dy
      constructor
      · intro hh; omega
      · intro hh; omega
  · have := bef_mono (show y' + 1 ≤ y by omega)
    constructor
    · intro hh; omega
    · intro hh; omega

theorem core_CivilText (W : World) (hg : GL W) : ∀ n : Int, InR .i64 n → ∀ m : Int, InR .i64 m → ∀ s : ByteArray, s.size ≤ 9223372036854775807 →
    FnP Tryd.prog F_shiftbellkeep_CivilText #[.int .i64 n, .int .i64 m, .string s] W fun v W' => v = .bool true ∧ Ext W W' := by
  intro n hn m hm s hs
  refine ok_shiftbellkeep_CivilText n m s W _ fun w0 h0 => ?_
  refine (days_k w0 (Gl.ext hg h0)).mono fun v w1 ⟨e1, hv⟩ => ⟨e1, _, hv, fun h => by (cases h), fun _ w3 h3 => ?_⟩
  refine (Text_k n hn w3 (Gl.ext hg h3)).mono fun v w4 ⟨e4, a, e, hv, ha⟩ => ⟨e4, _, _, hv, fun w7 h7 => ?_⟩
  refine (Text_k m hm w7 (Gl.ext hg h7)).mono fun v w8 ⟨e8, b, f, hv, hb⟩ => ⟨e8, _, _, hv, fun w11 h11 => ?_⟩
  have tail : ∀ {w12 : World}, Ext W w12 → ∀ w23, Ext w12 w23 → FnP Tryd.prog F_civil_Read #[.string s] w23 fun v24 w24 => Ext w23 w24 ∧ ∃ t25 : Int, ∃ t26 : Int, v24 = .tuple #[.int .i64 t25, .int .i64 t26] ∧
      ((t26 ≠ 0) → ∀ w27, Ext w12 w27 → (Value.bool (decide (t25 = 0)) = .bool true ∧ Ext W w27)) ∧
      ((t26 = 0) → ∀ w27, Ext w12 w27 → FnP Tryd.prog F_civil_Text #[.int .i64 t25] w27 fun v28 w28 => Ext w27 w28 ∧ ∃ t29 : ByteArray, ∃ t30 : Int, v28 = .tuple #[.string t29, .int .i64 t30] ∧ ∀ w31, Ext w12 w31 → (Value.bool ((decide (t30 = 0)) && (decide (t29 = s))) = .bool true ∧ Ext W w31)) := fun {w12} hx w23 h23 => by
    refine (Read_k s w23 (Gl.ext hg (hx.trans h23))).mono fun v w24 ⟨e24, k, g, hv, hr⟩ => ⟨e24, _, _, hv, fun hne w27 h27 => ⟨b_true ?_, hx.trans h27⟩, fun h0 w27 h27 => ?_⟩
    · rcases hr with ⟨_, rfl, _⟩ | ⟨h, _⟩
      · rfl
      · exact absurd h hne
    · obtain ⟨y, mm, d, hvd, rfl, hbs⟩ : ∃ y m d, vd y m d ∧ k = dy y m d ∧ bytesI s = tx y m d := by
        rcases hr with ⟨h, _⟩ | ⟨_, h⟩
        · exact absurd h0 h
        · exact h
      have hmx := dy_max hvd
      refine (Text_k _ (i64 (by omega)) w27 (Gl.ext hg (hx.trans h27))).mono fun v w28 ⟨e28, t, e', hv, ht⟩ => ⟨e28, _, _, hv, fun w31 h31 => ⟨b_true ?_, hx.trans h31⟩⟩
      rcases ht with ⟨_, rfl, y', m', d', hv', hd', hb'⟩ | ⟨h, _⟩
      · obtain ⟨rfl, rfl, rfl⟩ := dy_inj hv' hvd hd'
        have : t = s := bytesI_inj (hb'.trans hbs.symm)
        simp [this]
      · exact absurd hmx h
  refine good_lit (n := 2) [e, f] rfl rfl (by decide) (by decide) (fun w12 e12 => ⟨fun hgd w19 h19 => ?_, fun _ w19 h19 => tail (h11.trans e12) w19 h19⟩) w11 (Ext.refl _)
  have hx := h11.trans e12
  simp only [decide_eq_true_iff, List.mem_cons, List.not_mem_nil, or_false, forall_eq_or_imp, forall_eq] at hgd
  obtain ⟨rfl, rfl⟩ := hgd
  obtain ⟨hn0, y, mm, d, hvd, hdy, hbs⟩ : (0 ≤ n ∧ n ≤ 3652058) ∧ ∃ y m d, vd y m d ∧ dy y m d = n ∧ bytesI a = tx y m d := by
    rcases ha with ⟨h1, _, h⟩ | ⟨_, h⟩
    · exact ⟨h1, h⟩
    · omega
  obtain ⟨hm0, y', m', d', hvd', hdy', hbs'⟩ : (0 ≤ m ∧ m ≤ 3652058) ∧ ∃ y m' d, vd y m' d ∧ dy y m' d = m ∧ bytesI b = tx y m' d := by
    rcases hb with ⟨h1, _, h⟩ | ⟨_, h⟩
    · exact ⟨h1, h⟩
    · omega
  have hlt : sLt a b = true ↔ n < m := by rw [sLt_lex, hbs, hbs', lex_tx hvd hvd', hdy, hdy']
  have heq : a = b ↔ n = m := by
    constructor
    · rintro rfl
      rw [hbs] at hbs'
      have h1 := lex_tx hvd hvd'
      have h2 := lex_tx hvd' hvd
      rw [hbs'] at h1
      rw [hbs'] at h2
      rw [hdy, hdy'] at h1 h2
      have h3 := lex_tx hvd' hvd'
      have hirr : ¬ lexI (tx y' m' d') (tx y' m' d') := fun h => by have := h3.1 h; omega
      have : ¬ n < m := fun h => hirr (h1.2 h)
      have : ¬ m < n := fun h => hirr (h2.2 h)
      omega
    · rintro rfl
      obtain ⟨rfl, rfl, rfl⟩ := dy_inj hvd hvd' (hdy.trans hdy'.symm)
      exact bytesI_inj (hbs.trans hbs'.symm)
  refine (Read_k a w19 (Gl.ext hg (hx.trans h19))).mono fun v w20 ⟨e20, k, g, hv, hr⟩ => ⟨e20, _, _, hv, fun hbad => ?_, fun _ w23 h23 => tail hx w23 h23⟩
  exfalso
  obtain ⟨rfl, rfl⟩ : g = 0 ∧ k = n := by
    rcases hr with ⟨_, _, h⟩ | ⟨rfl, y2, m2, d2, hv2, rfl, hb2⟩
    · exact absurd hbs (h _ _ _ hvd)
    · refine ⟨rfl, ?_⟩
      have h1 := lex_tx hvd hv2
      have h2 := lex_tx hv2 hvd
      rw [hbs] at hb2
      rw [hb2] at h1 h2
      have hirr : ¬ lexI (tx y2 m2 d2) (tx y2 m2 d2) := fun h => by have := (lex_tx hv2 hv2).1 h; omega
      have : ¬ dy y mm d < dy y2 m2 d2 := fun h => hirr (h1.2 h)
      have : ¬ dy y2 m2 d2 < dy y mm d := fun h => hirr (h2.2 h)
      omega
  rcases hbad with ((h | h) | (h | h)) | (h | h)
  · exact h rfl
  · exact h rfl
  · have := hlt.1 h.1; omega
  · have h1 : ¬ sLt a b = true := by rw [h.1]; simp
    exact h1 (hlt.2 h.2)
  · exact h.2 (heq.1 h.1)
  · exact h.1 (heq.2 h.2)
end Go.Proofs.YtcliejgmehlojaaDoor
