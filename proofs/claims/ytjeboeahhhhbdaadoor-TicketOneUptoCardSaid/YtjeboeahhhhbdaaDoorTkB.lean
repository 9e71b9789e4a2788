/- Seals: what a ticket is sealed to. -/
import Derived.Test.YtjeboeahhhhbdaaDoorTkA
import Derived.Test.YtjeboeahhhhbdaaDoorEqF
import Derived.Lib.Repeat
import Derived.Lib.ItoaLen
set_option linter.unusedVariables false
set_option linter.unusedSimpArgs false
namespace Go.Proofs.YtjeboeahhhhbdaaDoor
open Go.Sx Go.RowKit

/-! ### Texts as lists -/
def ofL (l : List UInt8) : ByteArray := ⟨l.toArray⟩
theorem ofL_list (l : List UInt8) : (ofL l).data.toList = l := rfl
theorem ofL_size (l : List UInt8) : (ofL l).size = l.length := rfl
theorem ofL_of (s : ByteArray) : ofL s.data.toList = s := by cases s; rfl
theorem bs_app (a b : ByteArray) : (a ++ b).data.toList = a.data.toList ++ b.data.toList := by simp
theorem ofL_app (a b : List UInt8) : ofL a ++ ofL b = ofL (a ++ b) := by
  rw [← ofL_of (ofL a ++ ofL b), bs_app]; rfl
theorem ofL_inj {a b : List UInt8} (h : ofL a = ofL b) : a = b := by
  have := congrArg (fun s : ByteArray => s.data.toList) h
  exact this
theorem bytesI_ofL (l : List UInt8) : bytesI (ofL l) = l.map fun b => (b.toNat : Int) := rfl
theorem bs_size (s : ByteArray) : s.data.toList.length = s.size := by simp

/-! ### Ranges -/
theorem wrapU (x : Int) : 0 ≤ IntKind.wrap .u64 x ∧ IntKind.wrap .u64 x ≤ 18446744073709551615 := by
  simp [IntKind.wrap, IntKind.signed, IntKind.bits]; omega
theorem mixI_rng (u c : Int) : 0 ≤ mixI u c ∧ mixI u c ≤ 18446744073709551615 := by
  unfold mixI
  simp only [iBit]
  exact wrapU _
theorem sumI_rng {key : Int} (hk : 0 ≤ key ∧ key ≤ 18446744073709551615) (l : List Int) : 0 ≤ sumI key l ∧ sumI key l ≤ 18446744073709551615 := by
  unfold sumI
  induction l generalizing key with
  | nil => exact hk
  | cons x r ih => exact ih (mixI_rng key x)

theorem below_grow {w : World} {k : Nat} {os : Array Obj} : Ext w (Go.Sort.grow (w.drewN k) os) :=
  ⟨rfl, rfl, rfl, by simp [Go.Sort.grow], fun b hb => Go.Sort.heap_grow_old (w.drewN k) os hb⟩
theorem FormatInt_k (n : Int) (h : -9223372036854775808 ≤ n ∧ n ≤ 9223372036854775807) (w : World) (g : GA w) : FnP Tryd.prog F_strconv_FormatInt #[.int .i64 n, .int .i64 10] w fun v w' => Ext w w' ∧ v = .string (ofL (Lib.itoa n)) :=
  ⟨fun args w => Tryd.call35 args w, (Tryd.strconv_FormatInt_10 n h.1 h.2 w g.pow).mono fun e w' ⟨he, k, os, hw⟩ => ⟨_, he, by rw [hw]; exact below_grow, rfl⟩⟩

theorem zeros (c : Nat) : Lib.repeatL [48] c = List.replicate c 48 := by
  induction c with
  | zero => rfl
  | succ c ih => simp only [Lib.repeatL, ih]; rfl
theorem hexL_zero {u : Nat} : ∀ {m k : Nat}, u / 16 ^ k = 0 → hexL u (m + k) = List.replicate m 48 ++ hexL u k
  | 0, k, h => by simp
  | m + 1, k, h => by
    have h1 : u / 16 ^ (m + k) = 0 := by
      rw [Nat.pow_add, Nat.mul_comm, ← Nat.div_div_eq_div_mul, h, Nat.zero_div]
    rw [show m + 1 + k = (m + k) + 1 by omega, hexL_succ, hexL_zero h, h1]
    rfl
theorem hex_k (u : Int) (hu : 0 ≤ u ∧ u ≤ 18446744073709551615) (w : World) (g : GA w) : FnP Tryd.prog F_ticket_hex #[.int .u64 u] w fun v w' => Ext w w' ∧ v = .string (ofL (hexL u.toNat 16)) := by
  obtain ⟨n, rfl⟩ : ∃ n : Nat, u = n := ⟨u.toNat, by omega⟩
  refine ok_ticket_hex n w _ fun w0 h0 => ?_
  have g0 := g.ext h0
  refine FnP.mono (K := fun v w' => Ext w0 w' ∧ ∃ k, 1 ≤ k ∧ k ≤ 16 ∧ n / 16 ^ k = 0 ∧ v = .string (ofL (hexL n k))) ?_ fun v w1 ⟨e1, k, hk1, hk2, hz, hv⟩ => ⟨e1, _, hv, ?_, fun w3 h3 => ?_⟩
  · refine ok_strconv_FormatUint n 16 w0 _ fun w1 h1 => ?_
    refine FnP.mono (K := fun v w' => Ext w1 w' ∧ ∃ k, 1 ≤ k ∧ k ≤ 16 ∧ n / 16 ^ k = 0 ∧ v = .string (ofL (hexL n k))) ?_ fun v w2 ⟨e2, k, hk1, hk2, hz, hv⟩ => ⟨e2, _, hv, fun w3 h3 => ⟨h3, k, hk1, hk2, hz, rfl⟩⟩
    refine ok_internal_strconv_FormatUint n 16 w1 _ ⟨fun h => absurd h (by omega), fun _ w2 h2 => ?_⟩
    exact (bits_k n (by omega) w2 ((g0.ext h1).ext h2)).mono fun v w3 ⟨e3, k, hk1, hk2, hz, hv⟩ => ⟨e3, _, _, _, _, hv, fun w6 h6 => ⟨(h2.trans e3).trans h6, k, hk1, hk2, hz, rfl⟩⟩
  · rw [ofL_size, hexL_len]; exact i64 (by omega)
  · have hc : (16 : Int) - ((ofL (hexL n k)).size : Int) = ((16 - k : Nat) : Int) := by rw [ofL_size, hexL_len]; omega
    rw [hc]
    have hr := Tryd.strings_Repeat ⟨#[48]⟩ (16 - k) w3 (by omega) (by show 1 * (16 - k) ≤ _; omega)
    refine ⟨fun args w => Tryd.call51 args w, hr.mono fun e w' ⟨he, hb⟩ => ⟨_, he, hb, _, rfl, ?_, fun w6 h6 => ⟨h0.trans ((e1.trans (Ext.refl _))) |> fun _ => h6, ?_⟩⟩⟩
    · show _ + _ ≤ _
      rw [ofL_size, hexL_len]
      show (Lib.repeatL [48] (16 - k)).length + k ≤ _
      rw [zeros, List.length_replicate]; omega
    · have : (⟨(Lib.repeatL (⟨#[48]⟩ : ByteArray).data.toList (16 - k)).toArray⟩ : ByteArray) = ofL (List.replicate (16 - k) 48) := by
        rw [← zeros]; rfl
      rw [this, ofL_app, ← hexL_zero hz, show 16 - k + k = 16 by omega]
      rfl

/-! ### A ticket -/
structure Tk where
  user : ByteArray
  from' : Int
  til : Int
  most : Int
def tkv (t : Tk) : Value := .agg #[.string t.user, .int .i64 t.from', .int .i64 t.til, .int .i64 t.most]
def okT (t : Tk) : Prop := lbB t.user = true ∧ 0 ≤ t.from' ∧ t.from' ≤ t.til ∧ t.til ≤ t.most ∧ t.most ≤ 1099511627776
def bodyL (t : Tk) : List UInt8 := t.user.data.toList ++ (46 :: Lib.itoa t.from') ++ (46 :: Lib.itoa t.til) ++ (46 :: Lib.itoa t.most)
def sumT (key : Int) (l : List UInt8) : Nat := (sumI key (l.map fun b => (b.toNat : Int))).toNat
def sealL (key : Int) (t : Tk) : List UInt8 := bodyL t ++ 46 :: hexL (sumT key (bodyL t)) 16

theorem Check_k (t : Tk) (hs : t.user.size ≤ 9223372036854775807) (w : World) : FnP Tryd.prog F_ticket_Check #[tkv t] w fun v w' => Ext w w' ∧ ∃ e : Int, v = .int .i64 e ∧ (e = 0 ↔ okT t) := by
  refine ok_ticket_Check t.user t.from' t.til t.most w _ fun b0 _ w1 h1 => (Label_k t.user hs w1).mono fun v w2 ⟨e2, hv⟩ => ⟨e2, _, hv, fun hf w4 h4 => ⟨h4, 3, rfl, by omega, fun h => ?_⟩, fun ht => ⟨fun hb w4 h4 => ⟨h4, 4, rfl, by omega, fun h => ?_⟩, fun hg w4 h4 => ⟨h4, 0, rfl, fun _ => ⟨ht, by omega, by omega, by omega, by omega⟩, fun _ => rfl⟩⟩⟩
  · rw [h.1] at hf; cases hf
  · have := h.2; omega

theorem lbB_size {s : ByteArray} (h : lbB s = true) : 0 < s.size ∧ s.size ≤ 20 := by
  unfold lbB at h
  simp only [Bool.and_eq_true, decide_eq_true_eq] at h
  exact ⟨h.1.1.1.1, h.1.1.1.2⟩
theorem itoa_len {n : Int} (h : 0 ≤ n ∧ n ≤ 1099511627776) : (Lib.itoa n).length ≤ 21 := Lib.itoa_length_le n (by omega) (by omega)
theorem bodyL_len {t : Tk} (h : okT t) : (bodyL t).length ≤ 86 := by
  obtain ⟨h1, h2, h3, h4, h5⟩ := h
  have a := lbB_size h1
  have b := itoa_len (n := t.from') (by omega)
  have c := itoa_len (n := t.til) (by omega)
  have d := itoa_len (n := t.most) (by omega)
  unfold bodyL
  simp only [List.length_append, List.length_cons, bs_size]
  omega

theorem Seal_k (key : Int) (hk : 0 ≤ key ∧ key ≤ 18446744073709551615) (t : Tk) (hs : t.user.size ≤ 9223372036854775807) (w : World) (g : GA w) :
    FnP Tryd.prog F_ticket_Seal #[.int .u64 key, tkv t] w fun v w' => Ext w w' ∧ ∃ (s : ByteArray) (e : Int), v = .tuple #[.string s, .int .i64 e] ∧ (e = 0 ↔ okT t) ∧ (e ≠ 0 → s = emS) ∧ (e = 0 → s = ofL (sealL key t)) := by
  refine ok_ticket_Seal key t.user t.from' t.til t.most w _ fun w0 h0 => new_own (by simp [Value.oneCell']) fun w1 o1 e1 => ?_
  have o := o1 0 (Nat.zero_le _)
  have np : (some (⟨w0.heap.size, 0, none⟩ : Addr)) ≠ none := by simp
  have x1 := h0.trans e1
  refine ⟨np, _, o.cellAt (i := 0) rfl, _, o.cellAt (i := 1) rfl, _, o.cellAt (i := 2) rfl, _, o.cellAt (i := 3) rfl, fun w6 h6 => ?_⟩
  refine (Check_k t hs w6).mono fun v w7 ⟨e7, e, hv, he⟩ => ⟨e7, e, hv, fun hn w9 h9 => ⟨x1.trans h9, emS, e, rfl, he, fun _ => rfl, fun h => absurd h hn⟩, fun h0e => ?_⟩
  have ok := he.1 h0e
  have hbl := bodyL_len ok
  obtain ⟨q1, q2, q3, q4, q5⟩ := ok
  have a1 := lbB_size q1
  have a2 := itoa_len (n := t.from') (by omega)
  have a3 := itoa_len (n := t.til) (by omega)
  have a4 := itoa_len (n := t.most) (by omega)
  refine ⟨np, _, o.cellAt0 (i := 0) rfl, np, _, o.cellAt0 (i := 1) rfl, np, _, o.cellAt0 (i := 2) rfl, np, _, o.cellAt0 (i := 3) rfl, fun w13 h13 => run_lit elem_sl_int64 [.int .i64 t.from', .int .i64 t.til, .int .i64 t.most] rfl rfl (by intro u hu; simp at hu; rcases hu with rfl | rfl | rfl <;> rfl) (by simp) (by simp) fun w14 o14 e14 => ⟨e14, _, _, _, rfl, ?_⟩⟩
  have o14 := o14 0 (Nat.zero_le _)
  have hi : Ints .i64 w14 (some ⟨w13.heap.size, 0, none⟩) [t.from', t.til, t.most] := o14.cells
  have x14 := (x1.trans h13).trans e14
  let L : Nat → List UInt8 := fun k => t.user.data.toList ++ (([t.from', t.til, t.most].take k).flatMap fun n => 46 :: Lib.itoa n)
  have hLlen : ∀ k, k ≤ 3 → (L k).length ≤ 86 := by
    intro k hk
    have : k = 0 ∨ k = 1 ∨ k = 2 ∨ k = 3 := by omega
    rcases this with rfl | rfl | rfl | rfl <;> simp [L, bs_size] <;> omega
  refine ⟨fun s k w' => w' = w14 ∧ 0 ≤ k ∧ k ≤ 3 ∧ s = ofL (L k.toNat), fun _ k _ => (3 - k).toNat, ⟨rfl, by omega, by omega, by simp [L, ofL_of]⟩, ?_⟩
  rintro s k w21 ⟨rfl, hk0, hk1, rfl⟩
  refine ⟨fun hlt => ?_, fun hge => ?_⟩
  · have gk := Ints.idx hi hk0 (by simpa using hlt)
    have hr : 0 ≤ ([t.from', t.til, t.most].getD k.toNat 0) ∧ ([t.from', t.til, t.most].getD k.toNat 0) ≤ 1099511627776 := by
      have : k.toNat = 0 ∨ k.toNat = 1 ∨ k.toNat = 2 := by have := hlt; simp at this; omega
      rcases this with h | h | h <;> rw [h] <;> simp <;> omega
    have hil := itoa_len hr
    refine ⟨by simp, hk0, hlt, _, gk, fun w23 h23 => (FormatInt_k _ (by omega) w23 ((g.ext x14).ext h23)).mono fun v w24 ⟨e24, hv⟩ => ⟨e24, _, hv, ?_, ?_, i64 (by omega), ⟨rfl, by omega, by simp at hlt; omega, ?_⟩, by simp at hlt ⊢; omega⟩⟩
    · show _ + _ ≤ _
      rw [ofL_size]; show 1 + _ ≤ _; omega
    · have hL := hLlen k.toNat (by omega)
      show (ofL (L k.toNat)).size + (ofL [46] ++ ofL _).size ≤ _
      rw [ofL_app, ofL_size, ofL_size]
      simp only [L, List.length_append, List.length_cons, List.length_nil] at hL ⊢
      omega
    · show ofL (L k.toNat) ++ (ofL [46] ++ ofL _) = _
      rw [ofL_app, ofL_app]
      congr 1
      show L k.toNat ++ ([46] ++ _) = L (k + 1).toNat
      rw [show (k + 1).toNat = k.toNat + 1 by omega]
      have hlt' : k.toNat < [t.from', t.til, t.most].length := by simp at hlt ⊢; omega
      simp only [L]
      have hg : ([t.from', t.til, t.most].getD k.toNat 0) = [t.from', t.til, t.most][k.toNat] := by rw [List.getD_eq_getElem?_getD, List.getElem?_eq_getElem hlt']; rfl
      rw [List.take_succ_eq_append_getElem hlt', List.flatMap_append, List.append_assoc, hg]
      congr 1
      simp
  · have hk3 : k.toNat = 3 := by simp at hge; omega
    have hbody : L k.toNat = bodyL t := by rw [hk3]; simp [L, bodyL]
    rw [hbody]
    refine ⟨?_, fun w22 h22 => (Sum_k key (ofL (bodyL t)) (by rw [ofL_size]; omega) w22).mono fun v w23 ⟨e23, hv⟩ => ⟨e23, _, hv, fun w25 h25 => ?_⟩⟩
    · show (ofL (bodyL t)).size + 1 ≤ _
      rw [ofL_size]; omega
    refine (hex_k _ (sumI_rng hk _) w25 ((g.ext x14).ext h25)).mono fun v w26 ⟨e26, hv⟩ => ⟨e26, _, hv, ?_, fun w28 h28 => ⟨x14.trans h28, _, 0, rfl, ⟨fun _ => ⟨q1, q2, q3, q4, q5⟩, fun _ => rfl⟩, fun h => absurd rfl h, fun _ => ?_⟩⟩
    · show (ofL (bodyL t) ++ ofL [46]).size + (ofL (hexL _ 16)).size ≤ _
      rw [ofL_app, ofL_size, ofL_size, hexL_len, List.length_append, List.length_singleton]; omega
    · show (ofL (bodyL t) ++ ofL [46]) ++ ofL (hexL _ 16) = _
      rw [ofL_app, ofL_app]
      unfold sealL sumT
      rw [List.append_assoc, bytesI_ofL]
      rfl
end Go.Proofs.YtjeboeahhhhbdaaDoor
