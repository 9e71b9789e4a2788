/- Frames; disks. -/
import Derived.Test.YtenppnomdejmlaaGreatDoorJcA
import Derived.Test.YtenppnomdejmlaaGreatDoorTxtV
import Derived.Test.YtenppnomdejmlaaGreatDoorSxR
set_option linter.unusedVariables false
set_option linter.unusedSimpArgs false
namespace Go.Proofs.YtenppnomdejmlaaGreatDoor
open Go.Sx Go.RowKit

/-! ### Frames -/
def tl8 (S : Int) (k : Nat) : Bs := (List.range k).map fun (j : Nat) => ub (iBit .shr .u64 S (56 - 8 * (j : Int)))
theorem tl8_succ (S : Int) (k : Nat) : tl8 S (k + 1) = tl8 S k ++ [ub (iBit .shr .u64 S (56 - 8 * (k : Int)))] := by
  unfold tl8; rw [List.range_succ, List.map_append]; rfl
theorem tl8_len (S : Int) (k : Nat) : (tl8 S k).length = k := by simp [tl8]
def fr0 (bs : Bs) : Bs := [ub (iBit .shr .i64 (bs.length : Int) 8), ub (bs.length : Int)] ++ bs
def fr (bs : Bs) : Bs := fr0 bs ++ tl8 (sumJ 0 bs) 8
theorem fr_len (bs : Bs) : (fr bs).length = bs.length + 10 := by simp [fr, fr0, tl8_len]

theorem Frame_k (x_0 : Int) (x_1 : ByteArray) (x_2 : Int) (x_3 : Int) (x_4 : Int) (x_5 : Int) (x_6 : Int) (x_7 : ByteArray) (x_8 : ByteArray) (x_9 : Int) (x_10 : Option Addr) (x_10l : Nat) (x_10c : Nat) (x_11 : Option Addr) (x_11l : Nat) (x_11c : Nat) (x_12 : Int) (x_13 : Int) (x_14 : Bool) (w : World) (e : Int) (bs : Bs) (hlen : bs.length ≤ 1000000)
    (hE : ∀ w1, Ext w w1 → FnP Tryz.prog F_event_Encode #[(.agg #[(.int .i64 x_0), (.string x_1), (.int .i64 x_2), (.int .i64 x_3), (.int .i64 x_4), (.int .i64 x_5), (.int .i64 x_6), (.string x_7), (.string x_8), (.int .i64 x_9), (.slice x_10 x_10l x_10c), (.slice x_11 x_11l x_11c), (.int .i64 x_12), (.int .i64 x_13), (.bool x_14)])] w1 fun v w2 => Ext w1 w2 ∧ ∃ p n c, v = .tuple #[.slice p n c, .int .i64 e] ∧ (e = 0 → n = bs.length ∧ Ints .u8 w2 p (bI bs))) :
    FnP Tryz.prog F_journal_Frame #[(.agg #[(.int .i64 x_0), (.string x_1), (.int .i64 x_2), (.int .i64 x_3), (.int .i64 x_4), (.int .i64 x_5), (.int .i64 x_6), (.string x_7), (.string x_8), (.int .i64 x_9), (.slice x_10 x_10l x_10c), (.slice x_11 x_11l x_11c), (.int .i64 x_12), (.int .i64 x_13), (.bool x_14)])] w fun v w' => Ext w w' ∧ ∃ p n c, v = .tuple #[.slice p n c, .int .i64 e] ∧ (e ≠ 0 → p = none ∧ n = 0 ∧ c = 0) ∧ (e = 0 → n = bs.length + 10 ∧ Own w.heap.size w' T_uint8 1 p n c ((bI (fr bs)).map (.int .u8))) := by
  refine ok_journal_Frame x_0 x_1 x_2 x_3 x_4 x_5 x_6 x_7 x_8 x_9 x_10 x_10l x_10c x_11 x_11l x_11c x_12 x_13 x_14 w _ fun b0 hb0 w1 x1 => ?_
  have e1 := extB_ext x1
  refine (hE w1 e1).mono fun v w2 ⟨e2, p, n, c, hv, hok⟩ => ⟨e2, p, n, c, e, hv, fun hne w7 h7 => ⟨(e1.trans e2).trans h7, none, 0, 0, rfl, fun _ => ⟨rfl, rfl, rfl⟩, fun h => absurd h hne⟩, fun he => ?_⟩
  obtain ⟨rfl, hi⟩ := hok he
  subst he
  refine fun w7 x7 => run_litB [ub (iBit .shr .i64 (bs.length : Int) 8), ub (bs.length : Int)] (by rw [wrap8, wrap8]; rfl) rfl (by omega) (by omega) fun w8 o8 e8 => ⟨e8, _, _, _, rfl, fun w12 x12 => ?_⟩
  have e7 := extB_ext x7
  have e12 := extB_ext x12
  have o12 := (o8 w7.heap.size (Nat.le_refl _)).ext e12
  have hi12 : Ints .u8 w12 p (bI bs) := (((hi.ext e7).ext e8).ext e12)
  have h712 : Ext w7 w12 := e8.trans e12
  have hb7 : b0 < w7.heap.size := x7.lt b0 (by simp)
  refine run_appB o12 h712.size rfl hi12 (by omega) fun p' c' w13 o13 g13 => ⟨fun b hb => ?_, p', _, c', rfl, fun w17 h17 => ?_⟩
  · have := x12.lt b hb
    refine g13.by_.block b this fun h => ?_
    simp only [blk, Option.map_some, Option.some.injEq] at h
    simp at hb
    omega
  have h713 : Ext w7 w13 := g13.ext h712 o12
  have hi13 : Ints .u8 w13 p (bI bs) := (hi.ext e7).ext h713
  refine run_b2s (e := T_uint8) (by kernel_rfl) (by kernel_rfl) (by kernel_rfl) rfl (hi13.ext h17) ⟨Ext.refl _, _, rfl, fun w20 h20 => (Sum_k 0 bs (by omega) w20).mono fun v w21 ⟨e21, hv⟩ => ⟨e21, _, hv, ?_⟩⟩
  refine ⟨fun out outl outc i w' => ∃ k : Nat, k ≤ 8 ∧ i = 56 - 8 * (k : Int) ∧ outl = bs.length + 2 + k ∧ Own w7.heap.size w' T_uint8 1 out outl outc ((bI (fr0 bs ++ tl8 (sumJ 0 bs) k)).map (.int .u8)) ∧ Ext w7 w', fun _ _ _ i _ => (i + 8).toNat, ⟨0, by omega, rfl, by omega, ?_, h713⟩, ?_⟩
  · have : 2 + bs.length = bs.length + 2 + 0 := by omega
    show Own w7.heap.size w13 T_uint8 1 p' (2 + bs.length) c' _
    simpa [fr0, tl8] using o13
  rintro out outl outc i w26 ⟨k, hk, rfl, rfl, o26, h26⟩
  refine ⟨fun hi0 => ⟨hi0, ?_⟩, fun hneg w27 h27 => ?_⟩
  · have hns : ∀ b ∈ [b0], ∀ x, out = some x → x.block ≠ b := fun b hb x hx => by
      have := (o26.lt x hx).1
      simp at hb; omega
    rw [wrap8]
    refine push_intB elem_sl_uint8 o26 h26.size hns (by omega) (by omega) fun p' c' w' o' g' _ _ => ⟨i64 (by omega), ⟨k + 1, by omega, by omega, by omega, ?_, g'.ext h26 o26⟩, by simp only []; omega⟩
    rw [tl8_succ, ← List.append_assoc, bI_app]
    exact o'
  · obtain rfl : k = 8 := by omega
    have hw7 : Ext w w7 := (e1.trans e2).trans e7
    exact ⟨(hw7.trans h26).trans h27, out, _, outc, rfl, fun h => absurd rfl h, fun _ => ⟨rfl, (o26.weak hw7.size).ext h27⟩⟩

theorem plain0 (w : World) : FnP Tryz.prog F_event_plain #[(.agg #[(.string (⟨#[]⟩ : ByteArray)), (.int .i64 0), (.int .i64 0), (.int .i64 0), (.int .i64 0), (.int .i64 0), (.string (⟨#[]⟩ : ByteArray)), (.string (⟨#[]⟩ : ByteArray)), (.int .i64 0), (.slice none 0 0), (.slice none 0 0)])] w fun v w' => Ext w w' ∧ v = .bool true := by
  refine ok_event_plain _ _ _ _ _ _ _ _ _ _ _ _ _ _ _ w _ fun b0 hb0 => ⟨fun _ w1 h1 => run_eqs (n := 3) (k := .i64) (by kernel_rfl) (by kernel_rfl) (by kernel_rfl) (by kernel_rfl) [0, 0, 0] [0, 0, 0] rfl rfl ⟨Ext.refl _, _, rfl, fun w4 h4 => ⟨h4, rfl⟩⟩, fun h => absurd h (by simp)⟩
theorem Encode3 (w : World) : FnP Tryz.prog F_event_Encode #[(.agg #[(.int .i64 3), (.string (⟨#[]⟩ : ByteArray)), (.int .i64 0), (.int .i64 0), (.int .i64 0), (.int .i64 0), (.int .i64 0), (.string (⟨#[]⟩ : ByteArray)), (.string (⟨#[]⟩ : ByteArray)), (.int .i64 0), (.slice none 0 0), (.slice none 0 0), (.int .i64 0), (.int .i64 0), (.bool false)])] w fun v w2 => Ext w w2 ∧ ∃ p n c, v = .tuple #[.slice p n c, .int .i64 0] ∧ ((0 : Int) = 0 → n = ([3] : Bs).length ∧ Ints .u8 w2 p (bI [3])) := by
  refine ok_event_Encode _ _ _ _ _ _ _ _ _ _ _ _ _ _ _ _ _ _ _ w _ fun b0 hb0 w1 h1 => ?_
  have hC : FnP Tryz.prog F_event_Check #[(.agg #[(.int .i64 3), (.string (⟨#[]⟩ : ByteArray)), (.int .i64 0), (.int .i64 0), (.int .i64 0), (.int .i64 0), (.int .i64 0), (.string (⟨#[]⟩ : ByteArray)), (.string (⟨#[]⟩ : ByteArray)), (.int .i64 0), (.slice none 0 0), (.slice none 0 0), (.int .i64 0), (.int .i64 0), (.bool false)])] w1 fun v w' => Ext w1 w' ∧ v = .int .i64 0 := by
    refine ok_event_Check _ _ _ _ _ _ _ _ _ _ _ _ _ _ _ _ _ _ _ w1 _ fun b1 hb1 => ⟨fun h => absurd h (by decide), fun _ => ⟨fun _ w2 h2 => (plain0 w2).mono fun v w3 ⟨e3, hv⟩ => ⟨e3, true, hv, fun h => absurd h (by decide), fun _ => ⟨fun h => absurd h (by decide), fun _ => ⟨fun h => absurd h (by decide), fun _ w4 h4 => ⟨h4, rfl⟩⟩⟩⟩, fun h => absurd h (by decide)⟩⟩
  refine hC.mono fun v w2 ⟨e2, hv⟩ => ⟨e2, 0, hv, fun h => absurd rfl h, fun _ => ⟨⟨by decide, by decide⟩, fun w4 x4 => run_litB [3] rfl rfl (by omega) (by omega) fun w5 o5 e5 => ⟨e5, _, _, _, rfl, fun h => absurd h (by decide), fun _ => ⟨fun h => absurd h (by decide), fun _ => ⟨fun h => absurd h (by decide), fun _ => ⟨fun h => absurd h (by decide), fun _ w9 h9 => ?_⟩⟩⟩⟩⟩⟩
  exact ⟨((extB_ext x4).trans e5).trans h9, _, _, _, rfl, fun _ => ⟨rfl, ((o5 0 (Nat.zero_le _)).cells).ext h9⟩⟩
theorem journals_k (w : World) : FnP Tryz.prog F_shiftbellkeep_journals #[] w fun v w' => Ext w w' ∧ v = .bool true := by
  refine ok_shiftbellkeep_journals w _ fun w0 h0 => (Frame_k 3 _ 0 0 0 0 0 _ _ 0 none 0 0 none 0 0 0 0 false w0 0 [3] (by decide) fun w1 h1 => Encode3 w1).mono fun v w1 ⟨e1, p, n, c, hv, _, hok⟩ => ⟨e1, p, n, c, 0, hv, fun w6 h6 => ⟨(h0.trans e1).trans h6, ?_⟩⟩
  obtain ⟨rfl, _⟩ := hok rfl
  rfl

theorem Equal_k {p q : Option Addr} {l c m mc : Nat} {a b : Bs} (w : World) (hl : a.length = l) (hm : b.length = m) (ha : Ints .u8 w p (bI a)) (hb : Ints .u8 w q (bI b)) : FnP Tryz.prog F_bytes_Equal #[.slice p l c, .slice q m mc] w fun v w' => Ext w w' ∧ v = .bool (decide (a = b)) := by
  refine ok_bytes_Equal p l c q m mc w _ fun w0 h0 => run_b2s (e := T_uint8) (by kernel_rfl) (by kernel_rfl) (by kernel_rfl) hl (ha.ext h0) ⟨Ext.refl _, _, rfl, fun w3 h3 => run_b2s (e := T_uint8) (by kernel_rfl) (by kernel_rfl) (by kernel_rfl) hm (hb.ext h3) ⟨Ext.refl _, _, rfl, fun w6 h6 => ⟨h6, ?_⟩⟩⟩
  congr 1
  exact decide_eq_decide.2 bT_inj
end Go.Proofs.YtenppnomdejmlaaGreatDoor
