/- Frames; disks. -/
import Derived.Test.YtenppnomdejmlaaDoorJcA
import Derived.Test.YtenppnomdejmlaaDoorSxR
set_option linter.unusedVariables false
set_option linter.unusedSimpArgs false
namespace Go.Proofs.YtenppnomdejmlaaDoor
open Go.Sx Go.RowKit

/-! ### Frames -/
def tl8 (S : Int) (k : Nat) : Bs := (List.range k).map fun (j : Nat) => ub (iBit .shr .u64 S (56 - 8 * (j : Int)))
theorem tl8_succ (S : Int) (k : Nat) : tl8 S (k + 1) = tl8 S k ++ [ub (iBit .shr .u64 S (56 - 8 * (k : Int)))] := by
  unfold tl8; rw [List.range_succ, List.map_append]; rfl
theorem tl8_len (S : Int) (k : Nat) : (tl8 S k).length = k := by simp [tl8]
def fr0 (bs : Bs) : Bs := [ub (iBit .shr .i64 (bs.length : Int) 8), ub (bs.length : Int)] ++ bs
def fr (bs : Bs) : Bs := fr0 bs ++ tl8 (sumJ 0 bs) 8
theorem fr_len (bs : Bs) : (fr bs).length = bs.length + 10 := by simp [fr, fr0, tl8_len]

theorem Frame_k (x_0 : Int) (x_1 : ByteArray) (x_2 : Int) (x_3 : Int) (x_4 : Int) (x_5 : Int) (x_6 : Int) (x_7 : ByteArray) (x_8 : ByteArray) (x_9 : Int) (x_10 : Option Addr) (x_10l : Nat) (x_10c : Nat) (x_11 : Option Addr) (x_11l : Nat) (x_11c : Nat) (x_12 : Int) (x_13 : Int) (x_14 : Bool) (w : World) (e : Int) (bs : Bs) (hlen : bs.length ≤ 1000000)
    (hE : ∀ w1, Ext w w1 → FnP Tryd.prog F_event_Encode #[(.agg #[(.int .i64 x_0), (.string x_1), (.int .i64 x_2), (.int .i64 x_3), (.int .i64 x_4), (.int .i64 x_5), (.int .i64 x_6), (.string x_7), (.string x_8), (.int .i64 x_9), (.slice x_10 x_10l x_10c), (.slice x_11 x_11l x_11c), (.int .i64 x_12), (.int .i64 x_13), (.bool x_14)])] w1 fun v w2 => Ext w1 w2 ∧ ∃ p n c, v = .tuple #[.slice p n c, .int .i64 e] ∧ (e = 0 → n = bs.length ∧ Ints .u8 w2 p (bI bs))) :
    FnP Tryd.prog F_journal_Frame #[(.agg #[(.int .i64 x_0), (.string x_1), (.int .i64 x_2), (.int .i64 x_3), (.int .i64 x_4), (.int .i64 x_5), (.int .i64 x_6), (.string x_7), (.string x_8), (.int .i64 x_9), (.slice x_10 x_10l x_10c), (.slice x_11 x_11l x_11c), (.int .i64 x_12), (.int .i64 x_13), (.bool x_14)])] w fun v w' => Ext w w' ∧ ∃ p n c, v = .tuple #[.slice p n c, .int .i64 e] ∧ (e ≠ 0 → p = none ∧ n = 0 ∧ c = 0) ∧ (e = 0 → n = bs.length + 10 ∧ Own w.heap.size w' T_uint8 1 p n c ((bI (fr bs)).map (.int .u8))) := by
  refine ok_journal_Frame x_0 x_1 x_2 x_3 x_4 x_5 x_6 x_7 x_8 x_9 x_10 x_10l x_10c x_11 x_11l x_11c x_12 x_13 x_14 w _ fun b0 hb0 w1 x1 => ?_
  have e1 := extB_ext x1
  refine (hE w1 e1).mono fun v w2 ⟨e2, p, n, c, hv, hok⟩ => ⟨e2, p, n, c, e, hv, fun hne w7 h7 => ⟨(e1.trans e2).trans h7, none, 0, 0, rfl, fun _ => ⟨rfl, rfl, rfl⟩, fun h => absurd h hne⟩, fun he => ?_⟩
  obtain ⟨rfl, hi⟩ := hok he
  subst he
  refine fun w7 x7 => run_litB [ub (iBit .shr .i64 (bs.length : Int) 8), ub (bs.length : Int)] (by rw [wrap8, wrap8]; rfl) rfl (by omega) (by omega) fun w8 o8 e8 => ⟨e8, _, _, _, rfl, fun w12 x12 => ?_⟩
  have e7 := extB_ext x7
  have e12 := extB_ext x12
  have o12 := (o8 w7.heap.size (Nat.le_refl _)).ext e12
  have hi12 : Ints .u8 w12 p (bI bs) := (((hi.ext e7).ext e8).ext e12)
  have h712 : Ext w7 w12 := e8.trans e12
  have hb7 : b0 < w7.heap.size := x7.lt b0 (by simp)
  refine run_appB o12 h712.size rfl hi12 (by omega) fun p' c' w13 o13 g13 => ⟨fun b hb => ?_, p', _, c', rfl, fun w17 h17 => ?_⟩
  · have := x12.lt b hb
    refine g13.by_.block b this fun h => ?_
    simp only [blk, Option.map_some, Option.some.injEq] at h
    simp at hb
    omega
  have h713 : Ext w7 w13 := g13.ext h712 o12
  have hi13 : Ints .u8 w13 p (bI bs) := (hi.ext e7).ext h713
  refine run_b2s (e := T_uint8) (by kernel_rfl) (by kernel_rfl) (by kernel_rfl) rfl (hi13.ext h17) ⟨Ext.refl _, _, rfl, fun w20 h20 => (Sum_k 0 bs (by omega) w20).mono fun v w21 ⟨e21, hv⟩ => ⟨e21, _, hv, ?_⟩⟩
  refine ⟨fun out outl outc i w' => ∃ k : Nat, k ≤ 8 ∧ i = 56 - 8 * (k : Int) ∧ outl = bs.length + 2 + k ∧ Own w7.heap.size w' T_uint8 1 out outl outc ((bI (fr0 bs ++ tl8 (sumJ 0 bs) k)).map (.int .u8)) ∧ Ext w7 w', fun _ _ _ i _ => (i + 8).toNat, ⟨0, by omega, rfl, by omega, ?_, h713⟩, ?_⟩
  · have : 2 + bs.length = bs.length + 2 + 0 := by omega
    show Own w7.heap.size w13 T_uint8 1 p' (2 + bs.length) c' _
    simpa [fr0, tl8] using o13
  rintro out outl outc i w26 ⟨k, hk, rfl, rfl, o26, h26⟩
  refine ⟨fun hi0 => ⟨hi0, ?_⟩, fun hneg w27 h27 => ?_⟩
  · have hns : ∀ b ∈ [b0], ∀ x, out = some x → x.block ≠ b := fun b hb x hx => by
      have := (o26.lt x hx).1
      simp at hb; omega
    rw [wrap8]
    refine push_intB elem_sl_uint8 o26 h26.size hns (by omega) (by omega) fun p' c' w' o' g' _ _ => ⟨i64 (by omega), ⟨k + 1, by omega, by omega, by omega, ?_, g'.ext h26 o26⟩, by simp only []; omega⟩
    rw [tl8_succ, ← List.append_assoc, bI_app]
    exact o'
  · obtain rfl : k = 8 := by omega
    have hw7 : Ext w w7 := (e1.trans e2).trans e7
    exact ⟨(hw7.trans h26).trans h27, out, _, outc, rfl, fun h => absurd rfl h, fun _ => ⟨rfl, (o26.weak hw7.size).ext h27⟩⟩

theorem plain0 (w : World) : FnP Tryd.prog F_event_plain #[(.agg #[(.string (⟨#[]⟩ : ByteArray)), (.int .i64 0), (.int .i64 0), (.int .i64 0), (.int .i64 0), (.int .i64 0), (.string (⟨#[]⟩ : ByteArray)), (.string (⟨#[]⟩ : ByteArray)), (.int .i64 0), (.slice none 0 0), (.slice none 0 0)])] w fun v w' => Ext w w' ∧ v = .bool true := by
  refine ok_event_plain _ _ _ _ _ _ _ _ _ _ _ _ _ _ _ w _ fun b0 hb0 => ⟨fun _ w1 h1 => run_eqs (n := 3) (k := .i64) (by kernel_rfl) (by kernel_rfl) (by kernel_rfl) (by kernel_rfl) [0, 0, 0] [0, 0, 0] rfl rfl ⟨Ext.refl _, _, rfl, fun w4 h4 => ⟨h4, rfl⟩⟩, fun h => absurd h (by simp)⟩
theorem Encode3 (w : World) : FnP Tryd.prog F_event_Encode #[(.agg #[(.int .i64 3), (.string (⟨#[]⟩ : ByteArray)), (.int .i64 0), (.int .i64 0), (.int .i64 0), (.int .i64 0), (.int .i64 0), (.string (⟨#[]⟩ : ByteArray)), (.string (⟨#[]⟩ : ByteArray)), (.int .i64 0), (.slice none 0 0), (.slice none 0 0), (.int .i64 0), (.int .i64 0), (.bool false)])] w fun v w2 => Ext w w2 ∧ ∃ p n c, v = .tuple #[.slice p n c, .int .i64 0] ∧ ((0 : Int) = 0 → n = ([3] : Bs).length ∧ Ints .u8 w2 p (bI [3])) := by
  refine ok_event_Encode _ _ _ _ _ _ _ _ _ _ _ _ _ _ _ _ _ _ _ w _ fun b0 hb0 w1 h1 => ?_
  have hC : FnP Tryd.prog F_event_Check #[(.agg #[(.int .i64 3), (.string (⟨#[]⟩ : ByteArray)), (.int .i64 0), (.int .i64 0), (.int .i64 0), (.int .i64 0), (.int .i64 0), (.string (⟨#[]⟩ : ByteArray)), (.string (⟨#[]⟩ : ByteArray)), (.int .i64 0), (.slice none 0 0), (.slice none 0 0), (.int .i64 0), (.int .i64 0), (.bool false)])] w1 fun v w' => Ext w1 w' ∧ v = .int .i64 0 := by
    refine ok_event_Check _ _ _ _ _ _ _ _ _ _ _ _ _ _ _ _ _ _ _ w1 _ fun b1 hb1 => ⟨fun h => absurd h (by decide), fun _ => ⟨fun _ w2 h2 => (plain0 w2).mono fun v w3 ⟨e3, hv⟩ => ⟨e3, true, hv, fun h => absurd h (by decide), fun _ => ⟨fun h => absurd h (by decide), fun _ => ⟨fun h => absurd h (by decide), fun _ w4 h4 => ⟨h4, rfl⟩⟩⟩⟩, fun h => absurd h (by decide)⟩⟩
  refine hC.mono fun v w2 ⟨e2, hv⟩ => ⟨e2, 0, hv, fun h => absurd rfl h, fun _ => ⟨⟨by decide, by decide⟩, fun w4 x4 => run_litB [3] rfl rfl (by omega) (by omega) fun w5 o5 e5 => ⟨e5, _, _, _, rfl, fun h => absurd h (by decide), fun _ => ⟨fun h => absurd h (by decide), fun _ => ⟨fun h => absurd h (by decide), fun _ => ⟨fun h => absurd h (by decide), fun _ w9 h9 => ?_⟩⟩⟩⟩⟩⟩
  exact ⟨((extB_ext x4).trans e5).trans h9, _, _, _, rfl, fun _ => ⟨rfl, ((o5 0 (Nat.zero_le _)).cells).ext h9⟩⟩
theorem journals_k (w : World) : FnP Tryd.prog F_shiftbellkeep_journals #[] w fun v w' => Ext w w' ∧ v = .bool true := by
  refine ok_shiftbellkeep_journals w _ fun w0 h0 => (Frame_k 3 _ 0 0 0 0 0 _ _ 0 none 0 0 none 0 0 0 0 false w0 0 [3] (by decide) fun w1 h1 => Encode3 w1).mono fun v w1 ⟨e1, p, n, c, hv, _, hok⟩ => ⟨e1, p, n, c, 0, hv, fun w6 h6 => ⟨(h0.trans e1).trans h6, ?_⟩⟩
  obtain ⟨rfl, _⟩ := hok rfl
  rfl

/-! ### Disks -/
abbrev dkR (d p : Option Addr) (n c : Nat) (sf : Int) : HRow := ⟨T_journal_Disk, 2, d, 1, 1, [.slice p n c, .int .i64 sf]⟩
abbrev bfR (p : Option Addr) (n c : Nat) (bs : Bs) : HRow := ⟨T_uint8, 1, p, n, c, (bI bs).map (.int .u8)⟩
theorem pAdd_eq (d : Option Addr) (k : Nat) : pAdd d k = d.map (·.add k) := rfl

theorem New_k (W0 w : World) (h0 : Ext W0 w) : FnP Tryd.prog F_journal_New #[] w fun v w' => Ext w w' ∧ ∃ d, v = .pointer d ∧ Held W0 [] w' [dkR d none 0 0 0, bfR none 0 0 []] := by
  refine ok_journal_New w _ fun w0 e0 => new_own (by intro v hv; simp at hv; rcases hv with rfl | rfl <;> rfl) fun w1 o1 e1 w2 e2 => ⟨(e0.trans e1).trans e2, _, rfl, ?_⟩
  have hb : Held W0 [] w0 [bfR none 0 0 []] := (Held.nil (h0.trans e0)).new (r := bfR none 0 0 []) Own.nil (Ext.refl _) (fun a ha => by cases ha) (by simp)
  exact (hb.new0 (e := T_journal_Disk) (s := 2) (n := 1) (c := 1) (xs := [.slice none 0 0, .int .i64 0]) o1 e1 (by simp)).to e2

section
variable {W0 w : World} {d p : Option Addr} {n c : Nat} {sf : Int} {bs : Bs} {rs : List HRow}
theorem hdisk (H : Held W0 [] w (dkR d p n c sf :: bfR p n c bs :: rs)) : d ≠ none ∧ cell w (pAdd d 0) 0 = some (.slice p n c) ∧ cell w (pAdd d 1) 0 = some (.int .i64 sf) := by
  have o := H.get 0 rfl
  have h0 : cell w d 0 = some (.slice p n c) := o.cells 0 _ rfl
  have h1 : cell w d 1 = some (.int .i64 sf) := o.cells 1 _ rfl
  exact ⟨cell_p h0, by rw [cell_pAdd]; exact h0, by rw [cell_pAdd]; exact h1⟩
theorem hbuf (H : Held W0 [] w (dkR d p n c sf :: bfR p n c bs :: rs)) : Own W0.heap.size w T_uint8 1 p n c ((bI bs).map (.int .u8)) ∧ n = bs.length ∧ n ≤ c := by
  have o := H.get 1 rfl
  refine ⟨o, ?_, o.le.1⟩
  have := o.len
  simp [bI_len] at this
  exact this.symm

theorem Write_k (H : Held W0 [] w (dkR d p n c sf :: bfR p n c bs :: rs)) (hn : n ≤ 100000) (q : Option Addr) (m mc : Nat) (nb : Bs) (hm : nb.length = m) (h63 : m ≤ 9223372036854775807) (hq : Ints .u8 W0 q (bI nb)) :
    FnP Tryd.prog F_journal_Disk_Write #[.pointer d, .slice q m mc] w fun v w' => (100000 < n + m ∧ v = .int .i64 7 ∧ Held W0 [] w' (dkR d p n c sf :: bfR p n c bs :: rs)) ∨ (n + m ≤ 100000 ∧ v = .int .i64 0 ∧ ∃ p' c', Held W0 [] w' (dkR d p' (n + m) c' sf :: bfR p' (n + m) c' (bs ++ nb) :: rs)) := by
  obtain ⟨dne, g0, g1⟩ := hdisk H
  obtain ⟨o, hnl, hnc⟩ := hbuf H
  refine ok_journal_Disk_Write d q m mc w _ ⟨dne, dne, p, n, c, g0, i64 (by omega), fun hlt w3 h3 => .inl ⟨by omega, rfl, H.to h3⟩, fun hge => ⟨dne, dne, p, n, c, g0, fun w6 h6 => ?_⟩⟩
  have H6 := H.to h6
  refine run_appB (o.ext h6) H6.ext.size hm (hq.ext H6.ext) (by omega) fun p' c' w7 o7 g7 => ⟨p', n + m, c', rfl, dne, dne, ?_⟩
  have H7 : Held W0 [] w7 (dkR d p n c sf :: bfR p' (n + m) c' (bs ++ nb) :: rs) := H6.put 1 (r := bfR p n c bs) (r' := bfR p' (n + m) c' (bs ++ nb)) rfl o7 g7 (by simp)
  exact H7.store 0 rfl 0 (pAdd_eq d 0) (by simp) (by simp) (by intro v hv; simp at hv; subst hv; rfl) (by simp) fun w11 H11 _ w12 h12 => .inr ⟨by omega, rfl, p', c', H11.to h12⟩

theorem Sync_k (H : Held W0 [] w (dkR d p n c sf :: bfR p n c bs :: rs)) : FnP Tryd.prog F_journal_Disk_Sync #[.pointer d] w fun v w' => v = .tuple #[] ∧ Held W0 [] w' (dkR d p n c n :: bfR p n c bs :: rs) := by
  obtain ⟨dne, g0, g1⟩ := hdisk H
  refine ok_journal_Disk_Sync d w _ ⟨dne, dne, p, n, c, g0, dne, dne, ?_⟩
  exact H.store 0 rfl 1 (pAdd_eq d 1) (by simp) (by simp) (by intro v hv; simp at hv; subst hv; rfl) (by simp) fun w11 H11 _ w12 h12 => ⟨rfl, H11.to h12⟩

theorem Crash_k (H : Held W0 [] w (dkR d p n c sf :: bfR p n c bs :: rs)) (hn : n ≤ 100000) (hsf : 0 ≤ sf ∧ sf ≤ n) (keep : Int) (hk : InR .i64 keep) :
    FnP Tryd.prog F_journal_Disk_Crash #[.pointer d, .int .i64 keep] w fun v w' => ((keep < 0 ∨ n - sf < keep) ∧ v = .int .i64 1 ∧ Held W0 [] w' (dkR d p n c sf :: bfR p n c bs :: rs)) ∨
      (0 ≤ keep ∧ keep ≤ n - sf ∧ v = .int .i64 0 ∧ Held W0 [] w' (dkR d p (sf + keep).toNat c (sf + keep).toNat :: bfR p (sf + keep).toNat c (bs.take (sf + keep).toNat) :: rs)) := by
  obtain ⟨dne, g0, g1⟩ := hdisk H
  obtain ⟨o, hnl, hnc⟩ := hbuf H
  have hk' := of64 hk
  refine ok_journal_Disk_Crash d keep w _ ⟨fun _ => dne, fun _ => dne, fun hneg w0 h0 => .inl ⟨.inl hneg, rfl, H.to h0⟩, fun hk0 => ⟨p, n, c, g0, dne, dne, sf, g1, i64 (by omega), fun hlt w4 h4 => .inl ⟨.inr hlt, rfl, H.to h4⟩, fun hle => ⟨dne, dne, p, n, c, g0, dne, dne, sf, g1, i64 (by omega), by omega, by omega, by omega, dne, dne, ?_⟩⟩⟩
  rw [pCut_zero, show ((sf + keep) - 0) = sf + keep by omega, show c - (0 : Int).toNat = c by simp]
  have H1 : Held W0 [] w (dkR d p n c sf :: bfR p (sf + keep).toNat c (bs.take (sf + keep).toNat) :: rs) := by
    refine H.put 1 (r := bfR p n c bs) (r' := bfR p (sf + keep).toNat c (bs.take (sf + keep).toNat)) rfl ?_ (grew_of_ext (Ext.refl w)) (by simp)
    have := o.pre (m := (sf + keep).toNat) (by omega)
    show Own W0.heap.size w T_uint8 1 p (sf + keep).toNat c ((bI (bs.take (sf + keep).toNat)).map (.int .u8))
    rw [Nat.mul_one] at this
    simpa [bI, List.map_take] using this
  refine H1.store 0 rfl 0 (pAdd_eq d 0) (by simp) (by simp) (by intro v hv; simp at hv; subst hv; rfl) (by simp) fun w8 H8 _ w9 h9 => ?_
  have H9 : Held W0 [] w9 (dkR d p (sf + keep).toNat c sf :: bfR p (sf + keep).toNat c (bs.take (sf + keep).toNat) :: rs) := H8.to h9
  exact (Sync_k H9).mono fun v w10 ⟨hv, H10⟩ => ⟨hv, fun w11 h11 => .inr ⟨hk0, hle, rfl, H10.to h11⟩⟩

theorem Clone_kB {q : Option Addr} {m mc : Nat} {b : Bs} (w : World) (hm : b.length = m) (hb : m ≤ 1000000) (hi : Ints .u8 w q (bI b)) : FnP Tryd.prog F_bytes_Clone #[.slice q m mc] w fun v w' => Ext w w' ∧ ∃ p c, v = .slice p m c ∧ Own w.heap.size w' T_uint8 1 p m c ((bI b).map (.int .u8)) := by
  refine ok_bytes_Clone q m mc w _ ⟨fun hq w0 h0 => ?_, fun hq w0 h0 => ?_⟩
  · subst hq
    cases b with
    | nil => simp at hm; subst hm; exact ⟨h0, none, 0, rfl, Own.nil⟩
    | cons x r => exact absurd rfl (cell_p (hi 0 (.int .u8 x.toNat) rfl))
  · refine run_lit0 elem_sl_uint8 fun w1 o1 e1 => ⟨e1, _, _, _, rfl, fun w5 h5 => ?_⟩
    have o5 : Own w0.heap.size w5 T_uint8 1 (some ⟨w0.heap.size, 0, none⟩) 0 0 ((bI []).map (.int .u8)) := (o1 w0.heap.size (Nat.le_refl _)).ext h5
    refine run_appB o5 (e1.trans h5).size hm (((hi.ext h0).ext e1).ext h5) (by omega) fun p' c' w6 o6 g6 => ⟨p', _, c', rfl, fun w10 h10 => ?_⟩
    have h06 : Ext w0 w6 := g6.ext (e1.trans h5) o5
    refine ⟨(h0.trans h06).trans h10, p', c', by rw [Nat.zero_add], ?_⟩
    rw [Nat.zero_add] at o6
    exact (o6.weak h0.size).ext h10
theorem Bytes_k (H : Held W0 [] w (dkR d p n c sf :: bfR p n c bs :: rs)) (hn : n ≤ 100000) : FnP Tryd.prog F_journal_Disk_Bytes #[.pointer d] w fun v w' => Ext w w' ∧ ∃ q m, v = .slice q n m ∧ Own w.heap.size w' T_uint8 1 q n m ((bI bs).map (.int .u8)) := by
  obtain ⟨dne, g0, g1⟩ := hdisk H
  obtain ⟨o, hnl, hnc⟩ := hbuf H
  refine ok_journal_Disk_Bytes d w _ ⟨dne, dne, p, n, c, g0, fun w3 h3 => (Clone_kB w3 hnl.symm (by omega) (o.cells.ext h3)).mono fun v w4 ⟨e4, q, m, hv, o4⟩ => ⟨e4, q, n, m, hv, fun w8 h8 => ⟨(h3.trans e4).trans h8, q, m, rfl, (o4.weak h3.size).ext h8⟩⟩⟩
end

theorem Equal_k {p q : Option Addr} {l c m mc : Nat} {a b : Bs} (w : World) (hl : a.length = l) (hm : b.length = m) (ha : Ints .u8 w p (bI a)) (hb : Ints .u8 w q (bI b)) : FnP Tryd.prog F_bytes_Equal #[.slice p l c, .slice q m mc] w fun v w' => Ext w w' ∧ v = .bool (decide (a = b)) := by
  refine ok_bytes_Equal p l c q m mc w _ fun w0 h0 => run_b2s (e := T_uint8) (by kernel_rfl) (by kernel_rfl) (by kernel_rfl) hl (ha.ext h0) ⟨Ext.refl _, _, rfl, fun w3 h3 => run_b2s (e := T_uint8) (by kernel_rfl) (by kernel_rfl) (by kernel_rfl) hm (hb.ext h3) ⟨Ext.refl _, _, rfl, fun w6 h6 => ⟨h6, ?_⟩⟩⟩
  congr 1
  exact decide_eq_decide.2 bT_inj
end Go.Proofs.YtenppnomdejmlaaDoor
