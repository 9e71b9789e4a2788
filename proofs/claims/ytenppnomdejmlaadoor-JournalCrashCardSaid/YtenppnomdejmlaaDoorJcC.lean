/- Behind a crash all that was safe is there, and of the rest a beginning. -/
import Derived.Test.YtenppnomdejmlaaDoorJcB
set_option linter.unusedVariables false
set_option linter.unusedSimpArgs false
namespace Go.Proofs.YtenppnomdejmlaaDoor
open Go.Sx Go.RowKit

theorem nest_arg {W : World} {l : Option Addr} {ll lc : Nat} (h : SlcArg Tryd.prog W T_sl_uint8 l ll lc) {k : Int} (h0 : 0 ≤ k) (hk : k < ll) : l ≠ none ∧ ∃ q m c, cell W (pIdx l k 1) 0 = some (.slice q m c) ∧ m ≤ 9223372036854775807 ∧ ∃ bs : Bs, bs.length = m ∧ Ints .u8 W q (bI bs) := by
  have hc1 : Tryd.prog.cellsOf T_sl_uint8 = 1 := by kernel_rfl
  have hle := h.le
  cases l with
  | none => have := h.nil rfl; omega
  | some a =>
    refine ⟨by simp, ?_⟩
    obtain ⟨n, es, h1, h2⟩ := h.el a rfl k.toNat (by omega)
    rw [hc1] at h1
    obtain ⟨h3, h4⟩ := cells?_some h1
    match es, h3 with
    | [v], _ =>
      obtain ⟨q, m, c, rfl, a1, a2, a3, a4⟩ := leaf_slice (P := Tryd.prog) (e := T_uint8) (by kernel_rfl) ⟨n, h2⟩
      obtain ⟨bs, hb, hi⟩ := bytes_arg (⟨a1, a2, a3, a4⟩ : SlcArg Tryd.prog W T_uint8 q m c)
      refine ⟨q, m, c, ?_, by omega, bs, hb, hi⟩
      have := h4 0 _ rfl
      simpa [cell, pIdx, add_add] using this

def GL (w : World) : Prop := True
theorem laid_ok {l : List (String × DataW Unit)} {W : World} (h : laidMetH Tryd.prog l W) : GL W := trivial

theorem core_JournalCrash (W : World) (hg : GL W) (l : Option Addr) (ll lc : Nat) (hl : SlcArg Tryd.prog W T_sl_uint8 l ll lc) (synced : Int) (hsyn : InR .i64 synced) (keep : Int) (hkeep : InR .i64 keep) (more : Option Addr) (morel morec : Nat) (hmore : SlcArg Tryd.prog W T_uint8 more morel morec) :
    FnP Tryd.prog F_shiftbellkeep_JournalCrash #[.slice l ll lc, .int .i64 synced, .int .i64 keep, .slice more morel morec] W fun v W' => v = .bool true ∧ Ext W W' := by
  obtain ⟨mb, hmb, hmi⟩ := bytes_arg hmore
  have hmle := hmore.le
  have hmmax := hmore.max
  have hlle := hl.le
  have hlmax := hl.max
  have hk64 := of64 hkeep
  refine ok_shiftbellkeep_JournalCrash l ll lc synced keep more morel morec W _ fun w0 h0 => (journals_k w0).mono fun v w1 ⟨e1, hv⟩ => ⟨e1, true, hv, fun h => by simp at h, fun _ w3 h3 => ?_⟩
  refine (New_k W w3 h3).mono fun v w4 ⟨e4, d, hv, H4⟩ => ⟨e4, d, hv, ?_⟩
  refine ⟨fun safe k w' => 0 ≤ k ∧ k ≤ ll ∧ 0 ≤ safe ∧ ∃ (p : Option Addr) (n c : Nat) (bs : Bs), n ≤ 100000 ∧ safe ≤ n ∧ Held W [] w' [dkR d p n c safe, bfR p n c bs], fun _ k _ => (ll - k).toNat, ⟨by omega, by omega, by omega, none, 0, 0, [], by omega, by omega, H4⟩, ?_⟩
  rintro safe k w9 ⟨hk0, hkl, hs0, p, n, c, bs, hn, hsn, H9⟩
  refine ⟨fun hlt => ?_, fun hge w10 h10 => ?_⟩
  · obtain ⟨lne, q, m, mc, g, hm63, nb, hnb, hni⟩ := nest_arg hl hk0 hlt
    refine ⟨lne, hk0, hlt, q, m, mc, ext_cell H9.ext g, fun w13 h13 => ?_⟩
    refine (Write_k (H9.to h13) hn q m mc nb hnb hm63 hni).mono fun v w14 hor => ?_
    obtain ⟨t, hv, p', n', c', bs', hn', hsn', H14⟩ : ∃ t, v = .int .i64 t ∧ ∃ (p' : Option Addr) (n' c' : Nat) (bs' : Bs), n' ≤ 100000 ∧ safe ≤ (n' : Int) ∧ Held W [] w14 [dkR d p' n' c' safe, bfR p' n' c' bs'] := by
      rcases hor with ⟨_, hv, H⟩ | ⟨hle, hv, p', c', H⟩
      · exact ⟨7, hv, p, n, c, bs, hn, hsn, H⟩
      · exact ⟨0, hv, p', n + m, c', bs ++ nb, hle, by omega, H⟩
    refine ⟨t, hv, fun _ w16 h16 => ?_, fun _ => ⟨i64 (by omega), ⟨by omega, by omega, hs0, p', n', c', bs', hn', hsn', H14⟩, by simp only []; omega⟩⟩
    refine (Sync_k (H14.to h16)).mono fun v w17 ⟨hv, H17⟩ => ⟨hv, fun w18 h18 => ?_⟩
    have H18 := H17.to h18
    exact (Bytes_k H18 hn').mono fun v w19 ⟨e19, r, rc, hv, _⟩ => ⟨e19, r, n', rc, hv, i64 (by omega), ⟨by omega, by omega, by omega, p', n', c', bs', hn', Int.le_refl _, H18.to e19⟩, by simp only []; omega⟩
  have H10 := H9.to h10
  obtain ⟨_, hnl, _⟩ := hbuf H10
  refine (Bytes_k H10 hn).mono fun v w11 ⟨e11, q, qc, hv, oq⟩ => ⟨e11, q, n, qc, hv, fun _ => i64 (by omega), ?_⟩
  -- the bytes as they were, held beside the disk
  have H11 : Held W [] w11 [dkR d p n c safe, bfR p n c bs, bfR q n qc bs] := by
    have := (H10.new (r := bfR q n qc bs) (oq.weak H10.ext.size) e11 (fun a ha => (oq.lt a ha).1) (by simp)).pick [1, 2, 0] (by decide) rfl
    exact this
  have hwas : ∀ {w : World} {r : HRow} {s : HRow}, Held W [] w [r, s, bfR q n qc bs] → Ints .u8 w q (bI bs) := fun H => (H.get 2 rfl).cells
  have hpre : ∀ {w : World} (j : Nat), Ints .u8 w q (bI bs) → Ints .u8 w q (bI (bs.take j)) := fun j h i v hv => by
    refine h i v ?_
    simp only [bI, List.map_take, List.getElem?_take] at hv ⊢
    split at hv
    · exact hv
    · cases hv
  have hqc : n ≤ qc := oq.le.1
  refine ⟨fun hbad w15 h15 => ?_, fun ⟨hk0', hkle⟩ w15 h15 => ?_⟩
  · refine (Crash_k (H11.to h15) hn ⟨hs0, hsn⟩ keep hkeep).mono fun v w16 hor => ?_
    rcases hor with ⟨_, hv, H16⟩ | ⟨h1, h2, _⟩
    · refine ⟨1, hv, fun _ w18 h18 => ?_, fun h => absurd rfl h⟩
      have H18 := H16.to h18
      refine (Bytes_k H18 hn).mono fun v w19 ⟨e19, r, rc, hv, o19⟩ => ⟨e19, r, n, rc, hv, fun w23 h23 => ?_⟩
      refine (Equal_k w23 hnl.symm hnl.symm (o19.cells.ext h23) (((hwas H18).ext e19).ext h23)).mono fun v w24 ⟨e24, hv⟩ => ⟨e24, _, hv, fun w26 h26 => ⟨by simp, (H18.ext.trans e19).trans h26⟩⟩
    · exact absurd hbad (by omega)
  · refine (Crash_k (H11.to h15) hn ⟨hs0, hsn⟩ keep hkeep).mono fun v w16 hor => ?_
    rcases hor with ⟨hb, _⟩ | ⟨h1, h2, hv, H16⟩
    · exact absurd hb (by omega)
    have hcut : ∀ {w : World}, Ints .u8 w q (bI bs) → Ints .u8 w (pCut q qc 0 1) (bI (bs.take (safe + keep).toNat)) := fun h => by rw [pCut_zero]; exact hpre _ h
    have hlen : (bs.take (safe + keep).toNat).length = (safe + keep).toNat := by rw [List.length_take]; omega
    have hlen' : (bs.take (safe + keep).toNat).length = ((safe + keep) - 0).toNat := by rw [hlen]; congr 1; omega
    refine ⟨0, hv, fun _ => i64 (by omega), fun _ => by omega, fun _ => by omega, fun _ => by omega, fun h => absurd rfl h, fun _ w18 h18 => ?_⟩
    have H18 := H16.to h18
    refine (Bytes_k H18 (by omega)).mono fun v w19 ⟨e19, r, rc, hv, o19⟩ => ⟨e19, r, _, rc, hv, fun w23 h23 => ?_⟩
    have H19 := H18.to e19
    refine (Equal_k w23 hlen hlen' (o19.cells.ext h23) ((hcut (hwas H19)).ext h23)).mono fun v w24 ⟨e24, hv⟩ => ⟨e24, true, by rw [hv]; simp, fun h => by simp at h, fun _ w26 h26 => ?_⟩
    refine (Crash_k (H19.to h26) (by omega) ⟨by omega, by omega⟩ 1 (by exact ⟨by decide, by decide⟩)).mono fun v w27 hor => ?_
    have hor : v = .int .i64 1 ∧ Held W [] w27 [dkR d p (safe + keep).toNat c (safe + keep).toNat, bfR p (safe + keep).toNat c (bs.take (safe + keep).toNat), bfR q n qc bs] := by
      rcases hor with ⟨_, hv, H27⟩ | ⟨_, h2, _⟩
      · exact ⟨hv, H27⟩
      · exact absurd h2 (by omega)
    obtain ⟨hv, H27⟩ := hor
    refine ⟨1, hv, fun h => absurd rfl h, fun _ w29 h29 => ?_⟩
    refine (Write_k (H27.to h29) (by omega) more morel morec mb hmb (by omega) hmi).mono fun v w30 hor => ?_
    rcases hor with ⟨_, hv, H30⟩ | ⟨hle, hv, p', c', H30⟩
    · refine ⟨7, hv, fun _ => ⟨i64 (by omega), by omega, by omega, by omega, fun w32 h32 => ?_⟩, fun h => absurd h (by decide)⟩
      have H32 := H30.to h32
      refine (Bytes_k H32 (by omega)).mono fun v w33 ⟨e33, r, rc, hv, o33⟩ => ⟨e33, r, _, rc, hv, fun w37 h37 => ?_⟩
      have H33 := H32.to e33
      exact (Equal_k w37 hlen hlen' (o33.cells.ext h37) ((hcut (hwas H33)).ext h37)).mono fun v w38 ⟨e38, hv⟩ => ⟨e38, _, hv, fun w40 h40 => ⟨by simp, H33.ext.trans h40⟩⟩
    · refine ⟨0, hv, fun h => absurd rfl h, fun _ w32 h32 => ?_⟩
      refine (Crash_k (H30.to h32) hle ⟨by omega, by omega⟩ 0 ⟨by decide, by decide⟩).mono fun v w33 hor => ?_
      rcases hor with ⟨hb, _⟩ | ⟨_, _, hv, H33⟩
      · exact absurd hb (by omega)
      refine ⟨0, hv, fun _ => i64 (by omega), fun _ => by omega, fun _ => by omega, fun _ => by omega, fun _ w35 h35 => ?_, fun h => absurd rfl h⟩
      have H35 := H33.to h35
      have hn35 : ((((safe + keep).toNat : Int) + 0).toNat : Nat) = (safe + keep).toNat := by omega
      rw [hn35] at H35
      rw [show (bs.take (safe + keep).toNat ++ mb).take (safe + keep).toNat = bs.take (safe + keep).toNat by rw [List.take_append_of_le_length (by omega), List.take_of_length_le (by omega)]] at H35
      refine (Bytes_k H35 (by omega)).mono fun v w36 ⟨e36, r, rc, hv, o36⟩ => ⟨e36, r, _, rc, hv, fun w40 h40 => ?_⟩
      have H36 := H35.to e36
      exact (Equal_k w40 hlen hlen' (o36.cells.ext h40) ((hcut (hwas H36)).ext h40)).mono fun v w41 ⟨e41, hv⟩ => ⟨e41, _, hv, fun w43 h43 => ⟨by simp, H36.ext.trans h43⟩⟩
end Go.Proofs.YtenppnomdejmlaaDoor
