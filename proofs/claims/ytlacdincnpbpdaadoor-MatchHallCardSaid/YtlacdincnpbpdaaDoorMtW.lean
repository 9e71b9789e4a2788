/- Pairs: the table, who finds somebody, the pairs of all; who is reached. -/
import Derived.Test.YtlacdincnpbpdaaDoorMtE
import Derived.Test.YtlacdincnpbpdaaDoorMtP
set_option linter.unusedVariables false
set_option linter.unusedSimpArgs false
namespace Go.Proofs.YtlacdincnpbpdaaDoor
open Go.Sx Go.RowKit

def okX (n m : Int) (L : List E) : Prop := 0 ≤ n ∧ n ≤ 60 ∧ 0 ≤ m ∧ m ≤ 60 ∧ L.length ≤ 400 ∧ ∀ e ∈ L, 0 ≤ e.f ∧ e.f < n ∧ 0 ≤ e.t ∧ e.t < m
open Classical in
noncomputable def errX (n m : Int) (L : List E) : Int := if ¬ (0 ≤ n ∧ n ≤ 60 ∧ 0 ≤ m ∧ m ≤ 60) then 1 else if 400 < L.length then 2 else if (∀ e ∈ L, 0 ≤ e.f ∧ e.f < n ∧ 0 ≤ e.t ∧ e.t < m) then 0 else 4
theorem errX_ok {n m : Int} {L : List E} : errX n m L = 0 ↔ okX n m L := by
  unfold errX okX
  constructor
  · intro h
    split at h
    · omega
    · split at h
      · omega
      · split at h
        · rename_i h1 h2 h3
          have h1 := Classical.not_not.1 h1
          exact ⟨h1.1, h1.2.1, h1.2.2.1, h1.2.2.2, by omega, h3⟩
        · omega
  · rintro ⟨h1, h2, h3, h4, h5, h6⟩
    rw [if_neg (by simp; omega), if_neg (by omega), if_pos h6]

theorem checkX_k (n m : Int) (p : Option Addr) (c : Nat) (L : List E) (h63 : (L.length : Int) ≤ 9223372036854775807) (w : World) (h : Edges w p L) : FnP Tryd.prog F_match_Check #[.int .i64 n, .int .i64 m, .slice p L.length c] w fun v w' => Ext w w' ∧ v = .int .i64 (errX n m L) := by
  refine ok_match_Check n m p L.length c w _ ⟨fun hb w0 h0 => ⟨h0, ?_⟩, fun hg => ⟨fun hl w0 h0 => ⟨h0, ?_⟩, fun hl => ?_⟩⟩
  · unfold errX; rw [if_pos (by omega)]
  · unfold errX; rw [if_neg (by simp; omega), if_pos (by omega)]
  refine ⟨fun k w' => w' = w ∧ 0 ≤ k ∧ k ≤ L.length ∧ ∀ j : Nat, (j : Int) < k → 0 ≤ (ed L j).f ∧ (ed L j).f < n ∧ 0 ≤ (ed L j).t ∧ (ed L j).t < m, fun k _ => (L.length - k).toNat, ⟨rfl, by omega, by omega, fun j hj => by omega⟩, ?_⟩
  rintro k w ⟨rfl, hk0, hk1, hall⟩
  refine ⟨fun hlt => ?_, fun hge w3 h3 => ⟨h3, ?_⟩⟩
  · obtain ⟨g1, g2, g3, g4⟩ := edges_at h hk0 hlt
    refine ⟨g1, hk0, hlt, g2, _, g3, _, g4, fun b5 _ => ⟨fun hb w6 h6 => ⟨h6, ?_⟩, fun hb => ⟨i64 (by omega), ⟨rfl, by omega, by omega, fun j hj => ?_⟩, by simp only []; omega⟩⟩⟩
    · unfold errX
      rw [if_neg (by simp; omega), if_neg (by omega), if_neg fun hx => ?_]
      have := hx _ (ed_mem (L := L) (i := k.toNat) (by omega))
      omega
    · by_cases hjk : (j : Int) < k
      · exact hall j hjk
      · obtain rfl : j = k.toNat := by omega
        omega
  · unfold errX
    rw [if_neg (by simp; omega), if_neg (by omega), if_pos]
    intro e he
    obtain ⟨j, hj, rfl⟩ := mem_ed he
    exact hall j (by omega)

/-- Who may go with whom. -/
abbrev MayOk (N : Nat) (May : List Int) (A : Nat → Nat → Prop) : Prop := May.length = N ∧ ∀ i : Nat, i < N → U (May.getD i 0) ∧ ∀ k : Nat, tb (May.getD i 0) k = true ↔ A i k

abbrev mtRows (t mq hq : Option Addr) (N M : Nat) (May H : List Int) (s : Int) : List HRow :=
  [⟨51, 3, t, 1, 1, [.slice mq N N, .slice hq M M, .int .u64 s]⟩, ⟨43, 1, mq, N, N, May.map (.int .u64)⟩, ⟨3, 1, hq, M, M, H.map (.int .i64)⟩]

theorem hg_eq {H : List Int} {k : Nat} (h : k < H.length) : H.getD k 0 = hg H k := by simp [List.getD_eq_getElem?_getD, h]

structure TabX (w0 w : World) (t mq hq : Option Addr) (N M : Nat) (May H : List Int) (s : Int) : Prop where
  r : Held w0 [] w (mtRows t mq hq N M May H s)

theorem mt_cells {w0 w : World} {t mq hq : Option Addr} {N M : Nat} {May H : List Int} {s : Int} (r : Held w0 [] w (mtRows t mq hq N M May H s)) :
    t ≠ none ∧ cell w (pAdd t 0) 0 = some (.slice mq N N) ∧ cell w (pAdd t 1) 0 = some (.slice hq M M) ∧ cell w (pAdd t 2) 0 = some (.int .u64 s) := by
  have h := (r.get 0 rfl).cells
  exact ⟨(r.get 0 rfl).ne1 (by omega) (by omega), by rw [cell_pAdd]; exact h 0 _ rfl, by rw [cell_pAdd]; exact h 1 _ rfl, by rw [cell_pAdd]; exact h 2 _ rfl⟩
theorem mt_may {w0 w : World} {t mq hq : Option Addr} {N M : Nat} {May H : List Int} {s : Int} (r : Held w0 [] w (mtRows t mq hq N M May H s)) {i : Int} (h0 : 0 ≤ i) (hi : i < N) :
    mq ≠ none ∧ cell w (pIdx mq i 1) 0 = some (.int .u64 (May.getD i.toNat 0)) :=
  have hl := (r.get 1 rfl).leni
  ⟨(r.get 1 rfl).ne1 (by omega) (by omega), Ints.idx (r.get 1 rfl).cells h0 (by omega)⟩
theorem mt_has {w0 w : World} {t mq hq : Option Addr} {N M : Nat} {May H : List Int} {s : Int} (r : Held w0 [] w (mtRows t mq hq N M May H s)) {i : Int} (h0 : 0 ≤ i) (hi : i < M) :
    hq ≠ none ∧ cell w (pIdx hq i 1) 0 = some (.int .i64 (hg H i.toNat)) := by
  have hl := (r.get 2 rfl).leni
  refine ⟨(r.get 2 rfl).ne1 (by omega) (by omega), ?_⟩
  rw [← hg_eq (by omega)]
  exact Ints.idx (r.get 2 rfl).cells h0 (by omega)

theorem noB {w : World} : ∀ b ∈ ([] : List Nat), b < w.heap.size := fun b hb => by cases hb

theorem find_k {w0 : World} (hg0 : ∀ w, Ext w0 w → GL w) {t mq hq : Option Addr} {N M : Nat} (hM : M ≤ 60) {May : List Int} {A : Nat → Nat → Prop} (hMay : MayOk N May A) (hA : ∀ i k, A i k → k < M) : ∀ (f i : Nat) (H : List Int) (s : Int) (w : World), i < N → Held w0 [] w (mtRows t mq hq N M May H s) → U s → (∀ k, tb s k = true → k < M) →
    MtU N M A (tb s) H → (∀ j, j < M → tb s j = false → hg H j ≠ i) → ((List.range M).countP fun k => !tb s k) ≤ f →
    FnP Tryd.prog F_match_table_find #[.pointer t, .int .i64 i] w fun v w' => ∃ b H' s', v = .bool b ∧ Held w0 [] w' (mtRows t mq hq N M May H' s') ∧ U s' ∧ (∀ k, tb s k = true → tb s' k = true) ∧ (∀ k, tb s' k = true → k < M) ∧
      (b = true → Found N M A (tb s) i H H') ∧ (b = false → H' = H ∧ NotF M A (tb s) (tb s') i H) := by
  intro f
  induction f using Nat.strongRecOn with
  | _ f ih =>
  intro i H s w hi r hU hsM hmt hno hf
  obtain ⟨ct, c0, c1, c2⟩ := mt_cells r
  obtain ⟨cm, cmi⟩ := mt_may r (i := (i : Int)) (by omega) (by omega)
  obtain ⟨hUm, hbm⟩ := hMay.2 i hi
  simp only [Int.toNat_natCast] at cmi
  refine ok_match_table_find t i w _ ⟨ct, ct, _, _, _, c0, cm, by omega, by omega, _, cmi, ct, ct, _, c2, ?_⟩
  refine ⟨fun x w' => ∃ s1, x = iBit .andNot .u64 (May.getD i 0) s1 ∧ Held w0 [] w' (mtRows t mq hq N M May H s1) ∧ U s1 ∧ (∀ k, tb s k = true → tb s1 k = true) ∧ (∀ k, tb s1 k = true → k < M) ∧
      (∀ k, tb s1 k = true → tb s k = false → 0 ≤ hg H k ∧ ∀ j, A (hg H k).toNat j → tb s1 j = true), fun x _ => (List.range 64).countP fun k => tb x k, ⟨s, rfl, r, hU, fun _ h => h, hsM, fun k h1 h2 => by rw [h1] at h2; cases h2⟩, ?_⟩
  rintro x w7 ⟨s1, rfl, r7, hU1, hle1, hM1, hb1⟩
  have hUx := U_andNot (May.getD i 0) s1
  have hbx := tb_andNot (May.getD i 0) s1
  refine ⟨fun hne => fun w8 h8 => ?_, fun he w8 h8 => ⟨false, H, s1, rfl, r7.to h8, hU1, hle1, hM1, (fun h => by cases h), fun _ => ⟨rfl, fun k hk => ?_, hb1⟩⟩⟩
  · obtain ⟨k, hk, hk64, _, hkt, _, _, _, _⟩ := low_k hUx hne
    have hkA : A i k := (hbm k).1 (by rw [hbx] at hkt; simp at hkt; exact hkt.1)
    have hks : tb s1 k = false := by rw [hbx] at hkt; simp at hkt; exact hkt.2
    have hkM := hA i k hkA
    refine (TZ_k _ hUx hne w8 (hg0 w8 (r7.ext.trans h8))).mono fun v w9 ⟨e9, hv⟩ => ⟨e9, _, hv, ?_⟩
    rw [hk]
    obtain ⟨ct, c0, c1, c2⟩ := mt_cells r7
    refine ⟨ct, ct, _, c2, by omega, ct, ct, ?_⟩
    refine r7.store 0 rfl 2 rfl (by simp) (by simp) (by intro v hv; simp at hv; subst hv; rfl) noB fun w12 r12 g12 => ?_
    have hb2 : ∀ j, tb (iBit .or .u64 s1 (iBit .shl .u64 1 k)) j = (tb s1 j || decide (j = k)) := fun j => by
      rw [tb_or, tb_shl (by omega) (by omega)]; simp
    have hU2 : U (iBit .or .u64 s1 (iBit .shl .u64 1 k)) := U_or _ _
    generalize iBit .or .u64 s1 (iBit .shl .u64 1 k) = s2 at r12 hb2 hU2
    have r12' : Held w0 [] w12 (mtRows t mq hq N M May H s2) := r12
    obtain ⟨dt, d0, d1, d2⟩ := mt_cells r12'
    obtain ⟨dh, dhk⟩ := mt_has r12' (i := (k : Int)) (by omega) (by omega)
    simp only [Int.toNat_natCast] at dhk
    have hsk : tb s k = false := by
      cases hx : tb s k with
      | false => rfl
      | true => rw [hle1 k hx] at hks; cases hks
    have hlen := hmt.len
    refine ⟨dt, dt, _, _, _, d1, dh, by omega, by omega, _, dhk, fun _ => dt, fun _ => dt, fun hneg => ?_, fun hpos => ?_⟩
    · refine ⟨dt, dt, _, _, _, d1, dh, by omega, by omega, ?_⟩
      refine r12'.store_int 2 rfl (by omega) (by omega) noB fun w20 r20 g20 => fun w21 h21 => ?_
      simp only [Int.toNat_natCast] at r20
      have hm1 : hg H k = -1 := by rcases hmt.val k hkM with h | h <;> omega
      have r20' : Held w0 [] w20 (mtRows t mq hq N M May (H.set k (i : Int)) s2) := r20
      exact ⟨true, _, s2, rfl, r20'.to h21, hU2, fun j hj => by rw [hb2, hle1 j hj]; rfl, fun j hj => by
        rw [hb2] at hj; simp at hj
        rcases hj with hj | rfl
        · exact hM1 j hj
        · exact hkM, fun _ => found_free hmt hi hno hkM hsk hkA hm1, fun h => by cases h⟩
    · refine ⟨_, _, _, d1, dh, by omega, by omega, _, dhk, fun w21 h21 => ?_⟩
      have hval := hmt.val k hkM
      obtain ⟨a, ha⟩ : ∃ a : Nat, hg H k = a := ⟨(hg H k).toNat, by omega⟩
      rw [ha]
      have hle2 : ∀ j, tb s j = true → tb s2 j = true := fun j hj => by rw [hb2, hle1 j hj]; rfl
      have hM2 : ∀ j, tb s2 j = true → j < M := fun j hj => by
        rw [hb2] at hj; simp at hj
        rcases hj with hj | rfl
        · exact hM1 j hj
        · exact hkM
      have hmt2 : MtU N M A (tb s2) H := hmt.less fun j hj => by
        cases hx : tb s j with
        | false => rfl
        | true => rw [hle2 j hx] at hj; cases hj
      have hk2 : tb s2 k = true := by rw [hb2]; simp
      have hno2 : ∀ j, j < M → tb s2 j = false → hg H j ≠ a := fun j hj hs2 he => by
        have hsj : tb s j = false := by
          cases hx : tb s j with
          | false => rfl
          | true => rw [hle2 j hx] at hs2; cases hs2
        have := hmt.inj k j hkM hj hsk hsj hpos (by omega)
        rw [← this, hk2] at hs2; cases hs2
      have hlt : ((List.range M).countP fun k => !tb s2 k) < (List.range M).countP fun k => !tb s k := countP_lt (fun j _ hj => by
        cases hx : tb s j with
        | false => rfl
        | true => rw [hle2 j hx] at hj; cases hj) (List.mem_range.2 hkM) (by rw [hsk]; rfl) (by rw [hk2]; rfl)
      refine (ih _ (Nat.lt_of_lt_of_le hlt hf) a H s2 w21 (by omega) (r12'.to h21) hU2 hM2 hmt2 hno2 (Nat.le_refl _)).mono fun v w22 ⟨b, H', s', hv, r22, hU', hle', hM', hT, hF⟩ => ⟨b, hv, fun hb => ?_, fun hb => ?_⟩
      · have hFd := hT hb
        obtain ⟨ct, c0, c1, c2⟩ := mt_cells r22
        obtain ⟨ch, _⟩ := mt_has r22 (i := (k : Int)) (by omega) (by omega)
        have hlen' := hFd.mt.len
        refine ⟨ct, ct, _, _, _, c1, ch, by omega, by omega, ?_⟩
        refine r22.store_int 2 rfl (by omega) (by omega) noB fun w27 r27 g27 => fun w28 h28 => ?_
        simp only [Int.toNat_natCast] at r27
        have r27' : Held w0 [] w27 (mtRows t mq hq N M May (H'.set k (i : Int)) s') := r27
        refine ⟨true, _, s', rfl, r27'.to h28, hU', fun j hj => hle' j (hle2 j hj), hM', fun _ => ?_, fun h => by cases h⟩
        refine found_turn hmt hi hno hkM hsk hkA hpos hle2 hk2 (fun j hj hs hs2 => ?_) (by rw [ha]; exact hFd)
        rw [hb2] at hs2; simp at hs2
        rcases hs2 with h1 | rfl
        · exact (hb1 j h1 hs).1
        · exact hpos
      · obtain ⟨rfl, hN⟩ := hF hb
        obtain ⟨ct, c0, c1, c2⟩ := mt_cells r22
        obtain ⟨cm, cmi⟩ := mt_may r22 (i := (i : Int)) (by omega) (by omega)
        simp only [Int.toNat_natCast] at cmi
        refine ⟨ct, ct, _, _, _, c0, cm, by omega, by omega, _, cmi, ct, ct, _, c2, ⟨s', rfl, r22, hU', fun j hj => hle' j (hle2 j hj), hM', fun j hj hs => ?_⟩, ?_⟩
        · by_cases h2 : tb s2 j = true
          · rw [hb2] at h2; simp at h2
            rcases h2 with h1 | rfl
            · obtain ⟨h3, h4⟩ := hb1 j h1 hs
              exact ⟨h3, fun j' hj' => hle' j' (by rw [hb2, h4 j' hj']; rfl)⟩
            · exact ⟨hpos, fun j' hj' => hN.may j' (by rw [ha] at hj'; simpa using hj')⟩
          · exact hN.back j hj (by cases hx : tb s2 j <;> simp_all)
        · simp only []
          refine countP_lt (fun j _ hj => ?_) (List.mem_range.2 hk64) hkt ?_
          · rw [tb_andNot] at hj
            rw [hbx]
            simp at hj ⊢
            refine ⟨hj.1, ?_⟩
            cases hx : tb s1 j with
            | false => rfl
            | true => rw [hle' j (by rw [hb2, hx]; rfl)] at hj; cases hj.2
          · rw [tb_andNot, hle' k hk2]; simp
  · have h1 : tb (iBit .andNot .u64 (May.getD i 0) s1) k = false := by rw [he]; exact tb_zero k
    rw [hbx, (hbm k).2 hk] at h1
    simpa using h1

/-- What is read of the table that is done. -/
structure MemX (w : World) (t mq hq : Option Addr) (N M : Nat) (May H : List Int) : Prop where
  ne : t ≠ none
  c0 : cell w (pAdd t 0) 0 = some (.slice mq N N)
  c1 : cell w (pAdd t 1) 0 = some (.slice hq M M)
  may : ∀ i : Int, 0 ≤ i → i < N → mq ≠ none ∧ cell w (pIdx mq i 1) 0 = some (.int .u64 (May.getD i.toNat 0))
  has : ∀ i : Int, 0 ≤ i → i < M → hq ≠ none ∧ cell w (pIdx hq i 1) 0 = some (.int .i64 (hg H i.toNat))
theorem MemX.ext {w w' : World} {t mq hq : Option Addr} {N M : Nat} {May H : List Int} (h : MemX w t mq hq N M May H) (he : Ext w w') : MemX w' t mq hq N M May H :=
  ⟨h.ne, ext_cell he h.c0, ext_cell he h.c1, fun i h0 h1 => ⟨(h.may i h0 h1).1, ext_cell he (h.may i h0 h1).2⟩, fun i h0 h1 => ⟨(h.has i h0 h1).1, ext_cell he (h.has i h0 h1).2⟩⟩

/-- What the pairs are. -/
structure PairsX (N M : Nat) (L : List E) (May H X : List Int) : Prop where
  may : MayOk N May (Adj L)
  inv : PInv N M (Adj L) H N
  out : OutOf N M H X

theorem newTable_k (n m : Int) (p : Option Addr) (c : Nat) (L : List E) (hok : okX n m L) (w : World) (h : Edges w p L) : FnP Tryd.prog F_match_newTable #[.int .i64 n, .int .i64 m, .slice p L.length c] w fun v w' => ∃ t mq hq May, v = .pointer t ∧
    Held w [] w' (mtRows t mq hq n.toNat m.toNat May (List.replicate m.toNat (-1)) 0) ∧ MayOk n.toNat May (Adj L) := by
  obtain ⟨hn0, hn1, hm0, hm1, hl, hL⟩ := hok
  obtain ⟨N, rfl⟩ : ∃ N : Nat, n = N := ⟨n.toNat, by omega⟩
  obtain ⟨M, rfl⟩ : ∃ M : Nat, m = M := ⟨m.toNat, by omega⟩
  simp only [Int.toNat_natCast]
  let Z : Nat → List Int := fun k => List.replicate k (0 : Int)
  refine ok_match_newTable N M p L.length c w _ ⟨fun k t w' => k = t ∧ ∃ mq hq, Held w [] w' (mtRows t mq hq N M (Z N) (Z M) 0), ⟨fun w4 h4 => ?_, fun w4 h4 => ?_⟩, ?_⟩
  · refine Held.mk_ints elem_sl_uint64 (Held.nil h4) (by omega) (by omega) (by omega) noB fun q1 w5 r5 e5 => fun w9 h9 => ?_
    refine Held.mk_ints elem_sl_int (r5.to h9) (by omega) (by omega) (by omega) noB fun q2 w10 r10 e10 => fun w14 h14 => ?_
    refine (r10.to h14).new_row (by intro v hv; simp at hv; rcases hv with rfl | rfl | rfl <;> rfl) noB fun t w15 r15 e15 => ⟨rfl, q1, q2, ?_⟩
    exact r15.pick [0, 2, 1] (by decide) rfl
  · refine Held.mk_ints elem_sl_int (Held.nil h4) (by omega) (by omega) (by omega) noB fun q1 w5 r5 e5 => fun w9 h9 => ?_
    refine Held.mk_ints elem_sl_uint64 (r5.to h9) (by omega) (by omega) (by omega) noB fun q2 w10 r10 e10 => fun w14 h14 => ?_
    refine (r10.to h14).new_row (by intro v hv; simp at hv; rcases hv with rfl | rfl | rfl <;> rfl) noB fun t w15 r15 e15 => ⟨rfl, q2, q1, ?_⟩
    exact r15.pick [0, 1, 2] (by decide) rfl
  rintro k t w3 ⟨rfl, mq, hq, r3⟩
  refine ⟨fun k1 w' => 0 ≤ k1 ∧ k1 ≤ L.length ∧ ∃ May, Held w [] w' (mtRows k mq hq N M May (Z M) 0) ∧ MayOk N May (fun i j => ∃ a : Nat, (a : Int) < k1 ∧ (ed L a).f = i ∧ (ed L a).t = j), fun k1 _ => (L.length - k1).toNat, ⟨by omega, by omega, Z N, r3, by simp [Z], fun i hi => ?_⟩, ?_⟩
  · rw [getD_replicate' _ _ _ hi]
    exact ⟨by rw [U_iff]; omega, fun j => by rw [tb_zero]; simp; omega⟩
  rintro k1 w6 ⟨hk0, hk1, May, r6, hMl, hMay⟩
  refine ⟨fun hlt => ?_, fun hge => ?_⟩
  · obtain ⟨g1, g2, g3, g4⟩ := edges_at (h.ext r6.ext) hk0 hlt
    have hE := hL _ (ed_mem (L := L) (i := k1.toNat) (by omega))
    obtain ⟨ct, c0, c1, c2⟩ := mt_cells r6
    obtain ⟨cm, cmi⟩ := mt_may r6 (i := (ed L k1.toNat).f) (by omega) (by omega)
    refine ⟨g1, hk0, hlt, g2, _, g3, _, g4, fun b9 hb9 => ⟨ct, ct, _, _, _, c0, cm, by omega, by omega, _, cmi, by omega, cm, by omega, by omega, ?_⟩⟩
    have o := r6.get 1 rfl
    refine Go.Sx.store_int o (by omega) (by omega) (fun b hb x hx => by simp at hb; subst hb; have := (o.lt x hx).2; omega) fun w14 o14 g14 => ?_
    have r14 := r6.put (r' := ⟨43, 1, mq, N, N, (May.set (ed L k1.toNat).f.toNat (iBit .or .u64 (May.getD (ed L k1.toNat).f.toNat 0) (iBit .shl .u64 1 (ed L k1.toNat).t))).map (.int .u64)⟩) 1 rfl o14 g14 noB
    refine ⟨i64 (by omega), ⟨by omega, by omega, _, r14, by simpa using hMl, fun i hi => ?_⟩, by simp only []; omega⟩
    rw [getD_set _ _ _ _ _ (by omega)]
    have hsucc : ∀ j : Nat, (∃ a : Nat, (a : Int) < k1 + 1 ∧ (ed L a).f = i ∧ (ed L a).t = j) ↔ (∃ a : Nat, (a : Int) < k1 ∧ (ed L a).f = i ∧ (ed L a).t = j) ∨ ((ed L k1.toNat).f = i ∧ (ed L k1.toNat).t = j) := fun j => by
      constructor
      · rintro ⟨a, ha, h1⟩
        by_cases hak : (a : Int) < k1
        · exact .inl ⟨a, hak, h1⟩
        · obtain rfl : a = k1.toNat := by omega
          exact .inr h1
      · rintro (⟨a, ha, h1⟩ | h1)
        · exact ⟨a, by omega, h1⟩
        · exact ⟨k1.toNat, by omega, h1⟩
    by_cases hii : i = (ed L k1.toNat).f.toNat
    · rw [if_pos hii]
      refine ⟨U_or _ _, fun j => Iff.trans ?_ (hsucc j).symm⟩
      rw [tb_or, tb_shl (by omega) (by omega), Bool.or_eq_true, ← hii, decide_eq_true_iff]
      refine or_congr ((hMay i hi).2 j) ?_
      constructor
      · intro h; omega
      · intro h; omega
    · rw [if_neg hii]
      refine ⟨(hMay i hi).1, fun j => Iff.trans ((hMay i hi).2 j) (Iff.trans ?_ (hsucc j).symm)⟩
      constructor
      · exact .inl
      · rintro (h1 | h1)
        · exact h1
        · omega
  · obtain ⟨ct, c0, c1, c2⟩ := mt_cells r6
    have hMay' : MayOk N May (Adj L) := ⟨hMl, fun i hi => ⟨(hMay i hi).1, fun j => by
      rw [(hMay i hi).2 j]
      constructor
      · rintro ⟨a, ha, h1, h2⟩
        exact ⟨_, ed_mem (L := L) (by omega), h1, h2⟩
      · rintro ⟨e, he, h1, h2⟩
        obtain ⟨a, ha, rfl⟩ := mem_ed he
        exact ⟨a, by omega, h1, h2⟩⟩⟩
    refine ⟨ct, ct, _, _, _, c1, ?_⟩
    refine ⟨fun k2 w' => 0 ≤ k2 ∧ k2 ≤ M ∧ ∃ H, Held w [] w' (mtRows k mq hq N M May H 0) ∧ H.length = M ∧ ∀ j : Nat, (j : Int) < k2 → H.getD j 0 = -1, fun k2 _ => (M - k2).toNat, ⟨by omega, by omega, Z M, r6, by simp [Z], fun j hj => by omega⟩, ?_⟩
    rintro k2 w12 ⟨hj0, hj1, H, r12, hHl, hH⟩
    obtain ⟨ct, c0, c1, c2⟩ := mt_cells r12
    refine ⟨fun hlt => ?_, fun hge w13 h13 => ?_⟩
    · obtain ⟨ch, _⟩ := mt_has r12 hj0 hlt
      refine ⟨ct, ct, _, _, _, c1, ch, hj0, hlt, ?_⟩
      refine r12.store_int 2 rfl hj0 (by omega) noB fun w16 r16 g16 => ⟨i64 (by omega), ⟨by omega, by omega, _, r16, by simpa using hHl, fun j hj => ?_⟩, by simp only []; omega⟩
      rw [getD_set _ _ _ _ _ (by omega)]
      by_cases hjk : j = k2.toNat
      · rw [if_pos hjk]
      · rw [if_neg hjk]; exact hH j (by omega)
    · have hHe : H = List.replicate M (-1) := by
        apply List.ext_getElem
        · simp [hHl]
        · intro j h1 h2
          have := hH j (by omega)
          simp only [List.getD_eq_getElem?_getD, List.getElem?_eq_getElem h1, Option.getD_some] at this
          rw [this]; simp
      subst hHe
      exact ⟨k, mq, hq, May, rfl, r12.to h13, hMay'⟩

theorem adj_lt {n m : Int} {L : List E} (hok : okX n m L) {i k : Nat} (h : Adj L i k) : i < n.toNat ∧ k < m.toNat := by
  obtain ⟨e, he, h1, h2⟩ := h
  have := hok.2.2.2.2.2 e he
  omega

theorem hg_rep (M k : Nat) : hg (List.replicate M (-1)) k = -1 := by
  simp only [List.getD_eq_getElem?_getD, List.getElem?_replicate]
  split <;> rfl

theorem pairs_k (n m : Int) (p : Option Addr) (c : Nat) (L : List E) (hok : okX n m L) (w : World) (hg0 : GL w) (h : Edges w p L) : FnP Tryd.prog F_match_pairs #[.int .i64 n, .int .i64 m, .slice p L.length c] w fun v w' => Ext w w' ∧ ∃ t mq hq May H q X, v = .tuple #[.pointer t, .slice q n.toNat n.toNat] ∧
    MemX w' t mq hq n.toNat m.toNat May H ∧ Own w.heap.size w' T_int 1 q n.toNat n.toNat (X.map (.int .i64)) ∧ PairsX n.toNat m.toNat L May H X := by
  have hok' := hok
  obtain ⟨hn0, hn1, hm0, hm1, hl, hL⟩ := hok'
  refine ok_match_pairs n m p L.length c w _ fun w0 h0 => ?_
  refine (newTable_k n m p c L hok w0 (h.ext h0)).mono fun v w1 ⟨t, mq, hq, May, hv, r1, hMay⟩ => ⟨r1.ext, t, hv, ?_⟩
  have hadj : ∀ i k, Adj L i k → k < m.toNat := fun i k h => (adj_lt hok h).2
  obtain ⟨N, rfl⟩ : ∃ N : Nat, n = N := ⟨n.toNat, by omega⟩
  obtain ⟨M, rfl⟩ : ∃ M : Nat, m = M := ⟨m.toNat, by omega⟩
  simp only [Int.toNat_natCast] at *
  have hgl : ∀ w', Ext w0 w' → GL w' := fun w' hx => hg0.ext (h0.trans hx)
  refine ⟨fun k w' => 0 ≤ k ∧ k ≤ N ∧ ∃ H s, Held w0 [] w' (mtRows t mq hq N M May H s) ∧ PInv N M (Adj L) H k.toNat, fun k _ => (N - k).toNat, ⟨by omega, by omega, _, _, r1, ⟨⟨by simp, fun k hk => .inl (hg_rep M k), fun k hk _ h1 => ?_, fun k j hk hj _ _ h1 => ?_⟩, fun k hk => ?_, fun _ => False, fun _ => False, ⟨fun _ _ h => h.elim, fun _ h => h.elim⟩, fun a ha => ?_⟩⟩, ?_⟩
  · rw [hg_rep] at h1; omega
  · rw [hg_rep] at h1; omega
  · rw [hg_rep]; simp
  · simp at ha
  rintro k w5 ⟨hk0, hk1, H, s, r5, hI⟩
  obtain ⟨ct, c0, c1, c2⟩ := mt_cells r5
  refine ⟨fun hlt => ⟨ct, ct, ?_⟩, fun hge => fun w6 h6 => ?_⟩
  · refine r5.store 0 rfl 2 rfl (by simp) (by simp) (by intro v hv; simp at hv; subst hv; rfl) noB fun w6 r6 g6 => fun w7 h7 => ?_
    have r6' : Held w0 [] w6 (mtRows t mq hq N M May H 0) := r6
    obtain ⟨K, rfl⟩ : ∃ K : Nat, k = K := ⟨k.toNat, by omega⟩
    simp only [Int.toNat_natCast] at hI
    have hz : tb 0 = fun _ => false := funext tb_zero
    have := find_k hgl (by omega) hMay hadj _ K H 0 w7 (by omega) (r6'.to h7) (by rw [U_iff]; omega) (fun j hj => by rw [tb_zero] at hj; cases hj) (by rw [hz]; exact hI.mt) (fun j hj _ he => by have := hI.lt j hj; omega) (Nat.le_refl _)
    refine this.mono fun v w8 ⟨b, H', s', hv, r8, hU', _, hM', hT, hF⟩ => ⟨b, hv, i64 (by omega), ⟨by omega, by omega, H', s', r8, ?_⟩, by simp only []; omega⟩
    rw [hz] at hT hF
    rw [show ((K : Int) + 1).toNat = K + 1 by omega]
    cases b with
    | true => exact hI.found (hT rfl)
    | false =>
      obtain ⟨rfl, hN⟩ := hF rfl
      exact hI.notF hM' hN
  · obtain rfl : k = N := by omega
    simp only [Int.toNat_natCast] at hI
    refine Held.mk_ints elem_sl_int (r5.to h6) (by omega) (by omega) (by omega) noB fun q w7 r7 e7 => ?_
    simp only [Int.toNat_natCast] at r7 ⊢
    refine ⟨fun k1 w' => 0 ≤ k1 ∧ k1 ≤ N ∧ ∃ X, Held w0 [] w' (⟨3, 1, q, N, N, X.map (.int .i64)⟩ :: mtRows t mq hq N M May H s) ∧ X.length = N ∧ ∀ j : Nat, (j : Int) < k1 → hg X j = -1, fun k1 _ => (N - k1).toNat, ⟨by omega, by omega, _, r7, by simp, fun j hj => by omega⟩, ?_⟩
    rintro k1 w13 ⟨hj0, hj1, X, r13, hXl, hX⟩
    have qn : 0 < N → q ≠ none := fun hN => (r13.get 0 rfl).ne1 hN (by omega)
    refine ⟨fun hlt => ⟨qn (by omega), hj0, hlt, ?_⟩, fun hge => ?_⟩
    · refine r13.store_int 0 rfl hj0 (by omega) noB fun w14 r14 g14 => ⟨i64 (by omega), ⟨by omega, by omega, _, r14, by simpa using hXl, fun j hj => ?_⟩, by simp only []; omega⟩
      rw [hg, getD_set _ _ _ _ _ (by omega)]
      by_cases hjk : j = k1.toNat
      · rw [if_pos hjk]
      · rw [if_neg hjk]; exact hX j (by omega)
    obtain rfl : k1 = N := by omega
    have rt := r13.pick [1, 2, 3] (by decide) rfl
    obtain ⟨ct, c0, c1, c2⟩ := mt_cells (N := N) (M := M) (May := May) (H := H) (s := s) (mq := mq) (hq := hq) (t := t) rt
    refine ⟨ct, ct, _, _, _, c1, ?_⟩
    refine ⟨fun k2 w' => 0 ≤ k2 ∧ k2 ≤ M ∧ ∃ X, Held w0 [] w' (⟨3, 1, q, N, N, X.map (.int .i64)⟩ :: mtRows t mq hq N M May H s) ∧ X.length = N ∧ ∀ i : Nat, i < N → (hg X i = -1 ∧ ∀ j : Nat, (j : Int) < k2 → hg H j ≠ i) ∨ ∃ j : Nat, (j : Int) < k2 ∧ hg X i = j ∧ hg H j = i, fun k2 _ => (M - k2).toNat, ⟨by omega, by omega, X, r13, hXl, fun i hi => .inl ⟨hX i (by omega), fun j hj => by omega⟩⟩, ?_⟩
    rintro k2 w19 ⟨hj0, hj1, X, r19, hXl, hX⟩
    have rt := r19.pick [1, 2, 3] (by decide) rfl
    have rt' : Held w0 [] w19 (mtRows t mq hq N M May H s) := rt
    refine ⟨fun hlt => ?_, fun hge w20 h20 => ⟨h0.trans (r19.ext.trans h20), t, mq, hq, May, H, q, X, rfl, ?_, ?_, hMay, hI, ?_⟩⟩
    · obtain ⟨ch, chk⟩ := mt_has rt' hj0 hlt
      have hval := hI.mt.val k2.toNat (by omega)
      have hlt' := hI.lt k2.toNat (by omega)
      refine ⟨ch, hj0, hlt, _, chk, fun hpos => ⟨qn (by omega), hpos, by omega, ?_⟩, fun hneg => ⟨i64 (by omega), ⟨by omega, by omega, X, r19, hXl, fun i hi => ?_⟩, by simp only []; omega⟩⟩
      · refine r19.store_int 0 rfl hpos (by omega) noB fun w21 r21 g21 => ⟨i64 (by omega), ⟨by omega, by omega, _, r21, by simpa using hXl, fun i hi => ?_⟩, by simp only []; omega⟩
        rw [hg, getD_set _ _ _ _ _ (by omega)]
        by_cases hik : i = (hg H k2.toNat).toNat
        · rw [if_pos hik]
          exact .inr ⟨k2.toNat, by omega, by omega, by omega⟩
        · rw [if_neg hik]
          rcases hX i hi with ⟨h1, h2⟩ | ⟨j, h1, h2, h3⟩
          · refine .inl ⟨h1, fun j hj => ?_⟩
            by_cases hjk : (j : Int) < k2
            · exact h2 j hjk
            · obtain rfl : j = k2.toNat := by omega
              omega
          · exact .inr ⟨j, by omega, h2, h3⟩
      · rcases hX i hi with ⟨h1, h2⟩ | ⟨j, h1, h2, h3⟩
        · refine .inl ⟨h1, fun j hj => ?_⟩
          by_cases hjk : (j : Int) < k2
          · exact h2 j hjk
          · obtain rfl : j = k2.toNat := by omega
            omega
        · exact .inr ⟨j, by omega, h2, h3⟩
    · obtain ⟨ct, c0, c1, c2⟩ := mt_cells rt'
      exact MemX.ext ⟨ct, c0, c1, fun i h0 h1 => mt_may rt' h0 h1, fun i h0 h1 => mt_has rt' h0 h1⟩ h20
    · exact ((r19.get 0 rfl).weak h0.size).ext h20
    · refine ⟨hXl, fun i hi => ?_, fun i k hi hk => ⟨fun he => ?_, fun he => ?_⟩⟩
      · rcases hX i hi with ⟨h1, _⟩ | ⟨j, h1, h2, _⟩
        · exact .inl h1
        · exact .inr ⟨j, by omega, h2⟩
      · rcases hX i hi with ⟨h1, _⟩ | ⟨j, h1, h2, h3⟩
        · omega
        · obtain rfl : j = k := by omega
          exact h3
      · rcases hX i hi with ⟨_, h2⟩ | ⟨j, h1, h2, h3⟩
        · exact absurd he (h2 k (by omega))
        · have := hI.mt.inj k j hk (by omega) rfl rfl (by omega) (by omega)
          rw [this]; exact h2
end Go.Proofs.YtlacdincnpbpdaaDoor
