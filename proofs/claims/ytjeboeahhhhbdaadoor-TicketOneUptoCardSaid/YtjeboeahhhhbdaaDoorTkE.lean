/- What Open answers. -/
import Derived.Test.YtjeboeahhhhbdaaDoorTkD
set_option linter.unusedVariables false
set_option linter.unusedSimpArgs false
namespace Go.Proofs.YtjeboeahhhhbdaaDoor
open Go.Sx Go.RowKit

def tk0 : Tk := ⟨emS, 0, 0, 0⟩
/-- The pieces of a seal. -/
theorem seal_parts {key : Int} {t : Tk} (ht : okT t) : Lib.countB (ofL (sealL key t)) dot = 4 ∧ Lib.splitB dot 0 4 (ofL (sealL key t)) = [t.user, ofL (Lib.itoa t.from'), ofL (Lib.itoa t.til), ofL (Lib.itoa t.most), ofL (hexL (sumT key (bodyL t)) 16)] := by
  obtain ⟨a1, a2, a3, a4, a5⟩ := ht
  have d0 := lb_dot a1
  have d1 := itoa_dot (n := t.from') (by omega)
  have d2 := itoa_dot (n := t.til) (by omega)
  have d3 := itoa_dot (n := t.most) (by omega)
  have d4 := hex_dot (sumT key (bodyL t)) 16
  unfold sealL
  rw [bodyL_eq]
  constructor
  · rw [count_hit d0, count_hit d1, count_hit d2, count_hit d3, count_miss d4]
  · rw [split_hit d0, split_hit d1, split_hit d2, split_hit d3, Lib.splitB_zero, ofL_of]
theorem seal_len {key : Int} {t : Tk} (ht : okT t) : (sealL key t).length ≤ 103 := by
  have := bodyL_len ht
  unfold sealL
  simp only [List.length_append, List.length_cons, hexL_len]; omega
theorem seal_body (key : Int) (t : Tk) : (ofL (sealL key t)).extract 0 ((ofL (sealL key t)).size - 17) = ofL (bodyL t) := by
  rw [← ofL_of ((ofL (sealL key t)).extract _ _)]
  congr 1
  rw [ofL_size]
  have h : (sealL key t).length - 17 = (bodyL t).length := by unfold sealL; simp [hexL_len]
  rw [h]
  simp [ofL, sealL]

theorem Open_k (key : Int) (hk : 0 ≤ key ∧ key ≤ 18446744073709551615) (s : ByteArray) (hs : s.size < 4294967281) (now : Int) (w : World) (g : GB w) :
    FnP Tryd.prog F_ticket_Open #[.int .u64 key, .string s, .int .i64 now] w fun v w' => Ext w w' ∧ ∃ (t : Tk) (e : Int), v = .tuple #[tkv t, .int .i64 e] ∧ t.user.size ≤ s.size ∧ (e ≠ 0 → t = tk0) ∧ (e = 0 → okT t ∧ s = ofL (sealL key t) ∧ t.from' ≤ now ∧ now ≤ t.til) ∧
      (∀ u, okT u → s = ofL (sealL key u) → (u.from' ≤ now → now ≤ u.til → e = 0 ∧ t = u) ∧ (now < u.from' ∨ u.til < now → e = 11)) := by
  refine ok_ticket_Open key s now w _ fun b0 hb0 w1 x1 => ?_
  have h1 := extB_ext x1
  have lt1 := x1.lt b0 (by simp)
  have g1 := g.ext h1
  refine (Split_k s hs w1 g1).mono fun v w2 ⟨e2, hv, hparts, hlt2⟩ => ⟨e2, _, _, _, hv, ?_⟩
  have x2 : Ext w w2 := h1.trans e2
  have np : (some (⟨w1.heap.size, 0, none⟩ : Addr)) ≠ none := by simp
  -- an answer that is none
  have bad : ∀ (w' w'' : World) (e : Int), Ext w w' → ExtB [b0] [] w' w'' → e ≠ 0 → (∀ u, okT u → s = ofL (sealL key u) → (e = 11 ∧ (now < u.from' ∨ u.til < now))) →
      (Ext w w'' ∧ ∃ (t : Tk) (e' : Int), Value.tuple #[.agg #[.string (⟨#[]⟩ : ByteArray), .int .i64 0, .int .i64 0, .int .i64 0], .int .i64 e] = .tuple #[tkv t, .int .i64 e'] ∧ t.user.size ≤ s.size ∧ (e' ≠ 0 → t = tk0) ∧ (e' = 0 → okT t ∧ s = ofL (sealL key t) ∧ t.from' ≤ now ∧ now ≤ t.til) ∧
        (∀ u, okT u → s = ofL (sealL key u) → (u.from' ≤ now → now ≤ u.til → e' = 0 ∧ t = u) ∧ (now < u.from' ∨ u.til < now → e' = 11))) := by
    intro w' w'' e hx hx' hne hu
    refine ⟨but_ext hx' hx (by simpa using hb0), tk0, e, rfl, Nat.zero_le _, fun _ => rfl, fun h => absurd h hne, fun u ho hsu => ⟨fun a b => ?_, fun _ => (hu u ho hsu).1⟩⟩
    have := (hu u ho hsu).2
    omega
  refine ⟨fun _ => np, fun _ => by omega, fun h => by omega, fun hne w6 x6 => bad w2 w6 3 x2 x6 (by omega) fun u ho hsu => ?_, fun h5 => ?_⟩
  · have := (seal_parts (key := key) ho).1
    rw [← hsu] at this
    omega
  have hc4 : Lib.countB s dot = 4 := by omega
  rw [hc4] at hparts
  have hlen := Lib.splitB_all dot (by decide) 0 4 s hc4
  obtain ⟨p0, p1, p2, p3, p4, hp⟩ : ∃ p0 p1 p2 p3 p4, Lib.splitB dot 0 4 s = [p0, p1, p2, p3, p4] := by
    match Lib.splitB dot 0 4 s, hlen with
    | [a, b, c, d, e], _ => exact ⟨a, b, c, d, e, rfl⟩
  rw [hp] at hparts
  have hsz := fun i p h => split_size 4 s i p (by rw [hp]; exact h)
  have s4 := hsz 4 p4 rfl
  have c2 : ∀ (i : Nat) (p : ByteArray), [p0, p1, p2, p3, p4][i]? = some p → ∀ w', Ext w2 w' → ∀ k : Int, k = (i : Int) → cell w' (pIdx (some ⟨w1.heap.size, 0, none⟩) k 1) 0 = some (.string p) := fun i p h w' hw' k hk => by
    rw [cell_pIdx, show k.toNat * 1 + 0 = i by omega]
    exact ext_cell hw' (hparts i p h)
  have same : ∀ u, okT u → s = ofL (sealL key u) → p0 = u.user ∧ p1 = ofL (Lib.itoa u.from') ∧ p2 = ofL (Lib.itoa u.til) ∧ p3 = ofL (Lib.itoa u.most) ∧ p4 = ofL (hexL (sumT key (bodyL u)) 16) := fun u ho hsu => by
    have := (seal_parts (key := key) ho).2
    rw [← hsu, hp] at this
    simpa using this
  refine ⟨p4, c2 4 p4 rfl w2 (Ext.refl _) 4 rfl, fun _ => np, fun _ => by omega, fun _ => by omega, fun hne w7 x7 => bad w2 w7 3 x2 x7 (by omega) fun u ho hsu => ?_, fun h16 => ?_⟩
  · have := (same u ho hsu).2.2.2.2
    rw [this, ofL_size, hexL_len] at hne
    omega
  refine ⟨p4, c2 4 p4 rfl w2 (Ext.refl _) 4 rfl, fun w8 h8 => (Trim_k p4 (by omega) w8).mono fun v w9 ⟨e9, hv⟩ => ⟨e9, _, hv, fun hne w11 x11 => bad w2 w11 3 x2 x11 (by omega) fun u ho hsu => ?_, fun htrim => ⟨i64 (by omega), by omega, by omega, by omega, np, by omega, by omega, p4, c2 4 p4 rfl w2 (Ext.refl _) 4 rfl, fun w12 h12 => ?_⟩⟩⟩
  · have := (same u ho hsu).2.2.2.2
    rw [this, ofL_list, trim_hex] at hne
    exact absurd rfl hne
  have hbody : (s.extract (0 : Int).toNat ((s.size : Int) - 17).toNat) = s.extract 0 (s.size - 17) := by
    rw [show ((s.size : Int) - 17).toNat = s.size - 17 by omega]; rfl
  rw [hbody]
  refine (Sum_k key (s.extract 0 (s.size - 17)) (by rw [ByteArray.size_extract]; omega) w12).mono fun v w13 ⟨e13, hv⟩ => ⟨e13, _, hv, fun w15 h15 => (hex_k _ (sumI_rng hk _) w15 ((g.ext x2).ext h15).toGA).mono fun v w16 ⟨e16, hv⟩ => ⟨e16, _, hv, fun hne w18 x18 => bad w2 w18 12 x2 x18 (by omega) fun u ho hsu => ?_, fun heq => ?_⟩⟩
  · exfalso
    apply hne
    rw [(same u ho hsu).2.2.2.2, hsu, seal_body]
    rfl
  refine ⟨np, by omega, by omega, p0, c2 0 p0 rfl w2 (Ext.refl _) 0 rfl, fun w19 x19 => ?_⟩
  have h19 := extB_ext x19
  have lt19 := x19.lt b0 (by simp)
  have x19' := x2.trans h19
  refine new_own (by simp [Value.oneCell']) fun w20 o20 e20 => ?_
  have o20 := o20 w.heap.size x19'.size
  have np2 : (some (⟨w19.heap.size, 0, none⟩ : Addr)) ≠ none := by simp
  have nb : ∀ b ∈ [b0], ∀ x, (some (⟨w19.heap.size, 0, none⟩ : Addr)) = some x → x.block ≠ b := fun b hb x hx => by
    cases hx
    obtain rfl : b = b0 := by simpa using hb
    simp only; omega
  have st0 : Store w20 (some ⟨w19.heap.size, 0, none⟩) [.string p0, .int .i64 0, .int .i64 0, .int .i64 0] [b0] fun w21 => Own w.heap.size w21 37 4 (some ⟨w19.heap.size, 0, none⟩) 1 1 [.string p0, .int .i64 0, .int .i64 0, .int .i64 0] ∧ Grew w20 w21 (some ⟨w19.heap.size, 0, none⟩) (some ⟨w19.heap.size, 0, none⟩) := by
    refine store_own (off := 0) o20 (map_add0 _) (by simp) (by simp) (by simp [Value.oneCell']) nb fun w' o' g' => ⟨o', g'⟩
  refine ⟨st0.1, fun w21 hw21 => ?_⟩
  obtain ⟨o21, g21⟩ := st0.2 w21 hw21
  have x21 : Ext w w21 := Grew.ext g21 (x19'.trans e20) o20
  -- what was there behind Split is there still
  have k21 : Ext w2 w21 := Fr.ext (S := fun b => b = w19.heap.size) (fr_grew g21 fun a ha => by cases ha; rfl) (h19.trans e20) fun b hb => by rw [hb]; exact h19.size
  refine ⟨np2, np2, np2, fun w22 x22 => ?_⟩
  have h22 := extB_ext x22
  refine run_lit (t := 77) (e := 76) (s := 1) (b := 8) (z := .pointer none) (by kernel_rfl) [.pointer (pAdd (some ⟨w19.heap.size, 0, none⟩) 1), .pointer (pAdd (some ⟨w19.heap.size, 0, none⟩) 2), .pointer (pAdd (some ⟨w19.heap.size, 0, none⟩) 3)] rfl rfl (by intro u hu; simp at hu; rcases hu with rfl | rfl | rfl <;> rfl) (by simp) (by simp) fun w23 o23 e23 => ⟨e23, _, _, _, rfl, ?_⟩
  have o23c := (o23 0 (Nat.zero_le _)).cells
  have o21' := (o21.ext h22).ext e23
  have hw19 : w19.heap.size < w23.heap.size := (o21'.lt _ rfl).2
  have nq : w22.heap.size ≠ w19.heap.size := by have := ((o21.ext h22).lt _ rfl).2; simp at this; omega
  have npt : (some (⟨w22.heap.size, 0, none⟩ : Addr)) ≠ none := by simp
  refine ⟨fun k w' => 0 ≤ k ∧ k ≤ 3 ∧ Ext w w' ∧ Ext w2 w' ∧ b0 < w'.heap.size ∧ Cells w' (some ⟨w22.heap.size, 0, none⟩) [.pointer (pAdd (some ⟨w19.heap.size, 0, none⟩) 1), .pointer (pAdd (some ⟨w19.heap.size, 0, none⟩) 2), .pointer (pAdd (some ⟨w19.heap.size, 0, none⟩) 3)] ∧
      ∃ a : List Int, a.length = 3 ∧ Own w.heap.size w' 37 4 (some ⟨w19.heap.size, 0, none⟩) 1 1 (.string p0 :: a.map (.int .i64)) ∧ ∀ u, okT u → s = ofL (sealL key u) → ∀ j : Nat, (j : Int) < k → a.getD j 0 = [u.from', u.til, u.most].getD j 0,
    fun k _ => (3 - k).toNat, ⟨by omega, by omega, (x21.trans h22).trans e23, (k21.trans h22).trans e23, by omega, o23c, [0, 0, 0], rfl, o21', fun u _ _ j hj => by omega⟩, ?_⟩
  rintro k w29 ⟨hk0, hk1, x29, k29, lt29, hcs, a, ha, o29, hsame⟩
  refine ⟨fun hlt => ?_, fun hge => ?_⟩
  · have hk3 : k < 3 := by simpa using hlt
    have hpk : cell w29 (pIdx (some ⟨w22.heap.size, 0, none⟩) k 1) 0 = some (.pointer (pAdd (some ⟨w19.heap.size, 0, none⟩) (k.toNat + 1))) := by
      rw [cell_pIdx]
      refine hcs _ _ ?_
      have : k.toNat = 0 ∨ k.toNat = 1 ∨ k.toNat = 2 := by omega
      rcases this with h | h | h <;> rw [h] <;> rfl
    obtain ⟨pk, hpk1⟩ : ∃ pk, [p0, p1, p2, p3, p4][k.toNat + 1]? = some pk := ⟨_, List.getElem?_eq_getElem (by simp; omega)⟩
    have spk := hsz _ pk hpk1
    refine ⟨npt, hk0, hlt, _, hpk, i64 (by omega), np, by omega, by omega, pk, c2 (k.toNat + 1) pk hpk1 w29 k29 (k + 1) (by omega), fun w32 x32 => ?_⟩
    have h32 := extB_ext x32
    refine (ParseInt_k pk (by omega) w32 ((g.ext x29).ext h32)).mono fun v w33 ⟨e33, n, ev, hv, hcase⟩ => ⟨e33, n, ev, hv, fun w36 h36 => ?_⟩
    have hev : isErr ev := hcase.elim (fun h => .inl h.1) fun h => .inr h.1
    refine ne_nilB (by kernel_rfl) hev fun b hb => ⟨Ext.refl _, b, rfl, fun hbt w39 x39 => ?_, fun hbf => ?_⟩
    · refine bad w33 w39 3 ((x29.trans h32).trans e33) x39 (by omega) fun u ho hsu => ?_
      exfalso
      rcases hcase with ⟨h, _⟩ | ⟨_, hno⟩
      · rw [hbt] at hb; exact absurd (hb.2 h) (by simp)
      · obtain ⟨q0, q1, q2, q3, q4⟩ := same u ho hsu
        obtain ⟨a1, a2, a3, a4, a5⟩ := ho
        have : k.toNat = 0 ∨ k.toNat = 1 ∨ k.toNat = 2 := by omega
        rcases this with h | h | h <;> rw [h] at hpk1 <;> simp only [List.getElem?_cons_succ, List.getElem?_cons_zero, Option.some.injEq] at hpk1 <;> subst hpk1
        · rw [q1, ofL_list] at hno; exact hno _ (parse_itoa (by omega))
        · rw [q2, ofL_list] at hno; exact hno _ (parse_itoa (by omega))
        · rw [q3, ofL_list] at hno; exact hno _ (parse_itoa (by omega))
    · have hn : Lib.parseIntB 64 pk.data.toList = .ok n := by
        rcases hcase with ⟨_, h⟩ | ⟨⟨x, y, h⟩, _⟩
        · exact h
        · have := hb.1 hbf; rw [h] at this; cases this
      refine ⟨by simp [pAdd], ?_⟩
      have o33 := ((o29.ext h32).ext e33)
      refine store_one o33 (by simp [ha]; omega) rfl (fun b hb x hx => nb b hb x hx) fun w39 o39 g39 => ⟨i64 (by omega), ⟨by omega, by omega, ?_, ?_, ?_, ?_, a.set k.toNat n, by simp [ha], ?_, fun u ho hsu j hj => ?_⟩, by simp only []; omega⟩
      · exact Grew.ext g39 ((x29.trans h32).trans e33) o33
      · exact Fr.ext (S := fun b => b = w19.heap.size) (fr_grew g39 fun a ha => by cases ha; rfl) ((k29.trans h32).trans e33) fun b hb => by rw [hb]; exact h19.size
      · have := x32.lt b0 (by simp)
        have := e33.size
        have := g39.by_.size
        omega
      · refine Cells.fr (S := fun b => b = w19.heap.size) ((hcs.ext h32).ext e33) (fr_grew g39 fun a ha => by cases ha; rfl) fun a ha => ?_
        cases ha; exact nq
      · rw [List.map_set]; exact o39
      · by_cases hjk : (j : Int) < k
        · rw [getD_set' _ _ _ _ (by omega), if_neg (by omega)]; exact hsame u ho hsu j hjk
        · obtain rfl : j = k.toNat := by omega
          rw [getD_set' _ _ _ _ (by omega), if_pos rfl]
          obtain ⟨q0, q1, q2, q3, q4⟩ := same u ho hsu
          obtain ⟨a1, a2, a3, a4, a5⟩ := ho
          have : k.toNat = 0 ∨ k.toNat = 1 ∨ k.toNat = 2 := by omega
          rcases this with h | h | h <;> rw [h] at hpk1 ⊢ <;> simp only [List.getElem?_cons_succ, List.getElem?_cons_zero, Option.some.injEq] at hpk1 <;> subst hpk1
          · rw [q1, ofL_list, parse_itoa (by omega)] at hn; injection hn with e; exact e.symm
          · rw [q2, ofL_list, parse_itoa (by omega)] at hn; injection hn with e; exact e.symm
          · rw [q3, ofL_list, parse_itoa (by omega)] at hn; injection hn with e; exact e.symm
  · have hk3 : k = 3 := by simp at hge; omega
    obtain ⟨a1, a2, a3, rfl⟩ : ∃ a1 a2 a3, a = [a1, a2, a3] := by
      match a, ha with
      | [x, y, z], _ => exact ⟨x, y, z, rfl⟩
    let t : Tk := ⟨p0, a1, a2, a3⟩
    have s0 := hsz 0 p0 rfl
    have tu : ∀ u, okT u → s = ofL (sealL key u) → t = u := fun u ho hsu => by
      have q0 := (same u ho hsu).1
      have z := hsame u ho hsu
      have z0 := z 0 (by omega)
      have z1 := z 1 (by omega)
      have z2 := z 2 (by omega)
      simp at z0 z1 z2
      cases u
      simp only [t] at *
      rw [q0, z0, z1, z2]
    refine ⟨np2, _, o29.cellAt (i := 0) rfl, _, o29.cellAt (i := 1) rfl, _, o29.cellAt (i := 2) rfl, _, o29.cellAt (i := 3) rfl, fun w34 h34 => ?_⟩
    refine (Seal_k key hk t (by show p0.size ≤ _; omega) w34 ((g.ext x29).ext h34).toGA).mono fun v w35 ⟨e35, s', e, hv, he, hne, h0e⟩ => ⟨e35, s', e, hv, fun hor w38 x38 => bad w29 w38 3 x29 x38 (by omega) fun u ho hsu => ?_, fun hand => ?_⟩
    · exfalso
      have htu := tu u ho hsu
      have e0 : e = 0 := he.2 (by rw [htu]; exact ho)
      rcases hor with h | h
      · exact h e0
      · exact h (by rw [h0e e0, htu, hsu])
    · have ht := he.1 hand.1
      have hst : s = ofL (sealL key t) := by rw [← hand.2]; exact h0e hand.1
      refine ⟨np2, a1, o29.cellAt0 (i := 1) rfl, fun _ => np2, fun hlt w39 x39 => bad w29 w39 11 x29 x39 (by omega) fun u ho hsu => ?_, fun hle => ⟨a2, o29.cellAt0 (i := 2) rfl, fun hlt w40 x40 => bad w29 w40 11 x29 x40 (by omega) fun u ho hsu => ?_, fun hle2 => ⟨np2, _, o29.cellAt (i := 0) rfl, _, o29.cellAt (i := 1) rfl, _, o29.cellAt (i := 2) rfl, _, o29.cellAt (i := 3) rfl, fun w44 x44 => ?_⟩⟩⟩
      · have := tu u ho hsu
        rw [← this]; exact ⟨rfl, .inl hlt⟩
      · have := tu u ho hsu
        rw [← this]; exact ⟨rfl, .inr hlt⟩
      · refine ⟨but_ext x44 x29 (by simpa using hb0), t, 0, rfl, s0, fun h => absurd rfl h, fun _ => ⟨ht, hst, hle, hle2⟩, fun u ho hsu => ⟨fun _ _ => ⟨rfl, tu u ho hsu⟩, fun hor => ?_⟩⟩
        have := tu u ho hsu
        rw [← this] at hor
        simp only [t] at hor
        omega
end Go.Proofs.YtjeboeahhhhbdaaDoor
