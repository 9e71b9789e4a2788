/- Needs are read. -/
import Derived.Test.YtenppnomdejmlaaGreatDoorNtB
set_option linter.unusedVariables false
set_option linter.unusedSimpArgs false
namespace Go.Proofs.YtenppnomdejmlaaGreatDoor
open Go.Sx Go.RowKit

theorem bs_size (s : ByteArray) : s.data.toList.length = s.size := by simp
theorem split_len {c : UInt8} : ∀ (k : Nat) (s : ByteArray), Lib.countB s (one c) = k → (Lib.splitB (one c) 0 k s).length = k + 1
  | 0, s, _ => by rw [Lib.splitB_zero]; rfl
  | k + 1, s, h => by
    rcases Lib.indexB_cases s (one c) with hm | ⟨j, hj, hle⟩
    · rw [Lib.countB_miss _ _ hm] at h; omega
    · rw [Lib.countB_hit s (one c) j (Nat.le_refl 1) hj] at h
      rw [Lib.splitB_hit (one c) 0 k s j hj, List.length_cons, split_len k _ (by omega)]

/-- What the read need is, once a name's number is set (k parts asked). -/
def upN (cur : Nd) (name : ByteArray) (v : Int) (k : Nat) : Nd := ⟨if 0 < k ∧ pn 0 = name then v else cur.c, if 1 < k ∧ pn 1 = name then v else cur.m, if 2 < k ∧ pn 2 = name then v else cur.g⟩
theorem upN_zero (cur : Nd) (name : ByteArray) (v : Int) : upN cur name v 0 = cur := by cases cur; simp [upN]
theorem upN_hit {cur : Nd} {name : ByteArray} {v : Int} {k : Nat} (hk : k < 3) (h : pn k = name) : (encN (upN cur name v k)).set k (.int .i64 v) = encN (upN cur name v (k + 1)) := by
  match k, hk with
  | 0, _ => simp [encN, upN, h]
  | 1, _ => simp [encN, upN, h]
  | 2, _ => simp [encN, upN, h]
theorem upN_miss {cur : Nd} {name : ByteArray} {v : Int} {k : Nat} (hk : k < 3) (h : pn k ≠ name) : upN cur name v (k + 1) = upN cur name v k := by
  match k, hk with
  | 0, _ => simp [upN, h]
  | 1, _ => simp [upN, h]
  | 2, _ => simp [upN, h]
theorem upN_at {cur : Nd} {name : ByteArray} {v : Int} {i : Nat} (hi : i < 3) : ndAt (upN cur name v 3) i = if pn i = name then v else ndAt cur i := by
  match i, hi with
  | 0, _ => simp [upN, ndAt]
  | 1, _ => simp [upN, ndAt]
  | 2, _ => simp [upN, ndAt]
theorem pn_inj : ∀ {i j : Nat}, i < 3 → j < 3 → pn i = pn j → i = j := by
  intro i j hi hj h
  match i, j, hi, hj with
  | 0, 0, _, _ => rfl
  | 1, 1, _, _ => rfl
  | 2, 2, _, _ => rfl
  | 0, 1, _, _ => exact absurd h (by decide)
  | 0, 2, _, _ => exact absurd h (by decide)
  | 1, 0, _, _ => exact absurd h (by decide)
  | 1, 2, _, _ => exact absurd h (by decide)
  | 2, 0, _, _ => exact absurd h (by decide)
  | 2, 1, _, _ => exact absurd h (by decide)
theorem pn_no : ∀ {i : Nat}, i < 3 → (61 : UInt8) ∉ (pn i).data.toList ∧ (44 : UInt8) ∉ (pn i).data.toList := by
  intro i hi
  match i, hi with
  | 0, _ => decide
  | 1, _ => decide
  | 2, _ => decide
theorem piece_no {x : Nd} (hx : okN x) {i : Nat} (hi : i < 3) : (44 : UInt8) ∉ piece x i := fun hm => by
  have h0 := (okN_at.1 hx i hi).1
  unfold piece at hm
  rcases List.mem_append.1 hm with h | h
  · exact (pn_no hi).2 h
  · rcases List.mem_cons.1 h with h | h
    · exact absurd h (by decide)
    · exact itoa_no h0 (by decide) h
/-- The pieces of a need's text. -/
theorem text_parts {x : Nd} (hx : okN x) (hne : textL x ≠ [45]) : Lib.countB (ofL (textL x)) (one 44) + 1 = (idx x 3).length ∧ Lib.splitB (one 44) 0 (Lib.countB (ofL (textL x)) (one 44)) (ofL (textL x)) = (pcs x 3).map ofL := by
  have hp : pcs x 3 ≠ [] := fun h => hne (by unfold textL; rw [if_pos h])
  have ht : textL x = Lib.join (pcs x 3) [44] := by unfold textL; rw [if_neg hp]
  rw [ht]
  cases hl : pcs x 3 with
  | nil => exact absurd hl hp
  | cons a l =>
    obtain ⟨h1, h2⟩ := join_split (c := 44) l a fun y hy => by
      rw [← hl] at hy
      obtain ⟨i, hi, rfl⟩ := List.mem_map.1 hy
      exact piece_no hx (idx_lt hi).1
    have hlen : (idx x 3).length = l.length + 1 := by
      have := congrArg List.length hl
      unfold pcs at this
      rw [List.length_map] at this
      simpa using this
    rw [h1, h2]
    exact ⟨by omega, rfl⟩

/-- k pieces of x are read. -/
def good (x cur : Nd) (k : Nat) : Prop := ∀ i, i < 3 → ndAt cur i = if i ∈ (idx x 3).take k then ndAt x i else 0
theorem good_end {x cur : Nd} (h : good x cur (idx x 3).length) : cur = x := by
  have key : ∀ i, i < 3 → ndAt cur i = ndAt x i := fun i hi => by
    rw [h i hi, List.take_length]
    split
    · rfl
    · rename_i hn
      by_cases h0 : ndAt x i = 0
      · exact h0.symm
      · exact absurd (List.mem_filter.2 ⟨List.mem_range.2 hi, by simpa using h0⟩) hn
  have a := key 0 (by omega)
  have b := key 1 (by omega)
  have c := key 2 (by omega)
  cases cur; cases x
  simp only [ndAt] at a b c
  simp [a, b, c]
theorem good_step {x cur : Nd} {k i : Nat} (h : good x cur k) (hi : (idx x 3)[k]? = some i) : good x (upN cur (pn i) (ndAt x i) 3) (k + 1) := by
  have hm := idx_lt (List.mem_of_getElem? hi)
  intro j hj
  rw [upN_at hj, List.take_add_one, hi]
  simp only [Option.toList_some, List.mem_append, List.mem_singleton]
  by_cases e : j = i
  · subst e; simp
  · rw [if_neg (fun hp => e (pn_inj hj hm.1 hp)), h j hj]
    simp [e]
theorem good_start {x : Nd} : good x zeroN 0 := fun i hi => by
  match i, hi with
  | 0, _ => simp [ndAt, zeroN]
  | 1, _ => simp [ndAt, zeroN]
  | 2, _ => simp [ndAt, zeroN]

abbrev RQ (w : World) (s : ByteArray) (v : Value) (w' : World) : Prop := Ext w w' ∧ ∃ (a : Nd) (e : Int), v = .tuple #[nv a, .int .i64 e] ∧ (e ≠ 0 → a = zeroN) ∧ (e = 0 → okN a ∧ s = ofL (textL a)) ∧ (∀ x, okN x → s = ofL (textL x) → e = 0 ∧ a = x)

def rtail (s : ByteArray) (p2 : Option Addr) (b0 : Nat) (w10 : World) (Q : Value → World → Prop) : Prop :=
       p2 ≠ none ∧
       ∃ t11 : Int, cell w10 p2 0 = some (.int .i64 t11) ∧
       ∃ t12 : Int, cell w10 p2 1 = some (.int .i64 t12) ∧
       ∃ t13 : Int, cell w10 p2 2 = some (.int .i64 t13) ∧
       ∀ w14, Ext w10 w14 →
       FnP Tryz.prog F_need_text #[(.agg #[(.int .i64 t11), (.int .i64 t12), (.int .i64 t13)])] w14 fun v15 w15 =>
        Ext w14 w15 ∧
        ∃ t16 : ByteArray, v15 = (.string t16) ∧
        ((t16 ≠ s) →
         ∀ w17, ExtB [b0] [] w10 w17 →
         Q (.tuple #[(.agg #[(.int .i64 0), (.int .i64 0), (.int .i64 0)]), (.int .i64 3)]) w17) ∧
        ((t16 = s) →
         p2 ≠ none ∧
         ∃ t17 : Int, cell w10 p2 0 = some (.int .i64 t17) ∧
         ∃ t18 : Int, cell w10 p2 1 = some (.int .i64 t18) ∧
         ∃ t19 : Int, cell w10 p2 2 = some (.int .i64 t19) ∧
         ∀ w20, Ext w10 w20 →
         FnP Tryz.prog F_need_Check #[(.agg #[(.int .i64 t17), (.int .i64 t18), (.int .i64 t19)])] w20 fun v21 w21 =>
          Ext w20 w21 ∧
          ∃ t22 : Int, v21 = (.int .i64 t22) ∧
          ((t22 ≠ 0) →
           ∀ w23, ExtB [b0] [] w10 w23 →
           Q (.tuple #[(.agg #[(.int .i64 0), (.int .i64 0), (.int .i64 0)]), (.int .i64 t22)]) w23) ∧
          ((t22 = 0) →
           p2 ≠ none ∧
           ∃ t23 : Int, cell w10 p2 0 = some (.int .i64 t23) ∧
           ∃ t24 : Int, cell w10 p2 1 = some (.int .i64 t24) ∧
           ∃ t25 : Int, cell w10 p2 2 = some (.int .i64 t25) ∧
           ∀ w26, ExtB [b0] [] w10 w26 →
           Q (.tuple #[(.agg #[(.int .i64 t23), (.int .i64 t24), (.int .i64 t25)]), (.int .i64 0)]) w26))

theorem rtail_ok {w w10 : World} {s : ByteArray} {p2 : Option Addr} {b0 : Nat} {cur : Nd} (x10 : Ext w w10) (hb0 : w.heap.size ≤ b0) (c10 : NdAt w10 p2 cur) (hp : p2 ≠ none) (hr : rng cur) (g : GB w)
    (hgood : ∀ x, okN x → s = ofL (textL x) → cur = x) : rtail s p2 b0 w10 (RQ w s) := by
  have k0 := c10 0 _ rfl
  have k1 := c10 1 _ rfl
  have k2 := c10 2 _ rfl
  have bx : ∀ {w' : World}, ExtB [b0] [] w10 w' → Ext w w' := fun h => but_ext h x10 (by intro d hd; simp at hd; omega)
  refine ⟨hp, _, k0, _, k1, _, k2, fun w14 h14 => (ntext_k cur hr w14 (g.ext (x10.trans h14))).mono fun v w15 ⟨e15, hv⟩ => ⟨e15, _, hv, fun hne w17 x17 => ⟨bx x17, zeroN, _, rfl, fun _ => rfl, fun h => by omega, fun x hx hs => ?_⟩, fun heq => ⟨hp, _, k0, _, k1, _, k2, fun w20 h20 => (ncheck_k cur w20).mono fun v w21 ⟨e21, hv⟩ => ⟨e21, _, hv, fun hne w23 x23 => ⟨bx x23, zeroN, _, rfl, fun _ => rfl, fun h => absurd h hne, fun x hx hs => ?_⟩, fun hz => ⟨hp, _, k0, _, k1, _, k2, fun w26 x26 => ⟨bx x26, cur, 0, rfl, fun h => absurd rfl h, fun _ => ⟨errN_ok.1 hz, heq.symm⟩, fun x hx hs => ⟨rfl, hgood x hx hs⟩⟩⟩⟩⟩⟩⟩
  · exact absurd (by rw [hgood x hx hs]; exact hs.symm) hne
  · exact absurd (errN_ok.2 (by rw [hgood x hx hs]; exact hx)) hne

theorem nRead_k (s : ByteArray) (hs : s.size < 4294967281) (w : World) (g : GB w) : FnP Tryz.prog F_need_Read #[.string s] w (RQ w s) := by
  refine ok_need_Read s w _ fun b0 hb0 w1 x1 => new_own (by simp [Value.oneCell']) fun w2 o2 e2 => ?_
  have h1 := extB_ext x1
  have l0 := x1.lt b0 (by simp)
  have o2 := o2 w.heap.size h1.size
  have np : (some (⟨w1.heap.size, 0, none⟩ : Addr)) ≠ none := by simp
  have h2 := h1.trans e2
  have rz : rng zeroN := fun i hi => by
    match i, hi with
    | 0, _ => simp [ndAt, zeroN]
    | 1, _ => simp [ndAt, zeroN]
    | 2, _ => simp [ndAt, zeroN]
  have hpb : ∀ y, (some (⟨w1.heap.size, 0, none⟩ : Addr)) = some y → y.block ≠ b0 := fun y hy => by obtain rfl := Option.some.inj hy; show w1.heap.size ≠ b0; omega
  have hpl : ∀ y, (some (⟨w1.heap.size, 0, none⟩ : Addr)) = some y → y.block < w2.heap.size := fun y hy => (o2.lt y hy).2
  generalize hpp : (some (⟨w1.heap.size, 0, none⟩ : Addr)) = p at o2 np hpb hpl ⊢
  refine ⟨fun hne w3 x3 => ?_, fun heq => ?_⟩
  rotate_left
  · refine rtail_ok (cur := zeroN) h2 hb0 o2.cells np rz g fun x hx hs => ?_
    have hl : textL x = [45] := ofL_inj (hs.symm.trans heq)
    by_cases hp : pcs x 3 = []
    · refine good_end ?_
      have : idx x 3 = [] := by simpa [pcs] using hp
      intro i hi
      rw [this]
      exact good_start i hi
    · exfalso
      unfold textL at hl
      rw [if_neg hp] at hl
      cases hc : pcs x 3 with
      | nil => exact hp hc
      | cons a l =>
        rw [hc, Lib.join_cons] at hl
        have ha : a ∈ pcs x 3 := by rw [hc]; exact List.mem_cons_self ..
        obtain ⟨i, _, rfl⟩ := List.mem_map.1 ha
        have := congrArg List.length hl
        unfold piece at this
        have h3 : (pn i).data.toList.length = 3 := pn_len i
        rw [List.length_append, List.length_append, h3] at this
        simp at this
        omega
  have h3 := h2.trans (extB_ext x3)
  have g3 := g.ext h3
  refine (Split_k 44 s hs w3 g3).mono fun v w4 ⟨e4, hv, hc4, _⟩ => ⟨e4, _, _, _, hv, ?_⟩
  have spn : (some (⟨w3.heap.size, 0, none⟩ : Addr)) ≠ none := by simp
  have apsp : Apart (some (⟨w3.heap.size, 0, none⟩ : Addr)) p := fun a b ha hb he => by
    obtain rfl := Option.some.inj ha
    have h5 := hpl b hb
    have h6 := (extB_ext x3).size
    have h7 : w3.heap.size = b.block := he
    omega
  generalize (some (⟨w3.heap.size, 0, none⟩ : Addr)) = sp at hc4 spn apsp ⊢
  have slen := split_len (c := 44) _ s rfl
  have ssz : ∀ i q, (Lib.splitB (one 44) 0 (Lib.countB s (one 44)) s)[i]? = some q → q.size + i ≤ s.size := fun i q h => split_size _ s i q h
  have sgood : ∀ x, okN x → s = ofL (textL x) → Lib.countB s (one 44) + 1 = (idx x 3).length ∧ Lib.splitB (one 44) 0 (Lib.countB s (one 44)) s = (pcs x 3).map ofL := fun x hx hsx => by
    have := text_parts hx fun h => hne (by rw [hsx, h]; rfl)
    rwa [← hsx] at this
  generalize Lib.splitB (one 44) 0 (Lib.countB s (one 44)) s = S at hc4 slen ssz sgood
  generalize Lib.countB s (one 44) = n at slen sgood ⊢
  refine ⟨fun k w' => Ext w w' ∧ 0 ≤ k ∧ k ≤ (n + 1 : Nat) ∧ Cells w' sp (S.map Value.string) ∧ ∃ cur, Own w.heap.size w' T_Need 3 p 1 1 (encN cur) ∧ rng cur ∧ ∀ x, okN x → s = ofL (textL x) → good x cur k.toNat, fun k _ => (n + 1 - k).toNat,
    ⟨h3.trans e4, by omega, by omega, hc4, zeroN, (o2.ext (extB_ext x3)).ext e4, rz, fun x _ _ => good_start⟩, ?_⟩
  rintro k w10 ⟨x10, hk0, hk1, c10, cur, o10, hr, hgd⟩
  refine ⟨fun hlt => ?_, fun hge => ?_⟩
  rotate_left
  · refine rtail_ok (cur := cur) x10 hb0 o10.cells np hr g fun x hx hsx => good_end ?_
    have := hgd x hx hsx
    rwa [show k.toNat = (idx x 3).length by have := (sgood x hx hsx).1; omega] at this
  obtain ⟨pc, hpc⟩ : ∃ pc, S[k.toNat]? = some pc := ⟨_, List.getElem?_eq_getElem (by omega)⟩
  have hcell : Go.Sx.cell w10 (pIdx sp k 1) 0 = some (.string pc) := by
    rw [cell_pIdx]
    exact c10 _ _ (by simp [hpc])
  have hpsz := ssz _ _ hpc
  refine ⟨spn, hk0, hlt, _, hcell, fun w12 h12 => (Cut_k 61 pc (by omega) w12 ((g.ext x10).ext h12)).mono fun v w13 ⟨e13, hv⟩ => ⟨e13, _, _, _, hv, fun w17 x17 => ?_⟩⟩
  have hx17 := x10.trans (extB_ext x17)
  have hcsz : (Lib.cut pc.data.toList [61]).2.1.length ≤ pc.size := by have := cut_size pc.data.toList 61; rwa [bs_size] at this
  have hthis : ∀ x, okN x → s = ofL (textL x) → ∃ i, (idx x 3)[k.toNat]? = some i ∧ i < 3 ∧ 0 < ndAt x i ∧ ofL (Lib.cut pc.data.toList [61]).1 = pn i ∧ Lib.parseIntB 64 (ofL (Lib.cut pc.data.toList [61]).2.1).data.toList = .ok (ndAt x i) := fun x hx hsx => by
    have hS := (sgood x hx hsx).2
    rw [hS, List.getElem?_map] at hpc
    unfold pcs at hpc
    rw [List.getElem?_map, Option.map_map, Option.map_eq_some_iff] at hpc
    obtain ⟨i, hi, rfl⟩ := hpc
    have hm := idx_lt (List.mem_of_getElem? hi)
    have hb := okN_at.1 hx i hm.1
    have hcut : Lib.cut (ofL (piece x i)).data.toList [61] = ((pn i).data.toList, Lib.itoa (ndAt x i), true) := cut_hit _ (pn_no hm.1).1
    have hcut' : Lib.cut ((ofL ∘ piece x) i).data.toList [61] = ((pn i).data.toList, Lib.itoa (ndAt x i), true) := hcut
    rw [hcut']
    exact ⟨i, hi, hm.1, by omega, ofL_of _, parse_itoa hb⟩
  generalize (ofL (Lib.cut pc.data.toList [61]).1) = name at hthis ⊢
  have hnsz : (ofL (Lib.cut pc.data.toList [61]).2.1).size ≤ 281474976710656 := by rw [ofL_size]; omega
  generalize (ofL (Lib.cut pc.data.toList [61]).2.1) = num at hthis hnsz ⊢
  refine (ParseInt_k num hnsz w17 (g.ext hx17)).mono fun v w18 ⟨e18, vn, ev, hv, hcase⟩ => ⟨e18, vn, ev, hv, fun w21 h21 => ?_⟩
  have hx18 := hx17.trans e18
  refine ne_nilB (by kernel_rfl) (hcase.elim (fun h => .inl h.1) fun h => .inr h.1) fun t ht => ⟨Ext.refl _, t, rfl, fun hbad w24 x24 => ⟨but_ext x24 hx18 (by intro d hd; simp at hd; omega), zeroN, 3, rfl, fun _ => rfl, fun h => by omega, fun x hx hsx => ?_⟩, fun hok w24 x24 => ?_⟩
  · exfalso
    obtain ⟨i, _, _, hpos, _, hpar⟩ := hthis x hx hsx
    rcases hcase with ⟨h1, h2⟩ | ⟨_, h2⟩
    · rw [hpar] at h2
      injection h2 with h2
      rcases hbad with h | h
      · rw [ht.2 h1] at h; cases h
      · omega
    · exact h2 _ hpar
  have hx24 := hx18.trans (extB_ext x24)
  obtain ⟨hev, hpar⟩ : ev = .nilIface ∧ Lib.parseIntB 64 num.data.toList = .ok vn := by
    rcases hcase with h | ⟨⟨a, b, h⟩, _⟩
    · exact h
    · have := ht.1 hok.1
      rw [h] at this; cases this
  have o24 : Own w.heap.size w24 T_Need 3 p 1 1 (encN cur) := (((o10.ext (extB_ext x17)).ext e18).ext (extB_ext x24))
  have c24 : Cells w24 sp (S.map Value.string) := (((c10.ext (extB_ext x17)).ext e18).ext (extB_ext x24))
  refine (parts_k p np w24).mono fun v w25 ⟨e25, q, hv, hq, hqb⟩ => ⟨e25, q, 3, 3, hv, ?_⟩
  have apq : Apart q p := fun a b ha hb he => by
    have h5 := hqb a ha
    have h6 := (o24.lt b hb).2
    omega
  refine ⟨fun k30 w' => Ext w w' ∧ 0 ≤ k30 ∧ k30 ≤ 3 ∧ Cells w' sp (S.map Value.string) ∧ Cells w' q (partsL p) ∧ Own w.heap.size w' T_Need 3 p 1 1 (encN (upN cur name vn k30.toNat)), fun k30 _ => (3 - k30).toNat,
    ⟨hx24.trans e25, by omega, by omega, c24.ext e25, hq, by rw [show (0 : Int).toNat = 0 from rfl, upN_zero]; exact o24.ext e25⟩, ?_⟩
  rintro k30 w31 ⟨x31, hj0, hj3, c31, q31, o31⟩
  refine ⟨fun hjlt => ?_, fun hjge => ?_⟩
  · obtain ⟨d1, d2⟩ := part_at q31 hj0 hjlt
    have hj : k30.toNat < 3 := by omega
    refine ⟨fun hq => cell_p d1 (pIdx_none.2 hq), hj0, hjlt, cell_p d1, _, d1, _, d2, fun b34 hb34 => ⟨fun heq => ⟨fun h => np (pAdd_none.1 h), ?_⟩, fun hne => ⟨i64 (by omega), ⟨x31, by omega, by omega, c31, q31, ?_⟩, by simp only []; omega⟩⟩⟩
    · refine store_one o31 (by simpa using hj) rfl (fun b hb y hy => ?_) fun w35 o35 g35 => ⟨i64 (by omega), ⟨g35.ext x31 o31, by omega, by omega, c31.grew apsp g35, q31.grew apq g35, ?_⟩, by simp only []; omega⟩
      · simp only [List.mem_cons, List.mem_singleton, List.mem_nil_iff, or_false] at hb
        rcases hb with rfl | rfl
        · exact hpb y hy
        · have := (o31.lt y hy).2; omega
      · rw [show (k30 + 1).toNat = k30.toNat + 1 by omega, ← upN_hit hj heq]
        exact o35
    · rw [show (k30 + 1).toNat = k30.toNat + 1 by omega, upN_miss hj hne]
      exact o31
  · obtain rfl : k30 = 3 := by omega
    refine ⟨i64 (by omega), ⟨x31, by omega, by omega, c31, upN cur name vn 3, o31, fun i hi => ?_, fun x hx hsx => ?_⟩, by simp only []; omega⟩
    · rw [upN_at hi]
      split
      · have := parse_top hpar hok.2
        omega
      · exact hr i hi
    · obtain ⟨i, hi, hi3, _, hname, hp2⟩ := hthis x hx hsx
      rw [hpar] at hp2
      injection hp2 with hp2
      rw [hp2, hname, show (k + 1).toNat = k.toNat + 1 by omega]
      exact good_step (hgd x hx hsx) hi
end Go.Proofs.YtenppnomdejmlaaGreatDoor
