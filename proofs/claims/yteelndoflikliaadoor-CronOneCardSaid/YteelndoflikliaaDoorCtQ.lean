/- Parse. -/
import Derived.Test.YteelndoflikliaaDoorCtP
set_option linter.unusedVariables false
set_option linter.unusedSimpArgs false
namespace Go.Proofs.YteelndoflikliaaDoor
open Go.Sx Go.RowKit

theorem spn_all {i : Nat} (hi : i < 5) : U (spn (lows i) (tops i)) ∧ ∀ j : Nat, tb (spn (lows i) (tops i)) j = decide (lows i ≤ (j : Int) ∧ (j : Int) ≤ tops i) := by
  match i, hi with
  | 0, _ => exact spn0
  | 1, _ => exact spn1
  | 2, _ => exact spn2
  | 3, _ => exact spn3
  | 4, _ => exact spn4
def zeroC : Cr := ⟨0, 0, 0, 0, 0⟩
theorem fld_zeroC (i : Nat) : fld zeroC i = 0 := by
  match i with
  | 0 | 1 | 2 | 3 => rfl
  | n + 4 => rfl
theorem u0 : U 0 := by rw [U_iff]; omega
/-- What Parse answers. -/
abbrev RP (w : World) (s : ByteArray) (v : Value) (w' : World) : Prop := Ext w w' ∧ ∃ (c : Cr) (e : Int), v = .tuple #[cv c, .int .i64 e] ∧ (e ≠ 0 → c = zeroC) ∧ (e = 0 → CrU c ∧ okC c) ∧ (200 < s.size → e = 2) ∧ (s.size ≤ 200 → ∀ c', CrU c' → CT c' s → e = 0 ∧ c = c')
theorem rp_no {w w' : World} {s : ByteArray} (x : Ext w w') (hs : s.size ≤ 200) (h : ∀ c', CrU c' → CT c' s → False) : RP w s (.tuple #[.agg #[.int .u64 0, .int .u64 0, .int .u64 0, .int .u64 0, .int .u64 0], .int .i64 3]) w' :=
  ⟨x, zeroC, 3, rfl, fun _ => rfl, fun h => by omega, fun h => by omega, fun _ c' hu hc => (h c' hu hc).elim⟩

theorem Parse_k (s : ByteArray) (w : World) (g : GB w) : FnP Tryd.prog F_cron_Parse #[.string s] w (RP w s) := by
  refine ok_cron_Parse s w _ fun b0 hb0 => ⟨fun hlt w1 x1 => ⟨x1, zeroC, 2, rfl, fun _ => rfl, fun h => by omega, fun _ => rfl, fun h => by omega⟩, fun hle w1 x1 => new_own (by simp [Value.oneCell']) fun w2 o2 e2 => fun w3 x3 => ?_⟩
  have hsz : s.size ≤ 200 := by omega
  have h1 := extB_ext x1
  have l0 := x1.lt b0 (by simp)
  have o2 := o2 w.heap.size h1.size
  have np : (some (⟨w1.heap.size, 0, none⟩ : Addr)) ≠ none := by simp
  have h2 := h1.trans e2
  have hpb : ∀ y, (some (⟨w1.heap.size, 0, none⟩ : Addr)) = some y → y.block ≠ b0 := fun y hy => by obtain rfl := Option.some.inj hy; show w1.heap.size ≠ b0; omega
  have hpl : ∀ y, (some (⟨w1.heap.size, 0, none⟩ : Addr)) = some y → y.block < w2.heap.size := fun y hy => (o2.lt y hy).2
  generalize (some (⟨w1.heap.size, 0, none⟩ : Addr)) = p at o2 np hpb hpl ⊢
  have h3 := h2.trans (extB_ext x3)
  have bx : ∀ {wa wb : World}, Ext w wa → ExtB [b0] [] wa wb → Ext w wb := fun ha hb => but_ext hb ha (by intro d hd; simp at hd; omega)
  refine (Split_k 32 s (by omega) w3 (g.ext h3)).mono fun v w4 ⟨e4, hv, hc4, _⟩ => ⟨e4, _, _, _, hv, ?_⟩
  have h4 := h3.trans e4
  have spn : (some (⟨w3.heap.size, 0, none⟩ : Addr)) ≠ none := by simp
  have apsp : Apart (some (⟨w3.heap.size, 0, none⟩ : Addr)) p := fun a b ha hb he => by
    obtain rfl := Option.some.inj ha
    have h5 := hpl b hb
    have h6 := (extB_ext x3).size
    have h7 : w3.heap.size = b.block := he
    omega
  generalize (some (⟨w3.heap.size, 0, none⟩ : Addr)) = sp at hc4 spn apsp ⊢
  have slen := split_lenC (c := 32) _ s rfl
  have ssz : ∀ i q, (Lib.splitB (one 32) 0 (Lib.countB s (one 32)) s)[i]? = some q → q.size + i ≤ s.size := fun i q h => split_size _ s i q h
  have sgood : ∀ c, CT c s → Lib.countB s (one 32) = 4 ∧ ∀ i, i < 5 → ∃ l, (Lib.splitB (one 32) 0 (Lib.countB s (one 32)) s)[i]? = some (ofL l) ∧ FT (fld c i) (lows i) (tops i) l := fun c hc => ct_parts hc
  generalize Lib.splitB (one 32) 0 (Lib.countB s (one 32)) s = S at hc4 slen ssz sgood
  generalize Lib.countB s (one 32) = n at slen sgood ⊢
  refine ⟨fun hne w8 x8 => rp_no (bx h4 x8) hsz fun c hu hc => hne (by have := (sgood c hc).1; omega), fun heq w8 x8 => ?_⟩
  have hn : n = 4 := by omega
  subst hn
  have h8 := h4.trans (extB_ext x8)
  refine (fieldsC_k p np w8).mono fun v w9 ⟨e9, q, hv, hq, hqb⟩ => ⟨e9, q, 5, 5, hv, ?_⟩
  have h9 := h8.trans e9
  have o9 := (((o2.ext (extB_ext x3)).ext e4).ext (extB_ext x8)).ext e9
  have apq : Apart q p := fun a b ha hb he => by
    have h5 := hqb a ha
    have h6 := hpl b hb
    have h7 := (((extB_ext x3).trans e4).trans (extB_ext x8)).size
    omega
  refine ⟨fun k w' => Ext w w' ∧ 0 ≤ k ∧ k ≤ 5 ∧ Cells w' sp (S.map Value.string) ∧ Cells w' q (fieldsL p) ∧ ∃ cur, Own w.heap.size w' T_Cron 5 p 1 1 (encC cur) ∧ CrU cur ∧ (∀ i : Nat, i < 5 → k ≤ (i : Int) → fld cur i = 0) ∧ (∀ i : Nat, i < 5 → (i : Int) < k → okF (fld cur i) (lows i) (tops i)) ∧ ∀ c, CrU c → CT c s → ∀ i : Nat, i < 5 → (i : Int) < k → fld cur i = fld c i,
    fun k _ => (5 - k).toNat, ⟨h9, by omega, by omega, (hc4.ext (extB_ext x8)).ext e9, hq, zeroC, o9, crU_iff.2 fun i _ => by rw [fld_zeroC]; exact u0, fun i _ _ => fld_zeroC i, fun i _ h => by omega, fun c _ _ i _ h => by omega⟩, ?_⟩
  rintro k w15 ⟨x15, hk0, hk5, c15, q15, cur, o15, hcu, hz, hok, hgd⟩
  refine ⟨fun hlt => ?_, fun hge => ?_⟩
  rotate_left
  · obtain rfl : k = 5 := by omega
    have cc := o15.cells
    exact ⟨np, _, cc 0 _ rfl, _, cc 1 _ rfl, _, cc 2 _ rfl, _, cc 3 _ rfl, _, cc 4 _ rfl, fun w21 x21 => ⟨bx x15 x21, cur, 0, rfl, fun h => absurd rfl h, fun _ => ⟨hcu, fun i hi => hok i hi (by omega)⟩, fun h => by omega, fun _ c hu hc => ⟨rfl, cr_ext fun i hi => hgd c hu hc i hi (by omega)⟩⟩⟩
  have hlt : k < 5 := by simpa using hlt
  obtain ⟨f0, f1, f2⟩ := field_at q15 k hk0 hlt
  have hkn : k.toNat < 5 := by omega
  obtain ⟨low0, low1, top1⟩ := low0 k.toNat
  obtain ⟨pc, hpc⟩ : ∃ pc, S[k.toNat]? = some pc := ⟨_, List.getElem?_eq_getElem (by omega)⟩
  have hcell : Go.Sx.cell w15 (pIdx sp k 1) 0 = some (.string pc) := by
    rw [cell_pIdx]
    exact c15 _ _ (by simp [hpc])
  have hpsz := ssz _ _ hpc
  have npk : pAdd p k.toNat ≠ none := fun h => np (pAdd_none.1 h)
  refine ⟨fun hq => cell_p f0 (pIdx_none.2 hq), hk0, hlt, cell_p f0, _, f0, _, f1, _, f2, fun b19 hb19 => ⟨spn, hk0, (by show k < ((4 + 1 : Nat) : Int); omega), _, hcell, fun w21 x21 => ?_⟩⟩
  have x21' := x15.trans (extB_ext x21)
  refine (Split_k 44 pc (by omega) w21 (g.ext x21')).mono fun v w22 ⟨e22, hv, hc22, _⟩ => ⟨e22, _, _, _, hv, ?_⟩
  have x22 := x21'.trans e22
  have sp2n : (some (⟨w21.heap.size, 0, none⟩ : Addr)) ≠ none := by simp
  have o22 := (o15.ext (extB_ext x21)).ext e22
  have apsp2 : Apart (some (⟨w21.heap.size, 0, none⟩ : Addr)) p := fun a b ha hb he => by
    obtain rfl := Option.some.inj ha
    have h5 := (o15.lt b hb).2
    have h6 := (extB_ext x21).size
    have h7 : w21.heap.size = b.block := he
    omega
  generalize (some (⟨w21.heap.size, 0, none⟩ : Addr)) = sp2 at hc22 sp2n apsp2 ⊢
  have slen2 := split_lenC (c := 44) _ pc rfl
  have ssz2 : ∀ i q, (Lib.splitB (one 44) 0 (Lib.countB pc (one 44)) pc)[i]? = some q → q.size + i ≤ pc.size := fun i q h => split_size _ pc i q h
  have sgood2 : ∀ c, CT c s → ∃ L, L ≠ [] ∧ (∀ r ∈ L, IT (lows k.toNat) (tops k.toNat) r) ∧ Lib.splitB (one 44) 0 (Lib.countB pc (one 44)) pc = L.map (fun r => ofL r.1) ∧ ∀ j : Nat, tb (fld c k.toNat) j = decide (∃ r ∈ L, r.2.1 ≤ (j : Int) ∧ (j : Int) ≤ r.2.2) := fun c hc => by
    obtain ⟨l, hl, L, hL⟩ := (sgood c hc).2 k.toNat hkn
    rw [hpc] at hl
    obtain rfl := Option.some.inj hl
    exact ⟨L, hL.1, hL.2.1, (ft_parts low0 hL).2, hL.2.2.2⟩
  generalize Lib.splitB (one 44) 0 (Lib.countB pc (one 44)) pc = S2 at hc22 slen2 ssz2 sgood2
  generalize Lib.countB pc (one 44) = n2 at slen2 ⊢
  have hsp0 := spn_all hkn
  refine ⟨fun m w' => Ext w w' ∧ 0 ≤ m ∧ m ≤ (n2 + 1 : Nat) ∧ Cells w' sp (S.map Value.string) ∧ Cells w' q (fieldsL p) ∧ Cells w' sp2 (S2.map Value.string) ∧ ∃ x, Own w.heap.size w' T_Cron 5 p 1 1 (encC (setF cur k.toNat x)) ∧ U x ∧ (0 < m → x ≠ 0) ∧ (∀ j : Nat, tb x j = true → lows k.toNat ≤ (j : Int) ∧ (j : Int) ≤ tops k.toNat) ∧
      ∀ L : List Itm, (∀ r ∈ L, IT (lows k.toNat) (tops k.toNat) r) → S2 = L.map (fun r => ofL r.1) → ∀ j : Nat, tb x j = decide (∃ r ∈ L.take m.toNat, r.2.1 ≤ (j : Int) ∧ (j : Int) ≤ r.2.2),
    fun m _ => (n2 + 1 - m).toNat, ⟨x22, by omega, by omega, (c15.ext (extB_ext x21)).ext e22, (q15.ext (extB_ext x21)).ext e22, hc22, 0, by rw [setF_zero hkn (hz _ hkn (by omega))]; exact o22, u0, fun h => by omega, fun j hj => (by rw [tb_zero] at hj; cases hj), fun L _ _ j => (by rw [tb_zero]; simp)⟩, ?_⟩
  rintro m w28 ⟨x28, hm0, hm1, c28, q28, d28, x, o28, hux, hx0, hxb, hxL⟩
  refine ⟨fun hml => ?_, fun hmg => ?_⟩
  rotate_left
  · obtain rfl : m = ((n2 + 1 : Nat) : Int) := by omega
    have hcu' : CrU (setF cur k.toNat x) := crU_iff.2 fun i hi => by
      rw [fld_setF cur hkn hi]
      split
      · exact hux
      · exact crU_iff.1 hcu i hi
    refine ⟨i64 (by omega), ⟨x28, by omega, by omega, c28, q28, setF cur k.toNat x, o28, hcu', fun i hi h => ?_, fun i hi h => ?_, fun c hu hc i hi h => ?_⟩, by simp only []; omega⟩
    · rw [fld_setF cur hkn hi, if_neg (by omega)]
      exact hz i hi (by omega)
    · rw [fld_setF cur hkn hi]
      split
      · rename_i e; subst e
        exact okF_of hux hsp0.2 (hx0 (by omega)) hxb
      · exact hok i hi (by omega)
    · rw [fld_setF cur hkn hi]
      split
      · rename_i e; subst e
        obtain ⟨L, _, hIT, hS2, hbits⟩ := sgood2 c hc
        refine U_ext hux (crU_iff.1 hu _ hkn) fun j _ => ?_
        rw [hbits j, hxL L hIT hS2 j]
        have hLl : L.length = n2 + 1 := by rw [← slen2, hS2, List.length_map]
        rw [show ((n2 + 1 : Nat) : Int).toNat = L.length by omega, List.take_length]
      · exact hgd c hu hc i hi (by omega)
  obtain ⟨it, hit⟩ : ∃ it, S2[m.toNat]? = some it := ⟨_, List.getElem?_eq_getElem (by omega)⟩
  have hcell2 : Go.Sx.cell w28 (pIdx sp2 m 1) 0 = some (.string it) := by
    rw [cell_pIdx]
    exact d28 _ _ (by simp [hit])
  have hisz := ssz2 _ _ hit
  refine ⟨sp2n, hm0, hml, _, hcell2, fun w30 x30 => ?_⟩
  refine (item_k (pAdd p k.toNat) (lows k.toNat) (tops k.toNat) low0 low1 (by omega) it (by omega) w30 ((g.ext x28).ext x30)).mono fun v w31 ⟨e31, set, b, hv, y1, z1, z2⟩ => ⟨e31, set, b, hv, fun hbf w34 x34 => rp_no (bx x28 x34) hsz fun c hu hc => ?_, fun hbt => ?_⟩
  · obtain ⟨L, _, hIT, hS2, _⟩ := sgood2 c hc
    rw [hS2, List.getElem?_map, Option.map_eq_some_iff] at hit
    obtain ⟨r, hr, hri⟩ := hit
    have := (ri_it (w := w) (w' := w) (hIT r (List.mem_of_getElem? hr)) hri.symm z1 z2).1
    rw [hbf] at this; cases this
  obtain ⟨hus, hs0, hsb⟩ := y1 hbt
  have hcx : Go.Sx.cell w28 (pAdd p k.toNat) 0 = some (.int .u64 x) := by
    rw [cell_pAdd, Nat.add_zero]
    have := o28.cells k.toNat (.int .u64 x) (by
      rw [← encC_set cur hkn x]
      rw [List.getElem?_set_self (by simpa using hkn)])
    exact this
  refine ⟨npk, _, hcx, npk, store_one o28 (by simpa using hkn) rfl (fun b' hb' y hy => ?_) fun w35 o35 g35 => ⟨i64 (by omega), ⟨g35.ext x28 o28, by omega, by omega, c28.grew apsp g35, q28.grew apq g35, d28.grew apsp2 g35, iBit .or .u64 x set, ?_, U_or _ _, fun _ => ?_, fun j hj => ?_, fun L hIT hS2 j => ?_⟩, by simp only []; omega⟩⟩
  · simp only [List.mem_cons, List.mem_nil_iff, or_false] at hb'
    rcases hb' with rfl | rfl
    · exact hpb y hy
    · have := (o15.lt y hy).2; omega
  · rw [← setF_setF cur k.toNat x, ← encC_set _ hkn]
    exact o35
  · intro h
    obtain ⟨j, hj⟩ : ∃ j, tb set j = true := by
      refine Classical.byContradiction fun hno => hs0 (U_ext hus u0 fun j _ => ?_)
      rw [tb_zero]
      cases hc : tb set j with
      | false => rfl
      | true => exact absurd ⟨j, hc⟩ hno
    have : tb (iBit .or .u64 x set) j = true := by rw [tb_or, hj, Bool.or_true]
    rw [h, tb_zero] at this; cases this
  · rw [tb_or, Bool.or_eq_true] at hj
    rcases hj with h | h
    · exact hxb j h
    · exact hsb j h
  · have hit' := hit
    rw [hS2, List.getElem?_map, Option.map_eq_some_iff] at hit'
    obtain ⟨r, hr, hri⟩ := hit'
    have hb := (ri_it (w := w) (w' := w) (hIT r (List.mem_of_getElem? hr)) hri.symm z1 z2).2
    have key : tb (iBit .or .u64 x set) j = true ↔ ∃ r' ∈ L.take (m + 1).toNat, r'.2.1 ≤ (j : Int) ∧ (j : Int) ≤ r'.2.2 := by
      rw [tb_or, Bool.or_eq_true, hxL L hIT hS2 j, hb j, decide_eq_true_iff, decide_eq_true_iff, show (m + 1).toNat = m.toNat + 1 by omega, List.take_add_one, hr]
      constructor
      · rintro (⟨r', h1, h2⟩ | h)
        · exact ⟨r', List.mem_append_left _ h1, h2⟩
        · exact ⟨r, List.mem_append_right _ (by simp), h⟩
      · rintro ⟨r', h1, h2⟩
        rcases List.mem_append.1 h1 with h1 | h1
        · exact .inl ⟨r', h1, h2⟩
        · have : r' = r := by simpa using h1
          rw [this] at h2; exact .inr h2
    exact Bool.eq_iff_iff.2 (key.trans decide_eq_true_iff.symm)
end Go.Proofs.YteelndoflikliaaDoor
