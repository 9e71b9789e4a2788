/- Scripts with gaps: Fill. -/
import Derived.Test.YtjeboeahhhhbdaaDoorTmB
set_option linter.unusedVariables false
set_option linter.unusedSimpArgs false
namespace Go.Proofs.YtjeboeahhhhbdaaDoor
open Go.Sx Go.RowKit

theorem new_raw {w : World} {t : TypeId} {vs : List Value} {K : Option Addr → World → Prop} (h1 : ∀ v ∈ vs, v.oneCell' = true)
    (h : ∀ w', w'.heap[w.heap.size]? = some (.cells vs.toArray t (0, 0)) → Ext w w' → K (some ⟨w.heap.size, 0, none⟩) w') : New w t vs K := by
  refine ⟨h1, fun p w' hn => ?_⟩
  rw [hn.at_]
  exact h w' hn.block hn.ext
theorem fill2_k {w0 w : World} {l : List Lb} {b r pb pm : Nat} {L : List Sg} {n : By} (h : FI w0 l b r pb pm L w) (hs : ∀ x ∈ l, x.val.size ≤ 70368744177664) :
    FnP Tryd.prog F_tmpl_Fill_2 #[.string (ofL n), .pointer (some ⟨pb, 0, none⟩), .pointer (some ⟨pm, 0, none⟩)] w fun v w' => v = .tuple #[] ∧ FI w0 l b r pb pm (L ++ [.gap n]) w' := by
  obtain ⟨_, _, _, _, h3⟩ := h.fn
  refine ok_tmpl_Fill_2 (ofL n) _ _ w _ ⟨_, h3, _, h.mc, fun w2 h2 => look1 (h.mp.ext h2) ⟨Ext.refl _, _, rfl, fun w5 h5 => ?_⟩⟩
  have key : (((findL l (ofL n)).elim (⟨#[]⟩ : ByteArray) (·.val)) : ByteArray).data.toList = pc (vOf l) (.gap n) ∧ (((findL l (ofL n)).elim (⟨#[]⟩ : ByteArray) (·.val)) : ByteArray).size ≤ 70368744177664 := by
    cases hf : findL l (ofL n) with
    | none => exact ⟨by simp [pc, vOf, hf], by decide⟩
    | some x => exact ⟨by simp [pc, vOf, hf], hs x (findL_mem hf).1⟩
  exact ⟨27, #[.pointer (some ⟨b, 0, none⟩)], rfl, (put_k (h.more h5) _ key.1 key.2).mono fun v w6 ⟨hv, h6⟩ => ⟨hv, fun w7 h7 => ⟨rfl, h6.more h7⟩⟩⟩
theorem kOk_take {l : List Lb} (h : kOk l) (k : Nat) : kOk (l.take k) := by
  refine ⟨fun x hx => h.1 x (List.mem_of_mem_take hx), ?_⟩
  unfold keys
  rw [List.map_take]
  exact h.2.sublist (List.take_sublist _ _)

theorem Fill_k (s : ByteArray) (hs : s.size ≤ 9223372036854775807) (p : Option Addr) (c : Nat) (l : List Lb) (hl63 : (l.length : Int) ≤ 9223372036854775807) (hk63 : ∀ x ∈ l, x.key.size ≤ 9223372036854775807) (hv : ∀ x ∈ l, x.val.size ≤ 70368744177664) (w : World) (h : Lbs w p l) :
    FnP Tryd.prog F_tmpl_Fill #[.string s, .slice p l.length c] w fun v w' => Ext w w' ∧ ∃ (t : ByteArray) (e : Int), v = .tuple #[.string t, .int .i64 e] ∧ (e ≠ 0 → t = ⟨#[]⟩) ∧
      (e = 0 → s.size ≤ 2000 ∧ l.length ≤ 8 ∧ kOk l ∧ ∃ L, Segs s.data.toList L true ∧ (∀ n ∈ gaps L, ofL n ∈ keys l) ∧ (flat (vOf l) L).length ≤ 2000 ∧ t = ofL (flat (vOf l) L)) ∧
      (∀ L, s.size ≤ 2000 → Segs s.data.toList L true → l.length ≤ 8 → kOk l → ((∀ n ∈ gaps L, ofL n ∈ keys l) → ((flat (vOf l) L).length ≤ 2000 → e = 0) ∧ (2000 < (flat (vOf l) L).length → e = 2)) ∧ ((∃ n ∈ gaps L, ofL n ∉ keys l) → e = 5)) := by
  refine ok_tmpl_Fill s p l.length c w _ fun w0 h0 => ?_
  refine (Names_k s hs w0).mono fun v w1 ⟨e1, q, n, d, e, hv1, hr⟩ => ⟨e1, q, n, d, e, hv1, fun hne w6 h6 => ?_, fun he => ⟨fun h8 w6 h6 => ?_, fun h8 w6 h6 => ?_⟩⟩
  · refine ⟨(h0.trans e1).trans h6, _, e, rfl, fun _ => rfl, fun h => absurd h hne, fun L h1 h2 => ?_⟩
    rcases hr with ⟨_, _, h3⟩ | ⟨h3, _⟩
    · exact absurd h2 (h3 h1 L)
    · exact absurd h3 hne
  · exact ⟨(h0.trans e1).trans h6, _, 2, rfl, fun _ => rfl, fun h => by (cases h), fun L h1 h2 h3 => by omega⟩
  rcases hr with ⟨h3, _⟩ | ⟨_, hs2, L, hL, hn, oN⟩
  · exact absurd he h3
  have x6 := (h0.trans e1).trans h6
  refine run_makeMap (enc := Value.string) fun w7 m7 e7 => ⟨e7, _, rfl, fun w9 h9 => ?_⟩
  have hr7 : w6.heap.size < w7.heap.size := m7.lt
  have hr9 : w6.heap.size < w9.heap.size := Nat.lt_of_lt_of_le hr7 h9.size
  refine new_own (by intro v hv; simp at hv; subst hv; rfl) fun w10 o10 e10 => ?_
  have o10' := o10 w9.heap.size (Nat.le_refl _)
  have st := store_one (off := 0) o10' (by simp) (v := .map (some w6.heap.size)) rfl (ns := []) (by simp) (K := fun w11 => Own w9.heap.size w11 T_map_string_string 1 (some ⟨w9.heap.size, 0, none⟩) 1 1 [.map (some w6.heap.size)] ∧ Grew w10 w11 (some ⟨w9.heap.size, 0, none⟩) (some ⟨w9.heap.size, 0, none⟩)) fun w11 o g => ⟨o, g⟩
  rw [pAdd_zero] at st
  refine ⟨st.1, fun w11 hw11 => ?_⟩
  obtain ⟨o11, g11⟩ := st.2 w11 hw11
  have x10 : Ext w6 w10 := (e7.trans h9).trans e10
  have x11 : Ext w6 w11 := g11.ext x10 (o10 w6.heap.size (by omega))
  refine ⟨fun k w' => Ext w6 w' ∧ 0 ≤ k ∧ k ≤ l.length ∧ kOk (l.take k.toNat) ∧ MapIs Value.string w' w6.heap.size (mOf (l.take k.toNat)) ∧ cell w' (some ⟨w9.heap.size, 0, none⟩) 0 = some (.map (some w6.heap.size)), fun k _ => (l.length - k).toNat,
    ⟨x11, by omega, by omega, ⟨by simp, by simp [keys]⟩, ?_, o11.cellAt rfl⟩, ?_⟩
  · exact ((m7.ext h9).ext e10).grew (fun x hx => by cases hx; exact Ne.symm (Nat.ne_of_lt hr9)) g11
  rintro k w14 ⟨x14, hk0, hk1, hok, m14, c14⟩
  have xx := x6.trans x14
  refine ⟨fun hlt => ?_, fun hge => ?_⟩
  · obtain ⟨x, hx⟩ : ∃ x, l[k.toNat]? = some x := ⟨_, List.getElem?_eq_getElem (by omega)⟩
    have hc0 : cell w14 (pIdx p k 2) 0 = some (.string x.key) := by
      rw [cell_pIdx]; exact ext_cell xx (h k.toNat x hx 0 _ rfl)
    have hc1 : cell w14 (pIdx p k 2) 1 = some (.string x.val) := by
      rw [cell_pIdx]; exact ext_cell xx (h k.toNat x hx 1 _ rfl)
    have hxm := List.mem_of_getElem? hx
    have htk : l.take (k + 1).toNat = l.take k.toNat ++ [x] := by
      rw [show (k + 1).toNat = k.toNat + 1 by omega, List.take_add_one, hx]; rfl
    refine ⟨fun hq => cell_p hc0 (pIdx_none.2 hq), hk0, hlt, cell_p hc0, _, hc0, _, hc1, fun b17 hb17 => ⟨_, c14, fun w19 h19 => look2 (m14.ext h19) ⟨Ext.refl _, _, _, rfl, fun w23 h23 => ?_⟩⟩⟩
    refine (Label_k x.key (hk63 x hxm) w23).mono fun v w24 ⟨e24, hv24⟩ => ⟨e24, _, hv24, fun hf w26 h26 => ⟨xx.trans h26, _, 3, rfl, fun _ => rfl, fun h => by (cases h), fun M _ _ _ hkk => ?_⟩, fun ht => ⟨fun hin w26 h26 => ⟨xx.trans h26, _, 6, rfl, fun _ => rfl, fun h => by (cases h), fun M _ _ _ hkk => ?_⟩, fun hno => ⟨_, c14, fun w27 h27 => ?_⟩⟩⟩
    · have := hkk.1 x hxm
      rw [hf] at this; cases this
    · exfalso
      have hk2 := (kOk_take hkk (k + 1).toNat).2
      rw [htk] at hk2
      unfold keys at hk2
      rw [List.map_append, List.nodup_append] at hk2
      have hm : x.key ∈ keys (l.take k.toNat) := by
        by_cases hm : x.key ∈ keys (l.take k.toNat)
        · exact hm
        · rw [findL_none.2 hm] at hin; cases hin
      exact hk2.2.2 x.key hm x.key (by simp) rfl
    · have x27 := extB_ext h27
      have hnm : x.key ∉ keys (l.take k.toNat) := fun hm => by
        have : findL (l.take k.toNat) x.key ≠ none := fun h => findL_none.1 h hm
        cases hf : findL (l.take k.toNat) x.key with
        | none => exact this hf
        | some y => rw [hf] at hno; cases hno
      refine run_mapUpdate kS mapS (m14.ext x27) fun w28 m28 g28 => ⟨fun b hb => ?_, i64 (by omega), ⟨?_, by omega, by omega, ?_, ?_, ?_⟩, by simp only []; omega⟩
      · simp at hb; subst hb
        have hlt17 := h27.lt b (by simp)
        refine g28.by_.block b hlt17 fun he => ?_
        simp [blk] at he
        have := m14.lt
        omega
      · have : Ext w6 w27 := x14.trans x27
        exact g28.below this this.size fun a ha => by cases ha; exact Nat.le_refl _
      · rw [htk]
        refine ⟨fun y hy => ?_, ?_⟩
        · rcases List.mem_append.1 hy with hy | hy
          · exact hok.1 y hy
          · obtain rfl := List.mem_singleton.1 hy; exact ht
        · have h2 := hok.2
          unfold keys at *
          rw [List.map_append, List.nodup_append]
          exact ⟨h2, by simp, fun a ha b hb he => by simp at hb; subst hb; subst he; exact hnm ha⟩
      · rw [mset_new (by rw [mkeys_mOf]; exact hnm)] at m28
        rw [htk]
        have : mOf (l.take k.toNat ++ [x]) = mOf (l.take k.toNat) ++ [(x.key, Value.string x.val)] := by simp [mOf]
        rw [this]; exact m28
      · have hc := ext_cell x27 c14
        refine (World.cell?_of_block (w := w27) (g28.by_.block _ ?_ fun he => ?_)).trans hc
        · rw [add_block]
          obtain ⟨a, ha, hb, _⟩ := cell_some hc
          cases ha; exact hb
        · rw [add_block] at he
          simp [blk] at he
          omega
  · have hkl : k = l.length := by omega
    subst hkl
    rw [Int.toNat_natCast, List.take_length] at hok m14
    have oN14 := oN.ext (h6.trans x14)
    have hn2 : n ≤ 2000 := by have h1 := names_len L; have h2 := hL.count; rw [← size_list] at h2; omega
    have hnames : ∀ (j : Nat) (y : By), (names L)[j]? = some y → cell w14 q j = some (sv y) := fun j y hy => oN14.cells j _ (by simp [hy])
    refine ⟨fun j w' => w' = w14 ∧ 0 ≤ j ∧ j ≤ n ∧ ∀ (i : Nat) (y : By), (i : Int) < j → (names L)[i]? = some y → ofL y ∈ keys l, fun j _ => (n - j).toNat, ⟨rfl, by omega, by omega, fun i y hi => by omega⟩, ?_⟩
    rintro j w17 ⟨rfl, hj0, hj1, hall⟩
    refine ⟨fun hlt => ?_, fun hge w18 h18 => ?_⟩
    · obtain ⟨y, hy⟩ : ∃ y, (names L)[j.toNat]? = some y := ⟨_, List.getElem?_eq_getElem (by omega)⟩
      have hc : cell w17 (pIdx q j 1) 0 = some (.string (ofL y)) := by rw [cell_pIdx]; simpa using hnames j.toNat y hy
      have hym : y ∈ gaps L := names_mem.1 (List.mem_of_getElem? hy)
      refine ⟨fun hq => cell_p hc (pIdx_none.2 hq), hj0, hlt, _, hc, _, c14, fun w20 h20 => look2 (m14.ext h20) ⟨Ext.refl _, _, _, rfl, fun hf w24 h24 => ?_, fun ht => ⟨i64 (by omega), ⟨rfl, by omega, by omega, fun i z hi hz => ?_⟩, by simp only []; omega⟩⟩⟩
      · have hno : ofL y ∉ keys l := by
          cases hfl : findL l (ofL y) with
          | none => exact findL_none.1 hfl
          | some z => rw [hfl] at hf; cases hf
        refine ⟨xx.trans h24, _, 5, rfl, fun _ => rfl, fun h => by (cases h), fun M _ hM _ _ => ⟨fun hin => ?_, fun _ => rfl⟩⟩
        obtain ⟨rfl, _⟩ := hM.uniq hL
        exact absurd (hin y hym) hno
      · by_cases hij : (i : Int) < j
        · exact hall i z hij hz
        · have hij : i = j.toNat := by omega
          subst hij
          rw [hy] at hz
          obtain rfl := Option.some.inj hz
          cases hfl : findL l (ofL y) with
          | none => rw [hfl] at ht; cases ht
          | some z => rw [← (findL_mem hfl).2]; exact List.mem_map.2 ⟨z, (findL_mem hfl).1, rfl⟩
    · have hj : j = n := by omega
      subst hj
      have hin : ∀ y ∈ gaps L, ofL y ∈ keys l := fun y hy => by
        obtain ⟨i, hi⟩ := List.mem_iff_getElem?.1 (names_mem.2 hy)
        have := (List.getElem?_eq_some_iff.1 hi).1
        exact hall i y (by omega) hi
      refine new_raw (by intro v hv; simp at hv; rcases hv with rfl | rfl <;> rfl) fun w19 hb19 e19 w20 h20 => ?_
      refine new_own (by intro v hv; simp at hv; subst hv; rfl) fun w21 o21 e21 => ?_
      have st := store_one (off := 0) (o21 w20.heap.size (Nat.le_refl _)) (by simp) (v := .func (.func 27) #[] #[.pointer (some ⟨w18.heap.size, 0, none⟩)]) rfl (ns := []) (by simp) (K := fun w22 => Own w20.heap.size w22 52 1 (some ⟨w20.heap.size, 0, none⟩) 1 1 [.func (.func 27) #[] #[.pointer (some ⟨w18.heap.size, 0, none⟩)]] ∧ Grew w21 w22 (some ⟨w20.heap.size, 0, none⟩) (some ⟨w20.heap.size, 0, none⟩)) fun w22 o g => ⟨o, g⟩
      rw [pAdd_zero] at st
      refine ⟨st.1, fun w22 hw22 => ?_⟩
      obtain ⟨o22, g22⟩ := st.2 w22 hw22
      have b19 : w18.heap.size < w19.heap.size := (Array.getElem?_eq_some_iff.1 hb19).1
      have x21 : Ext w18 w21 := (e19.trans h20).trans e21
      have b20 : w18.heap.size < w20.heap.size := Nat.lt_of_lt_of_le b19 h20.size
      have x22 : Ext w20 w22 := g22.ext e21 (o21 w20.heap.size (Nat.le_refl _))
      have xw : Ext w w22 := (((xx.trans h18).trans e19).trans h20).trans x22
      have hpm : w9.heap.size < w17.heap.size := by
        obtain ⟨a, ha, hb, _⟩ := cell_some c14
        cases ha; exact hb
      have hrm := m14.lt
      have hs18 := h18.size
      have h7 := x6.size
      have h22 := x22.size
      have fi : FI w l w18.heap.size w6.heap.size w20.heap.size w9.heap.size [] w22 := by
        refine ⟨xw, ⟨h7, by omega, by omega, by omega, by omega⟩, .inl ?_, ?_, ((((m14.ext h18).ext e19).ext h20).ext x22), ext_cell (((h18.trans e19).trans h20).trans x22) c14⟩
        · refine ⟨Nat.le_refl _, .slice none 0 0, ?_, World.ownsRowF_nil _ _ _ _, by simp [Value.ownBlock]⟩
          rw [x22.block _ b20, h20.block _ b19]; exact hb19
        · obtain ⟨g, cap, cur, hv, _, hg, _⟩ : ∃ g cap cur, (Value.slice (some ⟨w20.heap.size, 0, none⟩) 1 1 : Value) = .slice (some ⟨g, 0, none⟩) 1 cap ∧ True ∧ w22.heap[g]? = some (.cells cur 52 (0, 0)) ∧ True := by
            rcases o22.2 with ⟨hn, _⟩ | ⟨g, cap, cur, hv, hb, hg, _⟩
            · simp at hn
            · exact ⟨g, cap, cur, hv, trivial, hg, trivial⟩
          have : g = w20.heap.size := by simp at hv; omega
          subst this
          exact ⟨cur, (0, 0), hg, by omega, o22.cellAt rfl⟩
      refine ⟨_, o22.cellAt rfl, fun w24 h24 => ?_⟩
      refine (parse_k s hs _ _ (FI w l w18.heap.size w6.heap.size w20.heap.size w9.heap.size) w24 (fi.more h24) (fun L w w' h e => h.more e) (fun M y w3 h hy _ => ⟨27, #[.pointer (some ⟨w18.heap.size, 0, none⟩)], rfl, put_k h (ofL y) rfl (by rw [ofL_size]; omega)⟩) (fun M y w3 h hy _ => ⟨30, #[.pointer (some ⟨w20.heap.size, 0, none⟩), .pointer (some ⟨w9.heap.size, 0, none⟩)], rfl, fill2_k h hv⟩)).mono fun v w25 ⟨M, b, hv25, hseg, f25⟩ => ⟨b, hv25, fun w27 h27 => ?_⟩
      obtain ⟨rfl, _⟩ := hseg.uniq hL
      have f27 := f25.more h27
      refine ⟨fun args w => Tryd.call28 args w, (Tryd.Builder_Len_f _ _ _ w27 f27.bld).mono fun e w28 ⟨he28, hw28⟩ => ⟨_, he28, by rw [hw28]; exact Ext.refl _, _, rfl, fun hgt w30 h30 => ⟨f25.ext.trans h30, _, 2, rfl, fun _ => rfl, fun h => by (cases h), fun N _ hN _ _ => ⟨fun _ => ⟨fun hle => ?_, fun _ => rfl⟩, fun ⟨y, hy, hyn⟩ => ?_⟩⟩, fun hle w30 h30 => ?_⟩⟩
      · obtain ⟨rfl, _⟩ := hN.uniq hL
        rw [byteCells_len] at hgt
        have := outL_le.2 hle
        omega
      · obtain ⟨rfl, _⟩ := hN.uniq hL
        exact absurd (hin y hy) hyn
      · rw [byteCells_len] at hle
        have hfl : (flat (vOf l) M).length ≤ 2000 := outL_le.1 (by omega)
        have f30 := f25.more h30
        refine ⟨fun args w => Tryd.call31 args w, (Tryd.Builder_String_any_k _ _ _ w30 f30.bld (by have := f30.base; omega)).mono fun e w31 ⟨he31, _, hbel, _⟩ => ⟨_, he31, _, rfl, fun w33 h33 => ⟨Ext.trans (Below.trans f30.ext (hbel.mono (by have := f30.base; omega))) h33, _, 0, rfl, fun h => absurd rfl h, fun _ => ⟨hs2, by omega, hok, M, hL, hin, hfl, by rw [← outL_eq hfl]; rfl⟩, fun N _ hN _ _ => ⟨fun _ => ⟨fun _ => rfl, fun hgt => ?_⟩, fun ⟨y, hy, hyn⟩ => ?_⟩⟩⟩⟩
        · obtain ⟨rfl, _⟩ := hN.uniq hL
          omega
        · obtain ⟨rfl, _⟩ := hN.uniq hL
          exact absurd (hin y hy) hyn
end Go.Proofs.YtjeboeahhhhbdaaDoor
