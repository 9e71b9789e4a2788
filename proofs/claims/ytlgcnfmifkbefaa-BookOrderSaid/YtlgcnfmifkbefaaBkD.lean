/- Package book: Find, Put; the laws BookFind, BookPut. -/
import Derived.Test.YtlgcnfmifkbefaaBkC
set_option linter.unusedVariables false
set_option linter.unusedSimpArgs false
namespace Go.Proofs.Ytlgcnfmifkbefaa
open Go.Sx Go.RowKit

def goodF (size n long after : Int) (L : List Sl) : Prop := okB size L ∧ (1 ≤ n ∧ n ≤ size) ∧ (1 ≤ long ∧ long ≤ 1000000) ∧ 0 ≤ after ∧ after ≤ 1000000
theorem Find_k (size : Int) (p : Option Addr) (c : Nat) (L : List Sl) (h63 : (L.length : Int) ≤ 9223372036854775807) (n long after : Int) (w : World) (hL : SlsAt w p L) :
    FnP Try.prog F_book_Find #[.int .i64 size, .slice p L.length c, .int .i64 n, .int .i64 long, .int .i64 after] w fun v w' => Ext w w' ∧ ∃ a e, v = .tuple #[.int .i64 a, .int .i64 e] ∧
      ((e ≠ 0 ∧ e ≠ 5 ∧ a = 0 ∧ ¬ goodF size n long after L) ∨ (e = 5 ∧ a = 0 ∧ goodF size n long after L ∧ ∀ b, after ≤ b → ¬ fits size n long L b) ∨
       (e = 0 ∧ goodF size n long after L ∧ after ≤ a ∧ fits size n long L a ∧ ∀ b, after ≤ b → b < a → ¬ fits size n long L b)) := by
  refine ok_book_Find size p L.length c n long after w _ fun w0 h0 => ?_
  refine (Check_k size p c L h63 w0 (hL.ext h0)).mono fun v w1 ⟨e1, e, hv, he, h5⟩ => ⟨e1, e, hv, fun hne w3 h3 => ⟨h3, _, _, rfl, .inl ⟨hne, h5, rfl, fun h => hne (he.2 h.1)⟩⟩, fun h0' => ⟨fun hr w3 h3 => ⟨h3, _, _, rfl, .inl ⟨by omega, by omega, rfl, fun h => by have := h.2; omega⟩⟩, fun hr w3 h3 => ?_⟩⟩
  have hok := he.1 h0'
  obtain ⟨⟨⟨⟨⟨n1, n2⟩, l1⟩, l2⟩, a0⟩, a1⟩ := hr
  have hgood : goodF size n long after L := ⟨hok, ⟨n1, n2⟩, ⟨l1, l2⟩, a0, a1⟩
  refine (gaps_k size p c L hok n ⟨n1, n2⟩ w3 (hL.ext h3)).mono fun v w4 ⟨e4, q, d, hv, hG⟩ => ⟨e4, q, _, d, hv, ?_⟩
  have hGI := gaps_all (n := n) hok.2.2.1
  have hfg : ∀ a, fits size n long L a ↔ ∃ g ∈ gapsF size n L, g.f ≤ a ∧ a + long ≤ g.t := fun a => fits_gap hok.2.2.1 l1
  generalize hgs : gapsF size n L = G at hG hGI hfg
  have hlenG : G.length ≤ 300 := by
    have h1 := gapsK_len size n L ((times L).length - 1)
    have h2 := times_len L
    have h3 := hok.2.1
    rw [← hgs]; unfold gapsF; omega
  refine ⟨fun k w' => w' = w4 ∧ 0 ≤ k ∧ k ≤ G.length ∧ ∀ i : Nat, (i : Int) < k → (G.getD i default).t < max (G.getD i default).f after + long, fun k _ => (G.length - k).toNat, ⟨rfl, by omega, by omega, fun i hi => by omega⟩, ?_⟩
  rintro k w10 ⟨rfl, hk0, hk1, hall⟩
  -- no gap ahead of the kth takes it
  have none_ahead : ∀ b, after ≤ b → ∀ i : Nat, (i : Int) < k → ¬ ((G.getD i default).f ≤ b ∧ b + long ≤ (G.getD i default).t) := fun b hb i hi h => by
    have := hall i hi
    omega
  refine ⟨fun hlt => ?_, fun hge w11 h11 => ⟨(h3.trans e4).trans h11, _, _, rfl, .inr (.inl ⟨rfl, rfl, hgood, fun b hb hf => ?_⟩)⟩⟩
  · obtain ⟨hq, hq3, g0, g1, g2⟩ := slot_at hG hk0 hlt
    have hgm := getD_mem G default (i := k.toNat) (by omega)
    have hg := hGI.each _ hgm
    obtain ⟨b1, b2, b3, b4, b5⟩ := hg
    refine ⟨hq, hk0, hlt, hq3, _, g0, _, g1, _, g2, fun b14 _ => ⟨i64 (by omega), fun hin w15 h15 => ⟨(h3.trans e4).trans h15, _, _, rfl, .inr (.inr ⟨rfl, hgood, by omega, (hfg _).2 ⟨_, hgm, by omega, hin⟩, fun b hb hba hf => ?_⟩)⟩, fun hout => ⟨i64 (by omega), ⟨rfl, by omega, by omega, fun i hi => ?_⟩, by simp only []; omega⟩⟩⟩
    · obtain ⟨g', hg', c1, c2⟩ := (hfg b).1 hf
      obtain ⟨i, hi, hgi⟩ := List.getElem_of_mem hg'
      have hgd : G.getD i default = g' := by simp [List.getD_eq_getElem?_getD, hi, hgi]
      rcases Nat.lt_trichotomy i k.toNat with h | h | h
      · exact none_ahead b hb i (by omega) (by rw [hgd]; exact ⟨c1, c2⟩)
      · subst h
        rw [hgd] at hba
        omega
      · have := (List.pairwise_iff_getElem.1 hGI.apart) k.toNat i (by omega) hi h
        rw [hgi] at this
        have hgk : G[k.toNat] = G.getD k.toNat default := by simp [List.getD_eq_getElem?_getD, show k.toNat < G.length by omega]
        rw [hgk] at this
        omega
    · by_cases hik : (i : Int) < k
      · exact hall i hik
      · obtain rfl : i = k.toNat := by omega
        exact hout
  · obtain ⟨g', hg', c1, c2⟩ := (hfg b).1 hf
    obtain ⟨i, hi, hgi⟩ := List.getElem_of_mem hg'
    have hgd : G.getD i default = g' := by simp [List.getD_eq_getElem?_getD, hi, hgi]
    exact none_ahead b hb i (by omega) (by rw [hgd]; exact ⟨c1, c2⟩)

theorem Clone_k (p : Option Addr) (c : Nat) (L : List Sl) (h100 : L.length ≤ 100) (w : World) (h : SlsAt w p L) :
    FnP Try.prog F_slices_Clone_api_Slot_api_Slot #[.slice p L.length c] w fun v w' => Ext w w' ∧ ∃ q' c', v = .slice q' L.length c' ∧ Own w.heap.size w' T_Slot 3 q' L.length c' (L.flatMap encS) := by
  refine ok_slices_Clone_api_Slot_api_Slot p L.length c w _ ⟨fun hn w0 h0 => ?_, fun hn => ?_⟩
  · cases L with
    | nil => exact ⟨h0, none, 0, rfl, Own.nil⟩
    | cons x r => exact absurd hn (h.ne (List.mem_cons_self ..) (by simp))
  · refine clone_txt (Q := fun v w' => Ext w w' ∧ ∃ q' c', v = .slice q' L.length c' ∧ Own w.heap.size w' T_Slot 3 q' L.length c' (L.flatMap encS)) elem_sl_Slot (by omega) (recs_cells (enc := encS) (s := 3) (fun _ => rfl) h) (recs_len (enc := encS) (s := 3) (fun _ => rfl) L) (recs_one (fun x u hu => ?_) L) (by omega) (by omega) hn fun p' c' w' hx o => ⟨hx, p', c', rfl, o⟩
    simp at hu; rcases hu with rfl | rfl | rfl <;> rfl

theorem okB_app {size : Int} {L : List Sl} {x : Sl} (h : okB size L) (hx : okB size [x]) (h99 : L.length ≠ 100) : okB size (L ++ [x]) ↔ ∀ t ∈ times (L ++ [x]), load (L ++ [x]) t ≤ size := by
  refine ⟨fun h => h.2.2.2, fun h' => ⟨h.1, by have := h.2.1; simp; omega, fun s hs => ?_, h'⟩⟩
  rcases List.mem_append.1 hs with hs | hs
  · exact h.2.2.1 s hs
  · exact hx.2.2.1 s hs

theorem Put_k (size : Int) (p : Option Addr) (c : Nat) (L : List Sl) (h63 : (L.length : Int) ≤ 9223372036854775807) (x : Sl) (w : World) (hL : SlsAt w p L) :
    FnP Try.prog F_book_Put #[.int .i64 size, .slice p L.length c, .agg #[.int .i64 x.f, .int .i64 x.t, .int .i64 x.n]] w fun v w' => Ext w w' ∧ ∃ q m d e, v = .tuple #[.slice q m d, .int .i64 e] ∧
      ((e ≠ 0 ∧ m = 0 ∧ (e = 7 ∨ ¬ okB size L ∨ ¬ okB size [x] ∨ (L.length ≠ 100 ∧ ¬ okB size (L ++ [x])))) ∨ (e = 0 ∧ okB size L ∧ okB size [x] ∧ okB size (L ++ [x]) ∧ m = L.length + 1 ∧ SlsAt w' q (L ++ [x]))) := by
  refine ok_book_Put size p L.length c x.f x.t x.n w _ fun b0 hb0 w1 h1 => ?_
  refine (Check_k size p c L h63 w1 (hL.ext h1)).mono fun v w2 ⟨e2, e, hv, he, _⟩ => ⟨e2, e, hv, fun hne w4 h4 => ⟨h4, _, _, _, _, rfl, .inl ⟨hne, rfl, .inr (.inl fun h => hne (he.2 h))⟩⟩, fun h0 w4 x4 => ?_⟩
  have hok := he.1 h0
  have h4 := extB_ext x4
  refine run_lit elem_sl_Slot [.agg #[.int .i64 x.f, .int .i64 x.t, .int .i64 x.n]] rfl rfl (by intro v hv; simp at hv; subst hv; rfl) (by omega) (by omega) fun w5 o5 e5 => ⟨e5, _, _, _, rfl, fun w9 h9 => ?_⟩
  have x5 := h4.trans e5
  have hX : SlsAt w9 (some ⟨w4.heap.size, 0, none⟩) [x] := ((show Own 0 w5 T_Slot 3 (some ⟨w4.heap.size, 0, none⟩) 1 1 ([x].flatMap encS) by have := o5 0 (Nat.zero_le _); simpa [Value.cells] using this).ext h9).recs fun _ _ => rfl
  refine (Check_k size _ 1 [x] (by simp) w9 hX).mono fun v w10 ⟨e10, f, hv, hf, _⟩ => ⟨e10, f, hv, fun hne w12 h12 => ⟨x5.trans h12, _, _, _, _, rfl, .inl ⟨hne, rfl, .inr (.inr (.inl fun h => hne (hf.2 h)))⟩⟩, fun hf0 => ⟨fun hfull w12 h12 => ⟨x5.trans h12, _, _, _, _, rfl, .inl ⟨by omega, rfl, .inl rfl⟩⟩, fun hroom => ?_⟩⟩
  have hokx := hf.1 hf0
  have h99 : L.length ≠ 100 := by omega
  have hl100 := hok.2.1
  have hb4 : b0 < w5.heap.size := by have := x4.lt b0 (by simp); have := e5.size; omega
  have hJ : ∀ {wa pa pb : _} {ca cb : Nat} {K : Value → World → Prop}, Ext w5 wa → Own w5.heap.size wa T_Slot 3 pa L.length ca (L.flatMap encS) → Own w5.heap.size wa T_Slot 3 pb 1 cb (encS x) → (∀ p' c' w', Ext w5 w' → Own w5.heap.size w' T_Slot 3 p' (L.length + 1) c' ((L ++ [x]).flatMap encS) → Kept [b0] wa w' → K (.slice p' (L.length + 1) c') w') →
      Run Try.prog (.append #[T_sl_Slot, T_sl_Slot] T_sl_Slot [.slice pa L.length ca, .slice pb 1 cb]) wa K := fun {wa pa pb ca cb K} hx oa ob hk => by
    refine run_app elem_sl_Slot (by omega) oa hx.size (ob.ne1 (by omega) (by omega)) (news := encS x) rfl ob.cells (by intro v hv; simp at hv; rcases hv with rfl | rfl | rfl <;> rfl) (by omega) (by omega) fun p' c' w' o' g' _ => hk p' c' w' (g'.ext hx oa) (by rw [List.flatMap_append]; simpa using o') fun b hb => ?_
    simp at hb; subst hb
    refine g'.by_.block b (by have := hx.size; omega) fun hbk => ?_
    cases pa with
    | none => cases hbk
    | some y => simp [blk] at hbk; have := (oa.lt y rfl).1; omega
  refine ⟨fun o l d w' => Ext w w' ∧ l = L.length + 1 ∧ Own w5.heap.size w' T_Slot 3 o l d ((L ++ [x]).flatMap encS), ⟨fun w15 x15 => ?_, fun w15 x15 => ?_⟩, ?_⟩
  · have h15 := extB_ext x15
    refine (Clone_k p c L hl100 w15 (hL.ext (x5.trans h15))).mono fun v w16 ⟨e16, q', c', hv, o16⟩ => ⟨e16, _, _, _, hv, fun w20 x20 => ?_⟩
    have h20 := extB_ext x20
    refine run_lit elem_sl_Slot [.agg #[.int .i64 x.f, .int .i64 x.t, .int .i64 x.n]] rfl rfl (by intro v hv; simp at hv; subst hv; rfl) (by omega) (by omega) fun w21 o21 e21 => ⟨e21, _, _, _, rfl, fun w25 x25 => ?_⟩
    have h25 := extB_ext x25
    have y25 := (((h15.trans e16).trans h20).trans e21).trans h25
    refine hJ y25 (((o16.weak h15.size).ext h20).ext (e21.trans h25)) ?_ fun p' c' w' hx o' hkp => ⟨hkp, _, _, _, rfl, x5.trans hx, rfl, o'⟩
    have := (o21 w5.heap.size (by have := h15.size; have := e16.size; have := h20.size; omega)).ext h25
    simpa [Value.cells] using this
  · have h15 := extB_ext x15
    refine run_lit elem_sl_Slot [.agg #[.int .i64 x.f, .int .i64 x.t, .int .i64 x.n]] rfl rfl (by intro v hv; simp at hv; subst hv; rfl) (by omega) (by omega) fun w16 o16 e16 => ⟨e16, _, _, _, rfl, fun w20 x20 => ?_⟩
    have h20 := extB_ext x20
    have y20 := (h15.trans e16).trans h20
    refine (Clone_k p c L hl100 w20 (hL.ext (x5.trans y20))).mono fun v w21 ⟨e21, q', c', hv, o21⟩ => ⟨e21, _, _, _, hv, fun w25 x25 => ?_⟩
    have h25 := extB_ext x25
    refine hJ ((y20.trans e21).trans h25) ((o21.weak y20.size).ext h25) ?_ fun p' c' w' hx o' hkp => ⟨hkp, _, _, _, rfl, x5.trans hx, rfl, o'⟩
    have := (o16 w5.heap.size h15.size).ext ((h20.trans e21).trans h25)
    simpa [Value.cells] using this
  · rintro o l d w14 ⟨x14, rfl, o14⟩ w15 h15
    have hA : SlsAt w14 o (L ++ [x]) := o14.recs fun _ _ => rfl
    have hlen : (L ++ [x]).length = L.length + 1 := by simp
    have O := over_k size o d (L ++ [x]) (fun s hs => by
      rcases List.mem_append.1 hs with hs | hs
      · exact hok.2.2.1.bound hok.1.2 s hs
      · exact hokx.2.2.1.bound hok.1.2 s hs) (by rw [hlen]; omega) w15 (hA.ext h15)
    rw [hlen] at O
    refine O.mono fun v w16 ⟨e16, b, hv, hb⟩ => ⟨e16, b, hv, fun ht w18 h18 => ⟨x14.trans h18, _, _, _, _, rfl, .inl ⟨by omega, rfl, .inr (.inr (.inr ⟨h99, fun h => ?_⟩))⟩⟩, fun hf w18 h18 => ⟨x14.trans h18, _, _, _, _, rfl, .inr ⟨rfl, hok, hokx, (okB_app hok hokx h99).2 fun t ht => ?_, rfl, hA.ext h18⟩⟩⟩
    · obtain ⟨t, ht', hlt⟩ := hb.1 ht
      have := h.2.2.2 t ht'; omega
    · rcases Int.lt_or_le size (load (L ++ [x]) t) with h | h
      · have := hb.2 ⟨t, ht, h⟩
        rw [hf] at this; cases this
      · exact h

theorem part_one (x : Sl) (t : Int) : load [x] t = part x t := by simp [load]
end Go.Proofs.Ytlgcnfmifkbefaa
