/- Jobs of a graph at work: who may begin, and whose hand is free. -/
import Derived.Test.YtmdnjnflmijofaaLGa
set_option linter.unusedVariables false
set_option linter.unusedSimpArgs false
namespace Go.Proofs.Ytmdnjnflmijofaa
open Go.Sx Go.RowKit

/-- The first of a row with something. -/
def FirstOf (X : List Int) (Pr : Int → Bool) (t : Int) : Prop := (t = -1 ∧ ∀ x ∈ X, Pr x = false) ∨ (0 ≤ t ∧ t < X.length ∧ Pr (X.getD t.toNat 0) = true ∧ ∀ j : Nat, (j : Int) < t → Pr (X.getD j 0) = false)

theorem firstI_k (p : Option Addr) (c : Nat) (X : List Int) (h63 : (X.length : Int) ≤ 1000000) (f : Value) (Pr : Int → Bool) (w : World) (hX : Ints .i64 w p X) (hf : ∀ x ∈ X, ∀ w', Ext w w' → FnVP Try.prog f [.int .i64 x] w' fun v w'' => Ext w' w'' ∧ v = .bool (Pr x)) :
    FnP Try.prog F_slices_IndexFunc_int_int #[.slice p X.length c, f] w fun v w' => Ext w w' ∧ ∃ t, v = .int .i64 t ∧ FirstOf X Pr t := by
  refine ok_slices_IndexFunc_int_int p X.length c f w _ ⟨fun k w' => w' = w ∧ 0 ≤ k ∧ k ≤ X.length ∧ ∀ j : Nat, (j : Int) < k → Pr (X.getD j 0) = false, fun k _ => (X.length - k).toNat, ⟨rfl, by omega, by omega, fun j hj => by omega⟩, ?_⟩
  rintro k w ⟨rfl, hk0, hk1, hno⟩
  refine ⟨fun hlt => ?_, fun hge w3 h3 => ⟨h3, -1, rfl, .inl ⟨rfl, fun x hx => ?_⟩⟩⟩
  · have g := Ints.idx hX hk0 hlt
    refine ⟨fun hq => cell_p g (pIdx_none.2 hq), hk0, hlt, _, g, fun w4 h4 => ?_⟩
    obtain ⟨fn, cap, hv, hF⟩ := hf _ (getD_mem X 0 (i := k.toNat) (by omega)) w4 h4
    refine ⟨fn, cap, hv, hF.mono fun v w5 ⟨e5, hv⟩ => ⟨e5, _, hv, fun hy w7 h7 => ⟨h7, k, rfl, .inr ⟨hk0, hlt, hy, hno⟩⟩, fun hn => ⟨i64 (by omega), ⟨rfl, by omega, by omega, fun j hj => ?_⟩, by simp only []; omega⟩⟩⟩
    by_cases hjk : (j : Int) < k
    · exact hno j hjk
    · obtain rfl : j = k.toNat := by omega
      exact hn
  · obtain ⟨j, hj, rfl⟩ := List.getElem_of_mem hx
    have := hno j (by omega)
    simpa [List.getD_eq_getElem?_getD, hj] using this

theorem firstL_k (p : Option Addr) (c : Nat) (X : List Int) (h63 : (X.length : Int) ≤ 1000000) (f : Value) (Pr : Int → Bool) (w : World) (hX : Ints .i64 w p X) (hf : ∀ x ∈ X, ∀ w', Ext w w' → FnVP Try.prog f [.int .i64 x] w' fun v w'' => Ext w' w'' ∧ v = .bool (Pr x)) :
    FnP Try.prog F_slices_IndexFunc_int64_int64 #[.slice p X.length c, f] w fun v w' => Ext w w' ∧ ∃ t, v = .int .i64 t ∧ FirstOf X Pr t := by
  refine ok_slices_IndexFunc_int64_int64 p X.length c f w _ ⟨fun k w' => w' = w ∧ 0 ≤ k ∧ k ≤ X.length ∧ ∀ j : Nat, (j : Int) < k → Pr (X.getD j 0) = false, fun k _ => (X.length - k).toNat, ⟨rfl, by omega, by omega, fun j hj => by omega⟩, ?_⟩
  rintro k w ⟨rfl, hk0, hk1, hno⟩
  refine ⟨fun hlt => ?_, fun hge w3 h3 => ⟨h3, -1, rfl, .inl ⟨rfl, fun x hx => ?_⟩⟩⟩
  · have g := Ints.idx hX hk0 hlt
    refine ⟨fun hq => cell_p g (pIdx_none.2 hq), hk0, hlt, _, g, fun w4 h4 => ?_⟩
    obtain ⟨fn, cap, hv, hF⟩ := hf _ (getD_mem X 0 (i := k.toNat) (by omega)) w4 h4
    refine ⟨fn, cap, hv, hF.mono fun v w5 ⟨e5, hv⟩ => ⟨e5, _, hv, fun hy w7 h7 => ⟨h7, k, rfl, .inr ⟨hk0, hlt, hy, hno⟩⟩, fun hn => ⟨i64 (by omega), ⟨rfl, by omega, by omega, fun j hj => ?_⟩, by simp only []; omega⟩⟩⟩
    by_cases hjk : (j : Int) < k
    · exact hno j hjk
    · obtain rfl : j = k.toNat := by omega
      exact hn
  · obtain ⟨j, hj, rfl⟩ := List.getElem_of_mem hx
    have := hno j (by omega)
    simpa [List.getD_eq_getElem?_getD, hj] using this

theorem anyE_k (p : Option Addr) (c : Nat) (L : List E) (h63 : (L.length : Int) ≤ 1000000) (f : Value) (Pr : E → Prop) (w : World) (hL : Edges w p L) (hf : ∀ e ∈ L, ∀ w', Ext w w' → FnVP Try.prog f [.agg #[.int .i64 e.f, .int .i64 e.t]] w' fun v w'' => Ext w' w'' ∧ v = .bool (tt (Pr e))) :
    FnP Try.prog F_slices_ContainsFunc_api_Edge_api_Edge #[.slice p L.length c, f] w fun v w' => Ext w w' ∧ v = .bool (tt (∃ e ∈ L, Pr e)) := by
  refine ok_slices_ContainsFunc_api_Edge_api_Edge p L.length c f w _ fun w0 h0 => ?_
  refine FnP.mono (K := fun v w' => Ext w0 w' ∧ ∃ t : Int, v = .int .i64 t ∧ (0 ≤ t ↔ ∃ e ∈ L, Pr e)) ?_ fun v w1 ⟨e1, t, hv, ht⟩ => ⟨e1, t, hv, fun w3 h3 => ⟨h3, by congr 1; rw [← tt_dec]; exact tt_congr ht⟩⟩
  refine ok_slices_IndexFunc_api_Edge_api_Edge p L.length c f w0 _ ⟨fun k w' => w' = w0 ∧ 0 ≤ k ∧ k ≤ L.length ∧ ∀ j : Nat, (j : Int) < k → ¬ Pr (ed L j), fun k _ => (L.length - k).toNat, ⟨rfl, by omega, by omega, fun j hj => by omega⟩, ?_⟩
  rintro k w2 ⟨rfl, hk0, hk1, hno⟩
  refine ⟨fun hlt => ?_, fun hge w3 h3 => ⟨h3, -1, rfl, ?_⟩⟩
  · obtain ⟨g1, g2, g3, g4⟩ := edges_at (hL.ext h0) hk0 hlt
    refine ⟨g1, hk0, hlt, g2, _, g3, _, g4, fun w5 h5 => ?_⟩
    obtain ⟨fn, cap, hv, hF⟩ := hf _ (ed_mem (L := L) (i := k.toNat) (by omega)) w5 (h0.trans h5)
    refine ⟨fn, cap, hv, hF.mono fun v w6 ⟨e6, hv⟩ => ⟨e6, _, hv, fun hy w8 h8 => ⟨h8, k, rfl, ?_⟩, fun hn => ⟨i64 (by omega), ⟨rfl, by omega, by omega, fun j hj => ?_⟩, by simp only []; omega⟩⟩⟩
    · exact ⟨fun _ => ⟨_, ed_mem (L := L) (i := k.toNat) (by omega), of_tt hy⟩, fun _ => hk0⟩
    · by_cases hjk : (j : Int) < k
      · exact hno j hjk
      · obtain rfl : j = k.toNat := by omega
        exact of_ff hn
  · refine ⟨fun h => by omega, fun ⟨e, he, hpe⟩ => ?_⟩
    obtain ⟨i, hi, rfl⟩ := mem_ed he
    exact absurd hpe (hno i (by omega))

/-- It may begin: it has not, and all ahead of it have ended. -/
def CanGo (P : TabP) (Tn : List TT) (Bg : List Bool) (now : Int) (i : Int) : Prop := Bg.getD i.toNat false = false ∧ ¬ ∃ e ∈ P.L, e.t = i ∧ ¬ Ended P Tn Bg now e.f.toNat

theorem canGo_k {P : TabP} {N : Nat} {Tn : List TT} {Bg : List Bool} {Fr : List Int} (H : TabN P N Tn Bg Fr) (hl : (P.L.length : Int) ≤ 1000000) (t : Option Addr) (i now : Int) (hi0 : 0 ≤ i) (hi1 : i < N) (p1 p3 : Option Addr) (w : World) (h : Tab w t P Tn Bg Fr) (h1 : Go.Sx.cell w p1 0 = some (.pointer t)) (h3 : Go.Sx.cell w p3 0 = some (.int .i64 now)) :
    FnP Try.prog F_list_table_ready_1 #[.int .i64 i, .pointer p1, .pointer p3] w fun v w' => Ext w w' ∧ v = .bool (tt (CanGo P Tn Bg now i)) := by
  have hbl := H.bl
  refine ok_list_table_ready_1 i p1 p3 w _ fun w0 h0 => ?_
  refine new_one rfl fun pi wi ei ci hpi hsz => ?_
  have hxi := h0.trans ei
  have hT := h.ext hxi
  have gb : Go.Sx.cell wi (pIdx P.bq i 1) 0 = some (.bool (Bg.getD i.toNat false)) := by
    rw [cell_pIdx]
    have := hT.B i.toNat (.bool (Bg.getD i.toNat false)) (by simp [List.getD_eq_getElem?_getD, show i.toNat < Bg.length by omega])
    simpa using this
  refine ⟨t, ext_cell hxi h1, hT.ne, hT.ne, _, _, _, hT.cell (j := 3) rfl, i, ci, fun hq => cell_p gb (pIdx_none.2 hq), hi0, by omega, _, gb, fun hb => ⟨t, ext_cell hxi h1, hT.ne, hT.ne, _, _, _, hT.cell (j := 0) rfl, fun w12 h12 => ?_⟩, fun hb w8 h8 => ⟨hxi.trans h8, ?_⟩⟩
  · refine (anyE_k P.lq P.lc P.L hl _ (fun e => e.t = i ∧ ¬ Ended P Tn Bg now e.f.toNat) w12 (hT.ext h12).L fun e he w' hw' => ?_).mono fun v w13 ⟨e13, hv⟩ => ⟨e13, _, hv, fun w15 h15 => ⟨hxi.trans h15, ?_⟩⟩
    · have hx' := h12.trans hw'
      have hx'' := hxi.trans hx'
      have hE := H.L e he
      refine ⟨F_list_table_ready_1_1, #[.pointer pi, .pointer p1, .pointer p3], rfl, (ok_list_table_ready_1_1 e.f e.t pi p1 p3 w' _ fun b0 _ => ⟨i, ext_cell hx' ci, fun hyes => ⟨t, ext_cell hx'' h1, now, ext_cell hx'' h3, fun w4 h4 => ?_⟩, fun hno w2 h2 => ⟨h2, ?_⟩⟩ : FnP Try.prog F_list_table_ready_1_1 #[.agg #[.int .i64 e.f, .int .i64 e.t], .pointer pi, .pointer p1, .pointer p3] w' _)⟩
      · refine (ended_k H t e.f now hE.1 hE.2.1 w4 (h.ext (hx''.trans h4))).mono fun v w5 ⟨e5, hv⟩ => ⟨e5, _, hv, fun w7 h7 => ⟨h7, ?_⟩⟩
        congr 1
        by_cases he' : Ended P Tn Bg now e.f.toNat
        · rw [tt_t he', tt_f (fun h => h.2 he')]; rfl
        · rw [tt_f he', tt_t ⟨hyes, he'⟩]; rfl
      · congr 1; symm
        exact tt_f fun h => hno h.1
    · congr 1
      by_cases hc : ∃ e ∈ P.L, e.t = i ∧ ¬ Ended P Tn Bg now e.f.toNat
      · rw [tt_t hc, tt_f (show ¬ CanGo P Tn Bg now i from fun h => h.2 hc)]; rfl
      · rw [tt_f hc, tt_t (show CanGo P Tn Bg now i from ⟨hb, hc⟩)]; rfl
  · congr 1; symm
    refine tt_f fun h => ?_
    rw [h.1] at hb; cases hb

theorem ready_k {P : TabP} {N : Nat} {Tn : List TT} {Bg : List Bool} {Fr : List Int} (H : TabN P N Tn Bg Fr) (hl : (P.L.length : Int) ≤ 1000000) (t : Option Addr) (now : Int) (w : World) (h : Tab w t P Tn Bg Fr) :
    FnP Try.prog F_list_table_ready #[.pointer t, .int .i64 now] w fun v w' => Ext w w' ∧ ∃ r, v = .int .i64 r ∧ FirstOf (nums N) (fun i => tt (CanGo P Tn Bg now i)) r := by
  have hN := H.n
  refine ok_list_table_ready t now w _ fun w0 h0 => ?_
  refine new_one rfl fun p1 w1 e1 c1 hp1 _ => fun w2 h2 => ?_
  refine new_one rfl fun p3 w3 e3 c3 hp3 _ => ?_
  have hx3 := ((h0.trans e1).trans h2).trans e3
  have hT := h.ext hx3
  have c1' := ext_cell (h2.trans e3) c1
  refine ⟨t, c1', hT.ne, hT.ne, _, _, _, hT.cell (j := 1) rfl, fun w8 h8 => ?_⟩
  rw [H.dl]
  refine (lnumbers_k N (by omega) w8).mono fun v w9 ⟨e9, r, rc, hv, oR⟩ => ⟨e9, r, N, rc, hv, fun w13 h13 => ?_⟩
  have hx13 := (h8.trans e9).trans h13
  have hfirst := firstI_k r rc (nums N) (by rw [nums_len]; omega) (.func (.func F_list_table_ready_1) #[] #[.pointer p1, .pointer p3]) (fun i => tt (CanGo P Tn Bg now i)) w13 (oR.ext h13).cells fun x hx w' hw' => by
    have hxr : 0 ≤ x ∧ x < N := by
      simp only [nums, List.mem_map, List.mem_range] at hx
      obtain ⟨a, ha, rfl⟩ := hx
      simp; omega
    have hx' := hx13.trans hw'
    exact ⟨F_list_table_ready_1, #[.pointer p1, .pointer p3], rfl, canGo_k H hl t x now hxr.1 hxr.2 p1 p3 w' (hT.ext hx') (ext_cell hx' c1') (ext_cell hx' c3)⟩
  rw [nums_len] at hfirst
  exact hfirst.mono fun v w14 ⟨e14, q, hv, hq⟩ => ⟨e14, q, hv, fun w16 h16 => ⟨(hx3.trans (h8.trans e9)).trans h16, q, rfl, hq⟩⟩
end Go.Proofs.Ytmdnjnflmijofaa
