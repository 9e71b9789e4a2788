/- The law JournalOne. -/
import Derived.Test.YtenppnomdejmlaaDoorEvC
set_option linter.unusedVariables false
set_option linter.unusedSimpArgs false
namespace Go.Proofs.YtenppnomdejmlaaDoor
open Go.Sx Go.RowKit

theorem frs_le (L : List Ev) {k : Nat} : (frs (L.take k)).length ≤ (frs L).length := by
  conv => rhs; rw [← List.take_append_drop k L]
  rw [frs_app, List.length_append]
  omega
/-- An event's cells in a row. -/
theorem rec_cells {w : World} {p : Option Addr} {rs : List EvR} (h : Recs 15 encR w p rs) {k : Int} (h0 : 0 ≤ k) {r : EvR} (hr : rs[k.toNat]? = some r) {m : Nat} {u : Value} (hu : (encR r)[m]? = some u) : Go.Sx.cell w (pIdx p k 15) m = some u := h.at h0 hr hu

theorem law_one (W : World) (hg : GB W) (b : Option Addr) (bc : Nat) (bs : Bs) (hi : Ints .u8 W b (bI bs)) (hbc : bs.length ≤ bc) (hbm : bc ≤ 9223372036854775807) (hbl : bs.length ≤ 1048576) :
    FnP Tryd.prog F_shiftbellkeep_JournalOne #[.slice b bs.length bc] W fun v W' => v = .bool true ∧ Ext W W' := by
  refine ok_shiftbellkeep_JournalOne b bs.length bc W _ fun w0 h0 => (journals_k w0).mono fun v w1 ⟨e1, hv⟩ => ⟨e1, true, hv, fun h => (by cases h), fun _ w3 h3 => ?_⟩
  refine (Cut_k2 b bc bs w3 (hi.ext h3) hbc hbm hbl (hg.ext h3)).mono fun v w4 ⟨e4, rs, p, c, n, hv, o4, hrs, hn0, hnl, htk, _⟩ => ⟨e4, p, rs.length, c, n, hv, fun hbad => by omega, fun _ => ?_⟩
  have hw4 := h3.trans e4
  have hrl := o4.le
  have hlen : (frs (rs.map (·.x))).length ≤ 1048576 := by rw [← htk, List.length_take]; omega
  have hR : Recs 15 encR w4 p rs := Own.recs o4 fun _ _ => rfl
  refine ⟨fun all alll allc k w' => Ext w4 w' ∧ 0 ≤ k ∧ k ≤ rs.length ∧ alll = (frs ((rs.map (·.x)).take k.toNat)).length ∧ Own w4.heap.size w' T_uint8 1 all alll allc ((bI (frs ((rs.map (·.x)).take k.toNat))).map (.int .u8)), fun _ _ _ k _ => (rs.length - k).toNat, ⟨Ext.refl _, by omega, by omega, by simp [frs], by simpa [frs, bI] using Own.nil⟩, ?_⟩
  rintro all alll allc k w12 ⟨x12, hk0, hk1, rfl, o12⟩
  refine ⟨fun hlt => ?_, fun hge => ?_⟩
  · obtain ⟨r, hr⟩ : ∃ r, rs[k.toNat]? = some r := ⟨_, List.getElem?_eq_getElem (by omega)⟩
    have hRx := hR.ext x12
    have g : ∀ (m : Nat) u, (encR r)[m]? = some u → Go.Sx.cell w12 (pIdx p k 15) m = some u := fun m u hu => hRx.at hk0 hr hu
    have g0 := g 0 _ rfl
    obtain ⟨hgr, hJr⟩ := hrs r (List.mem_of_getElem? hr)
    refine ⟨fun h => cell_p g0 (pIdx_none.2 h), hk0, hlt, cell_p g0, _, g0, _, g 1 _ rfl, _, g 2 _ rfl, _, g 3 _ rfl, _, g 4 _ rfl, _, g 5 _ rfl, _, g 6 _ rfl, _, g 7 _ rfl, _, g 8 _ rfl, _, g 9 _ rfl, _, _, _, g 10 _ rfl, _, _, _, g 11 _ rfl, _, g 12 _ rfl, _, g 13 _ rfl, _, g 14 _ rfl, fun b32 hb32 w33 x33 => ?_⟩
    have h33 := extB_ext x33
    have hw33 := (hw4.trans x12).trans h33
    refine (eFrame_k r.x r.pa r.ca r.pf r.cf w33 (hJr.ext (x12.trans h33)) hgr.wf (by have := hgr.nod; omega) (hg.ext hw33)).mono fun v w34 ⟨e34, q, n34, c34, e, hv, heq, _, hok⟩ => ⟨e34, q, n34, c34, e, hv, fun hne => absurd (heq.2 hgr.ok) hne, fun he w39 x39 => ?_⟩
    obtain ⟨rfl, oF⟩ := hok he
    have h39 := extB_ext x39
    have x1239 : Ext w12 w39 := (h33.trans e34).trans h39
    have o39 := Own.ext o12 x1239
    have hstep : frs ((rs.map (·.x)).take (k.toNat + 1)) = frs ((rs.map (·.x)).take k.toNat) ++ fr (enc r.x) := by
      rw [List.take_add_one, List.getElem?_map, hr, frs_app]
      simp [frs]
    have hl1 := frs_le (rs.map (·.x)) (k := k.toNat + 1)
    rw [hstep, List.length_append] at hl1
    refine run_appB o39 (x12.trans x1239).size rfl (oF.cells.ext h39) (by omega) fun p' c' w40 o40 g40 => ⟨fun b hb => ?_, p', _, c', rfl, i64 (by omega), ⟨g40.ext (x12.trans x1239) o39, by omega, by omega, ?_, ?_⟩, by simp only []; omega⟩
    · refine g40.by_.block b (x39.lt b hb) fun h => ?_
      simp at hb; subst hb
      cases hall : all with
      | none => rw [hall] at h; simp [blk] at h
      | some y =>
        rw [hall] at h; simp [blk] at h
        have := (o12.lt y hall).2
        omega
    · rw [show (k + 1).toNat = k.toNat + 1 by omega, hstep, List.length_append]
    · rw [show (k + 1).toNat = k.toNat + 1 by omega, hstep]
      exact o40
  · have hkl : k.toNat = (rs.map (·.x)).length := by rw [List.length_map]; omega
    rw [hkl, List.take_length] at o12
    rw [hkl, List.take_length]
    refine ⟨by omega, hn0, by omega, fun w13 h13 => ?_⟩
    have hcut : Ints .u8 w13 (pCut b bc 0 1) (bI (bs.take n.toNat)) := by
      rw [pCut_zero]
      exact (ints_pre (j := n.toNat) hi).ext ((hw4.trans x12).trans h13)
    refine (Equal_k w13 rfl (by rw [List.length_take]; omega) (o12.cells.ext h13) hcut).mono fun v w14 ⟨e14, hv⟩ => ⟨e14, _, hv, fun w16 h16 => ⟨by rw [htk]; simp, (hw4.trans x12).trans h16⟩⟩
end Go.Proofs.YtenppnomdejmlaaDoor
