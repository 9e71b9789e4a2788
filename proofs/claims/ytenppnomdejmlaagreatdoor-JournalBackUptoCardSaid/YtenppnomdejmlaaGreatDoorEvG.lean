/- Frames torn off: the law JournalBack. -/
import Derived.Test.YtenppnomdejmlaaGreatDoorEvF
set_option linter.unusedVariables false
set_option linter.unusedSimpArgs false
namespace Go.Proofs.YtenppnomdejmlaaGreatDoor
open Go.Sx Go.RowKit Go.ChangeShapes Go.WideShapes Go.ChangeAt

def okf (x : Ev) : Prop := okE x ∧ (fr (enc x)).length < 2000
noncomputable def fl (L : List EvR) : List EvR := L.filter fun r => @decide (okf r.x) (Classical.propDecidable _)
theorem fl_mem {L : List EvR} {r : EvR} : r ∈ fl L ↔ r ∈ L ∧ okf r.x := by
  unfold fl
  rw [List.mem_filter]
  exact ⟨fun h => ⟨h.1, @of_decide_eq_true _ (Classical.propDecidable _) h.2⟩, fun h => ⟨h.1, @decide_eq_true _ (Classical.propDecidable _) h.2⟩⟩
theorem fl_all {L : List EvR} (h : ∀ r ∈ L, okf r.x) : fl L = L := List.filter_eq_self.2 fun r hr => @decide_eq_true _ (Classical.propDecidable _) (h r hr)
theorem fl_yes {L : List EvR} {k : Nat} {r : EvR} (hr : L[k]? = some r) (h : okf r.x) : fl (L.take (k + 1)) = fl (L.take k) ++ [r] := by
  rw [List.take_add_one, hr]
  unfold fl
  rw [List.filter_append]
  congr 1
  exact List.filter_eq_self.2 fun x hx => by simp at hx; subst hx; exact @decide_eq_true _ (Classical.propDecidable _) h
theorem fl_no {L : List EvR} {k : Nat} {r : EvR} (hr : L[k]? = some r) (h : ¬ okf r.x) : fl (L.take (k + 1)) = fl (L.take k) := by
  rw [List.take_add_one, hr]
  unfold fl
  rw [List.filter_append]
  have : List.filter (fun r => @decide (okf r.x) (Classical.propDecidable _)) (some r).toList = [] := List.filter_eq_nil_iff.2 fun x hx => by
    simp at hx; subst hx
    intro h2
    exact h (@of_decide_eq_true _ (Classical.propDecidable _) h2)
  rw [this, List.append_nil]
theorem whole_of {x : Ev} (h : okf x) (hn : nod x.job.ask ≤ 1048576) : Whole x :=
  ⟨h.1, hn, fun hk => by have := enc_txt hk; have := h.2; rw [fr_len] at this; omega, by have := h.2; rw [fr_len] at this; omega⟩

/-! ### Events that are the same -/
theorem encR_len (r : EvR) : (encR r).length = 15 := rfl
theorem eqE_k (w : World) (p : Option Addr) (c : Nat) (q : Option Addr) (d : Nat) (A B : List EvR) (hA : Recs 15 encR w p A) (hB : Recs 15 encR w q B) (hx : A.map (·.x) = B.map (·.x)) (hA1 : ∀ r ∈ A, WfJ r.x.job ∧ IsJ w r.x.job r.pa r.ca r.pf) (hB1 : ∀ r ∈ B, IsJ w r.x.job r.pa r.ca r.pf) (h63 : A.length ≤ 1048576) :
    FnP Tryz.prog F_slices_EqualFunc_api_Event_api_Event_api_Event_api_Event #[.slice p A.length c, .slice q B.length d, .func (.func F_shiftbellkeep_sameEvent) #[] #[]] w fun v w' => Ext w w' ∧ v = .bool true := by
  have hl : A.length = B.length := by have := congrArg List.length hx; simpa using this
  refine ok_slices_EqualFunc_api_Event_api_Event_api_Event_api_Event p A.length c q B.length d _ w _ ⟨fun h => absurd (by omega) h, fun _ => ?_⟩
  refine ⟨fun k w' => w' = w ∧ 0 ≤ k ∧ k ≤ A.length, fun k _ => (A.length - k).toNat, ⟨rfl, by omega, by omega⟩, ?_⟩
  rintro k w2 ⟨rfl, hk0, hk1⟩
  refine ⟨fun hlt => ?_, fun _ w3 h3 => ⟨h3, rfl⟩⟩
  obtain ⟨r, hr⟩ : ∃ r, A[k.toNat]? = some r := ⟨_, List.getElem?_eq_getElem (by omega)⟩
  obtain ⟨s, hs⟩ : ∃ s, B[k.toNat]? = some s := ⟨_, List.getElem?_eq_getElem (by omega)⟩
  have hrs : r.x = s.x := by
    have := congrArg (fun l : List Ev => l[k.toNat]?) hx
    simp only [List.getElem?_map, hr, hs, Option.map_some, Option.some.injEq] at this
    exact this
  have g : ∀ (m : Nat) u, (encR r)[m]? = some u → Go.Sx.cell w2 (pIdx p k 15) m = some u := fun m u hu => hA.at hk0 hr hu
  have f : ∀ (m : Nat) u, (encR s)[m]? = some u → Go.Sx.cell w2 (pIdx q k 15) m = some u := fun m u hu => hB.at hk0 hs hu
  have g0 := g 0 _ rfl
  have f0 := f 0 _ rfl
  obtain ⟨hWr, hJr⟩ := hA1 r (List.mem_of_getElem? hr)
  have hJs := hB1 s (List.mem_of_getElem? hs)
  refine ⟨fun h => cell_p g0 (pIdx_none.2 h), hk0, hlt, cell_p g0, _, g0, _, g 1 _ rfl, _, g 2 _ rfl, _, g 3 _ rfl, _, g 4 _ rfl, _, g 5 _ rfl, _, g 6 _ rfl, _, g 7 _ rfl, _, g 8 _ rfl, _, g 9 _ rfl, _, _, _, g 10 _ rfl, _, _, _, g 11 _ rfl, _, g 12 _ rfl, _, g 13 _ rfl, _, g 14 _ rfl, fun b22 _ => ⟨fun h => cell_p f0 (pIdx_none.2 h), hk0, by omega, cell_p f0, _, f0, _, f 1 _ rfl, _, f 2 _ rfl, _, f 3 _ rfl, _, f 4 _ rfl, _, f 5 _ rfl, _, f 6 _ rfl, _, f 7 _ rfl, _, f 8 _ rfl, _, f 9 _ rfl, _, _, _, f 10 _ rfl, _, _, _, f 11 _ rfl, _, f 12 _ rfl, _, f 13 _ rfl, _, f 14 _ rfl, fun b42 _ w43 h43 => ?_⟩⟩
  have hsame : FnP Tryz.prog F_shiftbellkeep_sameEvent #[evv r.x r.pa r.ca r.pf r.cf, evv s.x s.pa s.ca s.pf s.cf] w43 fun v w' => Ext w43 w' ∧ v = .bool true := by
    have hJs' : IsJ w43 r.x.job s.pa s.ca s.pf := by rw [hrs]; exact hJs.ext h43
    rw [← hrs]
    exact sameE_k r.x r.pa r.ca r.pf r.cf s.pa s.ca s.pf s.cf w43 (hJr.ext h43) hJs' hWr
  exact ⟨F_shiftbellkeep_sameEvent, #[], rfl, hsame.mono fun v w44 ⟨e44, hv⟩ => ⟨e44, _, hv, fun h => (by cases h), fun _ => ⟨i64 (by omega), ⟨rfl, by omega, by omega⟩, by simp only []; omega⟩⟩⟩

/-! ### Frames of a row of events -/
def FrRes (w : World) (L : List EvR) (v : Value) (w' : World) : Prop := Ext w w' ∧ ∃ p c q d, v = .tuple #[.slice p (fl L).length c, .slice q (frs ((fl L).map (·.x))).length d] ∧ Own w.heap.size w' T_Event 15 p (fl L).length c ((fl L).flatMap encR) ∧
  Own w.heap.size w' T_uint8 1 q (frs ((fl L).map (·.x))).length d ((bI (frs ((fl L).map (·.x)))).map (.int .u8)) ∧ (frs ((fl L).map (·.x))).length ≤ 2000 * L.length
theorem framed_k (w : World) (g : GB w) (l : Option Addr) (lc : Nat) (L : List EvR) (hR : Recs 15 encR w l L) (hL : ∀ r ∈ L, WfJ r.x.job ∧ IsJ w r.x.job r.pa r.ca r.pf ∧ nod r.x.job.ask ≤ 1048576) (h20 : L.length ≤ 20) :
    FnP Tryz.prog F_shiftbellkeep_framed #[.slice l L.length lc] w (FrRes w L) := by
  refine ok_shiftbellkeep_framed l L.length lc w _ ⟨fun out outl outc all alll allc k w' => Ext w w' ∧ 0 ≤ k ∧ k ≤ L.length ∧ outl = (fl (L.take k.toNat)).length ∧ alll = (frs ((fl (L.take k.toNat)).map (·.x))).length ∧ (fl (L.take k.toNat)).length ≤ k.toNat ∧ (frs ((fl (L.take k.toNat)).map (·.x))).length ≤ 2000 * k.toNat ∧
      Own w.heap.size w' T_Event 15 out outl outc ((fl (L.take k.toNat)).flatMap encR) ∧ Own w.heap.size w' T_uint8 1 all alll allc ((bI (frs ((fl (L.take k.toNat)).map (·.x)))).map (.int .u8)) ∧ Apart out all,
    fun _ _ _ _ _ _ k _ => (L.length - k).toNat, ⟨Ext.refl _, by omega, by omega, by simp [fl], by simp [fl, frs], by simp [fl], by simp [fl, frs], by simpa [fl] using Own.nil, by simpa [fl, frs, bI] using Own.nil, Apart.nil⟩, ?_⟩
  rintro out outl outc all alll allc k w4 ⟨x4, hk0, hk1, rfl, rfl, hn1, hn2, oO, oA, hap⟩
  refine ⟨fun hlt => ?_, fun hge w5 h5 => ?_⟩
  · obtain ⟨r, hr⟩ : ∃ r, L[k.toNat]? = some r := ⟨_, List.getElem?_eq_getElem (by omega)⟩
    have hRx := hR.ext x4
    have gg : ∀ (m : Nat) u, (encR r)[m]? = some u → Go.Sx.cell w4 (pIdx l k 15) m = some u := fun m u hu => hRx.at hk0 hr hu
    have g0 := gg 0 _ rfl
    obtain ⟨hWr, hJr, hnr⟩ := hL r (List.mem_of_getElem? hr)
    refine ⟨fun h => cell_p g0 (pIdx_none.2 h), hk0, hlt, cell_p g0, _, g0, _, gg 1 _ rfl, _, gg 2 _ rfl, _, gg 3 _ rfl, _, gg 4 _ rfl, _, gg 5 _ rfl, _, gg 6 _ rfl, _, gg 7 _ rfl, _, gg 8 _ rfl, _, gg 9 _ rfl, _, _, _, gg 10 _ rfl, _, _, _, gg 11 _ rfl, _, gg 12 _ rfl, _, gg 13 _ rfl, _, gg 14 _ rfl, fun b24 hb24 w25 x25 => ?_⟩
    have h25 := extB_ext x25
    have hw25 := x4.trans h25
    refine (eFrame_k r.x r.pa r.ca r.pf r.cf w25 (hJr.ext hw25) hWr hnr (g.ext hw25)).mono fun v w26 ⟨e26, q, n26, c26, e, hv, heq, hz, hok⟩ => ⟨e26, q, n26, c26, e, hv, fun hgd => ?_, fun hbad => ?_⟩
    · obtain ⟨rfl, oF⟩ := hok hgd.1
      have hy : okf r.x := ⟨heq.1 hgd.1, by omega⟩
      have h426 : Ext w4 w26 := h25.trans e26
      have hw26 := x4.trans h426
      have oO26 := oO.ext h426
      have ek : (k + 1).toNat = k.toNat + 1 := by omega
      have hns : ∀ b ∈ [b24], ∀ y, out = some y → y.block ≠ b := oO.free hb24
      have hnsA : ∀ b ∈ [b24], ∀ y, all = some y → y.block ≠ b := oA.free hb24
      refine push_B (v := evv r.x r.pa r.ca r.pf r.cf) elem_sl_Event (by omega) oO26 hw26.size hns rfl (by intro u hu; simp [Value.cells] at hu; rcases hu with rfl | rfl | rfl | rfl | rfl | rfl | rfl | rfl | rfl | rfl | rfl | rfl | rfl | rfl | rfl <;> rfl) (by omega) (by omega) (by omega) fun p' c' w37 o37 g37 _ hb37 => ?_
      intro w41 x41
      have h41 := extB_ext x41
      have oA37 := (oA.ext h426).st (hap.symm) g37
      have hap37 : Apart p' all := (Apart.grewC hap.symm (fun a ha => by have := (oA.lt a ha).2; have := h426.size; omega) g37).symm
      have hw37 : Ext w w37 := g37.ext hw26 oO26
      have hw41 := hw37.trans h41
      have hF41 : Ints .u8 w41 q (bI (fr (enc r.x))) := by
        have h1 : Own w25.heap.size w37 T_uint8 1 q _ c26 ((bI (fr (enc r.x))).map (.int .u8)) := oF.st (fun a b ha hb he => by
          have := (oF.lt a ha).1
          have := (oO.lt b hb).2
          have := h25.size
          omega) g37
        exact (h1.ext h41).cells
      refine run_appB (oA37.ext h41) hw41.size rfl hF41 (by rw [fr_len] at hgd ⊢; omega) fun p2 c2 w42 o42 g42 => ⟨fun b hb => ?_, p2, _, c2, rfl, i64 (by omega), ⟨g42.ext hw41 (oA37.ext h41), by omega, by omega, ?_, ?_, ?_, ?_, ?_, ?_, ?_⟩, by simp only []; omega⟩
      · refine g42.by_.block b (x41.lt b hb) fun h => ?_
        cases hall : all with
        | none => rw [hall] at h; simp [blk] at h
        | some y =>
          rw [hall] at h; simp [blk] at h
          exact hnsA b hb y hall h.symm
      · rw [ek, fl_yes hr hy, List.length_append]; rfl
      · rw [ek, fl_yes hr hy, List.map_append, frs_app, List.length_append]
        simp [frs]
      · rw [ek, fl_yes hr hy, List.length_append]; simp; omega
      · rw [ek, fl_yes hr hy, List.map_append, frs_app, List.length_append]
        have := hy.2
        simp [frs]; simp [frs] at hn2; omega
      · rw [ek, fl_yes hr hy, List.flatMap_append]
        have o38 := (o37.ext h41).st hap37 g42
        simpa [Value.cells] using o38
      · rw [ek, fl_yes hr hy, List.map_append, frs_app]
        have : frs (List.map (·.x) [r]) = fr (enc r.x) := by simp [frs]
        rw [this]
        exact o42
      · exact Apart.grewC hap37 (fun a ha => by have := (o37.lt a ha).2; have := h41.size; omega) g42
    · have hno : ¬ okf r.x := fun hy => by
        rcases hbad with h | h
        · exact h (heq.2 hy.1)
        · by_cases he : e = 0
          · obtain ⟨rfl, _⟩ := hok he
            have := hy.2; omega
          · exact he (heq.2 hy.1)
      have ek : (k + 1).toNat = k.toNat + 1 := by omega
      have h426 : Ext w4 w26 := h25.trans e26
      refine ⟨i64 (by omega), ⟨x4.trans h426, by omega, by omega, ?_, ?_, ?_, ?_, ?_, ?_, hap⟩, by simp only []; omega⟩ <;> rw [ek, fl_no hr hno]
      · omega
      · omega
      · exact oO.ext h426
      · exact oA.ext h426
  · have hkl : k.toNat = L.length := by omega
    rw [hkl, List.take_length] at oO oA hn2 ⊢
    exact ⟨x4.trans h5, out, outc, all, allc, rfl, oO.ext h5, oA.ext h5, hn2⟩

/-! ### Torn off anywhere -/
theorem stuck_take {x : Ev} (h : (enc x).length ≤ 65535) {k : Nat} (hk : k < (fr (enc x)).length) : stuck ((fr (enc x)).take k) := by
  intro a b r he
  obtain ⟨a', b', r', hf, hl, _⟩ := fr_head h
  have hlen : ((fr (enc x)).take k).length = k := by rw [List.length_take]; omega
  rw [hlen]
  rw [fr_len] at hk
  rw [hf] at he
  match k, he with
  | 0, he => simp at he
  | 1, he => simp at he
  | k + 2, he =>
    simp only [List.take_succ_cons, List.cons.injEq] at he
    rw [← he.1, ← he.2.1]; omega
theorem cut_at : ∀ (xs : List Ev), (∀ x ∈ xs, Whole x) → ∀ k : Nat, k ≤ (frs xs).length → ∃ j, j ≤ xs.length ∧ (frs (xs.take j)).length ≤ k ∧ (j < xs.length → k < (frs (xs.take (j + 1))).length) ∧ ∃ tl, stuck tl ∧ (frs xs).take k = frs (xs.take j) ++ tl
  | [], _, k, hk => ⟨0, by omega, by simp [frs], fun h => (by simp at h), [], fun _ _ _ h => (by cases h), by simp [frs]⟩
  | x :: r, hW, k, hk => by
    have hx := hW x (List.mem_cons_self ..)
    have e0 : frs (x :: r) = fr (enc x) ++ frs r := rfl
    rcases Nat.lt_or_ge k (fr (enc x)).length with h | h
    · refine ⟨0, by omega, by simp [frs], fun _ => ?_, (fr (enc x)).take k, stuck_take (by have := hx.len; omega) h, ?_⟩
      · simp [frs]; omega
      · rw [e0, List.take_append_of_le_length (by omega)]; rfl
    · rw [e0, List.length_append] at hk
      obtain ⟨j, h1, h2, h3, tl, h4, h5⟩ := cut_at r (fun y hy => hW y (List.mem_cons_of_mem _ hy)) (k - (fr (enc x)).length) (by omega)
      refine ⟨j + 1, by simp; omega, ?_, fun hj => ?_, tl, h4, ?_⟩
      · rw [List.take_succ_cons]
        show (fr (enc x) ++ frs (r.take j)).length ≤ k
        rw [List.length_append]; omega
      · rw [List.take_succ_cons]
        show k < (fr (enc x) ++ frs (r.take (j + 1))).length
        rw [List.length_append]
        have := h3 (by simp at hj; omega)
        omega
      · rw [e0, List.take_succ_cons]
        show _ = (fr (enc x) ++ frs (r.take j)) ++ tl
        rw [List.append_assoc, ← h5, List.take_append, List.take_of_length_le h]

theorem law_jourback (W : World) (hg : GB W) (l : Option Addr) (lc : Nat) (L : List EvR) (hR : Recs 15 encR W l L) (hL : ∀ r ∈ L, WfJ r.x.job ∧ IsJ W r.x.job r.pa r.ca r.pf ∧ nod r.x.job.ask ≤ 1048576) (keep : Int) :
    FnP Tryz.prog F_shiftbellkeep_JournalBack #[.slice l L.length lc, .int .i64 keep] W fun v W' => v = .bool true ∧ Ext W W' := by
  refine ok_shiftbellkeep_JournalBack l L.length lc keep W _ fun w0 h0 => (journals_k w0).mono fun v w1 ⟨e1, hv⟩ => ⟨e1, true, hv, fun h => (by cases h), fun _ => ⟨fun _ w3 h3 => ⟨rfl, h3⟩, fun h20 w3 h3 => ?_⟩⟩
  have h20 : L.length ≤ 20 := by omega
  have hA : ∀ r ∈ fl L, okf r.x ∧ WfJ r.x.job ∧ nod r.x.job.ask ≤ 1048576 ∧ ∀ w, Ext W w → IsJ w r.x.job r.pa r.ca r.pf := fun r hr => by
    obtain ⟨h1, h2⟩ := fl_mem.1 hr
    obtain ⟨a, b, c⟩ := hL r h1
    exact ⟨h2, a, c, fun w hw => b.ext hw⟩
  refine (framed_k w3 (hg.ext h3) l lc L (hR.ext h3) (fun r hr => by obtain ⟨a, b, c⟩ := hL r hr; exact ⟨a, b.ext h3, c⟩) h20).mono fun v w4 ⟨e4, p, c, q, d, hv, oP, oQ, hsz⟩ => ?_
  have hlA : (fl L).length ≤ 20 := Nat.le_trans (List.length_filter_le _ _) h20
  generalize fl L = A at hA hlA oP oQ hsz hv
  have hWh : ∀ x ∈ A.map (·.x), Whole x := fun x hx => by
    obtain ⟨r, hr, rfl⟩ := List.mem_map.1 hx
    exact whole_of (hA r hr).1 (hA r hr).2.2.1
  generalize hbs : frs (A.map (·.x)) = bs at oQ hsz hv
  refine ⟨e4, p, A.length, c, q, bs.length, d, hv, fun w11 h11 => ?_⟩
  have hw4 := h3.trans e4
  have hw11 := hw4.trans h11
  have hQle := oQ.le
  have hPle := oP.le
  have hRA : ∀ w, Ext w4 w → Recs 15 encR w p A := fun w hw => (Own.recs (oP.ext hw) fun _ _ => rfl)
  have hQ : ∀ w, Ext w4 w → Ints .u8 w q (bI bs) := fun w hw => (oQ.ext hw).cells
  refine (Cut_k2 q d bs w11 (hQ w11 h11) hQle.1 hQle.2 (by omega) (hg.ext hw11)).mono fun v w12 ⟨e12, rs, p2, c2, n, hv, o12, hrs, hn0, hnl, htk, hcomp⟩ => ⟨e12, p2, rs.length, c2, n, hv, fun w17 h17 => ?_⟩
  have hx := hcomp (A.map (·.x)) [] hWh (fun _ _ _ h => (by cases h)) (by rw [List.append_nil, hbs])
  have hn : n = bs.length := by
    have := congrArg List.length htk
    rw [hx, hbs, List.length_take] at this
    omega
  have h412 := h11.trans e12
  have hw12 := hw4.trans h412
  have hw17 := hw12.trans h17
  have hrl : rs.length = A.length := by have := congrArg List.length hx; simpa using this
  refine (eqE_k w17 p2 c2 p c rs A ((Own.recs o12 fun _ _ => rfl).ext h17) (hRA w17 (h412.trans h17)) hx (fun r hr => ⟨(hrs r hr).1.wf, (hrs r hr).2.ext h17⟩) (fun r hr => (hA r hr).2.2.2 w17 hw17) (by omega)).mono fun v w18 ⟨e18, hv⟩ => ⟨e18, true, hv, fun hbad => ?_, fun _ => ⟨fun _ w20 h20 => ⟨rfl, hw12.trans h20⟩, fun hk => ⟨by omega, hk.1, by omega, fun w20 h20 => ?_⟩⟩⟩
  · rcases hbad with h | h
    · cases h
    · exact absurd hn h
  have hw20 := hw12.trans h20
  have h420 := h412.trans h20
  obtain ⟨j, hj1, hj2, hj3, tl, hstk, htl⟩ := cut_at (A.map (·.x)) hWh keep.toNat (by rw [hbs]; omega)
  rw [List.length_map] at hj1 hj3
  rw [hbs] at htl
  rw [pCut_zero]
  have hkl : (keep - 0).toNat = (bs.take keep.toNat).length := by rw [List.length_take]; omega
  rw [hkl]
  refine (Cut_k2 q _ (bs.take keep.toNat) w20 (ints_pre (hQ w20 h420)) (by rw [List.length_take]; simp only [show (0 : Int).toNat = 0 from rfl]; omega) (by omega) (by rw [List.length_take]; omega) (hg.ext hw20)).mono fun v w21 ⟨e21, ss, p3, c3, m, hv, o21, hss, hm0, hml, hmtk, hmcomp⟩ => ⟨e21, p3, ss.length, c3, m, hv, ?_⟩
  have hy := hmcomp ((A.map (·.x)).take j) tl (fun x hx => hWh x (List.mem_of_mem_take hx)) hstk htl
  have hyl : ss.length = j := by have := congrArg List.length hy; simpa using (by simpa using this : ss.length = min j A.length).trans (by omega)
  have hml2 : m ≤ keep := by rw [List.length_take] at hml; omega
  have hm : m = (frs ((A.map (·.x)).take j)).length := by
    have := congrArg List.length hmtk
    rw [hy, List.length_take] at this
    omega
  have hy2 : ss.map (·.x) = (A.take j).map (·.x) := by rw [hy, List.map_take]
  have hw21 := hw20.trans e21
  have h421 := h420.trans e21
  refine ⟨fun _ => by omega, fun _ => by omega, fun _ => by omega, fun hbad w26 h26 => by omega, fun _ w26 h26 => ?_⟩
  rw [pCut_zero, hyl]
  have hjl : (((j : Nat) : Int) - 0).toNat = (A.take j).length := by rw [List.length_take]; omega
  rw [hjl]
  have hw26 := hw21.trans h26
  have hRJ : ∀ i w, Ext w4 w → Recs 15 encR w p (A.take i) := fun i w hw a x ha b u hb => by
    refine hRA w hw a x ?_ b u hb
    rw [List.getElem?_take] at ha
    split at ha
    · exact ha
    · cases ha
  have hsl : ss.length = (A.take j).length := by rw [hyl, List.length_take]; omega
  have eq1 := eqE_k w26 p3 c3 p (c - (0 : Int).toNat) ss (A.take j) ((Own.recs o21 fun _ _ => rfl).ext h26) (hRJ j w26 (h421.trans h26)) hy2 (fun r hr => ⟨(hss r hr).1.wf, (hss r hr).2.ext h26⟩) (fun r hr => (hA r (List.mem_of_mem_take hr)).2.2.2 w26 hw26) (by omega)
  rw [hyl] at eq1
  refine eq1.mono fun v w27 ⟨e27, hv⟩ => ⟨e27, true, hv, fun h => (by cases h), fun _ => ⟨by omega, by omega, by omega, fun w29 h29 => ?_⟩⟩
  have hw29 := hw21.trans h29
  have frT : ∀ i w, Ext w4 w → FnP Tryz.prog F_shiftbellkeep_framed #[.slice p (A.take i).length (c - (0 : Int).toNat)] w (FrRes w (A.take i)) := fun i w hw => framed_k w (hg.ext (hw4.trans hw)) p _ (A.take i) (hRJ i w hw) (fun r hr => by
    obtain ⟨_, a, b, c⟩ := hA r (List.mem_of_mem_take hr)
    exact ⟨a, c w (hw4.trans hw), b⟩) (by rw [List.length_take]; omega)
  have flT : ∀ i, fl (A.take i) = A.take i := fun i => fl_all fun r hr => (hA r (List.mem_of_mem_take hr)).1
  refine (frT j w29 (h421.trans h29)).mono fun v w30 ⟨e30, q1, d1, q2, d2, hv, _, _, _⟩ => ⟨e30, q1, _, d1, q2, _, d2, hv, i64 (by omega), by omega, by omega, by omega, fun w37 h37 => ?_⟩
  have hjl2 : ((min ((j : Int) + 1) (A.length : Int)) - 0).toNat = (A.take (j + 1)).length := by rw [List.length_take]; omega
  rw [hjl2]
  have h430 := (h421.trans h29).trans e30
  refine (frT (j + 1) w37 (h430.trans h37)).mono fun v w38 ⟨e38, q3, d3, q4, d4, hv, _, _, _⟩ => ⟨e38, q3, _, d3, q4, _, d4, hv, fun w45 h45 => ⟨?_, (((hw4.trans h430).trans h37).trans e38).trans h45⟩⟩
  rw [flT, flT, List.map_take, List.map_take]
  have a1 : decide (((frs ((A.map (·.x)).take j)).length : Int) = m) = true := decide_eq_true hm.symm
  have a2 : (decide ((j : Int) = A.length) || decide (keep < ((frs ((A.map (·.x)).take (j + 1))).length : Int))) = true := by
    rcases Nat.lt_or_ge j A.length with h | h
    · have := hj3 h
      simp; right; omega
    · have : (j : Int) = A.length := by omega
      simp [this]
  rw [a1, a2]; rfl

/-! ### Rows of events that came in -/
theorem ev_cells {W : World} {n : Nat} {es : List Value} (hg : Go.Sx.Good Tryz.prog W n T_Event es) : ∃ r : EvR, es = encR r ∧ WfJ r.x.job ∧ IsJ W r.x.job r.pa r.ca r.pf := by
  have hlv := leaves_ok (P := Tryz.prog) 6 T_Event [T_int, T_string, T_int, T_int64, T_int64, T_int64, T_int, T_string, T_string, T_int64, T_sl_Ask, T_sl_int, T_int64, T_int, T_bool] n es (by kernel_rfl) hg
  obtain ⟨v0, r0, rfl, l0, hlv⟩ := lvs_cons hlv
  obtain ⟨v1, r1, rfl, l1, hlv⟩ := lvs_cons hlv
  obtain ⟨v2, r2, rfl, l2, hlv⟩ := lvs_cons hlv
  obtain ⟨v3, r3, rfl, l3, hlv⟩ := lvs_cons hlv
  obtain ⟨v4, r4, rfl, l4, hlv⟩ := lvs_cons hlv
  obtain ⟨v5, r5, rfl, l5, hlv⟩ := lvs_cons hlv
  obtain ⟨v6, r6, rfl, l6, hlv⟩ := lvs_cons hlv
  obtain ⟨v7, r7, rfl, l7, hlv⟩ := lvs_cons hlv
  obtain ⟨v8, r8, rfl, l8, hlv⟩ := lvs_cons hlv
  obtain ⟨v9, r9, rfl, l9, hlv⟩ := lvs_cons hlv
  obtain ⟨va, ra, rfl, la, hlv⟩ := lvs_cons hlv
  obtain ⟨vb, rb, rfl, lb, hlv⟩ := lvs_cons hlv
  obtain ⟨vc, rc, rfl, lc, hlv⟩ := lvs_cons hlv
  obtain ⟨vd, rd, rfl, ld, hlv⟩ := lvs_cons hlv
  obtain ⟨ve, re, rfl, le, hlv⟩ := lvs_cons hlv
  obtain rfl := lvs_nil hlv
  obtain ⟨x0, rfl, h0⟩ := leaf_int (k := .i64) (by kernel_rfl) l0
  obtain ⟨x1, rfl, h1⟩ := leaf_str (by kernel_rfl) l1
  obtain ⟨x2, rfl, h2⟩ := leaf_int (k := .i64) (by kernel_rfl) l2
  obtain ⟨x3, rfl, h3⟩ := leaf_int (k := .i64) (by kernel_rfl) l3
  obtain ⟨x4, rfl, h4⟩ := leaf_int (k := .i64) (by kernel_rfl) l4
  obtain ⟨x5, rfl, h5⟩ := leaf_int (k := .i64) (by kernel_rfl) l5
  obtain ⟨x6, rfl, h6⟩ := leaf_int (k := .i64) (by kernel_rfl) l6
  obtain ⟨x7, rfl, h7⟩ := leaf_str (by kernel_rfl) l7
  obtain ⟨x8, rfl, h8⟩ := leaf_str (by kernel_rfl) l8
  obtain ⟨x9, rfl, h9⟩ := leaf_int (k := .i64) (by kernel_rfl) l9
  obtain ⟨pa, na, ca, rfl, a1, a2, a3, a4⟩ := leaf_slice (e := T_Ask) (by kernel_rfl) la
  obtain ⟨pf, nf, cf, rfl, f1, f2, f3, f4⟩ := leaf_slice (e := T_int) (by kernel_rfl) lb
  obtain ⟨xc, rfl, hc⟩ := leaf_int (k := .i64) (by kernel_rfl) lc
  obtain ⟨xd, rfl, hd⟩ := leaf_int (k := .i64) (by kernel_rfl) ld
  obtain ⟨xe, rfl⟩ := leaf_bool (by kernel_rfl) le
  obtain ⟨j, hJ, hW, e⟩ := job_arg h1 h2 h3 h4 h5 h6 h7 h8 h9 ⟨a1, a2, a3, a4⟩ ⟨f1, f2, f3, f4⟩
  have e1 : encR ⟨⟨x0, j, xc, xd, xe⟩, pa, ca, pf, cf⟩ = .int .i64 x0 :: (jcs j pa ca pf cf ++ [.int .i64 xc, .int .i64 xd, .bool xe]) := rfl
  rw [e] at e1
  exact ⟨⟨⟨x0, j, xc, xd, xe⟩, pa, ca, pf, cf⟩, e1.symm, hW, hJ⟩
theorem evs_arg {W : World} {p : Option Addr} {l c : Nat} (h : SlcArg Tryz.prog W T_Event p l c) : ∃ L : List EvR, L.length = l ∧ Recs 15 encR W p L ∧ ∀ r ∈ L, WfJ r.x.job ∧ IsJ W r.x.job r.pa r.ca r.pf := by
  obtain ⟨L, h1, h2, h3⟩ := h.list (α := EvR) encR (fun r => WfJ r.x.job ∧ IsJ W r.x.job r.pa r.ca r.pf) (fun n es hg _ => ev_cells hg)
  refine ⟨L, h1, fun i x hx j u hu => ?_, h2⟩
  have := h3 i x hx j u hu
  rwa [show Tryz.prog.cellsOf T_Event = 15 by kernel_rfl] at this
theorem cells_eqR {w : World} {a : Addr} {cs : List Value} {r : EvR} {i : Nat} (h : w.cells? 0 (a.add (i * 15)) 15 = some cs) (hr : ∀ j u, (encR r)[j]? = some u → Go.Sx.cell w (some a) (i * 15 + j) = some u) : cs = encR r := by
  obtain ⟨hl, hc⟩ := cells?_some h
  refine List.ext_getElem? fun j => ?_
  rcases Nat.lt_or_ge j 15 with hj | hj
  · obtain ⟨u, hu⟩ : ∃ u, cs[j]? = some u := ⟨_, List.getElem?_eq_getElem (by omega)⟩
    obtain ⟨u2, hu2⟩ : ∃ u, (encR r)[j]? = some u := ⟨_, List.getElem?_eq_getElem (by rw [encR_len]; exact hj)⟩
    have h1 := hc j u hu
    have h2 := hr j u2 hu2
    simp only [Go.Sx.cell, Option.bind_some] at h1 h2
    rw [← add_add] at h2
    rw [hu, hu2, ← h1, ← h2]
  · rw [List.getElem?_eq_none (by omega), List.getElem?_eq_none (by rw [encR_len]; omega)]
theorem evs_bulk {H : Type} {enc : TypeId × Value → H} {w : World} {n : Nat} {p : Option Addr} {c : Nat} {L : List EvR} {d : DataW H} {ps : List MemPlace} (hR : Recs 15 encR w p L) (hT : ∀ r ∈ L, IsT w r.x.job.ask r.pa r.ca)
    (h : DataW.trod enc Tryz.prog w 0 (fun _ => true) true n T_sl_Event [.slice p L.length c] = some (d, ps)) : ∀ r ∈ L, nod r.x.job.ask ≤ Rows.uptoBulk d := by
  obtain ⟨m, es, h1, h2, h3⟩ := slice_reads (e := T_Event) (by kernel_rfl) h
  intro r hr
  obtain ⟨i, hi⟩ := List.mem_iff_getElem?.1 hr
  have hil := (List.getElem?_eq_some_iff.1 hi).1
  obtain ⟨a, rfl⟩ : ∃ a, p = some a := by
    cases p with
    | none => exact absurd rfl (cell_p (hR i r hi 0 _ rfl))
    | some a => exact ⟨a, rfl⟩
  obtain ⟨cs, x, qs, hcs, hx, htr⟩ := h3 a rfl i hil
  rw [show Tryz.prog.cellsOf T_Event = 15 by kernel_rfl] at hcs
  obtain rfl := cells_eqR hcs fun j u hu => hR i r hi j u hu
  exact Nat.le_trans (ev_bulk (hT r hr) htr) (Nat.le_trans (bulk_mem (List.mem_of_getElem? hx)) h2)
theorem jourback_args (W : World) (hg : GB W) {p : Option Addr} {l c : Nat} (h : SlcArg Tryz.prog W T_Event p l c) (keep : Int)
    (hb : ∀ L : List EvR, L.length = l → Recs 15 encR W p L → (∀ r ∈ L, IsT W r.x.job.ask r.pa r.ca) → ∀ r ∈ L, nod r.x.job.ask ≤ 1048576) : FnP Tryz.prog F_shiftbellkeep_JournalBack #[.slice p l c, .int .i64 keep] W fun v W' => v = .bool true ∧ Ext W W' := by
  obtain ⟨L, rfl, hR, hL⟩ := evs_arg h
  exact law_jourback W hg p c L hR (fun r hr => ⟨(hL r hr).1, (hL r hr).2, hb L rfl hR (fun r hr => (hL r hr).2.1) r hr⟩) keep
end Go.Proofs.YtenppnomdejmlaaGreatDoor
