/- The law AskAnd. -/
import Derived.Test.YtdhhggfplacenaaDoorAkA
import Derived.Test.YtdhhggfplacenaaDoorNdL
set_option linter.unusedVariables false
set_option linter.unusedSimpArgs false
namespace Go.Proofs.YtdhhggfplacenaaDoor
open Go.Sx Go.RowKit

/-- A host that came in. -/
theorem labels_arg {W : World} {p : Option Addr} {l c : Nat} (h : SlcArg Tryd.prog W T_Label p l c) : ∃ L : List Lb, L.length = l ∧ l ≤ 9223372036854775807 ∧ Lbs W p L := by
  obtain ⟨L, h1, h2, h3⟩ := h.list (α := Lb) encLb (fun _ => True) (fun n es hg he => by
    have hlv := leaves_ok (P := Tryd.prog) 6 T_Label [T_string, T_string] n es (by kernel_rfl) hg
    obtain ⟨v0, r0, rfl, l0, hlv⟩ := lvs_cons hlv
    obtain ⟨v1, r1, rfl, l1, hlv⟩ := lvs_cons hlv
    obtain rfl := lvs_nil hlv
    obtain ⟨a, rfl, _⟩ := leaf_str (by kernel_rfl) l0
    obtain ⟨b, rfl, _⟩ := leaf_str (by kernel_rfl) l1
    exact ⟨⟨a, b⟩, rfl, trivial⟩)
  refine ⟨L, h1, by have := h.le; have := h.max; omega, fun i x hx j u hu => ?_⟩
  have := h3 i x hx j u hu
  rwa [show Tryd.prog.cellsOf T_Label = 2 by kernel_rfl] at this

theorem asks_k (w : World) : FnP Tryd.prog F_shiftbellkeep_asks #[] w fun v w' => Ext w w' ∧ v = .bool true := by
  refine ok_shiftbellkeep_asks w _ fun w0 h0 => ?_
  let t : AT := .mk 1 ⟨#[97]⟩ emS 0 []
  have hT : ∀ w, IsT w t none 0 := fun w => by unfold IsT; exact ⟨by simp, by unfold IsL; trivial⟩
  have hW : WfA t := by
    unfold WfA
    refine ⟨i64 (by omega), by decide, by decide, i64 (by omega), by simp, by unfold WfL; trivial⟩
  have hE : errC t = 0 := by
    have h1 : cntA t = 1 := by show cntA (.mk _ _ _ _ []) = 1; rw [cntA, cntL]
    have h2 : errA t = 0 := by
      show errA (.mk 1 ⟨#[97]⟩ emS 0 []) = 0
      rw [errA, errL]
      have : err1 1 ⟨#[97]⟩ emS 0 0 = 0 := by
        have hl : lbB ⟨#[97]⟩ = true := by decide
        unfold err1 inner
        simp [hl]
      simp [this]
    unfold errC; rw [h1, h2]; rfl
  refine FnP.mono (K := fun v w1 => Ext w0 w1 ∧ v = .tuple #[.string ⟨#[63, 97]⟩, .int .i64 0]) (ok_ask_Text 1 ⟨#[97]⟩ emS 0 none 0 0 w0 _ fun b0 _ w1 h1 => ?_) fun v w1 ⟨e1, hv⟩ => ⟨e1, _, _, hv, fun w4 h4 => ⟨h4, ?_⟩⟩
  · refine (Check_k t none 0 w1 (hT w1) hW).mono fun v w2 ⟨e2, hv⟩ => ⟨e2, _, hv, fun hne => absurd hE hne, fun _ w4 h4 => ?_⟩
    refine FnP.mono (K := fun v w5 => Ext w4 w5 ∧ v = .string ⟨#[63, 97]⟩) (ok_ask_text 1 ⟨#[97]⟩ emS 0 none 0 0 w4 _ fun b0 _ => ⟨fun _ => ⟨by unfold CatOk; decide, fun w5 h5 => ⟨h5, rfl⟩⟩, fun h => absurd rfl h⟩) fun v w5 ⟨e5, hv⟩ => ⟨e5, _, hv, fun w7 h7 => ⟨h7, rfl⟩⟩
  · rfl

abbrev opA (k : Int) (l : List AT) : AT := .mk k emS emS 0 l
theorem opA_wf {k : Int} (hk : 0 ≤ k ∧ k ≤ 100) {l : List AT} (hl : l.length ≤ 100) (h : ∀ x ∈ l, WfA x) : WfA (opA k l) := by
  unfold WfA
  exact ⟨i64 (by omega), by decide, by decide, i64 (by omega), by omega, WfL.of h⟩
/-- Asks that are put into a new row. -/
theorem isL_lit {w : World} {q : Option Addr} : ∀ {l : List (AT × Option Addr × Nat)} {i : Nat}, (∀ (j : Nat) u, (l.flatMap fun x => encA x.1 x.2.1 x.2.2)[j]? = some u → Go.Sx.cell w q (i * 5 + j) = some u) → (∀ x ∈ l, IsT w x.1 x.2.1 x.2.2) → IsL w (l.map (·.1)) q i
  | [], i, _, _ => by unfold IsL; trivial
  | x :: r, i, h, hT => by
    unfold IsL
    refine ⟨⟨x.2.1, x.2.2, fun j u hu => h j u ?_, hT x (List.mem_cons_self ..)⟩, isL_lit (fun j u hu => ?_) fun y hy => hT y (List.mem_cons_of_mem _ hy)⟩
    · rw [List.flatMap_cons, List.getElem?_append_left]
      · exact hu
      · exact (List.getElem?_eq_some_iff.1 hu).1
    · have := h (5 + j) u (by
        rw [List.flatMap_cons, List.getElem?_append_right (by simp [encA])]
        simpa [encA] using hu)
      rw [show (i + 1) * 5 + j = i * 5 + (5 + j) by omega]
      exact this

theorem core_AskAnd (W : World) (hg : GL W) : ∀ x_0 : Int, InR .i64 x_0 → ∀ x_1 : ByteArray, x_1.size ≤ 9223372036854775807 → ∀ x_2 : ByteArray, x_2.size ≤ 9223372036854775807 → ∀ x_3 : Int, InR .i64 x_3 → ∀ x_4 : Option Addr, ∀ x_4l : Nat, ∀ x_4c : Nat, SlcArg Tryd.prog W T_Ask x_4 x_4l x_4c → ∀ y_0 : Int, InR .i64 y_0 → ∀ y_1 : ByteArray, y_1.size ≤ 9223372036854775807 → ∀ y_2 : ByteArray, y_2.size ≤ 9223372036854775807 → ∀ y_3 : Int, InR .i64 y_3 → ∀ y_4 : Option Addr, ∀ y_4l : Nat, ∀ y_4c : Nat, SlcArg Tryd.prog W T_Ask y_4 y_4l y_4c → ∀ h_v_0 : ByteArray, h_v_0.size ≤ 9223372036854775807 → ∀ h_v_1 : Option Addr, ∀ h_v_1l : Nat, ∀ h_v_1c : Nat, SlcArg Tryd.prog W T_Label h_v_1 h_v_1l h_v_1c → ∀ h_v_2 : Int, InR .i64 h_v_2 → ∀ h_v_3 : Int, InR .i64 h_v_3 → ∀ h_v_4 : Int, InR .i64 h_v_4 → ∀ h_v_5 : Int, InR .i64 h_v_5 → ∀ h_v_6 : Int, InR .i64 h_v_6 → ∀ h_v_7 : Int, InR .i64 h_v_7 →
    FnP Tryd.prog F_shiftbellkeep_AskAnd #[(.agg #[(.int .i64 x_0), (.string x_1), (.string x_2), (.int .i64 x_3), (.slice x_4 x_4l x_4c)]), (.agg #[(.int .i64 y_0), (.string y_1), (.string y_2), (.int .i64 y_3), (.slice y_4 y_4l y_4c)]), (.agg #[(.string h_v_0), (.slice h_v_1 h_v_1l h_v_1c), (.int .i64 h_v_2), (.int .i64 h_v_3), (.int .i64 h_v_4), (.int .i64 h_v_5), (.int .i64 h_v_6), (.int .i64 h_v_7)])] W fun v W' => v = .bool true ∧ Ext W W' := by
  intro x0 hx0 x1 hx1 x2 hx2 x3 hx3 px lx cx hX y0 hy0 y1 hy1 y2 hy2 y3 hy3 py ly cy hY n0 hn0 q l d hL h2 _ h3 _ h4 _ h5 _ h6 _ h7 _
  obtain ⟨x, rfl, rfl, rfl, rfl, rfl, hTx, hWx⟩ := ask_arg hX hx0 hx1 hx2 hx3
  obtain ⟨y, rfl, rfl, rfl, rfl, rfl, hTy, hWy⟩ := ask_arg hY hy0 hy1 hy2 hy3
  obtain ⟨L, rfl, hlen, hLb⟩ := labels_arg hL
  obtain ⟨H, rfl, rfl, rfl, rfl, rfl, rfl, rfl, rfl⟩ : ∃ H : Ht, n0 = H.name ∧ L = H.labels ∧ h2 = H.has.c ∧ h3 = H.has.m ∧ h4 = H.has.g ∧ h5 = H.used.c ∧ h6 = H.used.m ∧ h7 = H.used.g := ⟨⟨n0, L, ⟨h2, h3, h4⟩, ⟨h5, h6, h7⟩⟩, rfl, rfl, rfl, rfl, rfl, rfl, rfl, rfl⟩
  have hold : ∀ (t : AT) (p : Option Addr) (c : Nat) (w : World), Ext W w → IsT w t p c → WfA t → FnP Tryd.prog F_ask_Holds #[av t p c, hv H q d] w fun v w' => Ext w w' ∧ v = .tuple #[.bool (if errC t = 0 then valA (atH H) t else false), .int .i64 (errC t)] := fun t p c w hw hT hWt => Holds_k t p c H q d hlen w hT hWt (hLb.ext hw)
  refine ok_shiftbellkeep_AskAnd _ _ _ _ _ _ _ _ _ _ _ _ _ _ _ _ _ _ _ _ _ _ _ _ W _ fun b0 hb0 b1 hb1 b2 hb2 w3 h3 => ?_
  refine (asks_k w3).mono fun v w4 ⟨e4, hv⟩ => ⟨e4, true, hv, fun h => by simp at h, fun _ w6 h6 => ?_⟩
  refine (hold x px cx w6 h6 (hTx.ext h6 _ _ _) hWx).mono fun v w7 ⟨e7, hv⟩ => ⟨e7, _, _, hv, fun w10 h10 => ?_⟩
  refine (hold y py cy w10 h10 (hTy.ext h10 _ _ _) hWy).mono fun v w11 ⟨e11, hv⟩ => ⟨e11, _, _, hv, fun w14 x14 => ?_⟩
  have h14 := extB_ext x14
  refine run_lit elem_sl_Ask [av x px cx] rfl rfl (by intro v hv; simp at hv; subst hv; rfl) (by omega) (by omega) fun w15 o15 e15 => ⟨e15, _, _, _, rfl, fun w19 h19 => ?_⟩
  have x19 := (h14.trans e15).trans h19
  have i1 : IsT w19 (opA 4 [x]) (some ⟨w14.heap.size, 0, none⟩) 1 := by
    unfold IsT
    exact ⟨by simp, isL_lit (l := [(x, px, cx)]) (fun j u hu => by simpa using ((o15 0 (Nat.zero_le _)).ext h19).cells j u (by simpa [Value.cells, encA] using hu)) (by intro z hz; simp at hz; subst hz; exact hTx.ext x19 _ _ _)⟩
  refine (hold (opA 4 [x]) _ 1 w19 x19 i1 (opA_wf (by omega) (by simp) (by simpa using hWx))).mono fun v w20 ⟨e20, hv⟩ => ⟨e20, _, _, hv, fun w23 x23 => ?_⟩
  have h23 := (h14.trans e15).trans (extB_ext x23)
  have mk2 : ∀ {wa wb : World}, Ext W wb → Cells wb (some ⟨wa.heap.size, 0, none⟩) (encA x px cx ++ encA y py cy) → ∀ k, IsT wb (opA k [x, y]) (some ⟨wa.heap.size, 0, none⟩) 2 := fun {wa wb} hx hc k => by
    unfold IsT
    exact ⟨by simp, isL_lit (l := [(x, px, cx), (y, py, cy)]) (fun j u hu => by simpa using hc j u (by simpa using hu)) (by
      intro z hz; simp at hz
      rcases hz with rfl | rfl
      · exact hTx.ext hx _ _ _
      · exact hTy.ext hx _ _ _)⟩
  have wf2 : ∀ k : Int, 0 ≤ k ∧ k ≤ 100 → WfA (opA k [x, y]) := fun k hk => opA_wf hk (by simp) (by intro z hz; simp at hz; rcases hz with rfl | rfl <;> assumption)
  refine run_lit elem_sl_Ask [av x px cx, av y py cy] rfl rfl (by intro v hv; simp at hv; rcases hv with rfl | rfl <;> rfl) (by omega) (by omega) fun w24 o24 e24 => ⟨e24, _, _, _, rfl, fun w28 h28 => ?_⟩
  have x24 := h23.trans e24
  refine (hold (opA 5 [x, y]) _ 2 w28 (x24.trans h28) (mk2 (x24.trans h28) ((o24 0 (Nat.zero_le _)).ext h28).cells 5) (wf2 5 (by omega))).mono fun v w29 ⟨e29, hv⟩ => ⟨e29, _, _, hv, fun w32 x32 => ?_⟩
  have h32 := x24.trans (extB_ext x32)
  refine run_lit elem_sl_Ask [av x px cx, av y py cy] rfl rfl (by intro v hv; simp at hv; rcases hv with rfl | rfl <;> rfl) (by omega) (by omega) fun w33 o33 e33 => ⟨e33, _, _, _, rfl, fun w37 h37 => ?_⟩
  have x33 := h32.trans e33
  refine (hold (opA 6 [x, y]) _ 2 w37 (x33.trans h37) (mk2 (x33.trans h37) ((o33 0 (Nat.zero_le _)).ext h37).cells 6) (wf2 6 (by omega))).mono fun v w38 ⟨e38, hv⟩ => ⟨e38, _, _, hv, ?_⟩
  have v4 : valA (atH H) (opA 4 [x]) = !valA (atH H) x := by rw [valA, valL, valL]; rfl
  have v5 : valA (atH H) (opA 5 [x, y]) = (valA (atH H) x && valA (atH H) y) := by rw [valA, valL, valL, valL]; rfl
  have v6 : valA (atH H) (opA 6 [x, y]) = (valA (atH H) x || valA (atH H) y) := by rw [valA, valL, valL, valL]; rfl
  rw [v4, v5, v6]
  refine weakB (good_lit [errC x, errC (opA 4 [x])] rfl rfl (by omega) (by omega) fun w42 e42 => ?_)
  refine ⟨fun hb w49 h49 => ?_, fun _ => ?_⟩
  · exfalso
    obtain ⟨hgd, hb⟩ := hb
    simp only [decide_eq_true_iff, List.mem_cons, List.not_mem_nil, or_false, forall_eq_or_imp, forall_eq] at hgd
    rw [if_pos hgd.1, if_pos hgd.2] at hb
    cases hx : valA (atH H) x <;> simp [hx] at hb
  · refine weakB (good_lit [errC x, errC y, errC (opA 5 [x, y]), errC (opA 6 [x, y])] rfl rfl (by omega) (by omega) fun w50 e50 => fun w57 h57 => ⟨b_true ?_, ((x33.trans e42).trans e50).trans h57⟩)
    by_cases hgd : ∀ z ∈ [errC x, errC y, errC (opA 5 [x, y]), errC (opA 6 [x, y])], z = 0
    · have h1 := hgd _ (List.mem_cons_self ..)
      have h2 := hgd (errC y) (by simp)
      have h3 := hgd (errC (opA 5 [x, y])) (by simp)
      have h4 := hgd (errC (opA 6 [x, y])) (by simp)
      rw [if_pos h1, if_pos h2, if_pos h3, if_pos h4]
      cases valA (atH H) x <;> cases valA (atH H) y <;> simp
    · rw [decide_eq_false hgd]; rfl
end Go.Proofs.YtdhhggfplacenaaDoor
