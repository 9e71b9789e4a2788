/- The law WheelPieces. -/
import Derived.Test.YtkpkbbapaamflaaWhG
set_option linter.unusedVariables false
set_option linter.unusedSimpArgs false
namespace Go.Proofs.Ytkpkbbapaamflaa
open Go.Sx Go.RowKit

theorem WI.weak {B B' : Nat} {w : World} {wb mb : Nat} {now born : Int} {M : List (Int × Value)} {R : Nat → Row} (h : WI B w wb mb now born M R) (hB : B' ≤ B) : WI B' w wb mb now born M R :=
  ⟨h.slot.weak hB, h.map, Nat.le_trans hB h.mB, h.mw, fun j hj => (h.row j hj).weak hB, h.ap, h.aw⟩
theorem WS.weak {B B' : Nat} {w : World} {wb : Nat} {now born : Int} {L : List Tm} {F : Nat → Prop} (h : WS B w wb now born L F) (hB : B' ≤ B) : WS B' w wb now born L F := by
  obtain ⟨mb, M, R, i, h2, h3, h4⟩ := h.ex
  exact ⟨⟨mb, M, R, i.weak hB, h2, h3, h4⟩, h.ok, h.st, h.len, h.n0, h.b0, Nat.le_trans hB h.hB, fun b hb => ⟨Nat.le_trans hB (h.fB b hb).1, (h.fB b hb).2⟩⟩
theorem CS.weak {W W' w : World} {wb : Nat} {s : St} {m : Nat} {F : Nat → Prop} (c : CS W' w wb s m F) (e : Ext W W') : CS W w wb s m F := ⟨c.ws.weak e.size, e.trans c.ext, c.nb, c.bb⟩
theorem CS.fr {S : Nat → Prop} {W w w' : World} {wb : Nat} {s : St} {m : Nat} {F : Nat → Prop} (c : CS W w wb s m F) (f : Fr S w w') (hs : ∀ b, F b → ¬ S b) (hW : ∀ b, S b → W.heap.size ≤ b) : CS W w' wb s m F := ⟨c.ws.fr f hs, f.ext c.ext hW, c.nb, c.bb⟩

theorem made_k {w : World} {L0 : List Act} (hr : ∀ a ∈ L0, InR .i64 a.at') (hl : L0.length ≤ 100) {lp : Option Addr} {lc : Nat} (h : Recs 4 encA w lp L0) {pb : Nat} (hc : cell w (ptr pb) 0 = some (.slice lp L0.length lc)) :
    FnP Try.prog F_shiftbellkeep_WheelPieces_1 #[.pointer (ptr pb)] w fun v w' => ∃ wb F, v = .pointer (ptr wb) ∧ CS w w' wb (L0.foldl stp ⟨0, 0, []⟩) L0.length F := by
  refine ok_shiftbellkeep_WheelPieces_1 (ptr pb) w _ fun w0 h0 => newS_k.mono fun v w1 ⟨e1, wb, F, hv, hF, hw⟩ => ⟨e1, _, hv, _, _, _, ext_cell (h0.trans e1) hc, ?_⟩
  refine ⟨fun k w' => ∃ m : Nat, k = m ∧ m ≤ L0.length ∧ ∃ F, CS w w' wb ((L0.take m).foldl stp ⟨0, 0, []⟩) m F, fun k _ => (L0.length - k).toNat, ⟨0, rfl, by omega, F, hw w.heap.size h0.size, h0.trans e1, by simp, by simp⟩, ?_⟩
  rintro k w8 ⟨m, rfl, hm, F, c⟩
  refine ⟨fun hlt => ?_, fun hge w9 h9 => ?_⟩
  · have hml : m < L0.length := by omega
    obtain ⟨a1, a2, a3, a4, a5, a6⟩ := act_at (h.ext c.ext) hml
    have ha := hr _ (List.getElem_mem hml)
    have hstep : InR .i64 ((m : Int) + 1) := i64 (by omega)
    have hf : (L0.take (m + 1)).foldl stp ⟨0, 0, []⟩ = stp ((L0.take m).foldl stp ⟨0, 0, []⟩) L0[m] := by
      rw [List.take_succ_eq_append_getElem hml, List.foldl_append]; rfl
    have more : ∀ (w' : World) (F' : Nat → Prop), CS w w' wb (stp ((L0.take m).foldl stp ⟨0, 0, []⟩) L0[m]) (m + 1) F' → (∃ m' : Nat, ((m : Int) + 1) = m' ∧ m' ≤ L0.length ∧ ∃ F, CS w w' wb ((L0.take m').foldl stp ⟨0, 0, []⟩) m' F) ∧ (L0.length - ((m : Int) + 1)).toNat < (L0.length - (m : Int)).toNat :=
      fun w' F' c' => ⟨⟨m + 1, by omega, by omega, F', by rw [hf]; exact c'⟩, by omega⟩
    generalize L0[m] = a at a3 a4 a5 a6 ha more
    refine ⟨a1, by omega, by omega, a2, _, a3, _, a4, _, a5, _, a6, fun b hb => ⟨fun hk w14 x14 => ?_, fun hk1 => ⟨fun hk w14 x14 => ?_, fun hk2 w14 x14 => ?_⟩⟩⟩
    · exact (addA_k (c.to (extB_ext x14)) (by omega) ha hk).mono fun v w15 ⟨hv, F', c', f', g'⟩ => ⟨kept_F c hb x14 f', _, hv, hstep, more w15 F' c'⟩
    · exact (canA_k (c.to (extB_ext x14)) (by omega) hk).mono fun v w15 ⟨hv, F', c', f', g'⟩ => ⟨kept_F c hb x14 f', _, hv, hstep, more w15 F' c'⟩
    · exact (advA_k (c.to (extB_ext x14)) (by omega) ha hk1 hk2).mono fun v w15 ⟨p, d, F', hv, o, c', f', g', ap⟩ => ⟨kept_F c hb x14 f', _, _, _, _, hv, hstep, more w15 F' c'⟩
  · have hml : m = L0.length := by omega
    subst hml
    rw [List.take_length] at c
    exact ⟨wb, F, rfl, c.to h9⟩

theorem pieces {now born : Int} {L : List Tm} (h : WOk now born L) {a b : Int} (ha : adOk a) (hb : adOk b) (hab : adOk (a + b)) :
    adK now L a ++ adK (adN now a) (adL now L a) b = adK now L (a + b) ∧ adN (adN now a) b = adN now (a + b) := by
  have hb' : 0 ≤ b ∧ b ≤ 16777216 := hb
  unfold adK adL adN
  rw [if_pos ha, if_pos ha, if_pos ha, if_pos hb, if_pos hb, if_pos hab, if_pos hab]
  refine ⟨?_, by omega⟩
  rw [List.filter_filter, show now + (a + b) = now + a + b by omega]
  refine Eq.trans ?_ (sorted_split h.sorted (now + a) (now + a + b) (by omega))
  congr 1
  exact List.filter_congr fun x _ => Bool.and_comm _ _

theorem core_WheelPieces (W : World) : ∀ l : Option Addr, ∀ ll : Nat, ∀ lc : Nat, SlcArg Try.prog W T_shiftbellkeep_Act l ll lc → ∀ a : Int, InR .i64 a → ∀ b : Int, InR .i64 b → FnP Try.prog F_shiftbellkeep_WheelPieces #[.slice l ll lc, .int .i64 a, .int .i64 b] W fun v W' => v = .bool true ∧ Ext W W' := by
  intro l ll lc hl a ha b hb
  obtain ⟨L0, rfl, hr, h⟩ := acts_open hl
  have ha := of64 ha
  have hb := of64 hb
  refine ok_shiftbellkeep_WheelPieces _ _ _ a b W _ fun w0 h0 => new_one rfl fun p1 w1 e1 c1 hp1 _ w2 h2 => wheels_k.mono fun v w3 ⟨e3, hv⟩ => ⟨e3, true, hv, fun h => (by simp at h), fun _ => ⟨_, _, _, c1, fun _ => i64 (by omega), fun _ w8 h8 => ⟨rfl, (h0.trans e1).trans h8⟩, fun hok w8 h8 => ?_⟩⟩
  have hp1 : p1 = ptr w0.heap.size := hp1
  subst hp1
  have x8 : Ext W w8 := (h0.trans e1).trans h8
  refine (made_k hr (by omega) (h.ext x8) (ext_cell h8 c1)).mono fun v w9 ⟨wb, F1, hv, c9⟩ => ⟨_, hv, fun w11 h11 => ?_⟩
  have x11 := (x8.trans c9.ext).trans h11
  refine (made_k hr (by omega) (h.ext x11) (ext_cell (h8.trans (c9.ext.trans h11)) c1)).mono fun v w12 ⟨ub, F2, hv, c12⟩ => ⟨_, hv, fun w14 h14 => ?_⟩
  generalize L0.foldl stp ⟨0, 0, []⟩ = s at c9 c12
  have hn : L0.length ≤ 100 := by omega
  generalize L0.length = n at c9 c12 hn
  -- the two wheels
  have d1 : CS w8 w14 wb s n F1 := ((c9.to h11).to c12.ext).to h14
  have d2 : CS w8 w14 ub s n F2 := (c12.weak (c9.ext.trans h11)).to h14
  have sep : ∀ b, F2 b → w11.heap.size ≤ b := fun b hb => (c12.ws.fB b hb).1
  have lt1 : ∀ b, F1 b → b < w11.heap.size := fun b hb => ((c9.to h11).ws.fB b hb).2
  have z14 : w8.heap.size ≤ w14.heap.size := d1.ext.size
  have z1114 : w11.heap.size ≤ w14.heap.size := Nat.le_trans c12.ext.size h14.size
  have ya : adOk a := ⟨by omega, by omega⟩
  have yb : adOk b := ⟨by omega, by omega⟩
  have yab : adOk (a + b) := ⟨by omega, by omega⟩
  obtain ⟨hK, hN⟩ := pieces d1.ws.ok ya yb yab
  refine (advB_k d1 (by omega) (i64 ha)).mono fun v w15 ⟨p, pc, F1', hv, o15, d15, f15, g15, ap15⟩ => ⟨_, _, _, _, hv, fun w20 h20 => ?_⟩
  have g1lt : ∀ b, F1 b → w8.heap.size ≤ b := fun b hb => (d1.ws.fB b hb).1
  have d2' : CS w8 w15 ub s n F2 := d2.fr f15 (fun b hb hc => by have := lt1 b hc; have := sep b hb; omega) g1lt
  have d20 := d15.to h20
  refine (advB_k d20 (by omega) (i64 hb)).mono fun v w21 ⟨q, qc, F1'', hv, o21, d21, f21, g21, ap21⟩ => ⟨_, _, _, _, hv, i64 (by omega), fun w26 h26 => ?_⟩
  have F1'sep : ∀ b, F1' b → ¬ F2 b := fun b hb hc => by
    rcases g15 b hb with h' | h'
    · have := lt1 b h'; have := sep b hc; omega
    · have := (d2.ws.fB b hc).2; omega
  have o21p := ((o15.ext h20).fr f21 ap15).ext h26
  have o26q := o21.ext h26
  have d26 := (d21.to h26)
  have e26 : CS w8 w26 ub s n F2 := ((d2'.to h20).fr f21 (fun b hb hc => F1'sep b hc hb) fun b hb => (d20.ws.fB b hb).1).to h26
  have F1''sep : ∀ b, F1'' b → ¬ F2 b := fun b hb hc => by
    rcases g21 b hb with h' | h'
    · exact F1'sep b h' hc
    · have := (d2.ws.fB b hc).2
      have := f15.size
      have := h20.size
      omega
  refine (advB_k e26 (by omega) (i64 (x := a + b) (by omega))).mono fun v w27 ⟨r, rc, F2', hv, o27, e27, f27, g27, ap27⟩ => ⟨_, _, _, _, hv, ?_⟩
  have s15 := f15.size
  have s20 := h20.size
  have s21 := f21.size
  have s26 := h26.size
  have pF2 : ∀ x, p = some x → ¬ F2 x.block := fun x hx hc => by have := (o15.lt x hx).1; have := (d2.ws.fB _ hc).2; omega
  have qF2 : ∀ x, q = some x → ¬ F2 x.block := fun x hx hc => by have := (o21.lt x hx).1; have := (d2.ws.fB _ hc).2; omega
  have o27p := o21p.fr f27 pF2
  have o27q := o26q.fr f27 qF2
  have d27 : CS w8 w27 wb _ _ F1'' := d26.fr f27 F1''sep fun b hb => (d2.ws.fB b hb).1
  have z1 : adE a = 0 := by unfold adE; rw [if_pos ya]
  have z2 : adE b = 0 := by unfold adE; rw [if_pos yb]
  have z3 : adE (a + b) = 0 := by unfold adE; rw [if_pos yab]
  refine good_lit (w := w27) [adE a, adE b, adE (a + b)] rfl rfl (by omega) (by omega) fun w33 e33 => ⟨fun _ w40 h40 => ?_, fun hc => ?_⟩
  · have e40 := e33.trans h40
    have p40 := o27p.ext e40
    have q40 := o27q.ext e40
    have hW40 : Ext W w40 := (x8.trans e27.ext).trans e40
    have z14W : W.heap.size ≤ w14.heap.size := Nat.le_trans x8.size z14
    have hb40 : w14.heap.size ≤ w40.heap.size := by have := f27.size; have := e40.size; omega
    have fin : ∀ (p' : Option Addr) (c' : Nat) (w41 : World), Own w14.heap.size w41 T_Fire 2 p' ((adK s.now s.L a).length + (adK (adN s.now a) (adL s.now s.L a) b).length) c' ((adK s.now s.L a).flatMap fic ++ (adK (adN s.now a) (adL s.now s.L a) b).flatMap fic) → Grew w40 w41 p p' →
        ∀ w45, Ext w41 w45 → FnP Try.prog F_slices_Equal_api_Fire_api_Fire #[.slice p' ((adK s.now s.L a).length + (adK (adN s.now a) (adL s.now s.L a) b).length) c', .slice r (adK s.now s.L (a + b)).length rc] w45 fun v46 w46 => Ext w45 w46 ∧ ∃ t47 : Bool, v46 = .bool t47 ∧
        (((t47 = true) → ∀ w48, Ext w41 w48 → FnP Try.prog F_wheel_Wheel_Now #[.pointer (ptr wb)] w48 fun v49 w49 => Ext w48 w49 ∧ ∃ t50 : Int, v49 = .int .i64 t50 ∧ ∀ w51, Ext w41 w51 → FnP Try.prog F_wheel_Wheel_Now #[.pointer (ptr ub)] w51 fun v52 w52 => Ext w51 w52 ∧ ∃ t53 : Int, v52 = .int .i64 t53 ∧ ∀ w54, Ext w41 w54 →
          (Value.bool (decide (t50 = t53)) = .bool true ∧ Ext W w54))) ∧ ((t47 = false) → ∀ w48, Ext w41 w48 → (Value.bool false = .bool true ∧ Ext W w48)) := by
      intro p' c' w41 o41 g41 w45 h45
      have o41' : Own w14.heap.size w41 T_Fire 2 p' (adK s.now s.L (a + b)).length c' ((adK s.now s.L (a + b)).flatMap fic) := by
        rw [← hK, List.length_append, List.flatMap_append]; exact o41
      have hlen : (adK s.now s.L a).length + (adK (adN s.now a) (adL s.now s.L a) b).length = ((adK s.now s.L (a + b)).map fr2).length := by rw [← hK, List.length_map, List.length_append]
      have r41 : Own w26.heap.size w41 T_Fire 2 r _ rc _ := (o27.ext e40).grew (B' := w26.heap.size) (fun x y hx hy he => by have := (o27.lt x hx).1; have := (o21p.lt y hy).2; omega) g41
      have hlen2 : (adK s.now s.L (a + b)).length = ((adK s.now s.L (a + b)).map fr2).length := by rw [List.length_map]
      have hKL : (adK s.now s.L (a + b)).length ≤ 200 := by
        have := d1.ws.len
        unfold adK; rw [if_pos yab]
        exact Nat.le_trans (List.length_filter_le ..) this
      have fS : Fr (fun b => ∃ x, p = some x ∧ x.block = b) w40 w41 := fr_grew g41 fun x hx => ⟨x, hx, rfl⟩
      have pW : ∀ b, (∃ x, p = some x ∧ x.block = b) → w14.heap.size ≤ b := fun b ⟨x, hx, he⟩ => he ▸ (o15.lt x hx).1
      have c41 : CS w8 w41 wb _ _ F1'' := (d27.to e40).fr fS (fun b hb ⟨x, hx, he⟩ => by
        rcases g21 b hb with h' | h'
        · exact ap15 x hx (he ▸ h')
        · have := (o15.lt x hx).2; omega) fun b hb => Nat.le_trans z14 (pW b hb)
      have u41 : CS w8 w41 ub _ _ F2' := (e27.to e40).fr fS (fun b hb ⟨x, hx, he⟩ => by
        rcases g27 b hb with h' | h'
        · exact pF2 x hx (he ▸ h')
        · have := (o15.lt x hx).2; omega) fun b hb => Nat.le_trans z14 (pW b hb)
      have hW41 : Ext W w41 := fS.ext hW40 fun b hb => Nat.le_trans z14W (pW b hb)
      rw [hlen, hlen2]
      refine (equal_k p' r c' rc _ _ (by rw [List.length_map]; omega) w45 (own_F (o41'.ext h45)) (own_F (r41.ext h45))).mono fun v w46 ⟨e46, hv⟩ => ⟨e46, _, hv, fun _ w48 h48 => ?_, fun hc => ?_⟩
      · refine (nowS_k (c41.to h48).ws).mono fun v w49 ⟨e49, hv⟩ => ⟨e49, _, hv, fun w51 h51 => (nowS_k (u41.to h51).ws).mono fun v w52 ⟨e52, hv⟩ => ⟨e52, _, hv, fun w54 h54 => ⟨?_, hW41.trans h54⟩⟩⟩
        simp only
        rw [hN]; simp
      · simp at hc
    cases q with
    | none =>
      have h0 : (adK (adN s.now a) (adL s.now s.L a) b).length = 0 := by
        rcases q40.2 with ⟨_, h2⟩ | ⟨g, cap, cur, hvv, _⟩
        · exact h2
        · simp at hvv
      have hnil : adK (adN s.now a) (adL s.now s.L a) b = [] := List.eq_nil_of_length_eq_zero h0
      have hf := fin p pc w40 (by rw [hnil]; simpa using p40) ⟨⟨rfl, rfl, rfl, Nat.le_refl _, fun _ _ _ => rfl⟩, .inl rfl⟩
      rw [h0, Nat.add_zero] at hf
      simp only
      rw [h0]
      exact run_app_none elem_sl_Fire p40 ⟨_, _, _, rfl, hf⟩
    | some y =>
      refine run_app elem_sl_Fire (by omega) p40 hb40 (by simp) (news := (adK (adN s.now a) (adL s.now s.L a) b).flatMap fic) q40.len q40.cells (fun u hu => ?_) ?_ ?_ fun p' c' w41 o41 g41 _ => ⟨_, _, _, rfl, fin p' c' w41 o41 g41⟩
      · obtain ⟨x, _, hx⟩ := List.mem_flatMap.1 hu
        simp [fic] at hx; rcases hx with rfl | rfl <;> rfl
      · have hKL : (adK s.now s.L (a + b)).length ≤ 200 := by
          have := d1.ws.len
          unfold adK; rw [if_pos yab]
          exact Nat.le_trans (List.length_filter_le ..) this
        rw [← hK, List.length_append] at hKL
        simp only; omega
      · have hKL : (adK s.now s.L (a + b)).length ≤ 200 := by
          have := d1.ws.len
          unfold adK; rw [if_pos yab]
          exact Nat.le_trans (List.length_filter_le ..) this
        rw [← hK, List.length_append] at hKL
        simp only; omega
  · rw [z1, z2, z3] at hc; simp at hc
end Go.Proofs.Ytkpkbbapaamflaa
