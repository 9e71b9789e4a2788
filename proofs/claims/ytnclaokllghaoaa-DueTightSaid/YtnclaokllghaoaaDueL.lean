/- What Run, Fits, Valid answer; the laws DueBusy and DueBest. -/
import Derived.Test.YtnclaokllghaoaaDueP
set_option linter.unusedVariables false
set_option linter.unusedSimpArgs false
namespace Go.Proofs.Ytnclaokllghaoaa
open Go.Sx Go.RowKit

abbrev Small (l : List T) : Prop := (l.length : Int) ≤ 9223372036854775807 ∧ ∀ t ∈ l, InR .i64 t.a ∧ InR .i64 t.d ∧ InR .i64 t.n

theorem Run_k (p : Option Addr) (c : Nat) (l : List T) (hs : Small l) (w : World) (h : Tasks w p l) : FnP Try.prog F_due_Run #[.slice p l.length c] w fun v w' =>
    Ext w w' ∧ ∃ row rl rc late fl fc, v = .tuple #[.slice row rl rc, .slice late fl fc, .int .i64 (errC l)] ∧ (fl : Int) ≤ 20 ∧
      (¬ okL l → rl = 0 ∧ fl = 0) ∧ (okL l → rl = 200 ∧ ∃ R, R.length = 200 ∧ Own w.heap.size w' T_int 1 row 200 rc (R.map (.int .i64)) ∧ Steps l R ∧ (fl = 0 ↔ Feas l)) := by
  refine ok_due_Run p l.length c w _ ?_
  intro w0 h0
  refine (check_k p c l hs.1 hs.2 w0 (h.ext h0)).mono fun v w1 ⟨e1, hv⟩ => ⟨e1, _, hv, fun hne w3 h3 => ⟨h3, _, _, _, _, _, _, rfl, by omega, fun _ => ⟨rfl, rfl⟩, fun hok => absurd (errC_ok.2 hok) hne⟩, fun he w3 h3 => ?_⟩
  have hok := errC_ok.1 he
  have := hok.1
  refine (run_k p c l hok w3 (h.ext h3)).mono fun v w4 ⟨e4, row, rc, late, fl, fc, R, hv, or, hst, hF, hf⟩ => ⟨e4, _, _, _, _, _, _, hv, fun w11 h11 => ⟨(h3.trans e4).trans h11, _, _, _, _, _, _, by rw [he], hf, fun hno => absurd hok hno, fun _ => ⟨rfl, R, or.leni, (or.weak h3.size).ext h11, hst, ?_⟩⟩⟩
  rw [hF]; exact edf_iff hok hst or.leni

theorem Fits_k (p : Option Addr) (c : Nat) (l : List T) (hs : Small l) (w : World) (h : Tasks w p l) : FnP Try.prog F_due_Fits #[.slice p l.length c] w fun v w' =>
    Ext w w' ∧ ∃ b, v = .tuple #[.bool b, .int .i64 (errC l)] ∧ (¬ okL l → b = false) ∧ (okL l → (b = true ↔ Feas l)) := by
  refine ok_due_Fits p l.length c w _ ?_
  intro w0 h0
  refine (check_k p c l hs.1 hs.2 w0 (h.ext h0)).mono fun v w1 ⟨e1, hv⟩ => ⟨e1, _, hv, fun hne w3 h3 => ⟨h3, _, rfl, fun _ => rfl, fun hok => absurd (errC_ok.2 hok) hne⟩, fun he w3 h3 => ?_⟩
  have hok := errC_ok.1 he
  refine (run_k p c l hok w3 (h.ext h3)).mono fun v w4 ⟨e4, row, rc, late, fl, fc, R, hv, or, hst, hF, _⟩ => ⟨e4, _, _, _, _, _, _, hv, fun w11 h11 => ⟨(h3.trans e4).trans h11, _, by rw [he], fun hno => absurd hok hno, fun _ => ?_⟩⟩
  rw [decide_eq_true_iff, ← edf_iff hok hst or.leni, ← hF]
  omega

theorem cnt_take_all {X : List Int} {k : Nat} (h : X.length ≤ k) (x : Int) : cnt x (X.take k) = cnt x X := by rw [List.take_of_length_le h]

theorem Valid_k (p : Option Addr) (c : Nat) (l : List T) (hs : Small l) (q : Option Addr) (d : Nat) (X : List Int) (w : World) (h : Tasks w p l) (hx : Ints .i64 w q X) : FnP Try.prog F_due_Valid #[.slice p l.length c, .slice q X.length d] w fun v w' =>
    Ext w w' ∧ ∃ b, v = .tuple #[.bool b, .int .i64 (errC l)] ∧ (¬ okL l → b = false) ∧ (okL l → (b = true ↔ ValidR l X)) := by
  refine ok_due_Valid p l.length c q X.length d w _ ?_
  intro w0 h0
  refine (check_k p c l hs.1 hs.2 w0 (h.ext h0)).mono fun v w1 ⟨e1, hv⟩ => ⟨e1, _, hv, fun hne w3 h3 => ⟨h3, _, rfl, fun _ => rfl, fun hok => absurd (errC_ok.2 hok) hne⟩, fun he => ?_⟩
  have hok := errC_ok.1 he
  have hlen := hok.1
  have fin : ∀ (b : Bool) (w' : World), Ext w w' → (b = true ↔ ValidR l X) → Ext w w' ∧ ∃ b', Value.tuple #[.bool b, .int .i64 0] = .tuple #[.bool b', .int .i64 (errC l)] ∧ (¬ okL l → b' = false) ∧ (okL l → (b' = true ↔ ValidR l X)) :=
    fun b w' hw hb => ⟨hw, b, by rw [he], fun hno => absurd hok hno, fun _ => hb⟩
  have bad : ∀ (w' : World), Ext w w' → ¬ ValidR l X → Ext w w' ∧ ∃ b', Value.tuple #[.bool false, .int .i64 0] = .tuple #[.bool b', .int .i64 (errC l)] ∧ (¬ okL l → b' = false) ∧ (okL l → (b' = true ↔ ValidR l X)) :=
    fun w' hw hb => fin false w' hw ⟨fun h => by simp at h, fun h => absurd h hb⟩
  refine ⟨fun hn w3 h3 => bad w3 h3 (fun hv => by have := hv.1; omega), fun hn w3 h3 => ?_⟩
  have hX : X.length = 200 := by omega
  have hB3 := h3.size
  refine mk_ints elem_sl_int (by omega) (by omega) (by omega) fun w4 o5 e4 => ⟨e4, _, _, _, rfl, ?_⟩
  have o5 := o5 w.heap.size hB3
  have hx4 : Ext w w4 := h3.trans e4
  simp only [Int.toNat_natCast] at o5 ⊢
  revert o5
  generalize (some (⟨w3.heap.size, 0, none⟩ : Addr)) = q5
  intro o5
  refine ⟨fun k w' => ∃ L : List Int, Ext w w' ∧ Own w.heap.size w' T_int 1 q5 l.length l.length (L.map (.int .i64)) ∧ 0 ≤ k ∧ k ≤ l.length ∧ ∀ i : Nat, (i : Int) < k → L.getD i 0 = (tk l i).n, fun k _ => (l.length - k).toNat, ⟨_, hx4, o5, by omega, by omega, fun i hi => by omega⟩, ?_⟩
  rintro k w10 ⟨L, hw, o5, hk0, hk1, hL⟩
  have lenL := o5.leni
  refine ⟨fun hlt => ?_, fun hge => ?_⟩
  · obtain ⟨h1, h2, h3, h4, h5⟩ := tasks_at (h.ext hw) hk0 hlt
    refine ⟨h1, hk0, hlt, h2, _, h3, _, h4, _, h5, fun b14 hb => ⟨o5.ne1 (by omega) (by omega), hk0, hlt, ?_⟩⟩
    refine store_int o5 hk0 (by omega) (o5.free hb) fun w15 o5' g => ⟨i64 (by omega), ⟨_, g.ext hw o5, o5', by omega, by omega, fun i hi => ?_⟩, by simp only []; omega⟩
    rw [getD_set _ _ _ _ _ (by omega)]
    by_cases hik : i = k.toNat
    · rw [if_pos hik, hik]
    · rw [if_neg hik]; exact hL i (by omega)
  · obtain rfl : k = l.length := by omega
    refine ⟨fun k w' => ∃ L : List Int, Ext w w' ∧ Own w.heap.size w' T_int 1 q5 l.length l.length (L.map (.int .i64)) ∧ 0 ≤ k ∧ k ≤ 200 ∧ (∀ i : Nat, i < l.length → L.getD i 0 = (tk l i).n - cnt i (X.take k.toNat)) ∧ (∀ t : Nat, (t : Int) < k → SlotOk l t (X.getD t 0)), fun k _ => (200 - k).toNat,
      ⟨L, hw, o5, by omega, by omega, fun i hi => by rw [hL i (by omega)]; simp [cnt], fun t ht => by omega⟩, ?_⟩
    clear lenL o5 hL hw hk0 hk1 hge
    rintro k w13 ⟨L, hw, o5, hk0, hk1, hL, hok'⟩
    have lenL := o5.leni
    have hT := h.ext hw
    refine ⟨fun hlt => ?_, fun hge => ?_⟩
    · have hXk := Ints.idx (hx.ext hw) hk0 (by omega)
      have hk' : (k + 1).toNat = k.toNat + 1 := by omega
      have hkk : ((k.toNat : Nat) : Int) = k := by omega
      have slot : ∀ {P : Prop}, ¬ SlotOk l k.toNat (X.getD k.toNat 0) → ¬ ValidR l X := fun hn hv => hn (hv.2.1 _ (by omega))
      have next : SlotOk l k.toNat (X.getD k.toNat 0) → ∀ t : Nat, (t : Int) < k + 1 → SlotOk l t (X.getD t 0) := by
        intro hs t ht
        by_cases htk : (t : Int) < k
        · exact hok' t htk
        · obtain rfl : t = k.toNat := by omega
          exact hs
      have cnext : ∀ i : Nat, cnt i (X.take (k + 1).toNat) = cnt i (X.take k.toNat) + if X.getD k.toNat 0 = i then 1 else 0 := fun i => by
        rw [hk', cnt_take_succ _ _ (by omega)]
      refine ⟨fun hq => cell_p hXk (pIdx_none.2 hq), hk0, hlt, _, hXk, ?_⟩
      revert hXk slot next cnext
      generalize hx0 : X.getD k.toNat 0 = x
      intro hXk slot next cnext
      refine ⟨fun hm => ⟨i64 (by omega), ⟨L, hw, o5, by omega, by omega, fun i hi => ?_, next (.inl hm)⟩, by simp only []; omega⟩, fun hm => ?_⟩
      · rw [cnext, if_neg (by omega), hL i hi]; omega
      · refine ⟨fun hr => (tasks_at hT hr.1 hr.2).1, fun hr => hr.1, fun hr => hr.2, fun hr => (tasks_at hT hr.1 hr.2).2.1, fun hr w15 h15 => bad w15 (hw.trans h15) (slot (P := True) ?_), fun hr => ?_⟩
        · rintro (h | ⟨i, hi, h, _⟩) <;> omega
        · obtain ⟨f1, f2, f3⟩ := tasks_fld hT hr.1 hr.2
          obtain ⟨t1, t2, _⟩ := tasks_at hT hr.1 hr.2
          have hxx : ((x.toNat : Nat) : Int) = x := by omega
          refine ⟨_, f1, fun _ => t1, fun _ => hr.1, fun _ => hr.2, fun _ => t2, fun hb w16 h16 => bad w16 (hw.trans h16) (slot (P := True) ?_), fun ha => ⟨_, f2, fun hb w17 h17 => bad w17 (hw.trans h17) (slot (P := True) ?_), fun hd => ?_⟩⟩
          · rintro (h | ⟨i, hi, h, h', _⟩)
            · omega
            · obtain rfl : i = x.toNat := by omega
              omega
          · rintro (h | ⟨i, hi, h, _, h'⟩)
            · omega
            · obtain rfl : i = x.toNat := by omega
              omega
          · have hl := hL x.toNat (by omega)
            have hc0 := cnt_nonneg x.toNat (X.take k.toNat)
            have hc1 : cnt x.toNat (X.take k.toNat) ≤ 200 := by
              have := cnt_le_length x.toNat (X.take k.toNat)
              rw [List.length_take] at this; omega
            have hn := okT_at hok (i := x.toNat) (by omega)
            unfold okT at hn
            refine ⟨o5.ne1 (by omega) (by omega), hr.1, hr.2, _, o5.int_at hr.1 (by omega), i64 (by omega), o5.ne1 (by omega) (by omega), hr.1, hr.2, ?_⟩
            refine store_int o5 hr.1 (by omega) (by simp) fun w18 o5' g => ⟨i64 (by omega), ⟨_, g.ext hw o5, o5', by omega, by omega, fun i hi => ?_, next (.inr ⟨x.toNat, by omega, by omega, by omega, by omega⟩)⟩, by simp only []; omega⟩
            rw [getD_set _ _ _ _ _ (by omega), cnext]
            by_cases hix : i = x.toNat
            · subst hix; rw [if_pos rfl, if_pos (by omega), hl]; omega
            · rw [if_neg hix, if_neg (by omega), hL i hi]; omega
    · obtain rfl : k = 200 := by omega
      refine ⟨fun k w' => w' = w13 ∧ 0 ≤ k ∧ k ≤ l.length ∧ ∀ i : Nat, (i : Int) < k → L.getD i 0 = 0, fun k _ => (l.length - k).toNat, ⟨rfl, by omega, by omega, fun i hi => by omega⟩, ?_⟩
      rintro k _ ⟨rfl, hk0, hk1, hz⟩
      have hcount : ∀ i : Nat, i < l.length → L.getD i 0 = (tk l i).n - cnt i X := fun i hi => by rw [hL i hi, cnt_take_all (by omega)]
      refine ⟨fun hlt => ⟨o5.ne1 (by omega) (by omega), hk0, hlt, _, o5.int_at hk0 (by omega), fun hne w18 h18 => bad w18 (hw.trans h18) (fun hv => hne ?_), fun he0 => ⟨i64 (by omega), ⟨rfl, by omega, by omega, fun i hi => ?_⟩, by simp only []; omega⟩⟩, fun hge w17 h17 => fin true w17 (hw.trans h17) ⟨fun _ => ⟨hX, fun t ht => hok' t (by omega), fun i hi => ?_⟩, fun _ => rfl⟩⟩
      · rw [hcount _ (by omega), hv.2.2 _ (by omega)]; omega
      · by_cases hik : (i : Int) < k
        · exact hz i hik
        · obtain rfl : i = k.toNat := by omega
          exact he0
      · have := hz i (by omega)
        rw [hcount i hi] at this; omega
end Go.Proofs.Ytnclaokllghaoaa
