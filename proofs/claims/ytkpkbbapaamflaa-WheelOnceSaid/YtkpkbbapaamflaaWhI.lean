/- The law WheelOnce. -/
import Derived.Test.YtkpkbbapaamflaaWhH
set_option linter.unusedVariables false
set_option linter.unusedSimpArgs false
namespace Go.Proofs.Ytkpkbbapaamflaa
open Go.Sx Go.RowKit

theorem mdel_head {M : List (Int × Value)} {x : Tm} {G : List Tm} (hn : (mkeys M).Nodup) (h : M.Perm ((x :: G).map mv)) : (mdel M x.id).Perm (G.map mv) := by
  refine (mdel_perm hn h x.id).trans (List.Perm.of_eq ?_)
  congr 1
  have hnd := (mkeys_mv h).nodup_iff.1 hn
  rw [List.map_cons, List.nodup_cons] at hnd
  rw [List.filter_cons, if_neg (by simp), List.filter_eq_self]
  intro y hy
  simp only [ne_eq, decide_not, Bool.not_eq_true', decide_eq_false_iff_not]
  intro he
  exact hnd.1 (he ▸ List.mem_map_of_mem (f := (·.id)) hy)

section
variable {w : World}

/-- What is told is what waited: it is taken off. -/
theorem due_k {K E : List Tm} {p : Option Addr} {d pb qb : Nat} {M : List (Int × Value)} (o : Recs 2 encF w p (K.map fr2)) (hp : ∀ a, p = some a → a.block ≠ qb) (hc : cell w (ptr pb) 0 = some (.map (some qb))) (hne : pb ≠ qb) (hm : MapIs (Value.int .i64) w qb M) (hM : M.Perm ((K ++ E).map mv)) (hl : K.length ≤ 1000) :
    FnP Try.prog F_shiftbellkeep_WheelOnce_1 #[.slice p K.length d, .pointer (ptr pb)] w fun v w' => v = .bool true ∧ ∃ M', MapIs (Value.int .i64) w' qb M' ∧ M'.Perm (E.map mv) ∧ Fr (fun b => b = qb) w w' := by
  refine ok_shiftbellkeep_WheelOnce_1 p K.length d (ptr pb) w _ ⟨fun k w' => ∃ m : Nat, k = m ∧ m ≤ K.length ∧ ∃ M', MapIs (Value.int .i64) w' qb M' ∧ M'.Perm ((K.drop m ++ E).map mv) ∧ Fr (fun b => b = qb) w w', fun k _ => (K.length - k).toNat, ⟨0, rfl, by omega, M, hm, hM, Fr.refl _ _⟩, ?_⟩
  rintro k w2 ⟨m, rfl, hml, M', hm', hM', f⟩
  refine ⟨fun hlt => ?_, fun hge w3 h3 => ?_⟩
  · have hmk : m < K.length := by omega
    have r2 : Recs 2 encF w2 p (K.map fr2) := fun i x hx j u hu => cell_fr (o i x hx j u hu) f hp
    obtain ⟨a1, a2, a3, a4⟩ := recF_at r2 (k := (m : Int)) (by omega) (by rw [List.length_map]; omega)
    have hget : (K.map fr2).getD ((m : Int)).toNat (0, 0) = fr2 K[m] := by
      rw [Int.toNat_natCast, List.getD_eq_getElem?_getD, List.getElem?_map, List.getElem?_eq_getElem hmk]; rfl
    rw [hget] at a3 a4
    have hd : K.drop m = K[m] :: K.drop (m + 1) := List.drop_eq_getElem_cons hmk
    rw [hd, List.cons_append] at hM'
    have c2 : cell w2 (ptr pb) 0 = some (.map (some qb)) := cell_fr hc f fun a ha => by cases ha; exact hne
    refine ⟨a1, by omega, by omega, a2, _, a3, _, a4, fun b5 hb5 => ⟨_, c2, fun w7 h7 => look_k (hm'.ext h7) ?_⟩⟩
    have hg : mget M' K[m].id = some (.int .i64 K[m].t) := (mget_mem hm'.nodup).2 (hM'.mem_iff.2 (by rw [List.map_cons]; exact List.mem_cons_self ..))
    have hg' : mget M' (fr2 K[m]).2 = some (.int .i64 K[m].t) := hg
    rw [hg']
    refine ⟨Ext.refl _, K[m].t, true, rfl, fun hc => ?_, fun _ => ⟨_, c2, fun w12 x12 => ?_⟩⟩
    · rcases hc with hc | hc
      · cases hc
      · exact absurd rfl hc
    · have e12 := extB_ext x12
      refine run_delete kInt mapT (ts := [3]) (hm'.ext e12) fun w13 m13 g13 => ⟨fun b hb => ?_, rfl, i64 (by omega), ⟨m + 1, by omega, by omega, _, m13, mdel_head hm'.nodup hM', (f.tr (fr_ext e12)).tr (fr_grew g13 fun a ha => by cases ha; rfl)⟩, by simp only []; omega⟩
      refine g13.by_.block b (x12.lt b hb) fun he => ?_
      simp [blk] at he
      obtain rfl : b = b5 := by simpa using hb
      have := hm'.lt; omega
  · have hmk : m = K.length := by omega
    subst hmk
    rw [List.drop_length, List.nil_append] at hM'
    exact ⟨rfl, M', hm'.ext h3, hM', f.tr (fr_ext h3)⟩
end

theorem addF_cases (now born : Int) (L : List Tm) (t id : Int) : ((addF now born L t id).1 = 0 ∧ (addF now born L t id).2.2 = addL ⟨t, id, born + 1⟩ L ∧ ∀ y ∈ L, y.id ≠ id) ∨ ((addF now born L t id).1 ≠ 0 ∧ (addF now born L t id).2.2 = L) := by
  unfold addF
  split
  · exact .inr ⟨by simp, rfl⟩
  · split
    · exact .inr ⟨by simp, rfl⟩
    · split
      · exact .inr ⟨by simp, rfl⟩
      · rename_i hany
        split
        · exact .inr ⟨by simp, rfl⟩
        · refine .inl ⟨rfl, rfl, fun y hy he => hany ?_⟩
          rw [List.any_eq_true]; exact ⟨y, hy, by simpa using he⟩
theorem canF_cases (L : List Tm) (id : Int) : ((canF L id).1 = 0 ∧ ∃ x ∈ L, x.id = id) ∨ ((canF L id).1 ≠ 0 ∧ ∀ x ∈ L, x.id ≠ id) := by
  unfold canF
  split
  · rename_i h
    obtain ⟨x, hx, he⟩ := List.any_eq_true.1 h
    exact .inl ⟨rfl, x, hx, by simpa using he⟩
  · rename_i h
    refine .inr ⟨by simp, fun x hx he => h ?_⟩
    rw [List.any_eq_true]; exact ⟨x, hx, by simpa using he⟩
theorem canF_L (L : List Tm) (id : Int) : (canF L id).2 = L.filter fun y => decide (y.id ≠ id) := by
  unfold canF
  split
  · rfl
  · rename_i h
    rw [eq_comm, List.filter_eq_self]
    intro y hy
    have := List.any_eq_false.1 (Bool.eq_false_iff.2 h) y hy
    simpa using this
theorem K_perm (now : Int) (L : List Tm) (n : Int) : L.Perm (adK now L n ++ adL now L n) := by
  unfold adK adL
  split
  · refine List.Perm.symm ((filter_perm_split _ _ L fun x _ => ?_).trans (List.Perm.of_eq ?_))
    · simp
    · rw [List.filter_eq_self]; intro x _; simp; omega
  · simp

/-- A wheel, and the law's own map of those that wait. -/
structure OS (W w : World) (wb pb qb : Nat) (s : St) (m : Nat) (F : Nat → Prop) (M : List (Int × Value)) : Prop where
  c : CS W w wb s m F
  box : Own W.heap.size w T_map_int_int64 1 (ptr pb) 1 1 [.map (some qb)]
  map : MapIs (Value.int .i64) w qb M
  perm : M.Perm (s.L.map mv)
  np : ¬ F pb
  nq : ¬ F qb
  ne : pb ≠ qb
  qW : W.heap.size ≤ qb
section
variable {W w : World} {wb pb qb : Nat} {s : St} {m : Nat} {F : Nat → Prop} {M : List (Int × Value)}
theorem OS.at (o : OS W w wb pb qb s m F M) : cell w (ptr pb) 0 = some (.map (some qb)) := o.box.cellAt (i := 0) rfl
theorem OS.to {w' : World} (o : OS W w wb pb qb s m F M) (e : Ext W w → Ext w w') : OS W w' wb pb qb s m F M :=
  have e := e o.c.ext
  ⟨o.c.to e, o.box.ext e, o.map.ext e, o.perm, o.np, o.nq, o.ne, o.qW⟩
/-- The wheel has turned; the map not yet. -/
theorem OS.turn {w' : World} {s' : St} {m' : Nat} {F' : Nat → Prop} (o : OS W w wb pb qb s m F M) (c : CS W w' wb s' m' F') (f : Fr F w w') (g : ∀ b, F' b → F b ∨ w.heap.size ≤ b) :
    Own W.heap.size w' T_map_int_int64 1 (ptr pb) 1 1 [.map (some qb)] ∧ MapIs (Value.int .i64) w' qb M ∧ ¬ F' pb ∧ ¬ F' qb := by
  have lp := (o.box.lt _ rfl).2
  have lq := o.map.lt
  refine ⟨o.box.fr f fun a ha => by cases ha; exact o.np, o.map.fr f o.nq, fun h => ?_, fun h => ?_⟩
  · rcases g pb h with h' | h'
    · exact o.np h'
    · simp at lp; omega
  · rcases g qb h with h' | h'
    · exact o.nq h'
    · omega
/-- The map has turned as well. -/
theorem OS.mk' {w' w'' : World} {s' : St} {m' : Nat} {F' : Nat → Prop} {M' : List (Int × Value)} (o : OS W w wb pb qb s m F M) (c : CS W w' wb s' m' F') (h : Own W.heap.size w' T_map_int_int64 1 (ptr pb) 1 1 [.map (some qb)] ∧ MapIs (Value.int .i64) w' qb M ∧ ¬ F' pb ∧ ¬ F' qb)
    (f : Fr (fun b => b = qb) w' w'') (hm : MapIs (Value.int .i64) w'' qb M') (hp : M'.Perm (s'.L.map mv)) : OS W w'' wb pb qb s' m' F' M' :=
  ⟨c.fr f (fun b hb hc => by subst hc; exact h.2.2.2 hb) fun b hb => by subst hb; exact o.qW, h.1.fr f fun a ha => by cases ha; exact o.ne, hm, hp, h.2.2.1, h.2.2.2, o.ne, o.qW⟩
end

theorem core_WheelOnce (W : World) : ∀ l : Option Addr, ∀ ll : Nat, ∀ lc : Nat, SlcArg Try.prog W T_shiftbellkeep_Act l ll lc → FnP Try.prog F_shiftbellkeep_WheelOnce #[.slice l ll lc] W fun v W' => v = .bool true ∧ Ext W W' := by
  intro l ll lc hl
  obtain ⟨L0, rfl, hr, h⟩ := acts_open hl
  refine ok_shiftbellkeep_WheelOnce _ _ _ W _ fun w0 h0 => wheels_k.mono fun v w1 ⟨e1, hv⟩ => ⟨e1, true, hv, fun h => (by simp at h), fun _ => ⟨fun _ w3 h3 => ⟨rfl, h3⟩, fun hlen w3 h3 => ?_⟩⟩
  refine newS_k.mono fun v w4 ⟨e4, wb, F, hv, hF, hw⟩ => ⟨e4, _, hv, fun w6 h6 => run_makeMap (enc := Value.int .i64) fun w7 m7 e7 => ⟨e7, _, rfl, fun w9 h9 => new_own (by intro u hu; simp at hu; subst hu; rfl) fun w10 o10 e10 => ?_⟩⟩
  have c10 : CS W w10 wb ⟨0, 0, []⟩ 0 F := ⟨(hw W.heap.size h3.size).ext (((h6.trans e7).trans h9).trans e10), (((((h3.trans e4).trans h6).trans e7).trans h9).trans e10), by simp, by simp⟩
  have sW : W.heap.size ≤ w6.heap.size := Nat.le_trans h3.size (Nat.le_trans e4.size h6.size)
  have s67 := m7.lt
  have s79 := h9.size
  have oB := o10 W.heap.size (by omega)
  have lF : ∀ b, F b → b < w6.heap.size := fun b hb => by
    have := ((hw W.heap.size h3.size).ext h6).fB b hb
    exact this.2
  refine store_own (off := 0) oB (map_add0 _) (by simp) (by simp) (by simp [Value.oneCell']) (by simp) fun w11 o11 g11 => ?_
  have f11 : Fr (fun b => b = w9.heap.size) w10 w11 := fr_grew g11 fun a ha => by cases ha; rfl
  have st : OS W w11 wb w9.heap.size w6.heap.size ⟨0, 0, []⟩ 0 F [] :=
    ⟨c10.fr f11 (fun b hb hc => by have := lF b hb; omega) fun b hb => by omega, o11, ((m7.ext h9).ext e10).fr f11 (by omega), by simp, fun hc => by have := lF _ hc; omega, fun hc => by have := lF _ hc; omega, by omega, sW⟩
  generalize w9.heap.size = pb at st
  generalize w6.heap.size = qb at st
  refine ⟨fun k w' => ∃ m : Nat, k = m ∧ m ≤ L0.length ∧ ∃ s F M, OS W w' wb pb qb s m F M, fun k _ => (L0.length - k).toNat, ⟨0, rfl, by omega, _, _, _, st⟩, ?_⟩
  clear st
  rintro k w14 ⟨m, rfl, hm, s, F, M, o⟩
  have c := o.c
  refine ⟨fun hlt => ?_, fun hge w15 h15 => ?_⟩
  · have hml : m < L0.length := by omega
    obtain ⟨a1, a2, a3, a4, a5, a6⟩ := act_at (h.ext c.ext) hml
    have ha := hr _ (List.getElem_mem hml)
    generalize L0[m] = a at a3 a4 a5 a6 ha
    have hstep : InR .i64 ((m : Int) + 1) := i64 (by omega)
    have more : ∀ (w' : World) (s' : St) (F' : Nat → Prop) (M' : List (Int × Value)), OS W w' wb pb qb s' (m + 1) F' M' → (∃ m' : Nat, ((m : Int) + 1) = m' ∧ m' ≤ L0.length ∧ ∃ s F M, OS W w' wb pb qb s m' F M) ∧ (L0.length - ((m : Int) + 1)).toNat < (L0.length - (m : Int)).toNat := fun w' s' F' M' o' => ⟨⟨m + 1, by omega, by omega, s', F', M', o'⟩, by omega⟩
    have keptq : ∀ {b0 : Nat} {w1 w2 w3 : World} {x y : Option Addr}, w14.heap.size ≤ b0 → ExtB [] [b0] w1 w2 → Grew w2 w3 (some ⟨qb, 0, none⟩) y → Kept [b0] w2 w3 := fun {b0 w1 w2 w3 x y} hb x2 g => fun b hb' => by
      refine g.by_.block b (x2.lt b hb') fun he => ?_
      simp [blk] at he
      obtain rfl : b = b0 := by simpa using hb'
      have := o.map.lt; omega
    refine ⟨a1, by omega, by omega, a2, _, a3, _, a4, _, a5, _, a6, fun b hb => ⟨fun hk w20 x20 => ?_, fun hk1 => ⟨fun hk => ⟨_, o.at, fun w21 h21 => look_k (o.map.ext h21) ?_⟩, fun hk2 w20 x20 => ?_⟩⟩⟩
    · have hs : (stp s a).L = (addF s.now s.born s.L a.at' a.id).2.2 := by unfold stp; rw [if_pos hk]
      have o20 := o.to (w' := w20) fun _ => extB_ext x20
      refine (addA_k o20.c (by omega) ha hk).mono fun v w21 ⟨hv, F', c', f', g'⟩ => ⟨kept_F c hb x20 f', _, hv, ?_⟩
      have tn := o20.turn c' f' g'
      rcases addF_cases s.now s.born s.L a.at' a.id with ⟨q1, q2, q3⟩ | ⟨q1, q2⟩
      · refine ⟨fun _ => ⟨_, tn.1.cellAt (i := 0) rfl, fun w24 x24 => ?_⟩, fun hc => absurd q1 hc⟩
        have e24 := extB_ext x24
        refine run_mapUpdate kInt mapT (tn.2.1.ext e24) fun w25 m25 g25 => ⟨keptq (x := none) hb x24 g25, hstep, more w25 _ F' _ (o20.mk' c' tn ((fr_ext e24).tr (fr_grew g25 fun a ha => by cases ha; rfl)) m25 ?_)⟩
        rw [hs, q2]
        exact mset_perm o.perm ⟨a.at', a.id, s.born + 1⟩ q3
      · refine ⟨fun hc => absurd hc q1, fun _ => ⟨hstep, more w21 _ F' _ (o20.mk' c' tn (Fr.refl _ _) tn.2.1 ?_)⟩⟩
        rw [hs, q2]; exact o.perm
    · obtain ⟨t3, t4, he, h4⟩ : ∃ t3 t4, Value.tuple #[(mget M a.id).getD (.int .i64 0), .bool (mget M a.id).isSome] = .tuple #[.int .i64 t3, .bool t4] ∧ (t4 = true ↔ ∃ y ∈ s.L, y.id = a.id) := by
        rcases look_mv o.map.nodup o.perm a.id with ⟨x, hx, hid, hg⟩ | ⟨hno, hg⟩
        · exact ⟨x.t, true, by rw [hg]; rfl, fun _ => ⟨x, hx, hid⟩, fun _ => rfl⟩
        · exact ⟨0, false, by rw [hg]; rfl, fun hc => (by cases hc), fun ⟨y, hy, hid⟩ => absurd hid (hno y hy)⟩
      refine ⟨Ext.refl _, t3, t4, he, fun w25 x25 => ?_⟩
      have hs : (stp s a).L = s.L.filter fun y => decide (y.id ≠ a.id) := by unfold stp; rw [if_neg hk1, if_pos hk, canF_L]
      have o25 := o.to (w' := w25) fun _ => extB_ext x25
      refine (canA_k o25.c (by omega) hk).mono fun v w26 ⟨hv, F', c', f', g'⟩ => ⟨kept_F c hb x25 f', _, hv, ?_⟩
      have tn := o25.turn c' f' g'
      refine ⟨_, tn.1.cellAt (i := 0) rfl, fun w29 x29 => ?_⟩
      have e29 := extB_ext x29
      refine run_delete kInt mapT (ts := [3]) (tn.2.1.ext e29) fun w30 m30 g30 => ⟨keptq (x := none) hb x29 g30, rfl, fun hbad => ?_, fun _ => ⟨hstep, more w30 _ F' _ (o25.mk' c' tn ((fr_ext e29).tr (fr_grew g30 fun a ha => by cases ha; rfl)) m30 ?_)⟩⟩
      · exfalso
        rcases canF_cases s.L a.id with ⟨q1, q2⟩ | ⟨q1, q2⟩
        · have := h4.2 q2
          rw [q1, this] at hbad; simp at hbad
        · have : t4 = false := by
            cases t4 with
            | false => rfl
            | true => obtain ⟨y, hy, hid⟩ := h4.1 rfl; exact absurd hid (q2 y hy)
          rw [this] at hbad; simp [q1] at hbad
      · rw [hs]; exact mdel_perm o.map.nodup o.perm a.id
    · have hs : (stp s a).L = adL s.now s.L a.at' := by unfold stp; rw [if_neg hk1, if_neg hk2]
      have o20 := o.to (w' := w20) fun _ => extB_ext x20
      refine (advA_k o20.c (by omega) ha hk1 hk2).mono fun v w21 ⟨p, d, F', hv, op, c', f', g', ap⟩ => ⟨kept_F c hb x20 f', _, _, _, _, hv, fun w26 x26 => ?_⟩
      have tn := o20.turn c' f' g'
      have e26 := extB_ext x26
      have hKl : (adK s.now s.L a.at').length ≤ 1000 := by
        have := c.ws.len
        have := (K_perm s.now s.L a.at').length_eq
        rw [List.length_append] at this; omega
      have lq := o20.map.lt
      refine (due_k (E := adL s.now s.L a.at') (own_F (op.ext e26)) (fun x hx hc => by have := (op.lt x hx).1; omega) (ext_cell e26 (tn.1.cellAt (i := 0) rfl)) o.ne (tn.2.1.ext e26) (o.perm.trans ((K_perm s.now s.L a.at').map mv)) hKl).mono fun v w27 ⟨hv, M', m27, p27, f27⟩ => ⟨?_, true, hv, fun hc => (by cases hc), fun _ => ⟨hstep, more w27 _ F' _ (o20.mk' c' tn ((fr_ext e26).tr f27) m27 (by rw [hs]; exact p27))⟩⟩
      exact f27.kept fun b' hb' => ⟨x26.lt b' hb', fun hc => by
        obtain rfl : b' = b := by simpa using hb'
        have := o.map.lt; omega⟩
  · have o15 := o.to (w' := w15) fun _ => h15
    have ym : adOk 16777216 := by decide
    have hmm : m ≤ 1000 := by omega
    refine (advB_k o15.c hmm (i64 (x := 16777216) (by decide))).mono fun v w16 ⟨p, d, F', hv, op, c', f', g', ap⟩ => ⟨_, _, _, _, hv, fun w21 h21 => ?_⟩
    have tn := o15.turn c' f' g'
    have hE : adL s.now s.L 16777216 = [] := by
      unfold adL; rw [if_pos ym, List.filter_eq_nil_iff]
      intro x hx
      have := c.ws.ok.hi x hx
      simp; omega
    have hz : adE 16777216 = 0 := by decide
    refine (nextS_k (c'.to h21).ws).mono fun v w22 ⟨e22, hv⟩ => ⟨e22, _, _, hv, fun _ w25 h25 => ?_, fun hc => absurd hz hc⟩
    have hKl : (adK s.now s.L 16777216).length ≤ 1000 := by
      have := c.ws.len
      have := (K_perm s.now s.L 16777216).length_eq
      rw [List.length_append] at this; omega
    have lq := o15.map.lt
    refine (due_k (E := []) (own_F (op.ext h25)) (fun x hx hc => by have := (op.lt x hx).1; omega) (ext_cell h25 (tn.1.cellAt (i := 0) rfl)) o.ne (tn.2.1.ext h25) (by
      have := o.perm.trans ((K_perm s.now s.L 16777216).map mv)
      rw [hE] at this; exact this) hKl).mono fun v w26 ⟨hv, M', m26, p26, f26⟩ => ⟨true, hv, fun _ => ⟨_, (tn.1.ext h25).fr f26 (fun a ha => by cases ha; exact o.ne) |>.cellAt (i := 0) rfl, fun w29 h29 => run_len_m mapT (m26.ext h29) ⟨Ext.refl _, _, rfl, fun w32 h32 => ⟨?_, ?_⟩⟩⟩, fun hc => by cases hc⟩
    · have hM' : M' = [] := by simpa using p26
      simp only
      rw [hM', hE]; rfl
    · exact (f26.ext ((c'.ext).trans h25) fun b hb => by subst hb; exact o.qW).trans h32
end Go.Proofs.Ytkpkbbapaamflaa
