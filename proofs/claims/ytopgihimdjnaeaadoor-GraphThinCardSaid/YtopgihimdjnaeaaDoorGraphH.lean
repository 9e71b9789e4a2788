/- The thin graph; the law GraphThin. -/
import Derived.Test.YtopgihimdjnaeaaDoorGraphR
set_option linter.unusedVariables false
set_option linter.unusedSimpArgs false
namespace Go.Proofs.YtopgihimdjnaeaaDoor
open Go.Sx Go.RowKit

theorem nodup_sub {α : Type} : ∀ {l m : List α}, l.Nodup → (∀ x ∈ l, x ∈ m) → l.length ≤ m.length
  | [], _, _, _ => Nat.zero_le _
  | a :: l, m, hn, hs => by
    obtain ⟨s, t, rfl⟩ := List.append_of_mem (hs a (List.mem_cons_self ..))
    rw [List.nodup_cons] at hn
    have := nodup_sub (l := l) (m := s ++ t) hn.2 (fun x hx => by
      have := hs x (List.mem_cons_of_mem _ hx)
      simp only [List.mem_append, List.mem_cons] at this ⊢
      rcases this with h | rfl | h
      · exact .inl h
      · exact absurd hx hn.1
      · exact .inr h)
    simp only [List.length_append, List.length_cons] at this ⊢
    omega

theorem relB_nodup (A : Nat → Nat → Prop) (i : Nat) : (relB A i).Nodup := by
  unfold relB
  refine List.Pairwise.map _ (fun a b h => ?_) (List.Pairwise.filter _ List.nodup_range)
  simp; omega
theorem edsF_nodup {N : Nat} {B : Nat → List Int} (h : ∀ i, (B i).Nodup) : (edsF N B).Nodup := by
  induction N with
  | zero => simp [edsF]
  | succ n ih =>
    rw [edsF_succ]
    refine List.nodup_append.2 ⟨ih, List.Pairwise.map _ (fun a b h => by simpa using h) (h n), fun a ha b hb => ?_⟩
    obtain ⟨i, hi, h1, _⟩ := edsF_mem.1 ha
    simp only [List.mem_map] at hb
    obtain ⟨x, _, rfl⟩ := hb
    intro he
    rw [he] at h1; simp at h1; omega
theorem relE_nodup (N : Nat) (A : Nat → Nat → Prop) : (relE N A).Nodup := edsF_nodup fun i => relB_nodup A i

/-- The edges that no way goes round. -/
def Th (L : List E) (N i j : Nat) : Prop := Adj L i j ∧ ¬ ∃ k, Beh L N i k ∧ Beh L N k j
noncomputable def thin (L : List E) (N : Nat) : List E := relE N (Th L N)

theorem thin_mem {L : List E} {N : Nat} {e : E} (h : e ∈ thin L N) : e ∈ L ∧ ∃ i j : Nat, e.f = i ∧ e.t = j ∧ Th L N i j := by
  obtain ⟨i, j, h1, h2, _, _, h3⟩ := relE_mem.1 h
  refine ⟨?_, i, j, h1, h2, h3⟩
  obtain ⟨d, hd, g1, g2⟩ := h3.1
  have : e = d := by cases e; cases d; simp_all
  rw [this]; exact hd
theorem thin_le {L : List E} {N : Nat} : (thin L N).length ≤ L.length := nodup_sub (relE_nodup _ _) fun e he => (thin_mem he).1
theorem thin_ok {N : Nat} {L : List E} (hok : okG N L) : okG N (thin L N) :=
  ⟨hok.1, hok.2.1, Nat.le_trans thin_le hok.2.2.1, fun e he => hok.2.2.2 e (thin_mem he).1⟩
theorem beh_mono {N : Nat} {L M : List E} (h : ∀ e ∈ L, e ∈ M) {i j : Nat} (hb : Beh L N i j) : Beh M N i j :=
  Via.congr (fun _ _ ⟨e, he, h1, h2⟩ => ⟨e, h e he, h1, h2⟩) hb
theorem thin_beh {N : Nat} {L : List E} {A : List Int} (hok : okG N L) (hA : Topo N L A) {i j : Nat} : Beh (thin L N) N i j ↔ Beh L N i j := by
  refine ⟨beh_mono fun e he => (thin_mem he).1, fun h => ?_⟩
  have key : ∀ d i j p q : Nat, A[p]? = some (i : Int) → A[q]? = some (j : Int) → q ≤ p + d → Beh L N i j → Beh (thin L N) N i j := by
    intro d
    induction d with
    | zero => intro i j p q hp hq hd hb; have := hA.rise hb hp hq; omega
    | succ d ih =>
      intro i j p q hp hq hd hb
      by_cases hm : ∃ k, Beh L N i k ∧ Beh L N k j
      · obtain ⟨k, h1, h2⟩ := hm
        have hk := (beh_lt hok h1).2
        obtain ⟨r, hr, _⟩ := hA.place hk
        have r1 := hA.rise h1 hp hr
        have r2 := hA.rise h2 hr hq
        exact .mid (ih i k p r hp hr (by omega) h1) (ih k j r q hr hq (by omega) h2) hk
      · have hadj : Adj L i j := by
          cases hb with
          | edge h => exact h
          | mid h1 h2 _ => exact absurd ⟨_, h1, h2⟩ hm
        have hl := beh_lt hok hb
        have hN : N ≤ 60 := by have := hok.2.1; omega
        exact .edge ⟨⟨i, j⟩, relE_mem.2 ⟨i, j, rfl, rfl, hl.1, by omega, hadj, hm⟩, rfl, rfl⟩
  have hl := beh_lt hok h
  obtain ⟨p, hp, _⟩ := hA.place hl.1
  obtain ⟨q, hq, _⟩ := hA.place hl.2
  exact key q i j p q hp hq (by omega) h

/-- With an edge less: it is not the same. -/
theorem thin_less {N : Nat} {L : List E} (hok : okG N L) {at_ : Nat} (hat : at_ < (thin L N).length) :
    (relE N (Beh ((thin L N).eraseIdx at_) N)).length < (relE N (Beh L N)).length := by
  have hN : N ≤ 60 := by have := hok.2.1; omega
  have hmem := List.getElem_mem hat
  obtain ⟨hL, i, j, h1, h2, hT⟩ := thin_mem hmem
  have hsub : ∀ e ∈ (thin L N).eraseIdx at_, e ∈ L := fun e he => (thin_mem (List.mem_of_mem_eraseIdx he)).1
  have hno : (thin L N)[at_] ∉ (thin L N).eraseIdx at_ := by
    have hn := relE_nodup N (Th L N)
    have hn' : ((thin L N).take at_ ++ (thin L N)[at_] :: (thin L N).drop (at_ + 1)).Nodup := by
      rw [List.getElem_cons_drop, List.take_append_drop]; exact hn
    rw [List.eraseIdx_eq_take_drop_succ]
    intro hm
    have := List.nodup_append.1 hn'
    rcases List.mem_append.1 hm with h | h
    · exact this.2.2 _ h _ (List.mem_cons_self ..) rfl
    · exact (List.nodup_cons.1 this.2.1).1 h
  have hnb : ¬ Beh ((thin L N).eraseIdx at_) N i j := by
    intro hb
    cases hb with
    | edge h =>
      obtain ⟨d, hd, g1, g2⟩ := h
      refine hno ?_
      have : (thin L N)[at_] = d := by
        generalize (thin L N)[at_] = e at h1 h2
        cases e; cases d; simp_all
      rw [this]; exact hd
    | mid a b _ => exact hT.2 ⟨_, beh_mono hsub a, beh_mono hsub b⟩
  have hB : Beh L N i j := .edge hT.1
  have hl := beh_lt hok hB
  have hin : ∀ (R : Nat → Nat → Prop), (⟨(i : Int), (j : Int)⟩ : E) ∈ relE N R ↔ R i j := fun R => by
    rw [relE_mem]
    constructor
    · rintro ⟨a, b, g1, g2, _, _, h⟩
      simp at g1 g2
      obtain rfl : i = a := by omega
      obtain rfl : j = b := by omega
      exact h
    · intro h; exact ⟨i, j, rfl, rfl, hl.1, by omega, h⟩
  have := nodup_sub (l := (⟨(i : Int), (j : Int)⟩ : E) :: relE N (Beh ((thin L N).eraseIdx at_) N)) (m := relE N (Beh L N))
    (List.nodup_cons.2 ⟨fun h => hnb ((hin _).1 h), relE_nodup _ _⟩) (fun e he => by
      rcases List.mem_cons.1 he with rfl | he
      · exact (hin _).2 hB
      · obtain ⟨a, b, g1, g2, g3, g4, g5⟩ := relE_mem.1 he
        exact relE_mem.2 ⟨a, b, g1, g2, g3, g4, beh_mono hsub g5⟩)
  simp only [List.length_cons] at this; omega

theorem Thin_k (n : Int) (p : Option Addr) (c : Nat) (L : List E) (h63 : (L.length : Int) ≤ 9223372036854775807) (w : World) (h : Edges w p L) (hg : GL w) :
    FnP Tryd.prog F_graph_Thin #[.int .i64 n, .slice p L.length c] w fun v w' => Ext w w' ∧ ∃ q m d e, v = .tuple #[.slice q m d, .int .i64 e] ∧ (e ≠ 0 → m = 0) ∧
      (e = 0 → okG n L ∧ (∃ A, Topo n.toNat L A) ∧ m = (thin L n.toNat).length ∧ Own w.heap.size w' T_Edge 2 q m d ((thin L n.toNat).flatMap encE)) := by
  refine ok_graph_Thin n p L.length c w _ ?_
  intro w0 h0
  refine (Order_k n p c L h63 w0 (h.ext h0)).mono fun v w1 ⟨e1, q0, m0, d0, e, hv, ho1, ho2⟩ => ⟨e1, q0, m0, d0, e, hv, fun hne w6 h6 => ⟨(h0.trans e1).trans h6, _, _, _, _, rfl, fun _ => rfl, fun he => absurd he hne⟩, fun he w6 h6 => ?_⟩
  have hx6 := (h0.trans e1).trans h6
  have hok : okG n L := Classical.byContradiction fun hno => hno (errG_ok.1 ((ho1 hno).1 ▸ he))
  have hA : ∃ A, Topo n.toNat L A := by
    rcases ho2 hok with ⟨_, _, A, _, hA⟩ | ⟨h8, _⟩
    · exact ⟨A, hA⟩
    · omega
  obtain ⟨N, rfl⟩ : ∃ N : Nat, n = N := ⟨n.toNat, by have := hok.1; omega⟩
  have hN : N ≤ 60 := by have := hok.2.1; omega
  simp only [Int.toNat_natCast] at hA ⊢
  refine (rows_k N p c L hok w6 (h.ext hx6)).mono fun v w7 ⟨e7, q, R, hv, hq, o, hR⟩ => ⟨e7, q, N, N, hv, fun w11 h11 => ?_⟩
  have o11 := o.ext h11
  refine (closed_k N hN q N R (Adj L) hR hq w11 o11.cells).mono fun v w12 ⟨e12, q2, d2, C, hv, o2, hC⟩ => ⟨e12, q2, N, d2, hv, ?_⟩
  have hC := rows_closed hok hC
  have lenC := hC.len
  have hx11 : Ext w w11 := (hx6.trans e7).trans h11
  have hx12 : Ext w w12 := hx11.trans e12
  have hap : Apart q2 q := fun a b ha hb he => by
    have h1 := (o2.lt a ha).1
    have h2 := (o11.lt b hb).2
    omega
  have o2 := o2.weak (B' := w.heap.size) hx11.size
  have o12 := (o11.ext e12).weak (B' := w.heap.size) hx6.size
  have hCb : ∀ k, k < N → ∀ x ∈ bitsOf (C.getD k 0), 0 ≤ x ∧ x < N ∧ Beh L N k x.toNat := fun k hk x hx => by
    have h0 := bitsOf_nonneg hx
    rw [show x = ((x.toNat : Nat) : Int) by omega, bitsOf_mem, hC.bit k hk] at hx
    have := beh_lt hok hx
    exact ⟨h0.1, by omega, hx⟩
  clear o o11 hv e12
  refine ⟨fun k w' => ∃ R' : List Int, Ext w w' ∧ 0 ≤ k ∧ k ≤ N ∧ Own w.heap.size w' T_uint64 1 q N N (R'.map (.int .u64)) ∧ Own w.heap.size w' T_uint64 1 q2 N d2 (C.map (.int .u64)) ∧
    ∀ i, i < N → U (R'.getD i 0) ∧ ∀ j, tb (R'.getD i 0) j = true ↔ if (i : Int) < k then Th L N i j else Adj L i j, fun k _ => (N - k).toNat,
    ⟨R, hx12, by omega, by omega, o12, o2, fun i hi => ⟨hR.u i hi, fun j => by rw [if_neg (by omega)]; exact hR.bit i hi j⟩⟩, ?_⟩
  rintro k w18 ⟨R', hw18, hk0, hk1, oR, oC, hR'⟩
  have lenR' := oR.leni
  refine ⟨fun hlt => ?_, fun hge w19 h19 => ?_⟩
  · refine ⟨oC.ne1 (by omega) (by omega), hk0, by omega, _, oC.int_at hk0 (by omega), fun w20 h20 => ?_⟩
    refine (listB_k _ (hC.u k.toNat (by omega)) w20 (hg.ext (hw18.trans h20))).mono fun v w21 ⟨e21, q3, m3, d3, hv, oX⟩ => ⟨e21, q3, m3, d3, hv, ?_⟩
    have lenX := oX.leni
    subst lenX
    have hX63 := oX.le
    have hapX : Apart q3 q := fun a b ha hb he => by
      have h1 := (oX.lt a ha).1
      have h2 := ((oR.ext h20).lt b hb).2
      omega
    have hw21 := (hw18.trans h20).trans e21
    refine ⟨fun j w' => ∃ R2 : List Int, Ext w w' ∧ 0 ≤ j ∧ j ≤ (bitsOf (C.getD k.toNat 0)).length ∧ Own w.heap.size w' T_uint64 1 q N N (R2.map (.int .u64)) ∧ Own w.heap.size w' T_uint64 1 q2 N d2 (C.map (.int .u64)) ∧ Own w20.heap.size w' T_int 1 q3 (bitsOf (C.getD k.toNat 0)).length d3 ((bitsOf (C.getD k.toNat 0)).map (.int .i64)) ∧
      (∀ i, i < N → i ≠ k.toNat → R2.getD i 0 = R'.getD i 0) ∧ U (R2.getD k.toNat 0) ∧ ∀ x, tb (R2.getD k.toNat 0) x = true ↔ Adj L k.toNat x ∧ ∀ y ∈ (bitsOf (C.getD k.toNat 0)).take j.toNat, ¬ Beh L N y.toNat x, fun j _ => ((bitsOf (C.getD k.toNat 0)).length - j).toNat,
      ⟨R', hw21, by omega, by omega, (oR.ext h20).ext e21, (oC.ext h20).ext e21, oX, fun _ _ _ => rfl, (hR' k.toNat (by omega)).1, fun x => by rw [(hR' k.toNat (by omega)).2, if_neg (by omega)]; simp⟩, ?_⟩
    rintro j w27 ⟨R2, hw27, hj0, hj1, oR2, oC2, oX2, hsame, hU2, hb2⟩
    have lenR2 := oR2.leni
    refine ⟨fun hjlt => ?_, fun hjge => ⟨i64 (by omega), ⟨R2, hw27, by omega, by omega, oR2, oC2, fun i hi => ?_⟩, by simp only []; omega⟩⟩
    · have hm := getD_mem (bitsOf (C.getD k.toNat 0)) 0 (i := j.toNat) (by omega)
      obtain ⟨x0, x1, x2⟩ := hCb k.toNat (by omega) _ hm
      generalize hxv : (bitsOf (C.getD k.toNat 0)).getD j.toNat 0 = x at x0 x1 x2 hm
      have gx := oX2.int_at hj0 (by omega)
      rw [hxv] at gx
      refine ⟨oX2.ne1 (by omega) (by omega), hj0, by omega, _, gx, hq, hk0, hlt, _, oR2.int_at hk0 (by omega), oC2.ne1 (by omega) (by omega), x0, x1, _, oC2.int_at x0 (by omega), hq, hk0, hlt, ?_⟩
      refine store_int oR2 hk0 (by omega) (by simp) fun w31 o' g => ⟨i64 (by omega), ⟨_, g.ext hw27 oR2, by omega, by omega, o', oC2.grew (B' := 0) hap g, oX2.grew (B' := 0) hapX g, fun i hi hik => ?_, ?_, fun y => ?_⟩, by simp only []; omega⟩
      · rw [getD_set _ _ _ _ _ (by omega), if_neg hik]; exact hsame i hi hik
      · rw [getD_set _ _ _ _ _ (by omega), if_pos rfl]; exact U_andNot _ _
      · rw [getD_set _ _ _ _ _ (by omega), if_pos rfl, tb_andNot, Bool.and_eq_true, hb2, Bool.not_eq_true', ← Bool.not_eq_true, hC.bit x.toNat (by omega)]
        rw [show (j + 1).toNat = j.toNat + 1 by omega, List.take_add_one, getElem?_getD (bitsOf (C.getD k.toNat 0)) 0 (by omega), hxv]
        simp only [Option.toList_some, List.mem_append, List.mem_singleton]
        constructor
        · rintro ⟨⟨h1, h2⟩, h3⟩
          exact ⟨h1, fun y hy => hy.elim (h2 y) fun h => by rw [h]; exact h3⟩
        · rintro ⟨h1, h2⟩
          exact ⟨⟨h1, fun y hy => h2 y (.inl hy)⟩, h2 x (.inr rfl)⟩
    · by_cases hik : i = k.toNat
      · subst hik
        refine ⟨hU2, fun x => ?_⟩
        rw [hb2, if_pos (by omega), List.take_of_length_le (by omega)]
        unfold Th
        refine and_congr_right fun _ => ?_
        constructor
        · rintro h ⟨z, h1, h2⟩
          refine h (z : Int) ?_ (by simpa using h2)
          rw [bitsOf_mem, hC.bit _ hi]; exact h1
        · intro h y hy hb
          exact h ⟨y.toNat, (hCb _ hi y hy).2.2, hb⟩
      · rw [hsame i hi hik]
        refine ⟨(hR' i hi).1, fun x => ?_⟩
        rw [(hR' i hi).2]
        by_cases hik2 : (i : Int) < k
        · rw [if_pos hik2, if_pos (by omega)]
        · rw [if_neg hik2, if_neg (by omega)]
  · obtain rfl : k = N := by omega
    have hx19 := hw18.trans h19
    refine (edges_k N hN q N R' lenR' (fun i hi => (hR' i hi).1) w19 (oR.ext h19).cells (hg.ext hx19)).mono fun v w20 ⟨e20, q3, m3, d3, hv, oE⟩ => ⟨e20, q3, m3, d3, hv, fun w24 h24 => ⟨(hx19.trans e20).trans h24, _, _, _, _, rfl, fun hne => absurd rfl hne, fun _ => ⟨hok, hA, ?_⟩⟩⟩
    have hE : (edsF N fun i => bitsOf (R'.getD i 0)) = thin L N := edsF_congr fun i hi => bits_rel fun j => by
      rw [(hR' i hi).2, if_pos (by omega)]
    rw [hE] at oE
    have hlen := oE.len
    rw [encE_len] at hlen
    exact ⟨by omega, (oE.weak hx19.size).ext h24⟩

theorem CloneE_k (q : Option Addr) (c : Nat) (D : List E) (h60 : D.length ≤ 100000) (w : World) (hD : Edges w q D) :
    FnP Tryd.prog F_slices_Clone_api_Edge_api_Edge #[.slice q D.length c] w fun v w' => Ext w w' ∧ ∃ p' c', v = .slice p' D.length c' ∧ Own w.heap.size w' T_Edge 2 p' D.length c' (D.flatMap encE) := by
  refine ok_slices_Clone_api_Edge_api_Edge q D.length c w _ ⟨fun hn w0 h0 => ?_, fun hn w0 h0 => ?_⟩
  · cases D with
    | nil => exact ⟨h0, none, 0, rfl, Own.nil⟩
    | cons x r => exact absurd hn (edges_at hD (k := 0) (by omega) (by simp)).1
  · refine run_lit0 elem_sl_Edge fun w1 o1 e1 => ⟨e1, _, _, _, rfl, fun w5 h5 => ?_⟩
    have o5 := (o1 w.heap.size h0.size).ext h5
    have hx5 := (h0.trans e1).trans h5
    refine run_app elem_sl_Edge (by omega) o5 hx5.size hn (news := D.flatMap encE) (by rw [encE_len]) (fun i v hv => ?_) (fun u hu => ?_) (by omega) (by omega) fun p' c' w6 o6 g6 _ => ⟨_, _, _, rfl, fun w10 h10 => ?_⟩
    · have hi := (List.getElem?_eq_some_iff.1 hv).1
      rw [encE_len] at hi
      have hr := hD.ext hx5
      have h2 : (D.flatMap encE)[i]? = (encE (D.getD (i / 2) default))[i % 2]? := by
        clear hv hr hD h60
        revert i
        induction D with
        | nil => intro i hi; simp at hi
        | cons a r ih =>
          intro i hi
          rw [List.flatMap_cons]
          match i, hi with
          | 0, _ => rfl
          | 1, _ => rfl
          | i + 2, hi =>
            rw [List.getElem?_append_right (by simp [encE])]
            simp only [encE, List.length_cons, List.length_nil, Nat.add_sub_cancel]
            have := ih i (by simp at hi; omega)
            rw [show (i + 2) / 2 = i / 2 + 1 by omega, show (i + 2) % 2 = i % 2 by omega]
            simpa [encE] using this
      rw [h2] at hv
      have := hr (i / 2) (D.getD (i / 2) default) (getElem?_getD D default (by omega)) (i % 2) v hv
      rwa [show i / 2 * 2 + i % 2 = i by omega] at this
    · obtain ⟨x, _, hx⟩ := List.mem_flatMap.1 hu
      simp [encE] at hx
      rcases hx with rfl | rfl <;> rfl
    · simp only [Nat.zero_add, List.nil_append] at o6 ⊢
      exact ⟨(g6.ext hx5 o5).trans h10, p', c', rfl, o6.ext h10⟩

theorem flat_take (L : List E) (m : Nat) : (L.flatMap encE).take (m * 2) = (L.take m).flatMap encE := by
  induction L generalizing m with
  | nil => simp
  | cons a r ih =>
    cases m with
    | zero => simp
    | succ m => rw [List.flatMap_cons, List.take_succ_cons, List.flatMap_cons, ← ih m, show (m + 1) * 2 = (encE a).length + m * 2 by simp [encE]; omega, List.take_length_add_append]
theorem flat_drop (L : List E) (m : Nat) : (L.flatMap encE).drop (m * 2) = (L.drop m).flatMap encE := by
  induction L generalizing m with
  | nil => simp
  | cons a r ih =>
    cases m with
    | zero => simp
    | succ m => rw [List.flatMap_cons, List.drop_succ_cons, ← ih m, show (m + 1) * 2 = (encE a).length + m * 2 by simp [encE]; omega, List.drop_length_add_append]
theorem oneE (L : List E) : ∀ u ∈ L.flatMap encE, u.oneCell' = true := fun u hu => by
  obtain ⟨x, _, hx⟩ := List.mem_flatMap.1 hu
  simp [encE] at hx
  rcases hx with rfl | rfl <;> rfl

theorem DeleteE_k (B : Nat) (q : Option Addr) (c : Nat) (D : List E) (i : Nat) (hi : i < D.length) (w : World) (o : Own B w T_Edge 2 q D.length c (D.flatMap encE)) :
    FnP Tryd.prog F_slices_Delete_api_Edge_api_Edge #[.slice q D.length c, .int .i64 i, .int .i64 ((i : Int) + 1)] w fun v w' => Grew w w' q q ∧ v = .slice q (D.eraseIdx i).length c ∧ Own B w' T_Edge 2 q (D.eraseIdx i).length c ((D.eraseIdx i).flatMap encE) := by
  have hle := o.le
  have hlen : (D.eraseIdx i).length = i + (D.length - (i + 1)) := by rw [List.length_eraseIdx, if_pos hi]; omega
  have hE : D.eraseIdx i = D.take i ++ D.drop (i + 1) := List.eraseIdx_eq_take_drop_succ ..
  refine ok_slices_Delete_api_Edge_api_Edge q D.length c i (i + 1) w _ ⟨by omega, by omega, by omega, by omega, fun h => by omega, fun _ => ⟨by omega, by omega, by omega, by omega, by omega, by omega, fun w0 h0 => ?_⟩⟩
  have o0 := o.ext h0
  simp only [pCut_zero, Int.sub_zero, Int.toNat_natCast, Int.toNat_zero, Nat.sub_zero]
  rw [show ((D.length : Int) - ((i : Int) + 1)).toNat = D.length - (i + 1) by omega]
  refine run_cut elem_sl_Edge (by omega) (j := i + 1) (n := D.length) o0 (by omega) (by omega) (by omega) (by rw [Int.natCast_add]; rfl) (oneE D) fun w1 o1 g1 => ⟨_, _, _, rfl, by omega, by omega, by omega, fun w5 h5 => ?_⟩
  have o5 := o1.ext h5
  refine run_clear elem_sl_Edge (by omega) (by intro u hu; simp [Value.cells] at hu; subst hu; rfl) o5 (by omega) (by simp) fun w6 o6 g6 => ⟨rfl, fun w7 h7 => ⟨?_, ?_, ?_⟩⟩
  · exact ⟨⟨(h7.os.trans g6.by_.os).trans ((h5.os.trans g1.by_.os).trans h0.os), (h7.tape.trans g6.by_.tape).trans ((h5.tape.trans g1.by_.tape).trans h0.tape), (h7.output.trans g6.by_.output).trans ((h5.output.trans g1.by_.output).trans h0.output),
      Nat.le_trans h0.size (Nat.le_trans g1.size (Nat.le_trans h5.size (Nat.le_trans g6.size h7.size))), fun k hk hb => by
        have s0 := h0.size; have s1 := g1.size; have s5 := h5.size; have s6 := g6.size
        rw [h7.block k (by omega), g6.by_.block k (by omega) hb, h5.block k (by omega), g1.by_.block k (by omega) hb, h0.block k (by omega)]⟩, .inl rfl⟩
  · rw [hlen]
  · rw [flat_take, flat_drop, ← List.flatMap_append, ← hE] at o6
    rw [hlen]; exact o6.ext h7

theorem core_GraphThin (W : World) (hg : GL W) : ∀ n : Int, InR .i64 n → ∀ l : Option Addr, ∀ ll : Nat, ∀ lc : Nat, SlcArg Tryd.prog W T_Edge l ll lc → ∀ at_v : Int, InR .i64 at_v →
    FnP Tryd.prog F_shiftbellkeep_GraphThin #[.int .i64 n, .slice l ll lc, .int .i64 at_v] W fun v W' => v = .bool true ∧ Ext W W' := by
  intro n hn p ll lc hl at_v hat
  obtain ⟨L, rfl, h63, hin, hL⟩ := edges_open hl
  refine ok_shiftbellkeep_GraphThin _ _ _ _ _ W _ ?_
  intro w0 h0
  refine (graphs_k w0).mono fun v w1 ⟨e1, hv⟩ => ⟨e1, true, hv, fun h => by simp at h, fun _ w3 h3 => ?_⟩
  refine (Thin_k n p lc L h63 w3 (hL.ext h3) (hg.ext h3)).mono fun v w4 ⟨e4, qa, ma, da, e, hv, hbad, hgood⟩ => ⟨e4, qa, ma, da, e, hv, fun hne w9 h9 => ⟨b_true ?_, (h3.trans e4).trans h9⟩, fun he w9 h9 => ?_⟩
  · simp [hbad hne]
  obtain ⟨hok, ⟨A, hA⟩, rfl, oA⟩ := hgood he
  obtain ⟨N, rfl⟩ : ∃ N : Nat, n = N := ⟨n.toNat, by have := hok.1; omega⟩
  have hN : N ≤ 60 := by have := hok.2.1; omega
  simp only [Int.toNat_natCast] at hA oA ⊢
  have hx9 := (h3.trans e4).trans h9
  have hll := hok.2.2.1
  have tle := thin_le (L := L) (N := N)
  have hEA : ∀ w' : World, Ext w4 w' → Edges w' qa (thin L N) := fun w' h' => Own.recs (oA.ext h') (by intro x hx; rfl)
  refine (Close_k N p lc L h63 w9 (hL.ext hx9) (hg.ext hx9)).mono fun v w10 ⟨e10, qx, mx, dx, f, hv, _, hcx⟩ => ⟨e10, qx, mx, dx, f, hv, fun w15 h15 => ?_⟩
  have h4_15 := (h9.trans e10).trans h15
  have hx15 := (hx9.trans e10).trans h15
  refine (Close_k N qa da (thin L N) (by omega) w15 (hEA w15 h4_15) (hg.ext hx15)).mono fun v w16 ⟨e16, qy, my, dy, g, hv, _, hcy⟩ => ⟨e16, qy, my, dy, g, hv, ?_⟩
  have hx16 := hx15.trans e16
  have hcx := hcx hok
  have hcy := hcy (thin_ok hok)
  simp only [Int.toNat_natCast] at hcx hcy
  have hsame : relE N (Beh (thin L N) N) = relE N (Beh L N) := relE_congr fun _ _ _ => thin_beh hok hA
  rw [hsame] at hcy
  have hfg : f = g := by
    rcases Nat.lt_or_ge 400 (relE N (Beh L N)).length with h | h
    · rw [(hcx.1 h).1, (hcy.1 h).1]
    · rw [(hcx.2 h).1, (hcy.2 h).1]
  refine ⟨fun hne => absurd hfg hne, fun _ w21 h21 => ?_⟩
  have T' : ∀ {w' : World} {b : Bool}, b = true → Ext w16 w' → Value.bool b = .bool true ∧ Ext W w' := fun hb h => ⟨by rw [hb], hx16.trans h⟩
  have hEq : FnP Tryd.prog F_slices_Equal_api_Edge_api_Edge #[.slice qx mx dx, .slice qy my dy] w21 fun v w' => Ext w21 w' ∧ v = .bool true := by
    rcases Nat.lt_or_ge 400 (relE N (Beh L N)).length with h | h
    · rw [(hcx.1 h).2, (hcy.1 h).2]
      refine (EqualE_k qx dx [] qy dy [] (by simp) w21 (fun i x hx => by simp at hx) (fun i x hx => by simp at hx)).mono fun v w' ⟨h1, t, hv, ht⟩ => ⟨h1, ?_⟩
      rw [hv, ht.2 rfl]
    · obtain ⟨_, rfl, ox⟩ := hcx.2 h
      obtain ⟨_, rfl, oy⟩ := hcy.2 h
      have h10_21 := (h15.trans e16).trans h21
      refine (EqualE_k qx dx _ qy dy _ (by omega) w21 (Own.recs (ox.ext h10_21) (by intro x hx; rfl)) (Own.recs (oy.ext h21) (by intro x hx; rfl))).mono fun v w' ⟨h1, t, hv, ht⟩ => ⟨h1, ?_⟩
      rw [hv, ht.2 rfl]
  refine hEq.mono fun v w22 ⟨e22, hv⟩ => ⟨e22, true, hv, fun hbad => ?_, fun _ => ?_⟩
  · exfalso
    rcases hbad with h | h
    · cases h
    · omega
  refine ⟨fun j w' => Ext w16 w' ∧ 0 ≤ j ∧ j ≤ (thin L N).length, fun j _ => ((thin L N).length - j).toNat, ⟨Ext.refl _, by omega, by omega⟩, ?_⟩
  rintro j w26 ⟨hw26, hj0, hj1⟩
  have h4_26 := (h4_15.trans e16).trans hw26
  have hx26 := hx16.trans hw26
  refine ⟨fun hlt => ?_, fun hge => ⟨fun _ w27 h27 => ⟨trivial, hx26.trans h27⟩, fun hin w27 h27 => ?_⟩⟩
  · obtain ⟨g1, g2, g3, g4⟩ := edges_at (hEA w26 h4_26) hj0 hlt
    refine ⟨g1, hj0, hlt, g2, _, g3, _, g4, fun b29 _ w30 h30 => ?_⟩
    refine (ContainsE_k p lc L h63 _ _ w30 (hL.ext (hx26.trans h30))).mono fun v w31 ⟨e31, hv⟩ => ⟨e31, _, hv, fun hno => ?_, fun _ => ⟨i64 (by omega), ⟨hw26, by omega, by omega⟩, by simp only []; omega⟩⟩
    rw [decide_eq_false_iff_not] at hno
    have hm := ed_mem (L := thin L N) (i := j.toNat) (by omega)
    exact absurd ⟨_, (thin_mem hm).1, rfl, rfl⟩ hno
  · obtain ⟨⟨ha0, ha1⟩, hf0⟩ := hin
    obtain ⟨a, rfl⟩ : ∃ a : Nat, at_v = a := ⟨at_v.toNat, by omega⟩
    have hle : (relE N (Beh L N)).length ≤ 400 := by
      rcases Nat.lt_or_ge 400 (relE N (Beh L N)).length with h | h
      · have := (hcx.1 h).1; omega
      · exact h
    obtain ⟨_, rfl, ox⟩ := hcx.2 hle
    have hx27 := hx26.trans h27
    refine (CloneE_k qa da (thin L N) (by omega) w27 (hEA w27 (h4_26.trans h27))).mono fun v w28 ⟨e28, qc, dc, hv, oc⟩ => ⟨e28, qc, _, dc, hv, i64 (by omega), fun w32 h32 => ?_⟩
    have o32 := oc.ext h32
    have hx32 := (hx27.trans e28).trans h32
    refine (DeleteE_k _ qc dc (thin L N) a (by omega) w32 o32).mono fun v w33 ⟨g33, hv, o33⟩ => ⟨qc, _, dc, hv, fun w37 h37 => ?_⟩
    have hx33 : Ext W w33 := g33.ext hx32 (o32.weak hx27.size)
    have hx37 := hx33.trans h37
    have hle2 : ((thin L N).eraseIdx a).length ≤ 400 := by
      have := List.length_eraseIdx_le (thin L N) a; omega
    refine (Close_k N qc dc ((thin L N).eraseIdx a) (by omega) w37 (Own.recs (o33.ext h37) (by intro x hx; rfl)) (hg.ext hx37)).mono fun v w38 ⟨e38, qz, mz, dz, h, hv, _, hcz⟩ => ⟨e38, qz, mz, dz, h, hv, fun w43 h43 => ⟨b_true ?_, (hx37.trans e38).trans h43⟩⟩
    have hok3 : okG N ((thin L N).eraseIdx a) := ⟨hok.1, hok.2.1, hle2, fun e he => hok.2.2.2 e (thin_mem (List.mem_of_mem_eraseIdx he)).1⟩
    have hlt := thin_less hok (at_ := a) (by omega)
    have hcz := hcz hok3
    simp only [Int.toNat_natCast] at hcz
    obtain ⟨rfl, rfl, _⟩ := hcz.2 (by omega)
    simp; omega
end Go.Proofs.YtopgihimdjnaeaaDoor
