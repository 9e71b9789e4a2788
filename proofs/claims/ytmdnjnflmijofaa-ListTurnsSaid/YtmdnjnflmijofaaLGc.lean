/- Jobs of a graph at work: what list.Graph answers. -/
import Derived.Test.YtmdnjnflmijofaaLGp
import Derived.Test.YtmdnjnflmijofaaSxR
set_option linter.unusedVariables false
set_option linter.unusedSimpArgs false
namespace Go.Proofs.Ytmdnjnflmijofaa
open Go.Sx Go.RowKit

theorem encT_len (x : TT) : (encT x).length = 2 := rfl
theorem encT_one (x : TT) : ∀ u ∈ encT x, u.oneCell' = true := by intro u hu; simp [encT] at hu; rcases hu with rfl | rfl <;> rfl

/-- What lies in memory meanwhile: the time, the table, and its rows. -/
abbrev gRows (pn t : Option Addr) (P : TabP) (N M : Nat) (Tn : List TT) (Bg : List Bool) (Fr : List Int) (now : Int) : List HRow :=
  [⟨2, 1, pn, 1, 1, [.int .i64 now]⟩, ⟨65, 5, t, 1, 1, [.slice P.lq P.L.length P.lc, .slice P.dq P.D.length P.dc, .slice P.tq N P.tc, .slice P.bq N P.bc, .slice P.fq M P.fc]⟩,
   ⟨46, 2, P.tq, N, P.tc, Tn.flatMap encT⟩, ⟨4, 1, P.bq, N, P.bc, Bg.map .bool⟩, ⟨2, 1, P.fq, M, P.fc, Fr.map (.int .i64)⟩]

theorem tab_of {w0 w : World} {ns : List Nat} {pn t : Option Addr} {P : TabP} {N M : Nat} {Tn : List TT} {Bg : List Bool} {Fr : List Int} {now : Int} (h : Held w0 ns w (gRows pn t P N M Tn Bg Fr now)) (hL : Edges w P.lq P.L) (hD : Ints .i64 w P.dq P.D)
    (tl : Tn.length = N) (bl : Bg.length = N) (fl : Fr.length = M) : Tab w t P Tn Bg Fr := by
  refine ⟨?_, hL, hD, (h.get 2 rfl).recs fun x _ => rfl, (h.get 3 rfl).cells, (h.get 4 rfl).cells⟩
  rw [tl, bl, fl]
  exact (h.get 1 rfl).cells

noncomputable def gMs (pn fq : Option Addr) (M : Nat) (left : Int) (w : World) : Nat := left.toNat * 100 + (List.range M).countP fun (i : Nat) => decide (readI w pn 0 < readI w (pIdx fq (i : Int) 1) 0)

theorem gMs_eq {w0 w : World} {ns : List Nat} {pn t : Option Addr} {P : TabP} {N M : Nat} {Tn : List TT} {Bg : List Bool} {Fr : List Int} {now : Int} (h : Held w0 ns w (gRows pn t P N M Tn Bg Fr now)) (fl : Fr.length = M) (left : Int) :
    gMs pn P.fq M left w = left.toNat * 100 + (List.range M).countP fun i => decide (now < Fr.getD i 0) := by
  unfold gMs
  congr 1
  refine List.countP_congr fun i hi => ?_
  rw [List.mem_range] at hi
  rw [readI_eq ((h.get 0 rfl).cells 0 _ rfl), readI_eq (Ints.idx (i := (i : Int)) (h.get 4 rfl).cells (by omega) (by omega))]
  simp

theorem gMs_le {M : Nat} {p : Nat → Bool} (hM : M ≤ 20) : (List.range M).countP p ≤ 20 := Nat.le_trans List.countP_le_length (by simpa using hM)

/-- What list.Graph answers where it has no error. -/
structure GDone (m n : Int) (L : List E) (D : List Int) (w : World) (tq : Option Addr) (en : Int) where
  hm : 1 ≤ m ∧ m ≤ 20
  okL : okG n L
  okD' : okD n D
  A : List Int
  Ea : List Int
  La : List Int
  Sp : Int
  Tn : List TT
  Bg : List Bool
  Fr : List Int
  now : Int
  left : Int
  z : Int
  left0 : left ≤ 0
  C : GCtx m.toNat n.toNat L D A Ea La Sp
  T : Recs 2 encT w tq Tn
  I : GInv m.toNat n.toNat L D La Sp Tn Bg Fr now en left z

theorem Graph_k (m n : Int) (p : Option Addr) (lc : Nat) (L : List E) (h63 : (L.length : Int) ≤ 9223372036854775807) (q : Option Addr) (c2 : Nat) (D : List Int) (h64 : (D.length : Int) ≤ 9223372036854775807) (w : World) (h : Edges w p L) (hD : Ints .i64 w q D) :
    FnP Try.prog F_list_Graph #[.int .i64 m, .int .i64 n, .slice p L.length lc, .slice q D.length c2] w fun v w' => Ext w w' ∧ ∃ tq tl tc en e, v = .tuple #[.slice tq tl tc, .int .i64 en, .int .i64 e] ∧
      (e ≠ 0 → tl = 0 ∧ en = 0) ∧ (e = 0 → (tl : Int) = n ∧ tl ≤ tc ∧ Nonempty (GDone m n L D w' tq en)) := by
  refine ok_list_Graph m n p L.length lc q D.length c2 w _ ⟨fun hm w0 h0 => ⟨h0, _, _, _, _, _, rfl, fun _ => ⟨rfl, rfl⟩, fun h => by omega⟩, fun hm w0 h0 => ?_⟩
  refine (Times_k n p lc L h63 q c2 D h64 w0 (h.ext h0) (hD.ext h0)).mono fun v w1 ⟨e1, qe, el, ec, ql, ll, lc', Sp, e, hv, hbad, hgood⟩ => ⟨e1, _, _, _, _, _, _, _, _, hv, fun b10 hb10 => ⟨fun hne w11 h11 => ⟨(h0.trans e1).trans h11, _, _, _, _, _, rfl, fun _ => ⟨rfl, rfl⟩, fun h => absurd h hne⟩, fun he => ?_⟩⟩
  obtain ⟨hok, hokD, hel, hll, ⟨A, hA⟩, Ea, La, oE, oL, hP⟩ := hgood he
  have hn0 := hok.1
  have hn1 := hok.2.1
  obtain ⟨N, rfl⟩ : ∃ N : Nat, n = N := ⟨n.toNat, by omega⟩
  obtain ⟨M, rfl⟩ : ∃ M : Nat, m = M := ⟨m.toNat, by omega⟩
  simp only [Int.toNat_natCast] at hA hP
  have hOk := orderOk hok
  simp only [Int.toNat_natCast] at hOk
  have lenD := hokD.1
  have x1 : Ext w w1 := h0.trans e1
  have C : GCtx M N L D A Ea La Sp := ⟨by omega, hA, hOk, fun i hi => hokD.2 _ (getD_mem D 0 (by omega)), hP⟩
  let R0 : Option Addr → Option Addr → Option Addr → Option Addr → List HRow := fun t tq bq fq => [⟨65, 5, t, 1, 1, [.slice p L.length lc, .slice q D.length c2, .slice tq N N, .slice bq N N, .slice fq M M]⟩,
    ⟨46, 2, tq, N, N, (List.replicate N (⟨0, 0⟩ : TT)).flatMap encT⟩, ⟨4, 1, bq, N, N, (List.replicate N false).map .bool⟩, ⟨2, 1, fq, M, M, (List.replicate M (0 : Int)).map (.int .i64)⟩]
  have mT : ∀ {wa : World} {rs : List HRow} {K : Option Addr → Nat → Nat → World → Prop}, Held w1 [b10] wa rs → (∀ q w', Held w1 [b10] w' (⟨46, 2, q, N, N, (List.replicate N (⟨0, 0⟩ : TT)).flatMap encT⟩ :: rs) → K q N N w') → b10 < wa.heap.size →
      Run Try.prog (.makeSlice 37 (.int .i64 N) (.int .i64 N)) wa fun v w' => Ext wa w' ∧ ∃ q : Option Addr, ∃ l : Nat, ∃ c : Nat, v = .slice q l c ∧ K q l c w' := fun hR hk hb =>
    Held.mk_recs (enc := encT) (x := ⟨0, 0⟩) elem_sl_Turn rfl rfl (by omega) hR (by omega) (by omega) (by omega) (by simpa using hb) fun q w' hR' _ => hk q w' hR'
  have mB : ∀ {wa : World} {rs : List HRow} {K : Option Addr → Nat → Nat → World → Prop}, Held w1 [b10] wa rs → (∀ q w', Held w1 [b10] w' (⟨4, 1, q, N, N, (List.replicate N false).map .bool⟩ :: rs) → K q N N w') → b10 < wa.heap.size →
      Run Try.prog (.makeSlice 63 (.int .i64 N) (.int .i64 N)) wa fun v w' => Ext wa w' ∧ ∃ q : Option Addr, ∃ l : Nat, ∃ c : Nat, v = .slice q l c ∧ K q l c w' := fun hR hk hb =>
    Held.mk_bools elem_sl_bool hR (by omega) (by omega) (by omega) (by simpa using hb) fun q w' hR' _ => hk q w' hR'
  have mF : ∀ {wa : World} {rs : List HRow} {K : Option Addr → Nat → Nat → World → Prop}, Held w1 [b10] wa rs → (∀ q w', Held w1 [b10] w' (⟨2, 1, q, M, M, (List.replicate M (0 : Int)).map (.int .i64)⟩ :: rs) → K q M M w') → b10 < wa.heap.size →
      Run Try.prog (.makeSlice 22 (.int .i64 M) (.int .i64 M)) wa fun v w' => Ext wa w' ∧ ∃ q : Option Addr, ∃ l : Nat, ∃ c : Nat, v = .slice q l c ∧ K q l c w' := fun hR hk hb =>
    Held.mk_ints elem_sl_int64 hR (by omega) (by omega) (by omega) (by simpa using hb) fun q w' hR' _ => hk q w' hR'
  have lt : ∀ {wa wb : World}, ExtB [] [b10] wa wb → b10 < wb.heap.size := fun x => x.lt b10 (by simp)
  have fin : ∀ {wa : World} {rs : List HRow} {tq bq fq : Option Addr}, Held w1 [b10] wa rs → b10 < wa.heap.size → (∀ t w', Held w1 [b10] w' (⟨65, 5, t, 1, 1, [.slice p L.length lc, .slice q D.length c2, .slice tq N N, .slice bq N N, .slice fq M M]⟩ :: rs) → Held w1 [b10] w' (R0 t tq bq fq)) →
      New wa 65 [.slice p L.length lc, .slice q D.length c2, .slice tq N N, .slice bq N N, .slice fq M M] fun p31 w31 => p31 = p31 ∧ b10 < w31.heap.size ∧ ∃ tq bq fq, Held w1 [b10] w31 (R0 p31 tq bq fq) := fun hR hb hk =>
    hR.new_row (by intro v hv; simp at hv; rcases hv with rfl | rfl | rfl | rfl | rfl <;> rfl) (by simpa using hb) fun t w' hR' e' => ⟨rfl, Nat.lt_of_lt_of_le hb e'.size, _, _, _, hk t w' hR'⟩
  refine ⟨fun k t w' => k = t ∧ b10 < w'.heap.size ∧ ∃ tq bq fq, Held w1 [b10] w' (R0 t tq bq fq), ⟨fun w15 x15 => ?_, fun w15 x15 => ?_, fun w15 x15 => ?_⟩, ?_⟩
  · refine mT (Held.nil (extB_ext x15)) (fun q1 w16 r16 => ⟨fun w20 x20 => ?_, fun w20 x20 => ?_⟩) (lt x15)
    · refine mB (r16.to (extB_ext x20)) (fun q2 w21 r21 => fun w25 x25 => ?_) (lt x20)
      refine mF (r21.to (extB_ext x25)) (fun q3 w26 r26 => fun w30 x30 => ?_) (lt x25)
      exact fin (r26.to (extB_ext x30)) (lt x30) fun t w' hR => hR.pick [0, 3, 2, 1] (by decide) rfl
    · refine mF (r16.to (extB_ext x20)) (fun q2 w21 r21 => fun w25 x25 => ?_) (lt x20)
      refine mB (r21.to (extB_ext x25)) (fun q3 w26 r26 => fun w30 x30 => ?_) (lt x25)
      exact fin (r26.to (extB_ext x30)) (lt x30) fun t w' hR => hR.pick [0, 3, 1, 2] (by decide) rfl
  · refine mB (Held.nil (extB_ext x15)) (fun q1 w16 r16 => ⟨fun w20 x20 => ?_, fun w20 x20 => ?_⟩) (lt x15)
    · refine mT (r16.to (extB_ext x20)) (fun q2 w21 r21 => fun w25 x25 => ?_) (lt x20)
      refine mF (r21.to (extB_ext x25)) (fun q3 w26 r26 => fun w30 x30 => ?_) (lt x25)
      exact fin (r26.to (extB_ext x30)) (lt x30) fun t w' hR => hR.pick [0, 2, 3, 1] (by decide) rfl
    · refine mF (r16.to (extB_ext x20)) (fun q2 w21 r21 => fun w25 x25 => ?_) (lt x20)
      refine mT (r21.to (extB_ext x25)) (fun q3 w26 r26 => fun w30 x30 => ?_) (lt x25)
      exact fin (r26.to (extB_ext x30)) (lt x30) fun t w' hR => hR.pick [0, 1, 3, 2] (by decide) rfl
  · refine mF (Held.nil (extB_ext x15)) (fun q1 w16 r16 => ⟨fun w20 x20 => ?_, fun w20 x20 => ?_⟩) (lt x15)
    · refine mT (r16.to (extB_ext x20)) (fun q2 w21 r21 => fun w25 x25 => ?_) (lt x20)
      refine mB (r21.to (extB_ext x25)) (fun q3 w26 r26 => fun w30 x30 => ?_) (lt x25)
      exact fin (r26.to (extB_ext x30)) (lt x30) fun t w' hR => hR.pick [0, 2, 1, 3] (by decide) rfl
    · refine mB (r16.to (extB_ext x20)) (fun q2 w21 r21 => fun w25 x25 => ?_) (lt x20)
      refine mT (r21.to (extB_ext x25)) (fun q3 w26 r26 => fun w30 x30 => ?_) (lt x25)
      exact fin (r26.to (extB_ext x30)) (lt x30) fun t w' hR => hR.pick [0, 1, 2, 3] (by decide) rfl
  rintro k t w14 ⟨rfl, hb14, tq, bq, fq, r14⟩ w15 x15
  refine (r14.to (extB_ext x15)).new_row (by intro v hv; simp at hv; subst hv; rfl) (by simpa using lt x15) fun pn w16 r16 e16 => ?_
  have hb16 : b10 < w16.heap.size := Nat.lt_of_lt_of_le (lt x15) e16.size
  refine r16.store 0 rfl 0 (map_add0 _) (by simp) (by simp) (by intro v hv; simp at hv; subst hv; rfl) (by simpa using hb16) fun w17 r17 g17 => ?_
  have hb17 : b10 < w17.heap.size := Nat.lt_of_lt_of_le hb16 g17.size
  let TP : TabP := ⟨p, lc, L, q, c2, D, tq, N, bq, N, fq, M⟩
  have r17' : Held w1 [b10] w17 (gRows pn k TP N M (List.replicate N ⟨0, 0⟩) (List.replicate N false) (List.replicate M 0) 0) := r17
  refine ⟨fun en left w' => b10 < w'.heap.size ∧ ∃ Tn Bg Fr now z, Held w1 [b10] w' (gRows pn k TP N M Tn Bg Fr now) ∧ GInv M N L D La Sp Tn Bg Fr now en left z, fun en left w' => gMs pn fq M left w', ⟨hb17, _, _, _, _, _, r17', GInv.init C⟩, ?_⟩
  rintro en left w21 ⟨hb21, Tn, Bg, Fr, now, z, r21, I⟩
  have tl := I.tl
  have bl := I.bl
  have fl := I.fl
  have enB := I.enB
  have now0 := I.now0
  have nowEn := I.nowEn
  have x21 : Ext w w21 := x1.trans r21.ext
  have hTab := tab_of r21 (h.ext x21) (hD.ext x21) tl bl fl
  have cnow : Go.Sx.cell w21 pn 0 = some (.int .i64 now) := (r21.get 0 rfl).cells 0 _ rfl
  have left0 : 0 ≤ left := by rw [← I.leftEq]; exact sumN_nonneg fun i _ => by split <;> omega
  have TN : TabN TP N Tn Bg Fr := ⟨by omega, tl, bl, by simp only [TP]; omega, by omega, hok.2.2.2, hokD.2, fun x hx => by
    obtain ⟨i, hi, rfl⟩ := List.getElem_of_mem hx
    have := I.atB i (by omega)
    simp only [tu, List.getD_eq_getElem?_getD, List.getElem?_eq_getElem hi, Option.getD_some] at this
    omega⟩
  -- on to the next time
  have step : (∀ k' : Nat, k' < M → now < Fr.getD k' 0) ∨ Stuck N L D Tn Bg now → 0 < left → ∀ r : Int, ((∀ x ∈ Fr, now < x → 0 ≤ x) → (r = -1 ∧ ∀ x ∈ Fr, x ≤ now) ∨ (r ∈ Fr ∧ now < r ∧ ∀ x ∈ Fr, now < x → r ≤ x)) →
      Store w21 pn [.int .i64 r] [b10] fun w36 => (b10 < w36.heap.size ∧ ∃ Tn Bg Fr now z, Held w1 [b10] w36 (gRows pn k TP N M Tn Bg Fr now) ∧ GInv M N L D La Sp Tn Bg Fr now en left z) ∧ gMs pn fq M left w36 < gMs pn fq M left w21 := by
    intro hc hl r hr
    have hbusy : ∃ k' : Nat, k' < M ∧ now < Fr.getD k' 0 := by
      rcases hc with h | h
      · exact ⟨0, by omega, h 0 (by omega)⟩
      · exact I.busy C h hl
    rcases hr fun x hx hn => by omega with ⟨_, hno⟩ | ⟨hr1, hr2, hr3⟩
    · obtain ⟨k', hk', hlt⟩ := hbusy
      have := hno _ (getD_mem Fr 0 (i := k') (by omega))
      omega
    obtain ⟨j, hj, hjr⟩ := List.getElem_of_mem hr1
    have hjr' : Fr.getD j 0 = r := by simpa [List.getD_eq_getElem?_getD, hj] using hjr
    have hmin : ∀ k' : Nat, k' < M → now < Fr.getD k' 0 → r ≤ Fr.getD k' 0 := fun k' hk' hlt => hr3 _ (getD_mem Fr 0 (by omega)) hlt
    obtain ⟨z', I'⟩ := I.adv C ⟨j, by omega, hjr'⟩ hr2 hmin hc
    refine r21.store 0 rfl 0 (map_add0 _) (by simp) (by simp) (by intro v hv; simp at hv; subst hv; rfl) (by simpa using hb21) fun w36 r36 g36 => ?_
    have r36' : Held w1 [b10] w36 (gRows pn k TP N M Tn Bg Fr r) := r36
    refine ⟨⟨Nat.lt_of_lt_of_le hb21 g36.size, Tn, Bg, Fr, r, z', r36', I'⟩, ?_⟩
    rw [show fq = TP.fq from rfl, gMs_eq r36' fl, gMs_eq r21 fl]
    have := countP_lt (p := fun i => decide (r < Fr.getD i 0)) (q := fun i => decide (now < Fr.getD i 0)) (l := List.range M) (fun x _ hx => by simp at hx ⊢; omega) (x := j) (List.mem_range.2 (by omega)) (decide_eq_true (by rw [hjr']; exact hr2)) (decide_eq_false (by rw [hjr']; omega))
    omega
  refine ⟨fun hl => ?_, fun hl => ?_⟩
  · refine ⟨hTab.ne, hTab.ne, _, _, _, hTab.cell (j := 4) rfl, fun w25 h25 => ?_⟩
    have hfree := firstL_k fq M Fr (by omega) (.func (.func F_list_Graph_1) #[] #[.pointer pn]) (fun x => decide (x ≤ now)) w25 (hTab.ext h25).F fun x hx w' hw' =>
      ⟨F_list_Graph_1, #[.pointer pn], rfl, (ok_list_Graph_1 x pn w' _ ⟨now, ext_cell (h25.trans hw') cnow, fun w1 h1 => ⟨h1, rfl⟩⟩ : FnP Try.prog F_list_Graph_1 #[.int .i64 x, .pointer pn] w' _)⟩
    rw [fl] at hfree ⊢
    refine hfree.mono fun v w26 ⟨e26, hd, hv, hfirst⟩ => ⟨e26, hd, hv, fun hd0 => ?_, fun hdn => ?_⟩
    · have hF : hd < M ∧ Fr.getD hd.toNat 0 ≤ now := by
        rcases hfirst with ⟨h1, _⟩ | ⟨_, h1, h2, _⟩
        · omega
        · exact ⟨by omega, by simpa using h2⟩
      refine ⟨now, cnow, fun w29 h29 => ?_⟩
      refine (ready_k TN (by have := hok.2.2.1; simp only [TP]; omega) k now w29 (hTab.ext h29)).mono fun v w30 ⟨e30, i, hv, hrd⟩ => ⟨e30, i, hv, fun hin => ?_, fun hi0 => ?_⟩
      · refine ⟨now, cnow, fun w33 h33 => ?_⟩
        refine (next_k (by omega) k now w33 (hTab.ext h33)).mono fun v w34 ⟨e34, r, hv, hr⟩ => ⟨e34, r, hv, step (.inr fun i' hi' hb' => ?_) hl r hr⟩
        rcases hrd with ⟨_, hall⟩ | ⟨h1, _⟩
        · have hno := of_ff (hall (i' : Int) (by simp only [nums, List.mem_map, List.mem_range]; exact ⟨i', hi', rfl⟩))
          refine Classical.byContradiction fun hne => hno ⟨by simpa using hb', fun ⟨e, he, het, hend⟩ => hne ⟨e, he, het, hend⟩⟩
        · omega
      · obtain ⟨hiN, hgo⟩ : i < N ∧ CanGo TP Tn Bg now i := by
          rcases hrd with ⟨h1, _⟩ | ⟨_, h1, h2, _⟩
          · omega
          · rw [nums_len] at h1
            rw [nums_at (by omega)] at h2
            have h2 := of_tt h2
            rw [show ((i.toNat : Nat) : Int) = i by omega] at h2
            exact ⟨h1, h2⟩
        obtain ⟨I0, rfl⟩ : ∃ I0 : Nat, i = I0 := ⟨i.toNat, by omega⟩
        obtain ⟨H0, rfl⟩ : ∃ H0 : Nat, hd = H0 := ⟨hd.toNat, by omega⟩
        have hgoB := hgo.1
        simp only [Int.toNat_natCast] at hgoB hF
        have I' := I.go C (i := I0) (by omega) hgoB (fun e he het => by
          have := hgo.2
          refine Classical.byContradiction fun hne => this ⟨e, he, het, fun hend => hne hend⟩) (k := H0) (by omega) hF.2
        have hdI := C.dB I0 (by omega)
        refine ⟨hTab.ne, hTab.ne, _, _, _, hTab.cell (j := 2) rfl, hTab.ne, hTab.ne, _, _, _, hTab.cell (j := 3) rfl, now, cnow, (r21.get 2 rfl).ne1 (by omega) (by omega), by omega, by omega, ?_⟩
        refine r21.store_rec 2 encT_len (by omega) encT_one rfl (x := ⟨now, H0⟩) (by omega) (by omega) (by simpa using hb21) fun w39 r39 g39 => ?_
        have hb39 : b10 < w39.heap.size := Nat.lt_of_lt_of_le hb21 g39.size
        refine ⟨(r21.get 3 rfl).ne1 (by omega) (by omega), by omega, by omega, ?_⟩
        refine r39.store_bool 3 rfl (by omega) (by omega) (by simpa using hb39) fun w40 r40 g40 => ?_
        have hb40 : b10 < w40.heap.size := Nat.lt_of_lt_of_le hb39 g40.size
        have x40 : Ext w w40 := x1.trans r40.ext
        have gd := Ints.idx (hD.ext x40) (i := (I0 : Int)) (by omega) (by omega)
        have gd' : D.getD (I0 : Int).toNat 0 = dg D I0 := by simp
        rw [gd'] at gd
        refine ⟨hTab.ne, hTab.ne, fq, M, M, by rw [cell_pAdd]; exact (r40.get 1 rfl).cells 4 _ rfl, now, (r40.get 0 rfl).cells 0 _ rfl, fun hq => cell_p gd (pIdx_none.2 hq), by omega, by omega, _, gd, i64 (by omega), (r21.get 4 rfl).ne1 (by omega) (by omega), by omega, by omega, ?_⟩
        refine r40.store_int 4 rfl (by omega) (by omega) (by simpa using hb40) fun w46 r46 g46 => ?_
        have hb46 : b10 < w46.heap.size := Nat.lt_of_lt_of_le hb40 g46.size
        have x46 : Ext w w46 := x1.trans r46.ext
        have gd6 := Ints.idx (hD.ext x46) (i := (I0 : Int)) (by omega) (by omega)
        rw [gd'] at gd6
        have r46' : Held w1 [b10] w46 (gRows pn k TP N M (Tn.set I0 ⟨now, H0⟩) (Bg.set I0 true) (Fr.set H0 (now + dg D I0)) now) := r46
        refine ⟨now, (r46.get 0 rfl).cells 0 _ rfl, fun hq => cell_p gd6 (pIdx_none.2 hq), by omega, by omega, _, gd6, i64 (by omega), i64 (by omega), ⟨hb46, _, _, _, _, _, r46', I'⟩, ?_⟩
        simp only []
        rw [show fq = TP.fq from rfl, gMs_eq r46' I'.fl, gMs_eq r21 fl]
        have := gMs_le (M := M) (p := fun i => decide (now < (Fr.set H0 (now + dg D I0)).getD i 0)) (by omega)
        omega
    · refine ⟨now, cnow, fun w29 h29 => ?_⟩
      refine (next_k (by omega) k now w29 (hTab.ext h29)).mono fun v w30 ⟨e30, r, hv, hr⟩ => ⟨e30, r, hv, step (.inl fun k' hk' => ?_) hl r hr⟩
      rcases hfirst with ⟨_, hall⟩ | ⟨h1, _⟩
      · have := hall _ (getD_mem Fr 0 (i := k') (by omega))
        simpa using this
      · omega
  · refine ⟨hTab.ne, hTab.ne, tq, N, N, by rw [cell_pAdd]; exact (r21.get 1 rfl).cells 2 _ rfl, fun w25 h25 => ⟨x21.trans h25, _, _, _, _, _, rfl, fun h => absurd rfl h, fun _ => ⟨rfl, Nat.le_refl _, ⟨{ hm := ⟨by omega, by omega⟩, okL := hok, okD' := hokD, A := A, Ea := Ea, La := La, Sp := Sp, Tn := Tn, Bg := Bg, Fr := Fr, now := now, left := left, z := z, left0 := by omega, C := C, T := (hTab.ext h25).T, I := I }⟩⟩⟩⟩
end Go.Proofs.Ytmdnjnflmijofaa
