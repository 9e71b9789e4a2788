/- The law QueueWhole. -/
import Derived.Test.YtkjekinnemgkkaaQuF
import Derived.Test.YtkjekinnemgkkaaQuL
import Derived.Test.YtkjekinnemgkkaaTxtB
set_option linter.unusedVariables false
set_option linter.unusedSimpArgs false
namespace Go.Proofs.Ytkjekinnemgkkaa
open Go.Sx Go.RowKit

theorem mapb : Try.prog.underlying T_map_int_bool = some (.map T_int T_bool) := by kernel_rfl
theorem zero_bool : (Try.prog.info? T_bool).bind (·.zero) = some (.bool false) := by kernel_rfl
theorem look_bool {w : World} {r : Nat} {m : List (Int × Value)} (h : MapIs enc64 w r m) {a : Int} {Q : Value → World → Prop} (hk : Q ((mget m a).getD (.bool false)) w) : Run Try.prog (.lookup T_map_int_bool (.map (some r)) (.int .i64 a) false) w Q := by
  have hz := zero_bool
  cases hi : Try.prog.info? T_bool with
  | none => rw [hi] at hz; cases hz
  | some i =>
    rw [hi] at hz
    exact run_lookup kq mapb hi hz h (ok := false) hk

structure Act where
  kind : Int
  id : Int
  prio : Int
  at' : Int
def encA (a : Act) : List Value := [.int .i64 a.kind, .int .i64 a.id, .int .i64 a.prio, .int .i64 a.at']
theorem acts_open {W : World} {l : Option Addr} {ll lc : Nat} (h : SlcArg Try.prog W T_shiftbellkeep_Act l ll lc) : ∃ L : List Act, L.length = ll ∧ Recs 4 encA W l L := by
  obtain ⟨xs, h1, h2, h3⟩ := h.list encA (fun _ => True) (fun n es hg _ => by
    have hv := leaves_ok 6 T_shiftbellkeep_Act [T_int, T_int, T_int, T_int64] n es (by kernel_rfl) hg
    obtain ⟨v1, vs, rfl, l1, hv⟩ := lvs_cons hv
    obtain ⟨v2, vs, rfl, l2, hv⟩ := lvs_cons hv
    obtain ⟨v3, vs, rfl, l3, hv⟩ := lvs_cons hv
    obtain ⟨v4, vs, rfl, l4, hv⟩ := lvs_cons hv
    obtain rfl := lvs_nil hv
    obtain ⟨a, rfl, ha⟩ := leaf_int (k := .i64) (by kernel_rfl) l1
    obtain ⟨b, rfl, hb⟩ := leaf_int (k := .i64) (by kernel_rfl) l2
    obtain ⟨c, rfl, hc⟩ := leaf_int (k := .i64) (by kernel_rfl) l3
    obtain ⟨d, rfl, hd⟩ := leaf_int (k := .i64) (by kernel_rfl) l4
    exact ⟨⟨a, b, c, d⟩, rfl, trivial⟩)
  have hc : Try.prog.cellsOf T_shiftbellkeep_Act = 4 := by kernel_rfl
  exact ⟨xs, h1, fun i x hx j u hu => by rw [← hc]; exact h3 i x hx j u hu⟩

/-- What the queue, and the law's own map of those that wait, are behind k acts. -/
structure WS (B : Nat) (w : World) (qb mb wb : Nat) (k born : Int) (p : Option Addr) (c : Nat) (H : List Th) (m mw : List (Int × Value)) : Prop where
  q : QQ B w qb mb born p c H m
  rel : Rel H m
  ids : Ids H
  bn : (H.map (·.born)).Nodup
  bl : ∀ t ∈ H, t.born ≤ born
  b0 : 0 ≤ born ∧ born ≤ k
  len : H.length ≤ 200
  wm : MapIs enc64 w wb mw
  has : ∀ id, mget mw id = if id ∈ H.map (·.id) then some (.bool true) else none
  nf : ¬ FootQ mb qb p H wb
  wB : B ≤ wb

section
variable {B qb mb wb : Nat} {k born : Int} {p : Option Addr} {c : Nat} {H : List Th} {m mw : List (Int × Value)} {w : World}

theorem WS.ext {w' : World} (s : WS B w qb mb wb k born p c H m mw) (h : Ext w w') : WS B w' qb mb wb k born p c H m mw := ⟨s.q.ext h, s.rel, s.ids, s.bn, s.bl, s.b0, s.len, s.wm.ext h, s.has, s.nf, s.wB⟩
theorem WS.next {k' : Int} (s : WS B w qb mb wb k born p c H m mw) (h : k ≤ k') : WS B w qb mb wb k' born p c H m mw := ⟨s.q, s.rel, s.ids, s.bn, s.bl, ⟨s.b0.1, by have := s.b0.2; omega⟩, s.len, s.wm, s.has, s.nf, s.wB⟩
theorem WS.lenw (s : WS B w qb mb wb k born p c H m mw) : mw.length = H.length := by
  have hp : (mkeys mw).Perm (H.map (·.id)) := by
    refine (List.perm_ext_iff_of_nodup s.wm.nodup s.ids).2 fun a => ?_
    have h1 := s.has a
    have h2 := mget_none (m := mw) (a := a)
    by_cases h : a ∈ H.map (·.id)
    · rw [if_pos h] at h1
      refine ⟨fun _ => h, fun _ => Classical.byContradiction fun hn => ?_⟩
      rw [h2.2 hn] at h1; cases h1
    · rw [if_neg h] at h1
      exact ⟨fun hk => absurd hk (h2.1 h1), fun hk => absurd hk h⟩
  have := hp.length_eq
  simpa [mkeys] using this

/-- What ends each act: the list tells as many as wait. -/
theorem tail_k (s : WS B w qb mb wb k born p c H m mw) {K : World → Prop} (hK : ∀ w', Ext w w' → K w') {Q : Prop} :
    FnP Try.prog F_queue_Queue_List #[.pointer (ptr qb)] w fun v23 w23 => Ext w w23 ∧ ∃ t24 : Option Addr, ∃ tl25 : Nat, ∃ tc26 : Nat, v23 = (.slice t24 tl25 tc26) ∧ ∀ w27, Ext w23 w27 →
      Run Try.prog (.len #[35] 3 [.map (some wb)]) w27 fun v28 w28 => Ext w27 w28 ∧ ∃ t29 : Int, v28 = (.int .i64 t29) ∧ (((tl25 : Int) ≠ t29) → Q) ∧ (((tl25 : Int) = t29) → K w23) := by
  refine (list_k s.q s.len).mono fun v w23 ⟨e23, out, d, L, hv, oL, hp, hf⟩ => ⟨e23, out, L.length, d, hv, fun w27 h27 => run_len_m (t := 35) mapb ((s.wm.ext e23).ext h27) ⟨Ext.refl _, _, rfl, fun hne => ?_, fun _ => hK w23 e23⟩⟩
  have hl := hp.length_eq
  rw [List.length_map] at hl
  have := s.lenw
  omega

end

theorem core_QueueWhole (W : World) : ∀ l : Option Addr, ∀ ll : Nat, ∀ lc : Nat, SlcArg Try.prog W T_shiftbellkeep_Act l ll lc → FnP Try.prog F_shiftbellkeep_QueueWhole #[.slice l ll lc] W fun v W' => v = .bool true ∧ Ext W W' := by
  intro l ll lc hl
  obtain ⟨L0, rfl, h⟩ := acts_open hl
  refine ok_shiftbellkeep_QueueWhole _ _ _ W _ fun w0 h0 => queues_k.mono fun v w1 ⟨e1, hv⟩ => ⟨e1, true, hv, fun h => (by simp at h), fun _ => ⟨fun _ w3 h3 => ⟨rfl, h3⟩, fun hlen w3 h3 => ?_⟩⟩
  refine new_k.mono fun v w4 ⟨e4, qb, mb, hv, hqb, hq⟩ => ⟨e4, ptr qb, hv, fun w6 h6 => run_makeMap (enc := enc64) fun w7 m7 e7 => ⟨e7, _, rfl, ?_⟩⟩
  have x7 : Ext W w7 := (((h3.trans e4).trans h6).trans e7)
  have sB : W.heap.size ≤ w3.heap.size := h3.size
  have q4 := hq W.heap.size sB
  have nf0 : ¬ FootQ mb qb none [] w6.heap.size := fun h => by have := (q4.foot h).2; have := h6.size; omega
  refine ⟨fun k w' => 0 ≤ k ∧ k ≤ L0.length ∧ Ext W w' ∧ ∃ born p c H m mw, WS W.heap.size w' qb mb w6.heap.size k born p c H m mw, fun k _ => (L0.length - k).toNat, ⟨by omega, by omega, x7, 0, none, 0, [], [], [], (q4.ext h6).ext e7, ⟨fun t ht => by simp at ht, fun id v hv => by simp [mget] at hv⟩, by simp [Ids], by simp, by simp, by omega, by simp, m7, fun id => by simp [mget], nf0, (h3.trans (e4.trans h6)).size⟩, ?_⟩
  rintro k w11 ⟨hk0, hk1, x11, born, p, c, H, m, mw, s⟩
  refine ⟨fun hlt => ?_, fun hge w12 h12 => ⟨rfl, x11.trans h12⟩⟩
  have hr := h.ext x11
  obtain ⟨a, ha⟩ : ∃ a, L0[k.toNat]? = some a := ⟨_, List.getElem?_eq_getElem (by omega)⟩
  have hne := hr.ne (x := a) (List.mem_of_getElem? ha) (by simp [encA])
  refine ⟨hne, hk0, hlt, fun hc => hne (pIdx_none.1 hc), _, hr.at hk0 ha (j := 0) rfl, _, hr.at hk0 ha (j := 1) rfl, _, hr.at hk0 ha (j := 2) rfl, _, hr.at hk0 ha (j := 3) rfl, fun b16 hb16 => ?_⟩
  -- one that is not of the queue's blocks
  have nb16 : ∀ b, FootQ mb qb p H b → b ≠ b16 := fun b hb he => by have := (s.q.foot hb).2; omega
  have nw16 : w6.heap.size ≠ b16 := by have := s.wm.lt; omega
  have fin : ∀ {w' : World} {born' : Int} {p' : Option Addr} {c' : Nat} {H' : List Th} {m' mw' : List (Int × Value)}, WS W.heap.size w' qb mb w6.heap.size (k + 1) born' p' c' H' m' mw' → Ext W w' → ∀ w'', Ext w' w'' →
      InR .i64 (k + 1) ∧ ((0 ≤ k + 1 ∧ k + 1 ≤ L0.length ∧ Ext W w'' ∧ ∃ born p c H m mw, WS W.heap.size w'' qb mb w6.heap.size (k + 1) born p c H m mw) ∧ (L0.length - (k + 1)).toNat < (L0.length - k).toNat) := fun hs hx w'' h'' =>
    ⟨i64 (by omega), ⟨by omega, by omega, hx.trans h'', _, _, _, _, _, _, hs.ext h''⟩, by omega⟩
  refine ⟨fun _ w17 x17 => ?_, fun _ => ⟨fun _ => ?_, fun _ => ⟨fun _ w17 x17 => ?_, fun _ w17 x17 => ?_⟩⟩⟩
  · -- Put
    have h17 := extB_ext x17
    have s17 := s.ext h17
    have hx17 := x11.trans h17
    refine (put_k s17.q s17.rel s17.len ⟨by have := s.b0; omega, by have := s.b0; omega⟩ hx17.size a.prio a.id).mono fun v w18 ⟨e, hv, he, h00⟩ => ⟨?_, e, hv, fun he0 w20 x20 => ?_, fun he0 w20 x20 => ?_⟩
    · intro b hb
      obtain rfl : b = b16 := by simpa using hb
      by_cases he0 : e = 0
      · obtain ⟨_, _, bb, p', c', Y, _, _, f, _⟩ := h00 he0
        exact f.block b (x17.lt b (by simp)) fun hf => nb16 _ hf rfl
      · exact (he he0).1.block b (x17.lt b (by simp))
    · obtain ⟨hnew, hne200, bb, p', c', Y, qY, hp, f, hfoot⟩ := h00 he0
      have h20 := extB_ext x20
      have x18 : Ext W w18 := Fr.ext f hx17 fun b hb => (s17.q.foot hb).1
      have mw20 := (s17.wm.fr f s.nf).ext h20
      have nfY : ¬ FootQ mb qb p' Y w6.heap.size := fun hc => (hfoot _ hc).elim s.nf fun h => by have := s17.wm.lt; omega
      refine run_mapUpdate kq mapb (a := a.id) mw20 fun w21 m21 g21 => ⟨?_, fun w22 x22 => ?_⟩
      · intro b hb
        obtain rfl : b = b16 := by simpa using hb
        refine g21.by_.block b (x20.lt b (by simp)) fun h => ?_
        simp [blk] at h; exact nw16 h.symm
      · have h22 := extB_ext x22
        have q21 := (qY.ext h20).fr (S := fun b => b = w6.heap.size) (fr_grew g21 fun x hx => by cases hx; rfl) fun b hb h => nfY (h ▸ hb)
        have x21 : Ext W w21 := Fr.ext (S := fun b => b = w6.heap.size) (fr_grew g21 fun x hx => by cases hx; rfl) (x18.trans h20) fun b hb => by rw [hb]; exact s.wB
        have sY : WS W.heap.size w21 qb mb w6.heap.size (k + 1) (born + 1) p' c' Y (mset m a.id (pv ⟨bb, a.prio, a.id, born + 1⟩)) (mset mw a.id (.bool true)) := by
          refine ⟨q21, rel_put s.rel hnew hp, ?_, ?_, fun t ht => ?_, ⟨by have := s.b0; omega, by have := s.b0; omega⟩, ?_, m21, fun id => ?_, nfY, s.wB⟩
          · unfold Ids
            refine (hp.map _).nodup_iff.2 ?_
            rw [List.map_cons, List.nodup_cons]
            refine ⟨fun hm => ?_, s.ids⟩
            obtain ⟨t, ht, he⟩ := List.mem_map.1 hm
            exact hnew t ht he
          · refine (hp.map _).nodup_iff.2 ?_
            rw [List.map_cons, List.nodup_cons]
            refine ⟨fun hm => ?_, s.bn⟩
            obtain ⟨t, ht, he⟩ := List.mem_map.1 hm
            have := s.bl t ht
            simp only at he; omega
          · rcases List.mem_cons.1 (hp.mem_iff.1 ht) with rfl | h
            · exact Int.le_refl _
            · have := s.bl t h; omega
          · rw [hp.length_eq]; have := s.len; simp; omega
          · rw [mget_mset]
            have hmem : id ∈ Y.map (·.id) ↔ a.id = id ∨ id ∈ H.map (·.id) := by
              rw [(hp.map _).mem_iff, List.map_cons, List.mem_cons]
              exact ⟨fun h => h.imp Eq.symm fun h => h, fun h => h.imp Eq.symm fun h => h⟩
            by_cases hid : a.id = id
            · rw [if_pos hid, if_pos (hmem.2 (.inl hid))]
            · rw [if_neg hid, s.has]
              by_cases h : id ∈ H.map (·.id)
              · rw [if_pos h, if_pos (hmem.2 (.inr h))]
              · rw [if_neg h, if_neg fun hc => (hmem.1 hc).elim hid h]
        have t := tail_k (sY.ext h22) (Q := ∀ w30, Ext w22 w30 → False) (fin (sY.ext h22) (x21.trans h22))
        refine t.mono fun v w23 ⟨e23, o, n, d, hv, hh⟩ => ⟨e23, o, n, d, hv, fun w27 h27 => ?_⟩
        obtain ⟨v28, w28, hr28, hx28, t29, hv29, hq, hk⟩ := hh w27 h27
        exact ⟨v28, w28, hr28, hx28, t29, hv29, fun hne => (hq hne w22 (Ext.refl _)).elim, hk⟩
    · obtain ⟨e18, _⟩ := he he0
      have h20 := extB_ext x20
      have s20 := (s17.ext e18).ext h20
      have t := tail_k s20 (Q := ∀ w30, Ext w20 w30 → False) (fin (s20.next (by omega)) ((hx17.trans e18).trans h20))
      refine t.mono fun v w23 ⟨e23, o, n, d, hv, hh⟩ => ⟨e23, o, n, d, hv, fun w27 h27 => ?_⟩
      obtain ⟨v28, w28, hr28, hx28, t29, hv29, hq, hk⟩ := hh w27 h27
      exact ⟨v28, w28, hr28, hx28, t29, hv29, fun hne => (hq hne w20 (Ext.refl _)).elim, hk⟩
  · -- Drop
    have look : (mget mw a.id).getD (.bool false) = .bool (decide (a.id ∈ H.map (·.id))) := by
      rw [s.has]
      by_cases h : a.id ∈ H.map (·.id)
      · rw [if_pos h, decide_eq_true h]; rfl
      · rw [if_neg h, decide_eq_false h]; rfl
    -- behind the drop: those that wait are those of the map, but for the one that is dropped
    have one : ∀ w20, ExtB [] [b16] w11 w20 → FnP Try.prog F_queue_Queue_Drop #[.pointer (ptr qb), .int .i64 a.id] w20 fun v21 w21 => Kept [b16] w20 w21 ∧ ∃ t22 : Int, v21 = .int .i64 t22 ∧ (t22 = 0 ↔ a.id ∈ H.map (·.id)) ∧ Ext W w21 ∧ MapIs enc64 w21 w6.heap.size mw ∧
        ∃ Y m', QQ W.heap.size w21 qb mb born p c Y m' ∧ Rel Y m' ∧ Ids Y ∧ (Y.map (·.born)).Nodup ∧ (∀ t ∈ Y, t.born ≤ born) ∧ Y.length ≤ 200 ∧ (∀ id, id ∈ Y.map (·.id) ↔ id ≠ a.id ∧ id ∈ H.map (·.id)) ∧ ¬ FootQ mb qb p Y w6.heap.size := by
      intro w20 x20
      have s20 := s.ext (extB_ext x20)
      have hx20 := x11.trans (extB_ext x20)
      refine (drop_k s20.q s20.rel s20.len a.id).mono fun v w21 ⟨e, hv, he, h00⟩ => ?_
      by_cases he0 : e = 0
      · obtain ⟨t, Y, ht, hid, hp, qY, f⟩ := h00 he0
        obtain ⟨rY, iY⟩ := rel_del s.rel s.q.mp.nodup s.ids hp
        rw [hid] at rY
        have hmem : a.id ∈ H.map (·.id) := by rw [← hid]; exact List.mem_map_of_mem ht
        have hb := (hp.map (·.born)).nodup_iff.2 s.bn
        rw [List.map_cons, List.nodup_cons] at hb
        have hi := (hp.map (·.id)).nodup_iff.2 (show (H.map (·.id)).Nodup from s.ids)
        rw [List.map_cons, List.nodup_cons] at hi
        refine ⟨f.kept fun b hb => ?_, e, hv, ⟨fun _ => hmem, fun _ => he0⟩, Fr.ext f hx20 fun b hb => (s20.q.foot hb).1, s20.wm.fr f s.nf, Y, _, qY, rY, iY, hb.2, fun u hu => s.bl u (hp.mem_iff.1 (List.mem_cons_of_mem _ hu)), ?_, fun id => ?_, fun hc => s.nf (foot_sub (fun u hu => ⟨u, hp.mem_iff.1 (List.mem_cons_of_mem _ hu), rfl⟩) hc)⟩
        · obtain rfl : b = b16 := by simpa using hb
          exact ⟨x20.lt b (by simp), fun h => nb16 _ h rfl⟩
        · have := hp.length_eq; have := s.len; simp at *; omega
        · rw [← (hp.map (·.id)).mem_iff, List.map_cons, List.mem_cons]
          rw [hid] at hi ⊢
          exact ⟨fun h => ⟨fun he => hi.1 (he ▸ h), .inr h⟩, fun ⟨h1, h2⟩ => h2.resolve_left h1⟩
      · obtain ⟨hno, e21⟩ := he he0
        have hnm : a.id ∉ H.map (·.id) := fun h => by
          obtain ⟨t, ht, he⟩ := List.mem_map.1 h
          exact hno t ht he
        have s21 := s20.ext e21
        exact ⟨fun b hb => by
          obtain rfl : b = b16 := by simpa using hb
          exact e21.block b (x20.lt b (by simp)), e, hv, ⟨fun h => absurd h he0, fun h => absurd h hnm⟩, hx20.trans e21, s21.wm, H, m, s21.q, s.rel, s.ids, s.bn, s.bl, s.len, fun id => ⟨fun h => ⟨fun he => hnm (he ▸ h), h⟩, fun h => h.2⟩, s.nf⟩
    refine ⟨fun b w' => b = false ∧ b16 < w'.heap.size ∧ Ext W w' ∧ MapIs enc64 w' w6.heap.size mw ∧ ∃ Y m', QQ W.heap.size w' qb mb born p c Y m' ∧ Rel Y m' ∧ Ids Y ∧ (Y.map (·.born)).Nodup ∧ (∀ t ∈ Y, t.born ≤ born) ∧ Y.length ≤ 200 ∧ (∀ id, id ∈ Y.map (·.id) ↔ id ≠ a.id ∧ id ∈ H.map (·.id)) ∧ ¬ FootQ mb qb p Y w6.heap.size, ⟨?_, ?_, ?_⟩, ?_⟩
    · exact fun w20 x20 => (one w20 x20).mono fun v w21 ⟨kp, t, hv, hiff, hx, hm, Y, m', hY⟩ => ⟨kp, t, hv, fun w23 h23 => look_bool (hm.ext h23) (by rw [look]; exact ⟨Ext.refl _, _, rfl, by
        by_cases h : a.id ∈ H.map (·.id)
        · simp [h, hiff.2 h]
        · have : t ≠ 0 := fun h' => h (hiff.1 h')
          simp [h, this], by
        have := x20.lt b16 (by simp)
        have h2 := kp b16 (by simp)
        rcases Nat.lt_or_ge b16 w21.heap.size with h | h
        · exact h
        · rw [Array.getElem?_eq_none h] at h2
          have := Array.getElem?_eq_none_iff.1 h2.symm
          omega, hx, hm, Y, m', hY⟩)⟩
    · exact fun w20 x20 => (one w20 x20).mono fun v w21 ⟨kp, t, hv, hiff, hx, hm, Y, m', hY⟩ => ⟨kp, t, hv, fun w23 h23 => look_bool (hm.ext h23) (by rw [look]; exact ⟨Ext.refl _, _, rfl, by
        by_cases h : a.id ∈ H.map (·.id)
        · simp [h, hiff.2 h]
        · have : t ≠ 0 := fun h' => h (hiff.1 h')
          simp [h, this], by
        have := x20.lt b16 (by simp)
        have h2 := kp b16 (by simp)
        rcases Nat.lt_or_ge b16 w21.heap.size with h | h
        · exact h
        · rw [Array.getElem?_eq_none h] at h2
          have := Array.getElem?_eq_none_iff.1 h2.symm
          omega, hx, hm, Y, m', hY⟩)⟩
    · intro w20 h20
      refine look_bool (s.wm.ext h20) ?_
      rw [look]
      refine ⟨Ext.refl _, _, rfl, fun w23 x23 => (one w23 x23).mono fun v w24 ⟨kp, t, hv, hiff, hx, hm, Y, m', hY⟩ => ⟨kp, t, hv, ?_, ?_, hx, hm, Y, m', hY⟩⟩
      · by_cases h : a.id ∈ H.map (·.id)
        · simp [h, hiff.2 h]
        · have : t ≠ 0 := fun h' => h (hiff.1 h')
          simp [h, this]
      · have := x23.lt b16 (by simp)
        have h2 := kp b16 (by simp)
        rcases Nat.lt_or_ge b16 w24.heap.size with h | h
        · exact h
        · rw [Array.getElem?_eq_none h] at h2
          have := Array.getElem?_eq_none_iff.1 h2.symm
          omega
    · rintro b w19 ⟨rfl, lt19, x19, m19, Y, m', qY, rY, iY, bY, blY, lY, memY, nfY⟩
      refine ⟨(fun h => by cases h), fun _ w20 x20 => ?_⟩
      have h20 := extB_ext x20
      refine run_delete (ts := [3]) kq mapb (a := a.id) (m19.ext h20) fun w21 m21 g21 => ⟨?_, rfl, fun w22 x22 => ?_⟩
      · intro b hb
        obtain rfl : b = b16 := by simpa using hb
        refine g21.by_.block b (x20.lt b (by simp)) fun h => ?_
        simp [blk] at h; exact nw16 h.symm
      · have h22 := extB_ext x22
        have q21 := (qY.ext h20).fr (S := fun b => b = w6.heap.size) (fr_grew g21 fun x hx => by cases hx; rfl) fun b hb h => nfY (h ▸ hb)
        have x21 : Ext W w21 := Fr.ext (S := fun b => b = w6.heap.size) (fr_grew g21 fun x hx => by cases hx; rfl) (x19.trans h20) fun b hb => by rw [hb]; exact s.wB
        have sY : WS W.heap.size w21 qb mb w6.heap.size (k + 1) born p c Y m' (mdel mw a.id) := by
          refine ⟨q21, rY, iY, bY, blY, ⟨s.b0.1, by have := s.b0; omega⟩, lY, m21, fun id => ?_, nfY, s.wB⟩
          rw [mget_mdel mw s.wm.nodup, s.has]
          by_cases h : a.id = id
          · rw [if_pos h, if_neg fun hc => ((memY id).1 hc).1 h.symm]
          · rw [if_neg h]
            by_cases hm : id ∈ H.map (·.id)
            · rw [if_pos hm, if_pos ((memY id).2 ⟨Ne.symm h, hm⟩)]
            · rw [if_neg hm, if_neg fun hc => hm ((memY id).1 hc).2]
        have t := tail_k (sY.ext h22) (Q := ∀ w30, Ext w22 w30 → False) (fin (sY.ext h22) (x21.trans h22))
        refine t.mono fun v w23 ⟨e23, o, n, d, hv, hh⟩ => ⟨e23, o, n, d, hv, fun w27 h27 => ?_⟩
        obtain ⟨v28, w28, hr28, hx28, t29, hv29, hq, hk⟩ := hh w27 h27
        exact ⟨v28, w28, hr28, hx28, t29, hv29, fun hne => (hq hne w22 (Ext.refl _)).elim, hk⟩
  · -- Raise
    have h17 := extB_ext x17
    have s17 := s.ext h17
    have hx17 := x11.trans h17
    refine (raise_k s17.q s17.rel s17.ids s17.len a.id a.prio).mono fun v w18 ⟨e, hv, he, h00⟩ => ?_
    by_cases he0 : e = 0
    · obtain ⟨j, Y, hj, hid, hpr, hp, qY, rY, iY, f, hfoot⟩ := h00 he0
      refine ⟨f.kept fun b hb => ?_, e, hv, fun w20 x20 => ?_⟩
      · obtain rfl : b = b16 := by simpa using hb
        exact ⟨x17.lt b (by simp), fun h => nb16 _ h rfl⟩
      have h20 := extB_ext x20
      have x18 : Ext W w18 := Fr.ext f hx17 fun b hb => (s17.q.foot hb).1
      have sameMap : ∀ (g : Th → Int), g { at_ H j with prio := a.prio } = g (at_ H j) → (H.set j { at_ H j with prio := a.prio }).map g = H.map g := fun g hg => by
        rw [List.map_set, hg]
        apply List.ext_getElem?
        intro i
        rw [List.getElem?_set]
        split
        · rename_i h; subst h
          simp only [List.length_map, hj, if_true, List.getElem?_map, List.getElem?_eq_getElem hj, Option.map_some]
          unfold at_; rw [List.getD_eq_getElem?_getD, List.getElem?_eq_getElem hj]; rfl
        · rfl
      have sY : WS W.heap.size w18 qb mb w6.heap.size (k + 1) born p c Y m mw := by
        refine ⟨qY, rY, iY, ?_, fun t ht => ?_, ⟨s.b0.1, by have := s.b0; omega⟩, ?_, s17.wm.fr f s.nf, fun id => ?_, fun hc => s.nf (hfoot _ hc), s.wB⟩
        · refine (hp.map _).nodup_iff.2 ?_
          rw [sameMap (·.born) rfl]; exact s.bn
        · have h1 : t.born ∈ H.map (·.born) := by
            rw [← sameMap (·.born) rfl]
            exact (hp.map (·.born)).mem_iff.1 (List.mem_map_of_mem ht)
          obtain ⟨u, hu, hue⟩ := List.mem_map.1 h1
          rw [← hue]; exact s.bl u hu
        · have := hp.length_eq; have := s.len; simp at *; omega
        · rw [s.has]
          have : id ∈ Y.map (·.id) ↔ id ∈ H.map (·.id) := by rw [(hp.map (·.id)).mem_iff, sameMap (·.id) rfl]
          by_cases h : id ∈ H.map (·.id)
          · rw [if_pos h, if_pos (this.2 h)]
          · rw [if_neg h, if_neg fun hc => h (this.1 hc)]
      have t := tail_k (sY.ext h20) (Q := ∀ w30, Ext w20 w30 → False) (fin (sY.ext h20) (x18.trans h20))
      refine t.mono fun v w23 ⟨e23, o, n, d, hv, hh⟩ => ⟨e23, o, n, d, hv, fun w27 h27 => ?_⟩
      obtain ⟨v28, w28, hr28, hx28, t29, hv29, hq, hk⟩ := hh w27 h27
      exact ⟨v28, w28, hr28, hx28, t29, hv29, fun hne => (hq hne w20 (Ext.refl _)).elim, hk⟩
    · have e18 := he he0
      refine ⟨fun b hb => ?_, e, hv, fun w20 x20 => ?_⟩
      · obtain rfl : b = b16 := by simpa using hb
        exact e18.block b (x17.lt b (by simp))
      have h20 := extB_ext x20
      have s20 := (s17.ext e18).ext h20
      have t := tail_k s20 (Q := ∀ w30, Ext w20 w30 → False) (fin (s20.next (by omega)) ((hx17.trans e18).trans h20))
      refine t.mono fun v w23 ⟨e23, o, n, d, hv, hh⟩ => ⟨e23, o, n, d, hv, fun w27 h27 => ?_⟩
      obtain ⟨v28, w28, hr28, hx28, t29, hv29, hq, hk⟩ := hh w27 h27
      exact ⟨v28, w28, hr28, hx28, t29, hv29, fun hne => (hq hne w20 (Ext.refl _)).elim, hk⟩
  · -- Take
    have h17 := extB_ext x17
    have s17 := s.ext h17
    have hx17 := x11.trans h17
    refine (list_k s17.q s17.len).mono fun v w18 ⟨e18, out, d, L, hv, oL, hpL, hf⟩ => ⟨e18, out, L.length, d, hv, fun w22 x22 => ?_⟩
    have hLl : L.length = H.length := by have := hpL.length_eq; simpa using this
    have h22 := extB_ext x22
    have s22 := (s17.ext e18).ext h22
    have hx22 := (hx17.trans e18).trans h22
    refine (take_k s22.q (by have := s.len; omega)).mono fun v w23 hh => ?_
    rcases hh with ⟨rfl, rfl, e23⟩ | ⟨t, Y, rfl, qY, hp, hmin, f⟩
    · have hL0 : L.length = 0 := by simpa using hLl
      have s23 := s22.ext e23
      refine ⟨fun b hb => ?_, _, _, _, rfl, fun b27 hb27 => ⟨(fun _ h => by cases h), (fun _ h => by cases h), (fun _ h => by cases h), fun hc => ?_, fun _ => ⟨(fun h => by cases h), fun _ => ⟨(fun h => by cases h), fun _ w28 x28 => ?_⟩⟩⟩⟩
      · obtain rfl : b = b16 := by simpa using hb
        exact e23.block b (x22.lt b (by simp))
      · rcases hc with ⟨h, _⟩ | ⟨_, h⟩
        · cases h
        · omega
      · have h28 := extB_ext x28
        have t := tail_k (s23.ext h28) (Q := ∀ w30, Ext w28 w30 → False) (fin ((s23.ext h28).next (by omega)) ((hx22.trans e23).trans h28))
        refine t.mono fun v w31 ⟨e31, o, n, d, hv, hh⟩ => ⟨e31, o, n, d, hv, fun w27 h27 => ?_⟩
        obtain ⟨v28, w30, hr28, hx28, t29, hv29, hq, hk⟩ := hh w27 h27
        exact ⟨v28, w30, hr28, hx28, t29, hv29, fun hne => (hq hne w28 (Ext.refl _)).elim, hk⟩
    · have ht : t ∈ H := hp.mem_iff.1 (List.mem_cons_self ..)
      have hLpos : 0 < L.length := by rw [hLl, ← hp.length_eq]; simp
      -- the first of the row is the one that is taken
      obtain ⟨u, hu, hut⟩ : ∃ u, L[0]? = some u ∧ u = nb t := by
        refine ⟨_, List.getElem?_eq_getElem hLpos, ?_⟩
        have hm : L[0] ∈ H.map nb := hpL.mem_iff.1 (List.getElem_mem hLpos)
        obtain ⟨x, hx, hxe⟩ := List.mem_map.1 hm
        have h1 := hmin x hx
        have h2 : ¬ ahead (nb t) L[0] := by
          obtain ⟨i, hi, hie⟩ := List.mem_iff_getElem.1 (hpL.mem_iff.2 (List.mem_map_of_mem (f := nb) ht))
          rw [← hie]
          by_cases hi0 : i = 0
          · subst hi0; unfold ahead; omega
          · exact List.pairwise_iff_getElem.1 hf 0 i hLpos hi (by omega)
        rw [← hxe] at h2 ⊢
        have hbx : x.born = t.born := by unfold ahead nb at *; simp only at *; omega
        have : x = t := by
          obtain ⟨i, hi, hie⟩ := List.mem_iff_getElem.1 hx
          obtain ⟨j, hj, hje⟩ := List.mem_iff_getElem.1 ht
          have hbn := s.bn
          unfold List.Nodup at hbn
          rw [List.pairwise_map] at hbn
          rcases Nat.lt_trichotomy i j with h | h | h
          · exact absurd (by rw [hie, hje]; exact hbx) (List.pairwise_iff_getElem.1 hbn i j hi hj h)
          · subst h; rw [← hie, ← hje]
          · exact absurd (by rw [hie, hje]; exact hbx.symm) (List.pairwise_iff_getElem.1 hbn j i hj hi h)
        rw [this]
      have lt22 : ∀ x, out = some x → x.block < w22.heap.size := fun x hx => by have := ((oL.ext h22).lt x hx).2; omega
      have nfo : ∀ x, out = some x → ¬ FootQ mb qb p H x.block := fun x hx hc => by
        have h1 := (oL.lt x hx).1
        have h2 := (s17.q.foot hc).2
        omega
      have o23 := (oL.ext h22).fr f nfo
      have r23 := recs_items o23
      have hm23 := s22.wm.fr f s.nf
      have x23 : Ext W w23 := Fr.ext f hx22 fun b hb => (s22.q.foot hb).1
      have hmem : t.id ∈ H.map (·.id) := List.mem_map_of_mem ht
      have it0 : (L.map item).getD (0 : Int).toNat (0, 0) = (t.prio, t.id) := by
        show (L.map item).getD 0 (0, 0) = _
        rw [List.getD_eq_getElem?_getD, List.getElem?_map, hu, hut]; rfl
      obtain ⟨g1, g2, g3, g4⟩ := recI_at r23 (k := 0) (by omega) (by simpa using hLpos)
      rw [it0] at g3 g4
      have nfY : ¬ FootQ mb qb p Y w6.heap.size := fun hc => s.nf (foot_sub (fun u hu => ⟨u, hp.mem_iff.1 (List.mem_cons_of_mem _ hu), rfl⟩) hc)
      obtain ⟨rY, iY⟩ := rel_del s.rel s.q.mp.nodup s.ids hp
      have hb := (hp.map (·.born)).nodup_iff.2 s.bn
      rw [List.map_cons, List.nodup_cons] at hb
      have hi := (hp.map (·.id)).nodup_iff.2 (show (H.map (·.id)).Nodup from s.ids)
      rw [List.map_cons, List.nodup_cons] at hi
      have lt23 : b16 < w23.heap.size := Nat.lt_of_lt_of_le (x22.lt b16 (by simp)) f.size
      refine ⟨f.kept fun b hb => ?_, _, _, _, rfl, fun b27 hb27 => ⟨fun _ _ => g1, fun _ _ => by omega, fun _ _ => by omega, fun hc => ?_, fun _ => ⟨fun _ => ⟨g2, _, g3, _, g4, fun w30 h30 => ?_⟩, fun h => by cases h⟩⟩⟩
      · obtain rfl : b = b16 := by simpa using hb
        exact ⟨x22.lt b (by simp), fun h => nb16 _ h rfl⟩
      · rcases hc with ⟨_, h⟩ | ⟨h, _⟩
        · omega
        · cases h
      refine run_nes (n := 2) (k := .i64) (by kernel_rfl) (by kernel_rfl) (by kernel_rfl) (by kernel_rfl) [_, _] [_, _] rfl rfl ⟨Ext.refl _, _, rfl, fun hyes => ?_, fun _ w33 h33 => ?_⟩
      · simp at hyes
      refine look_bool (hm23.ext h33) ?_
      rw [s.has, if_pos hmem]
      refine ⟨Ext.refl _, true, rfl, (fun h => by cases h), fun _ => ⟨fun _ w36 x36 => ?_, fun h => by cases h⟩⟩
      have h36 := extB_ext x36
      refine run_delete (ts := [3]) kq mapb (a := t.id) (hm23.ext h36) fun w37 m37 g37 => ⟨?_, rfl, fun w38 x38 => ?_⟩
      · intro b hb
        refine g37.by_.block b (x36.lt b hb) fun h => ?_
        simp [blk] at h
        simp at hb
        rcases hb with rfl | rfl
        · exact nw16 h.symm
        · have := hm23.lt; omega
      have h38 := extB_ext x38
      have q37 := (qY.ext h36).fr (S := fun b => b = w6.heap.size) (fr_grew g37 fun x hx => by cases hx; rfl) fun b hb h => nfY (h ▸ hb)
      have x37 : Ext W w37 := Fr.ext (S := fun b => b = w6.heap.size) (fr_grew g37 fun x hx => by cases hx; rfl) (x23.trans h36) fun b hb => by rw [hb]; exact s.wB
      have sY : WS W.heap.size w37 qb mb w6.heap.size (k + 1) born p c Y (mdel m t.id) (mdel mw t.id) := by
        refine ⟨q37, rY, iY, hb.2, fun u hu => s.bl u (hp.mem_iff.1 (List.mem_cons_of_mem _ hu)), ⟨s.b0.1, by have := s.b0; omega⟩, ?_, m37, fun id => ?_, nfY, s.wB⟩
        · have := hp.length_eq; have := s.len; simp at *; omega
        · rw [mget_mdel mw s.wm.nodup, s.has]
          have memY : id ∈ H.map (·.id) ↔ id = t.id ∨ id ∈ Y.map (·.id) := by rw [← (hp.map (·.id)).mem_iff, List.map_cons, List.mem_cons]
          by_cases h : t.id = id
          · rw [if_pos h, if_neg fun hc => hi.1 (h ▸ hc)]
          · rw [if_neg h]
            by_cases hm : id ∈ Y.map (·.id)
            · rw [if_pos hm, if_pos (memY.2 (.inr hm))]
            · rw [if_neg hm, if_neg fun hc => (memY.1 hc).elim (fun h' => h h'.symm) hm]
      have tt := tail_k (sY.ext h38) (Q := ∀ w30, Ext w38 w30 → False) (fin (sY.ext h38) (x37.trans h38))
      refine tt.mono fun v w39 ⟨e39, o, n, d, hv, hh⟩ => ⟨e39, o, n, d, hv, fun w27 h27 => ?_⟩
      obtain ⟨v28, w28, hr28, hx28, t29, hv29, hq, hk⟩ := hh w27 h27
      exact ⟨v28, w28, hr28, hx28, t29, hv29, fun hne => (hq hne w38 (Ext.refl _)).elim, hk⟩
end Go.Proofs.Ytkjekinnemgkkaa
