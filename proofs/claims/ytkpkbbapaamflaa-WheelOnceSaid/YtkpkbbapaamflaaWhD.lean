/- The wheel as a sorted list of timers: Add, Cancel. -/
import Derived.Test.YtkpkbbapaamflaaWhB
import Derived.Test.YtkpkbbapaamflaaWhC
set_option linter.unusedVariables false
set_option linter.unusedSimpArgs false
namespace Go.Proofs.Ytkpkbbapaamflaa
open Go.Sx Go.RowKit

def mv (x : Tm) : Int × Value := (x.id, .int .i64 x.t)

/-! ### Maps as lists -/

theorem mget_mem : ∀ {M : List (Int × Value)}, (mkeys M).Nodup → ∀ {a : Int} {v : Value}, mget M a = some v ↔ (a, v) ∈ M
  | [], _, a, v => by simp [mget]
  | (b, u) :: r, h, a, v => by
    have e2 : mkeys ((b, u) :: r) = b :: mkeys r := rfl
    rw [e2, List.nodup_cons] at h
    simp only [mget]
    by_cases hb : b = a
    · subst hb
      rw [if_pos rfl]
      refine ⟨fun h' => (by obtain rfl := Option.some.inj h'; exact List.mem_cons_self ..), fun h' => ?_⟩
      rcases List.mem_cons.1 h' with h' | h'
      · obtain ⟨_, rfl⟩ := Prod.mk.inj h'; rfl
      · exact absurd (List.mem_map_of_mem (f := (·.1)) h') h.1
    · rw [if_neg hb, mget_mem h.2, List.mem_cons]
      refine ⟨.inr, fun h' => ?_⟩
      rcases h' with h' | h'
      · exact absurd (Prod.mk.inj h').1.symm hb
      · exact h'
theorem mdel_filter : ∀ {M : List (Int × Value)}, (mkeys M).Nodup → ∀ (a : Int), mdel M a = M.filter fun x => decide (x.1 ≠ a)
  | [], _, a => rfl
  | (b, u) :: r, h, a => by
    have e2 : mkeys ((b, u) :: r) = b :: mkeys r := rfl
    rw [e2, List.nodup_cons] at h
    simp only [mdel, List.filter_cons]
    by_cases hb : b = a
    · subst hb
      rw [if_pos rfl, if_neg (by simp), eq_comm, List.filter_eq_self]
      intro x hx
      simp only [ne_eq, decide_not, Bool.not_eq_true', decide_eq_false_iff_not]
      intro he
      exact h.1 (he ▸ List.mem_map_of_mem (f := (·.1)) hx)
    · rw [if_neg hb, if_pos (by simpa using hb), mdel_filter h.2]
theorem mkeys_mv {M : List (Int × Value)} {L : List Tm} (h : M.Perm (L.map mv)) : (mkeys M).Perm (L.map (·.id)) := by
  have := h.map (·.1)
  rwa [List.map_map] at this
theorem mdel_perm {M : List (Int × Value)} {L : List Tm} (hn : (mkeys M).Nodup) (h : M.Perm (L.map mv)) (a : Int) : (mdel M a).Perm ((L.filter fun x => decide (x.id ≠ a)).map mv) := by
  rw [mdel_filter hn]
  refine (h.filter _).trans (List.Perm.of_eq ?_)
  rw [List.filter_map]; rfl
theorem mset_perm {M : List (Int × Value)} {L : List Tm} (h : M.Perm (L.map mv)) (x : Tm) (hx : ∀ y ∈ L, y.id ≠ x.id) : (mset M x.id (.int .i64 x.t)).Perm ((addL x L).map mv) := by
  have hno : x.id ∉ mkeys M := fun hc => by
    obtain ⟨y, hy, he⟩ := List.mem_map.1 ((mkeys_mv h).mem_iff.1 hc)
    exact hx y hy he
  have hm : mset M x.id (.int .i64 x.t) = M ++ [(x.id, .int .i64 x.t)] := by
    cases hf : mfind M x.id 0 with
    | none => exact (mfind_none hf).1 _
    | some q =>
      obtain ⟨j, u⟩ := q
      have := (mfind_some hf).2.2.2.2
      exact absurd (mget_none.2 hno) (by rw [this]; simp)
  rw [hm]
  refine List.perm_append_comm.trans ?_
  exact (List.Perm.cons _ h).trans ((addL_perm x L).map mv).symm
/-- What is looked up. -/
theorem look_mv {M : List (Int × Value)} {L : List Tm} (hn : (mkeys M).Nodup) (h : M.Perm (L.map mv)) (a : Int) : (∃ x ∈ L, x.id = a ∧ mget M a = some (.int .i64 x.t)) ∨ ((∀ x ∈ L, x.id ≠ a) ∧ mget M a = none) := by
  by_cases hx : ∃ x ∈ L, x.id = a
  · obtain ⟨x, hxL, rfl⟩ := hx
    exact .inl ⟨x, hxL, rfl, (mget_mem hn).2 (h.mem_iff.2 (List.mem_map.2 ⟨x, hxL, rfl⟩))⟩
  · refine .inr ⟨fun x hxL he => hx ⟨x, hxL, he⟩, mget_none.2 fun hc => ?_⟩
    obtain ⟨y, hy, he⟩ := List.mem_map.1 ((mkeys_mv h).mem_iff.1 hc)
    exact hx ⟨y, hy, he⟩

/-! ### The whole wheel -/

structure WS (B : Nat) (w : World) (wb : Nat) (now born : Int) (L : List Tm) (F : Nat → Prop) : Prop where
  ex : ∃ mb M R, WI B w wb mb now born M R ∧ M.Perm (L.map mv) ∧ (Lies (sx now) L fun j => (R j).l) ∧ ∀ b, WF wb mb R b → F b
  ok : WOk now born L
  st : ∀ x ∈ L, now < x.t
  len : L.length ≤ 200
  n0 : 0 ≤ now
  b0 : 0 ≤ born
  hB : B ≤ w.heap.size
  fB : ∀ b, F b → B ≤ b ∧ b < w.heap.size

theorem WS.ext {B : Nat} {w w' : World} {wb : Nat} {now born : Int} {L : List Tm} {F : Nat → Prop} (h : WS B w wb now born L F) (e : Ext w w') : WS B w' wb now born L F := by
  obtain ⟨mb, M, R, i, h2, h3, h4⟩ := h.ex
  exact ⟨⟨mb, M, R, i.ext e, h2, h3, h4⟩, h.ok, h.st, h.len, h.n0, h.b0, Nat.le_trans h.hB e.size, fun b hb => ⟨(h.fB b hb).1, Nat.lt_of_lt_of_le (h.fB b hb).2 e.size⟩⟩
theorem WS.fr {S : Nat → Prop} {B : Nat} {w w' : World} {wb : Nat} {now born : Int} {L : List Tm} {F : Nat → Prop} (h : WS B w wb now born L F) (f : Fr S w w') (hs : ∀ b, F b → ¬ S b) : WS B w' wb now born L F := by
  obtain ⟨mb, M, R, i, h2, h3, h4⟩ := h.ex
  exact ⟨⟨mb, M, R, i.fr f fun b hb => hs b (h4 b hb), h2, h3, h4⟩, h.ok, h.st, h.len, h.n0, h.b0, Nat.le_trans h.hB f.size, fun b hb => ⟨(h.fB b hb).1, Nat.lt_of_lt_of_le (h.fB b hb).2 f.size⟩⟩

/-- A new wheel. -/
theorem newS_k {w : World} : FnP Try.prog F_wheel_New #[] w fun v w' => Ext w w' ∧ ∃ wb F, v = .pointer (ptr wb) ∧ (∀ b, F b → w.heap.size ≤ b) ∧ ∀ B, B ≤ w.heap.size → WS B w' wb 0 0 [] F := by
  refine new_k.mono fun v w' ⟨e, wb, mb, hv, hwb, h⟩ => ⟨e, wb, WF wb mb fun _ => ⟨none, 0, []⟩, hv, fun b hb => ((h w.heap.size (Nat.le_refl _)).foot hb).1, fun B hB => ?_⟩
  have i := h B hB
  exact ⟨⟨mb, [], _, i, by simp, ⟨fun j _ => by simp, fun j _ => List.Pairwise.nil⟩, fun b hb => hb⟩, ⟨List.Pairwise.nil, by simp, by simp, by simp, by simp⟩, by simp, by simp, by omega, by omega, Nat.le_trans hB e.size, fun b hb => i.foot hb⟩

theorem kInt : KeyT Try.prog T_int (Value.int .i64) (.int .i64) := keyT_int (by kernel_rfl)
theorem mapT : Try.prog.underlying T_map_int_int64 = some (.map T_int T_int64) := by kernel_rfl
theorem zero_i64 : (Try.prog.info? T_int64).bind (·.zero) = some (.int .i64 0) := by kernel_rfl
theorem look_k {w : World} {r : Nat} {M : List (Int × Value)} {a : Int} {Q : Value → World → Prop} (h : MapIs (Value.int .i64) w r M) (hk : Q (.tuple #[(mget M a).getD (.int .i64 0), .bool (mget M a).isSome]) w) :
    Run Try.prog (.lookup T_map_int_int64 (.map (some r)) (.int .i64 a) true) w Q := by
  have hz := zero_i64
  cases hi : Try.prog.info? T_int64 with
  | none => rw [hi] at hz; cases hz
  | some i => rw [hi] at hz; exact run_lookup kInt mapT hi hz h (ok := true) hk

section
variable {B : Nat} {w : World} {wb : Nat} {now born : Int} {L : List Tm} {F : Nat → Prop}

theorem nowS_k (h : WS B w wb now born L F) : FnP Try.prog F_wheel_Wheel_Now #[.pointer (ptr wb)] w fun v w' => Ext w w' ∧ v = .int .i64 now := by
  obtain ⟨mb, M, R, i, _⟩ := h.ex
  exact now_k i
theorem perm_pairs {M : List (Int × Value)} (h : M.Perm (L.map mv)) : ∃ G : List (Int × Int), M = G.map (fun x => (x.1, .int .i64 x.2)) ∧ G.Perm (L.map fun x => (x.id, x.t)) := by
  have hm : ∀ x ∈ M, ∃ y : Int × Int, x = (y.1, .int .i64 y.2) := fun x hx => by
    obtain ⟨y, _, rfl⟩ := List.mem_map.1 (h.mem_iff.1 hx)
    exact ⟨(y.id, y.t), rfl⟩
  have key : ∀ M : List (Int × Value), (∀ x ∈ M, ∃ y : Int × Int, x = (y.1, .int .i64 y.2)) → ∃ G : List (Int × Int), M = G.map (fun x => (x.1, .int .i64 x.2)) := by
    intro M
    induction M with
    | nil => exact fun _ => ⟨[], rfl⟩
    | cons x M ih =>
      intro hx
      obtain ⟨y, rfl⟩ := hx x (List.mem_cons_self ..)
      obtain ⟨G, rfl⟩ := ih fun z hz => hx z (List.mem_cons_of_mem _ hz)
      exact ⟨y :: G, rfl⟩
  obtain ⟨G, rfl⟩ := key M hm
  refine ⟨G, rfl, ?_⟩
  have := h.map (fun x : Int × Value => (x.1, match x.2 with | .int _ n => n | _ => 0))
  rw [List.map_map, List.map_map] at this
  simpa [Function.comp_def, mv] using this
/-- The first time of a list. -/
def hdT : List Tm → Int
  | [] => 0
  | x :: _ => x.t
/-- The next time at which one is due: the first of the list's. -/
theorem nextS_k (h : WS B w wb now born L F) : FnP Try.prog F_wheel_Wheel_Next #[.pointer (ptr wb)] w fun v w' => Ext w w' ∧ v = .tuple #[.int .i64 (hdT L), .bool (!L.isEmpty)] := by
  obtain ⟨mb, M, R, i, hM, _⟩ := h.ex
  obtain ⟨G, hG, hp⟩ := perm_pairs hM
  refine (next_k i hG).mono fun v w' ⟨e, t, is, hv, hl⟩ => ⟨e, hv.trans ?_⟩
  have hm : ∀ u, u ∈ G.map (·.2) ↔ u ∈ L.map (·.t) := fun u => by
    have := (hp.map (·.2)).mem_iff (a := u)
    rwa [List.map_map] at this
  cases hL : L with
  | nil =>
    cases is with
    | false => rw [(hl.1 rfl).2]; rfl
    | true =>
      have := (hm t).1 (hl.2 rfl).1
      rw [hL] at this; cases this
  | cons x l =>
    cases is with
    | false =>
      have h1 := (hl.1 rfl).1
      have : x.t ∈ G.map (·.2) := (hm _).2 (by rw [hL]; exact List.mem_cons_self ..)
      rw [h1] at this; cases this
    | true =>
      obtain ⟨h1, h2⟩ := hl.2 rfl
      have h3 := h2 x.t ((hm _).2 (by rw [hL]; exact List.mem_cons_self ..))
      have h4 := (hm t).1 h1
      rw [hL] at h4
      have hs := h.ok.sorted
      rw [hL, List.pairwise_cons] at hs
      have : t = x.t := by
        obtain ⟨y, hy, rfl⟩ := List.mem_map.1 h4
        rcases List.mem_cons.1 hy with rfl | hy
        · rfl
        · have := hs.1 y hy; unfold before at this; omega
      rw [this]; rfl

/-! ### Add -/

def addF (now born : Int) (L : List Tm) (t id : Int) : Int × Int × List Tm :=
  if t ≤ now then (11, born, L) else if 16777216 < t - now then (4, born, L) else if L.any (fun y => decide (y.id = id)) then (6, born, L) else if L.length = 200 then (7, born, L) else (0, born + 1, addL ⟨t, id, born + 1⟩ L)

theorem add_k (h : WS B w wb now born L F) (hn : now ≤ 4611686018427387904) (hb : born ≤ 1000000) {t id : Int} (ht : InR .i64 t) :
    FnP Try.prog F_wheel_Wheel_Add #[.pointer (ptr wb), .int .i64 t, .int .i64 id] w fun v w' => v = .int .i64 (addF now born L t id).1 ∧ ∃ F', WS B w' wb now (addF now born L t id).2.1 (addF now born L t id).2.2 F' ∧ Fr F w w' ∧ ∀ b, F' b → F b ∨ w.heap.size ≤ b := by
  have nn := ptr_ne wb
  have n0 := h.n0
  have t64 := of64 ht
  obtain ⟨mb, M, R, i, hM, hl, hF⟩ := h.ex
  have hnd := i.map.nodup
  have same : ∀ w', Ext w w' → ∃ F', WS B w' wb now born L F' ∧ Fr F w w' ∧ ∀ b, F' b → F b ∨ w.heap.size ≤ b := fun w' e => ⟨F, h.ext e, fr_ext e, fun b hb => .inl hb⟩
  have hlen : M.length = L.length := by rw [hM.length_eq, List.length_map]
  refine ok_wheel_Wheel_Add (ptr wb) t id w _ ⟨nn, nn, _, i.mp, fun w1 e1 => ?_⟩
  refine look_k (i.map.ext e1).is ?_
  obtain ⟨t3, t4, he, h4⟩ : ∃ t3 t4, Value.tuple #[(mget M id).getD (.int .i64 0), .bool (mget M id).isSome] = .tuple #[.int .i64 t3, .bool t4] ∧ (t4 = true ↔ ∃ y ∈ L, y.id = id) := by
    rcases look_mv hnd hM id with ⟨x, hx, hid, hg⟩ | ⟨hno, hg⟩
    · exact ⟨x.t, true, by rw [hg]; rfl, fun _ => ⟨x, hx, hid⟩, fun _ => rfl⟩
    · exact ⟨0, false, by rw [hg]; rfl, fun hc => (by cases hc), fun ⟨y, hy, hid⟩ => absurd hid (hno y hy)⟩
  have hany : (L.any fun y => decide (y.id = id)) = t4 := by
    rw [Bool.eq_iff_iff, h4]; simp
  refine ⟨Ext.refl _, t3, t4, he, nn, nn, now, i.nw, fun hle w6 e6 => ?_, fun hgt => ⟨nn, nn, now, i.nw, i64 (by omega), fun hfar w7 e7 => ?_, fun hnear => ⟨fun hy w7 e7 => ?_, fun hn4 => ⟨nn, nn, _, i.mp, fun w8 e8 => ?_⟩⟩⟩⟩
  · have e : addF now born L t id = (11, born, L) := by unfold addF; rw [if_pos hle]
    rw [e]; exact ⟨rfl, same w6 e6⟩
  · have e : addF now born L t id = (4, born, L) := by unfold addF; rw [if_neg (by omega), if_pos hfar]
    rw [e]; exact ⟨rfl, same w7 e7⟩
  · have e : addF now born L t id = (6, born, L) := by unfold addF; rw [if_neg (by omega), if_neg (by omega), hany, hy, if_pos rfl]
    rw [e]; exact ⟨rfl, same w7 e7⟩
  refine run_len_m mapT (i.map.ext e8).is ⟨Ext.refl _, _, rfl, fun h200 w11 e11 => ?_, fun h200 => ⟨nn, nn, born, i.bw, i64 (by have := h.b0; omega), nn, nn, ?_⟩⟩
  · have e : addF now born L t id = (7, born, L) := by unfold addF; rw [if_neg (by omega), if_neg (by omega), hany, hn4, if_neg (by simp), if_pos (by omega)]
    rw [e]; exact ⟨rfl, same w11 e11⟩
  have hno : ∀ y ∈ L, y.id ≠ id := fun y hy hid => by have := h4.2 ⟨y, hy, hid⟩; rw [hn4] at this; cases this
  have e : addF now born L t id = (0, born + 1, addL ⟨t, id, born + 1⟩ L) := by unfold addF; rw [if_neg (by omega), if_neg (by omega), hany, hn4, if_neg (by simp), if_neg (by omega)]
  rw [e]
  refine store_one (off := 1) i.slot (by rw [whc_len]; omega) rfl (by simp) fun w12 o12 g12 => ⟨nn, nn, ?_⟩
  have i12 : WI B w12 wb mb now (born + 1) M R := i.put o12 g12
  refine ⟨_, i12.mp, fun w14 e14 => ?_⟩
  have i14 := i12.ext e14
  refine run_mapUpdate_it kInt mapT i14.map fun w15 m15 g15 => ⟨nn, nn, ?_⟩
  have i15 := i14.mapd m15 g15
  refine ⟨_, i15.bw, fun w17 e17 => ?_⟩
  have i17 := i15.ext e17
  have f17 : Fr (WF wb mb R) w w17 := (((fr_grew g12 fun a ha => by cases ha; exact .inl rfl).tr (fr_ext e14)).tr (fr_grew g15 fun a ha => by cases ha; exact .inr (.inl rfl))).tr (fr_ext e17)
  have hlr : ∀ j, j < 320 → (R j).l.length ≤ L.length := fun j hj => hl.len hj
  have h200' := h.len
  refine (put_k i17 (Nat.le_trans h.hB f17.size) h.n0 (by omega) ⟨t, id, born + 1⟩ (by simp only []; omega) (by simp only []; omega) (by have := hlr (sx now t) (sx_lt _ _); simp only []; omega)).mono fun v w18 ⟨hv, p', c', i18, f18, k18⟩ => ⟨hv, fun w19 e19 => ⟨rfl, ?_⟩⟩
  have f19 := (f17.tr f18).tr (fr_ext e19)
  refine ⟨WF wb mb (upd R (sx now t) ⟨p', c', (R (sx now t)).l ++ [⟨t, id, born + 1⟩]⟩), ⟨⟨mb, _, _, i18.ext e19, mset_perm hM ⟨t, id, born + 1⟩ hno, ?_, fun b hb => hb⟩, ?_, ?_, ?_, h.n0, by have := h.b0; simp only []; omega, Nat.le_trans h.hB f19.size, fun b hb => (i18.ext e19).foot hb⟩, f19.mono hF, fun b hb => ?_⟩
  · have := hl.add (x := ⟨t, id, born + 1⟩) fun y hy => by have := h.ok.bn y hy; simp only []; omega
    refine this.rows fun j hj => ?_
    by_cases hjj : j = sx now t
    · subst hjj; rw [upd_at, upd_at]
    · rw [upd_ne _ _ hjj, upd_ne _ _ hjj]
  · exact h.ok.add (x := ⟨t, id, born + 1⟩) (by simp only []; omega) (by simp only []; omega) rfl hno
  · intro y hy
    rcases List.mem_cons.1 ((addL_perm _ L).mem_iff.1 hy) with rfl | hy
    · simp only []; omega
    · exact h.st y hy
  · have hlL : L.length ≠ 200 := by omega
    rw [(addL_perm _ L).length_eq, List.length_cons]; omega
  · rcases k18 b hb with h' | h'
    · exact .inl (hF b h')
    · exact .inr (Nat.le_trans f17.size h')
end
end Go.Proofs.Ytkpkbbapaamflaa
