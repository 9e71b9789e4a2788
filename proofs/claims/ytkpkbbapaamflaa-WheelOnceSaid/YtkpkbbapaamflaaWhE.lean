/- Cancel: a timer is taken out of its slot. -/
import Derived.Test.YtkpkbbapaamflaaWhD
set_option linter.unusedVariables false
set_option linter.unusedSimpArgs false
namespace Go.Proofs.Ytkpkbbapaamflaa
open Go.Sx Go.RowKit

abbrev t0 : Tm := ⟨0, 0, 0⟩
theorem recT_at {w : World} {p : Option Addr} {L : List Tm} (h : Recs 3 tmc w p L) {k : Int} (h0 : 0 ≤ k) (hk : k < L.length) :
    p ≠ none ∧ pIdx p k 3 ≠ none ∧ cell w (pIdx p k 3) 0 = some (.int .i64 (L.getD k.toNat t0).t) ∧ cell w (pIdx p k 3) 1 = some (.int .i64 (L.getD k.toNat t0).id) ∧ cell w (pIdx p k 3) 2 = some (.int .i64 (L.getD k.toNat t0).bn) := by
  have hx : L[k.toNat]? = some (L.getD k.toNat t0) := getElem?_getD L t0 (by omega)
  have hp := h.ne (List.mem_of_getElem? hx) (by simp [tmc])
  exact ⟨hp, pIdx_ne hp, h.at h0 hx (j := 0) rfl, h.at h0 hx (j := 1) rfl, h.at h0 hx (j := 2) rfl⟩
/-- The closure: has a timer this id? -/
def delF (cb : Nat) : Value := .func (.func F_wheel_Wheel_Cancel_1) #[] #[.pointer (ptr cb)]
theorem del_k {cb : Nat} {id : Int} {w : World} (h : cell w (ptr cb) 0 = some (.int .i64 id)) (x : Tm) : FnVP Try.prog (delF cb) [.agg #[.int .i64 x.t, .int .i64 x.id, .int .i64 x.bn]] w fun v w' => Ext w w' ∧ v = .bool (decide (x.id = id)) :=
  ⟨_, _, rfl, ok_wheel_Wheel_Cancel_1 x.t x.id x.bn (ptr cb) w _ fun b0 _ => ⟨id, h, fun w2 h2 => ⟨h2, rfl⟩⟩⟩

section
variable {w : World} {cb : Nat} {id : Int}

/-- The place of the first one with this id; all of them, if there is none. -/
def fnd (id : Int) : List Tm → Nat
  | [] => 0
  | x :: r => if x.id = id then 0 else fnd id r + 1
theorem fnd_le (id : Int) : ∀ L : List Tm, fnd id L ≤ L.length
  | [] => Nat.le_refl _
  | x :: r => by unfold fnd; have := fnd_le id r; split <;> simp <;> omega
theorem fnd_lt {id : Int} : ∀ {L : List Tm} {j : Nat}, j < fnd id L → (L.getD j t0).id ≠ id
  | [], j, h => by simp [fnd] at h
  | x :: r, j, h => by
    unfold fnd at h
    split at h
    · omega
    · rename_i hx
      cases j with
      | zero => exact hx
      | succ j => exact fnd_lt (L := r) (by omega)
theorem fnd_at {id : Int} : ∀ {L : List Tm}, fnd id L < L.length → (L.getD (fnd id L) t0).id = id
  | [], h => by simp at h
  | x :: r, h => by
    unfold fnd at h ⊢
    split
    · rename_i hx; exact hx
    · rename_i hx
      rw [if_neg hx] at h
      exact fnd_at (L := r) (by simpa using h)
theorem fnd_is {id : Int} {L : List Tm} {k : Nat} (h1 : ∀ j, j < k → (L.getD j t0).id ≠ id) (h2 : (L.getD k t0).id = id) (hk : k < L.length) : fnd id L = k := by
  rcases Nat.lt_trichotomy (fnd id L) k with h | h | h
  · exact absurd (fnd_at (by omega)) (h1 _ h)
  · exact h
  · exact absurd h2 (fnd_lt h)

theorem indexF_k (p : Option Addr) (c : Nat) (L : List Tm) (h63 : L.length ≤ 1000000) (h : Recs 3 tmc w p L) (hc : cell w (ptr cb) 0 = some (.int .i64 id)) :
    FnP Try.prog F_slices_IndexFunc_wheel_timer_wheel_timer #[.slice p L.length c, delF cb] w fun v w' => Ext w w' ∧ v = .int .i64 (if fnd id L < L.length then (fnd id L : Int) else -1) := by
  refine ok_slices_IndexFunc_wheel_timer_wheel_timer p L.length c (delF cb) w _ ⟨fun k w' => w' = w ∧ 0 ≤ k ∧ k ≤ L.length ∧ ∀ j : Nat, (j : Int) < k → (L.getD j t0).id ≠ id, fun k _ => (L.length - k).toNat, ⟨rfl, by omega, by omega, fun j hj => by omega⟩, ?_⟩
  rintro k w' ⟨rfl, hk0, hk1, hno⟩
  refine ⟨fun hlt => ?_, fun hge w3 h3 => ⟨h3, ?_⟩⟩
  · obtain ⟨g1, g2, g3, g4, g5⟩ := recT_at h hk0 hlt
    refine ⟨g1, hk0, hlt, g2, _, g3, _, g4, _, g5, fun w5 h5 => ?_⟩
    obtain ⟨F, cap, hF, hf⟩ := del_k (ext_cell h5 hc) (L.getD k.toNat t0)
    refine ⟨F, cap, hF, hf.mono fun v w6 ⟨e6, hv⟩ => ⟨e6, _, hv, fun hy w8 h8 => ⟨h8, ?_⟩, fun hn => ⟨i64 (by omega), ⟨rfl, by omega, by omega, fun j hj => ?_⟩, by simp only []; omega⟩⟩⟩
    · simp only [decide_eq_true_eq] at hy
      have := fnd_is (k := k.toNat) (fun j hj => hno j (by omega)) hy (by omega)
      rw [this, if_pos (by omega)]
      congr 1; omega
    · simp only [decide_eq_false_iff_not] at hn
      by_cases hjk : (j : Int) < k
      · exact hno j hjk
      · obtain rfl : j = k.toNat := by omega
        exact hn
  · rw [if_neg]
    intro hl
    exact hno _ (by omega) (fnd_at hl)

theorem take_filter_succ {L : List Tm} {k : Nat} (hk : k < L.length) (f : Tm → Bool) : (L.take (k + 1)).filter f = (L.take k).filter f ++ if f (L.getD k t0) then [L.getD k t0] else [] := by
  have : L.getD k t0 = L[k] := by rw [List.getD_eq_getElem?_getD, List.getElem?_eq_getElem hk]; rfl
  rw [List.take_succ_eq_append_getElem hk, List.filter_append, this]
  congr 1
  by_cases h : f L[k] = true
  · simp [h]
  · simp [h]

theorem deleteF_k {B : Nat} (p : Option Addr) (c : Nat) (L : List Tm) (h63 : L.length ≤ 1000000) (o : Own B w T_wheel_timer 3 p L.length c (L.flatMap tmc)) (hB : B ≤ w.heap.size) (hc : cell w (ptr cb) 0 = some (.int .i64 id)) (hcb : ∀ a, p = some a → a.block ≠ cb) :
    FnP Try.prog F_slices_DeleteFunc_wheel_timer_wheel_timer #[.slice p L.length c, delF cb] w fun v w' => v = .slice p (L.filter fun x => !decide (x.id = id)).length c ∧ Own B w' T_wheel_timer 3 p (L.filter fun x => !decide (x.id = id)).length c ((L.filter fun x => !decide (x.id = id)).flatMap tmc) ∧ Fr (fun b => ∃ a, p = some a ∧ a.block = b) w w' := by
  have he : ∀ x, (tmc x).length = 3 := fun x => rfl
  have h1 : ∀ x, ∀ u ∈ tmc x, u.oneCell' = true := fun x u hu => by simp [tmc] at hu; rcases hu with rfl | rfl | rfl <;> rfl
  refine ok_slices_DeleteFunc_wheel_timer_wheel_timer p L.length c (delF cb) w _ fun w0 h0 => ?_
  refine (indexF_k p c L h63 (Own.recs (o.ext h0) fun x _ => he x) (ext_cell h0 hc)).mono fun v w1 ⟨e1, hv⟩ => ⟨e1, _, hv, fun hm w3 h3 => ?_, fun hm => ?_⟩
  · have hno : L.filter (fun x => !decide (x.id = id)) = L := by
      rw [List.filter_eq_self]
      intro x hx
      obtain ⟨j, hj, rfl⟩ := List.mem_iff_getElem.1 hx
      have hl : ¬ fnd id L < L.length := fun hl => by rw [if_pos hl] at hm; omega
      have := fnd_lt (id := id) (L := L) (j := j) (by omega)
      rw [List.getD_eq_getElem?_getD, List.getElem?_eq_getElem hj] at this
      simpa using this
    rw [hno]
    exact ⟨rfl, o.ext h3, fr_ext h3⟩
  · have hl : fnd id L < L.length := by
      by_cases h : fnd id L < L.length
      · exact h
      · rw [if_neg h] at hm; omega
    rw [if_pos hl] at hm ⊢
    have hp := o.ne1 (by omega) (by omega)
    have f0 : (L.take (fnd id L)).filter (fun x => !decide (x.id = id)) = L.take (fnd id L) := by
      rw [List.filter_eq_self]
      intro x hx
      obtain ⟨j, hj, rfl⟩ := List.mem_iff_getElem.1 hx
      rw [List.length_take] at hj
      have := fnd_lt (id := id) (L := L) (j := j) (by omega)
      rw [List.getD_eq_getElem?_getD, List.getElem?_eq_getElem (by omega)] at this
      rw [List.getElem_take]
      simpa using this
    refine ⟨i64 (by omega), fun i j w' => 0 ≤ i ∧ i < j ∧ j ≤ L.length ∧ Fr (fun b => ∃ a, p = some a ∧ a.block = b) w w' ∧ ∃ X : List Tm, X.length = L.length ∧ Own B w' T_wheel_timer 3 p L.length c (X.flatMap tmc) ∧ X.take i.toNat = (L.take j.toNat).filter (fun x => !decide (x.id = id)) ∧ X.drop j.toNat = L.drop j.toNat, fun _ j _ => (L.length - j).toNat, ⟨by omega, by omega, by omega, Fr.refl _ _, L, rfl, o, ?_, rfl⟩, ?_⟩
    · rw [show ((fnd id L : Int) + 1).toNat = fnd id L + 1 by omega, Int.toNat_natCast, take_filter_succ hl, f0, fnd_at hl]
      simp
    rintro i j w6 ⟨hi0, hij, hj, f6, X, hX, o6, ht, hd⟩
    refine ⟨fun hlt => ?_, fun hge => ?_⟩
    · have hjn : j.toNat < L.length := by omega
      have r6 := Own.recs (enc := tmc) o6 (fun x _ => he x)
      obtain ⟨g1, g2, g3, g4, g5⟩ := recT_at r6 (k := j) (by omega) (by omega)
      have hxl : X.getD j.toNat t0 = L.getD j.toNat t0 := by
        have := congrArg (fun l => l[0]?) hd
        simp only [List.getElem?_drop, Nat.add_zero] at this
        rw [List.getD_eq_getElem?_getD, List.getD_eq_getElem?_getD, this]
      rw [hxl] at g3 g4 g5
      have hd' : X.drop (j.toNat + 1) = L.drop (j.toNat + 1) := by
        have := congrArg (fun l => l.drop 1) hd
        simpa [List.drop_drop, Nat.add_comm] using this
      refine ⟨g1, by omega, hlt, g2, _, g3, _, g4, _, g5, fun b9 hb9 w10 h10 => ?_⟩
      have hc6 : cell w6 (ptr cb) 0 = some (.int .i64 id) := cell_fr hc f6 fun a ha => by
        cases ha
        rintro ⟨a, ha, he⟩
        exact hcb a ha he
      obtain ⟨F, cap, hF, hf⟩ := del_k (ext_cell h10 hc6) (L.getD j.toNat t0)
      refine ⟨F, cap, hF, hf.mono fun v w11 ⟨e11, hv⟩ => ⟨e11, _, hv, fun hn => ?_, fun hy => ?_⟩⟩
      · simp only [decide_eq_false_iff_not] at hn
        refine ⟨hp, hi0, by omega, ?_⟩
        refine store_own (off := i.toNat * 3) o6 pIdx_map (by rw [recs_len he]; simp; omega) (by simp) (by simp [Value.oneCell']) (fun b hb x hx => by
          obtain rfl : b = b9 := by simpa using hb
          have := (o6.lt x hx).2; omega) fun w13 o13 g13 => ⟨i64 (by omega), i64 (by omega), ⟨by omega, by omega, by omega, f6.tr (fr_grew g13 fun a ha => ⟨a, ha, rfl⟩), X.set i.toNat (L.getD j.toNat t0), by simp [hX], ?_, ?_, ?_⟩, by simp only []; omega⟩
        · rw [← recs_set he X i.toNat _ (by omega)]; exact o13
        · rw [show (i + 1).toNat = i.toNat + 1 by omega, show (j + 1).toNat = j.toNat + 1 by omega, take_filter_succ hjn, ← ht]
          rw [if_pos (by simpa using hn)]
          rw [List.take_succ_eq_append_getElem (by simp; omega)]
          congr 1
          · rw [List.take_set_of_le (Nat.le_refl _)]
          · simp
        · rw [show (j + 1).toNat = j.toNat + 1 by omega, List.drop_set_of_lt (by omega), hd']
      · simp only [decide_eq_true_eq] at hy
        refine ⟨i64 (by omega), ⟨hi0, by omega, by omega, f6, X, hX, o6, ?_, ?_⟩, by simp only []; omega⟩
        · rw [show (j + 1).toNat = j.toNat + 1 by omega, take_filter_succ hjn, ht, hy]
          simp
        · rw [show (j + 1).toNat = j.toNat + 1 by omega, hd']
    · have hjl : j.toNat = L.length := by omega
      rw [hjl, List.take_length] at ht
      have hlen : (L.filter fun x => !decide (x.id = id)).length = i.toNat := by rw [← ht, List.length_take]; omega
      have hle := o6.le
      refine ⟨hi0, by omega, by omega, fun w7 h7 => ?_⟩
      have o7 := (o6.pre (m := i.toNat) (by omega)).ext h7
      rw [recs_take he, ht] at o7
      obtain ⟨n, rfl⟩ : ∃ n : Nat, i = n := ⟨i.toNat, by omega⟩
      rw [Int.toNat_natCast] at o7 hlen
      refine run_clear elem_sl_wheel_timer (by omega) (by intro u hu; simp [Value.cells] at hu; rcases hu with rfl | rfl | rfl <;> rfl) (n := n) (m := ((L.length : Int) - n).toNat) o7 (by omega) rfl fun w8 o8 g8 => ⟨rfl, by omega, by omega, by omega, fun w9 h9 => ⟨?_, ?_, ?_⟩⟩
      · rw [pCut_zero, hlen, show ((n : Int) - 0).toNat = n by omega]; simp
      · rw [hlen]; exact o8.ext h9
      · exact ((f6.tr (fr_ext h7)).tr (fr_grew g8 fun a ha => ⟨a, ha, rfl⟩)).tr (fr_ext h9)
end


section
variable {B : Nat} {w : World} {wb : Nat} {now born : Int} {L : List Tm} {F : Nat → Prop}

theorem id_inj : ∀ {L : List Tm}, (L.map (·.id)).Nodup → ∀ {x y : Tm}, x ∈ L → y ∈ L → x.id = y.id → x = y
  | [], _, x, y, hx, _, _ => by cases hx
  | a :: L, hn, x, y, hx, hy, he => by
    rw [List.map_cons, List.nodup_cons] at hn
    rcases List.mem_cons.1 hx with h1 | h1 <;> rcases List.mem_cons.1 hy with h2 | h2
    · rw [h1, h2]
    · exact absurd (List.mem_map_of_mem (f := (·.id)) h2) (by rw [← he, h1]; exact hn.1)
    · exact absurd (List.mem_map_of_mem (f := (·.id)) h1) (by rw [he, h2]; exact hn.1)
    · exact id_inj hn.2 h1 h2 he

def canF (L : List Tm) (id : Int) : Int × List Tm := if L.any (fun y => decide (y.id = id)) then (0, L.filter fun y => decide (y.id ≠ id)) else (5, L)

theorem cancel_k (h : WS B w wb now born L F) (hn : now ≤ 4611686018427387904) (hb : born ≤ 1000000) {id : Int} :
    FnP Try.prog F_wheel_Wheel_Cancel #[.pointer (ptr wb), .int .i64 id] w fun v w' => v = .int .i64 (canF L id).1 ∧ ∃ F', WS B w' wb now born (canF L id).2 F' ∧ Fr F w w' ∧ ∀ b, F' b → F b ∨ w.heap.size ≤ b := by
  have nn := ptr_ne wb
  have n0 := h.n0
  have h200 := h.len
  obtain ⟨mb, M, R, i, hM, hl, hF⟩ := h.ex
  have hnd := i.map.nodup
  have same : ∀ w', Ext w w' → ∃ F', WS B w' wb now born L F' ∧ Fr F w w' ∧ ∀ b, F' b → F b ∨ w.heap.size ≤ b := fun w' e => ⟨F, h.ext e, fr_ext e, fun b hb => .inl hb⟩
  refine ok_wheel_Wheel_Cancel (ptr wb) id w _ fun w0 e0 => new_one rfl fun p1 w1 e1 c1 hp1 _ => ?_
  have x1 := e0.trans e1
  have i1 := i.ext x1
  have ep1 : p1 = ptr w0.heap.size := hp1
  subst ep1
  have hcb : w.heap.size ≤ w0.heap.size := e0.size
  refine ⟨nn, nn, _, i1.mp, id, c1, fun w4 e4 => look_k (i1.map.ext e4).is ?_⟩
  rcases look_mv hnd hM id with ⟨x, hx, hid, hg⟩ | ⟨hno, hg⟩
  · rw [hg]
    have hxt := h.ok.lo x hx
    have hxt2 := h.ok.hi x hx
    refine ⟨Ext.refl _, x.t, true, rfl, fun hc => (by cases hc), fun _ => ⟨nn, nn, _, i1.mp, id, c1, fun w10 e10 => ?_⟩⟩
    have i10 := i1.ext e10
    refine run_delete_it kInt mapT (ts := [3]) i10.map fun w11 m11 g11 => ⟨rfl, fun w12 e12 => ?_⟩
    have i12 := (i10.mapd m11 g11).ext e12
    have f12 : Fr (WF wb mb R) w w12 := ((fr_ext (x1.trans e10)).tr (fr_grew g11 fun a ha => by cases ha; exact .inr (.inl rfl))).tr (fr_ext e12)
    refine (slot_k i12.nw n0 (by omega) (t := x.t) (by omega) (by omega)).mono fun v w13 ⟨e13, hv⟩ => ⟨e13, _, hv, pAdd_ne nn, ?_⟩
    have hj := sx_lt now x.t
    generalize hjj : sx now x.t = j at hj
    have i13 := i12.ext e13
    refine ⟨_, _, _, i13.at hj, fun w18 e18 => ?_⟩
    have i18 := i13.ext e18
    have f18 := (f12.tr (fr_ext e13)).tr (fr_ext e18)
    have c18 : cell w18 (ptr w0.heap.size) 0 = some (.int .i64 id) := by
      refine ext_cell (((e12.trans e13).trans e18)) ?_
      refine cell_fr (ext_cell e10 c1) (fr_grew (S := fun b => b = mb) g11 fun a ha => by cases ha; rfl) fun a ha hc => ?_
      cases ha
      have := (i.foot (.inr (.inl rfl))).2
      simp only at hc; omega
    have hcb' : ∀ a, (R j).p = some a → a.block ≠ w0.heap.size := fun a ha => by
      have := (i.foot (.inr (.inr ⟨j, hj, a, ha, rfl⟩))).2; omega
    have hlen := hl.len hj
    have hlen : (R j).l.length ≤ L.length := hlen
    refine (deleteF_k (R j).p (R j).c (R j).l (by omega) (i18.row j hj) (Nat.le_trans h.hB f18.size) c18 hcb').mono fun v w19 ⟨hv, o19, f19⟩ => ⟨_, _, _, hv, pAdd_ne nn, ?_⟩
    have j19 := (i18.aside j).fr f19 (fun ⟨a, ha, he⟩ => (i.aw j hj a ha).1 he) (fun ⟨a, ha, he⟩ => (i.aw j hj a ha).2 he) fun k hk hne a ha ⟨b, hb, he⟩ => i.ap j k hj hk (Ne.symm hne) b a hb ha he
    refine store_one (off := 3 + j) j19.slot (by rw [whc_len]; omega) rfl (by simp) fun w23 o23 g23 w24 e24 => ?_
    have hf : (fun x : Tm => !decide (x.id = id)) = fun x => decide (x.id ≠ id) := by funext x; simp
    rw [hf] at o19 o23
    have hany : (L.any fun y => decide (y.id = id)) = true := by rw [List.any_eq_true]; exact ⟨x, hx, by simpa using hid⟩
    have e : canF L id = (0, L.filter fun y => decide (y.id ≠ id)) := by unfold canF; rw [hany, if_pos rfl]
    rw [e]
    have ib : WI B w23 wb mb now born (mdel M id) (upd R j ⟨(R j).p, (R j).c, (R j).l.filter fun x => decide (x.id ≠ id)⟩) := by
      refine j19.back hj ?_ g23 o19 fun a ha => ⟨(i.aw j hj a ha).1, (i.aw j hj a ha).2, fun k hk hne b hb => i.ap j k hj hk (Ne.symm hne) a b ha hb⟩
      rw [← whc_set hj]; exact o23
    have fend : Fr (WF wb mb R) w w24 := ((f18.tr (f19.mono fun b ⟨a, ha, he⟩ => .inr (.inr ⟨j, hj, a, ha, he⟩))).tr (fr_grew g23 fun a ha => by cases ha; exact .inl rfl)).tr (fr_ext e24)
    refine ⟨rfl, _, ⟨⟨mb, _, _, ib.ext e24, mdel_perm hnd hM id, ?_, fun b hb => hb⟩, h.ok.filter _, fun y hy => h.st y (List.mem_filter.1 hy).1, Nat.le_trans (List.length_filter_le ..) h.len, n0, h.b0, Nat.le_trans h.hB fend.size, fun b hb => (ib.ext e24).foot hb⟩, fend.mono hF, fun b hb => ?_⟩
    · refine (hl.drop (fun x => decide (x.id ≠ id)) j fun y hy hyi => ?_).rows fun k hk => ?_
      · have hyid : y.id = id := by simpa using hyi
        have : y = x := by
          exact id_inj h.ok.ids hy hx (hyid.trans hid.symm)
        rw [this]; exact hjj
      · by_cases hk' : k = j
        · subst hk'; rw [upd_at, upd_at]
        · rw [upd_ne _ _ hk', upd_ne _ _ hk']
    · rcases WF.upd (R := R) (r := ⟨(R j).p, (R j).c, (R j).l.filter fun x => decide (x.id ≠ id)⟩) (n := w.heap.size) hj (fun a ha => .inl ⟨a, ha, rfl⟩) hb with h' | h'
      · exact .inl (hF b h')
      · exact .inr h'
  · rw [hg]
    have hany : (L.any fun y => decide (y.id = id)) = false := by rw [List.any_eq_false]; exact fun y hy => by simpa using hno y hy
    have e : canF L id = (5, L) := by unfold canF; rw [hany, if_neg (by simp)]
    rw [e]
    exact ⟨Ext.refl _, 0, false, rfl, fun _ w8 e8 => ⟨rfl, same w8 (x1.trans e8)⟩, fun hc => by cases hc⟩
end
end Go.Proofs.Ytkpkbbapaamflaa
